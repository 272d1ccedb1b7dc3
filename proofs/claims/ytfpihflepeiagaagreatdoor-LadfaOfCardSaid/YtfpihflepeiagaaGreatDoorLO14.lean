/- Texts of this proof joined: Well6, First2. -/
import Derived.Test.YtfpihflepeiagaaGreatDoorLO13
import Derived.Test.YtfpihflepeiagaaGreatDoorLO12
namespace Go.Proofs.YtfpihflepeiagaaGreatDoor
open Go.RowKit

def countT (m : Nat) (l : List Int) : List Int := (List.range m).map fun t : Nat => ((l.count (-1 - (t : Int)) : Nat) : Int)
theorem countT_len (m : Nat) (l : List Int) : (countT m l).length = m := by simp [countT]
theorem countT_get {m : Nat} {l : List Int} {t : Nat} (h : t < m) : (countT m l)[t]? = some ((l.count (-1 - (t : Int)) : Nat) : Int) := by simp [countT, h]
theorem countT_term {m : Nat} {l : List Int} {k : Nat} (h : k < m) : (countT m l).set k (((l.count (-1 - (k : Int)) : Nat) : Int) + 1) = countT m (l ++ [-1 - (k : Int)]) := by
  apply List.ext_getElem?
  intro t
  by_cases ht : t < m
  · rw [countT_get ht, List.getElem?_set]
    by_cases e : k = t
    · subst e
      rw [if_pos rfl, if_pos (by rw [countT_len]; exact h), List.count_append]
      simp
    · rw [if_neg e, countT_get ht, List.count_append]
      have : ((-1 - (k : Int)) == -1 - (t : Int)) = false := by rw [beq_eq_false_iff_ne]; omega
      rw [List.count_singleton, this]
      simp
  · rw [List.getElem?_eq_none (by rw [List.length_set, countT_len]; omega), List.getElem?_eq_none (by rw [countT_len]; omega)]
theorem countT_nont {m : Nat} {l : List Int} {s : Int} (h : 0 ≤ s) : countT m (l ++ [s]) = countT m l := by
  unfold countT
  apply List.map_congr_left
  intro t _
  rw [List.count_append]
  rw [List.count_singleton]
  have : (s == -1 - (t : Int)) = false := by rw [beq_eq_false_iff_ne]; omega
  rw [this]
  simp
def flatS (rs : RuleL) : List Int := rs.flatMap (·.2)
theorem flatS_take (rs : RuleL) {i : Nat} (h : i < rs.length) : flatS (rs.take (i + 1)) = flatS (rs.take i) ++ rs[i].2 := by
  unfold flatS
  rw [List.take_succ_eq_append_getElem h, List.flatMap_append]
  simp
theorem flatS_len : ∀ (rs : RuleL), (∀ r ∈ rs, r.2.length ≤ 64) → (flatS rs).length ≤ 64 * rs.length
  | [], _ => by simp [flatS]
  | r :: rs, h => by
    have ih := flatS_len rs (fun r hr => h r (by simp [hr]))
    have := h r (by simp)
    unfold flatS at *
    rw [List.flatMap_cons, List.length_append, List.length_cons]
    omega
theorem contains_count (m : Nat) (rs : RuleL) : (countT m (flatS rs)).contains 0 = !(List.range m).all (usedT rs) := by
  rw [Bool.eq_iff_iff, List.contains_iff_mem, Bool.not_eq_true', ← Bool.not_eq_true, List.all_eq_true]
  unfold countT
  rw [List.mem_map]
  constructor
  · rintro ⟨t, ht, h⟩ hall
    have h1 := hall t ht
    unfold usedT at h1
    rw [List.any_eq_true] at h1
    obtain ⟨r, hr, h2⟩ := h1
    rw [List.any_eq_true] at h2
    obtain ⟨s, hs, h3⟩ := h2
    have h3 := of_decide_eq_true h3
    have h0 : (flatS rs).count (-1 - (t : Int)) = 0 := by omega
    rw [List.count_eq_zero] at h0
    exact h0 (by rw [← h3]; unfold flatS; exact List.mem_flatMap.2 ⟨r, hr, hs⟩)
  · intro h
    refine Classical.byContradiction fun hno => h fun t ht => ?_
    unfold usedT
    rw [List.any_eq_true]
    have : (flatS rs).count (-1 - (t : Int)) ≠ 0 := fun e => hno ⟨t, ht, by omega⟩
    have hm := List.count_pos_iff.1 (Nat.pos_of_ne_zero this)
    obtain ⟨r, hr, hs⟩ := List.mem_flatMap.1 hm
    exact ⟨r, hr, List.any_eq_true.2 ⟨_, hs, by simp⟩⟩
set_option maxRecDepth 100000 in
set_option maxHeartbeats 8000000 in
theorem terms_any {A1 A2 A3 : Option Addr} {n m q c1 c2 c3 : Nat} {g : Gram} (w : World) (h : GramR w w.heap.size A1 A2 A3 n m q c1 c2 c3 g) (hg : GoodG g) :
    Calls Tryz.prog 123 #[gramV A1 A2 A3 n m q c1 c2 c3] w fun e w' => e = .returned (.bool ((List.range m).all (usedT g.2.2))) ∧ Below w.heap.size w w' := by
  have hbx := (Below.refl w.heap.size w).alloc (Nat.le_refl _) (.cells #[.slice A1 n c1, .slice A2 m c2, .slice A3 q c3] 25)
  have HK := Lib.hid (Go.heap_alloc_new w (.cells #[.slice A1 n c1, .slice A2 m c2, .slice A3 q c3] 25))
  have HZ := Lib.hid (World.size_alloc w (.cells #[.slice A1 n c1, .slice A2 m c2, .slice A3 q c3] 25))
  have HBX := Lib.hid hbx
  have HG := Lib.hid hg
  have HL := Lib.hid h.ln
  have HRS := Lib.hid h.rules
  have hsm := h.small
  have HM2 := Lib.hid (show m ≤ 256 by have := hg.nm; have := h.ln.2.1; omega)
  have hc1 : (w.alloc (.cells #[.slice A1 n c1, .slice A2 m c2, .slice A3 q c3] 25)).cell? ⟨w.heap.size, 1, none⟩ = some (.slice A2 m c2) := by rw [cell_of_row _ _ _ _ _ _ HK.out]; rfl
  have hmk := int_make m (by have := HM2.out; omega) (w.alloc (.cells #[.slice A1 n c1, .slice A2 m c2, .slice A3 q c3] 25))
  rw [show List.replicate m (Value.int .i64 0) = icells (countT m []) by
    unfold icells countT
    rw [List.map_map]
    apply List.ext_getElem
    · simp
    · intro i h1 h2; simp] at hmk
  clear h hg hbx
  go_enter Tryz.func123, Tryz.ntmps123
  go_wp2_with fail
  generalize w.alloc (.cells #[.slice A1 n c1, .slice A2 m c2, .slice A3 q c3] 25) = w1 at *
  have hz1 : w.heap.size < w1.heap.size := by rw [HZ.out]; omega
  obtain ⟨gt, hgt⟩ : ∃ gt, gt = w.heap.size + 1 := ⟨_, rfl⟩
  have hgt1 : w1.heap.size = gt := by rw [HZ.out, hgt]
  have HK2 := Lib.hid (show (w1.alloc (.cells (icells (countT m [])).toArray 3)).heap[gt]? = some (.cells (icells (countT m [])).toArray 3 (0, 0)) by rw [← hgt1]; exact Go.heap_alloc_new w1 _)
  have HZ2 := Lib.hid (World.size_alloc w1 (.cells (icells (countT m [])).toArray 3))
  have HB2 := Lib.hid (HBX.out.trans (((Below.refl w1.heap.size w1).alloc (Nat.le_refl _) (.cells (icells (countT m [])).toArray 3)).mono (by rw [HZ.out]; omega)))
  clear hc1 hmk
  generalize w1.alloc (.cells (icells (countT m [])).toArray 3) = w2 at *
  rw [← hgt]
  have HGT := Lib.hid hgt
  clear hgt
  go_loopw [15] (fun v15 wr => ∃ i : Nat, i ≤ q ∧ v15 = .int .i64 i ∧ Hid (wr.heap[gt]? = some (.cells (icells (countT m (flatS (g.2.2.take i)))).toArray 3 (0, 0))) ∧ Hid (w2.grownBy wr (some gt))) (fun v15 _ => q - (intOf v15).toNat)
  case atStart => exact ⟨0, by omega, rfl, HK2.out, World.grownBy.refl _ _⟩
  case round =>
    clear HK2
    obtain ⟨i, hi, rfl, HK2, HGR⟩ := hrel
    have HBN := Lib.hid (show Below w.heap.size w wr from HB2.out.trans (below_of_grown HGR.out (by have := HGT.out; omega) (by rw [HZ2.out]; omega)))
    by_cases hlt : i < q
    · have hil : i < g.2.2.length := by rw [← HL.out.2.2]; exact hlt
      obtain ⟨b, off, cs, rfl, _, hbl, hrep, hcell⟩ := (HRS.out.below HBN.out).get (k := i) hil (by decide)
      obtain ⟨v, rfl, hsl, hz1', hz2'⟩ := eRule_open hrep
      obtain ⟨A5, c5, rfl, hl5, hl6⟩ := hsl.form
      have hc0 := hcell 0 _ rfl
      have hc1 := hcell 1 _ rfl
      simp only [show eRule.size = 2 from rfl, Nat.add_zero, ← Nat.add_assoc] at hc0 hc1
      have HFT := Lib.hid (flatS_take g.2.2 hil)
      have HFL := Lib.hid (flatS_len g.2.2 (fun r hr => (HG.out.fit r hr).2.2.1))
      have HFLI := Lib.hid (show (flatS (g.2.2.take (i + 1))).length ≤ 262144 by
        have := flatS_len (g.2.2.take (i + 1)) (fun r hr => (HG.out.fit r (List.mem_of_mem_take hr)).2.2.1)
        rw [List.length_take] at this
        have := HG.out.q
        omega)
      have HFIT := Lib.hid (HG.out.fit _ (List.getElem_mem hil)).2.2.2
      have h64 := (HG.out.fit _ (List.getElem_mem hil)).2.2.1
      obtain ⟨r, hr⟩ : ∃ r, r = g.2.2[i] := ⟨_, rfl⟩
      rw [← hr] at hc0 hc1 HFT hsl hz1' hz2' hl5
      rw [← hr] at HFIT h64
      obtain ⟨ql, hql⟩ : ∃ ql, ql = r.2.length := ⟨_, rfl⟩
      rw [← hql] at hc1 hsl hl5 h64
      have HQL := Lib.hid hql
      have HSL := Lib.hid hsl
      clear hcell hrep hr hql hsl hil
      go_wp2_with fail
      have HB5 := Lib.hid (World.grownBy_alloc wr (.cells #[.int .i64 r.1, .slice A5 ql c5] 55) (some gt))
      have HK5 := Lib.hid (((Below.refl wr.heap.size wr).alloc (Nat.le_refl _) (.cells #[.int .i64 r.1, .slice A5 ql c5] 55)).block gt (Array.getElem?_eq_some_iff.1 HK2.out).1)
      have HGR5 := Lib.hid (HGR.out.trans HB5.out)
      have HK6 := Lib.hid (HK5.out.trans HK2.out)
      generalize wr.alloc (.cells #[.int .i64 r.1, .slice A5 ql c5] 55) = w5 at *
      go_loopw [22] (fun v22 wt => ∃ j : Nat, j ≤ ql ∧ v22 = .int .i64 j ∧ Hid (wt.heap[gt]? = some (.cells (icells (countT m (flatS (g.2.2.take i) ++ r.2.take j))).toArray 3 (0, 0))) ∧ Hid (w2.grownBy wt (some gt))) (fun v22 _ => ql - (intOf v22).toNat)
      case atStart => exact ⟨0, by omega, rfl, by rw [List.take_zero, List.append_nil]; exact HK6.out, HGR5.out⟩
      case round =>
        clear HK5 HK6 HGR5 HB5 HK2 HGR hc0 hc1
        obtain ⟨j, hj, rfl, HK2, HGR⟩ := hrel
        have HBT := Lib.hid (show Below w.heap.size w wr from HB2.out.trans (below_of_grown HGR.out (by have := HGT.out; omega) (by rw [HZ2.out]; omega)))
        by_cases hjl : j < ql
        · have hjl' : j < r.2.length := by rw [← HQL.out]; exact hjl
          have hsl2 : SlR eInt wr w.heap.size (.slice A5 ql c5) r.2 := by
            have := HSL.out
            exact this.keep fun p hp => (HBT.out.cell hp).trans (HBN.out.cell hp).symm
          obtain ⟨b2, o2, cs, rfl, _, hbl2, hrep, hcell⟩ := hsl2.get (k := j) hjl' (by decide)
          obtain ⟨rfl, hx1, hx2⟩ := hrep
          have hc0 := hcell 0 _ rfl
          simp only [show eInt.size = 1 from rfl, Nat.mul_one, Nat.add_zero] at hc0
          have HT := Lib.hid (List.take_succ_eq_append_getElem hjl')
          have hft := HFIT.out _ (List.getElem_mem hjl')
          have HLE := Lib.hid (show (flatS (g.2.2.take i) ++ r.2.take j).length ≤ 262144 by
            have h1 := HFLI.out
            rw [HFT.out, List.length_append] at h1
            rw [List.length_append, List.length_take]
            omega)
          obtain ⟨s, hs⟩ : ∃ s, s = r.2[j] := ⟨_, rfl⟩
          rw [← hs] at hc0 hx1 hx2 HT hft
          obtain ⟨pre, hpre⟩ : ∃ pre, pre = flatS (g.2.2.take i) ++ r.2.take j := ⟨_, rfl⟩
          rw [← hpre] at HK2 HLE
          have HPRE := Lib.hid (show flatS (g.2.2.take i) ++ r.2.take (j + 1) = pre ++ [s] by rw [HT.out, hpre, List.append_assoc])
          clear hs hcell hpre hjl' hsl2
          by_cases hs0 : s < 0
          · have hd : decide (s < 0) = true := by simpa using hs0
            obtain ⟨k, hk⟩ : ∃ k : Nat, s = -1 - (k : Int) := ⟨(-1 - s).toNat, by omega⟩
            subst hk
            have hkm : k < m := by have := HL.out.2.1; omega
            have hkl : k < (countT m pre).length := by rw [countT_len]; exact hkm
            have hcv := int_row_get HK2.out hkl
            have hcg := countT_get (l := pre) hkm
            rw [List.getElem?_eq_getElem hkl] at hcg
            injection hcg with hcg
            rw [hcg] at hcv
            have HST := Lib.hid (countT_term (l := pre) hkm)
            have HCB := List.count_le_length (a := -1 - (k : Int)) (l := pre)
            have HL2 := HLE.out
            obtain ⟨x, hx⟩ : ∃ x, x = pre.count (-1 - (k : Int)) := ⟨_, rfl⟩
            rw [← hx] at hcv HST HCB
            have hxb : (x : Int) ≤ 262144 := by omega
            have fK : wr.frozen? ⟨gt, k, none⟩ = false := by simp [World.frozen?, HK2.out]
            have he : -1 - (-1 - (k : Int)) = k := by omega
            have HSET := Lib.hid (int_row_set HK2.out (k := k) ((x : Int) + 1))
            clear hcg hx hkl HL2 HCB
            go_wp2_with fail
            refine (isTermSym_any _ _).mono ?_
            rintro e w5 ⟨rfl, rfl⟩
            rw [hd]
            go_wp2_with fail
            go_roundw
            case rel => exact ⟨j + 1, by omega, by go_num, by rw [HPRE.out, ← HST.out]; exact HSET.out, HGR.out.trans (grown_set _ gt k _)⟩
            case measure => simp [intOf]; omega
          · have hd : decide (s < 0) = false := by simpa using hs0
            have HCN := Lib.hid (countT_nont (m := m) (l := pre) (s := s) (by omega))
            go_wp2_with fail
            refine (isTermSym_any _ _).mono ?_
            rintro e w5 ⟨rfl, rfl⟩
            rw [hd]
            go_wp2_with fail
            go_roundw
            case rel => exact ⟨j + 1, by omega, by go_num, by rw [HPRE.out, HCN.out]; exact HK2.out, HGR.out⟩
            case measure => simp [intOf]; omega
        · have HEND := Lib.hid (show flatS (g.2.2.take i) ++ r.2.take j = flatS (g.2.2.take (i + 1)) by
            rw [HFT.out, List.take_of_length_le (l := r.2) (by rw [← HQL.out]; omega)])
          rw [HEND.out] at HK2
          go_wp2_with fail
          go_roundw
          case rel => exact ⟨i + 1, by omega, by go_num, HK2.out, HGR.out⟩
          case measure => simp [intOf]; omega
    · have HALL := Lib.hid (show g.2.2.take i = g.2.2 from List.take_of_length_le (by rw [← HL.out.2.2]; omega))
      rw [HALL.out] at HK2
      have HCON := Lib.hid (show Calls Tryz.prog 149 #[.slice (some ⟨gt, 0, none⟩) m m, .int .i64 0] wr fun e w' => e = .returned (.bool (!(List.range m).all (usedT g.2.2))) ∧ w' = wr by
        rcases Nat.eq_zero_or_pos m with h0 | h0
        · subst h0
          refine (Tryz.slices_Contains_int_empty (some ⟨gt, 0, none⟩) 0 0 wr).mono ?_
          rintro e w' ⟨rfl, rfl⟩
          exact ⟨by simp, rfl⟩
        · have := Tryz.slices_Contains_int gt 0 m m (countT m (flatS g.2.2)) 0 wr (by rw [countT_len]; exact Nat.le_refl _) (by have := HM2.out; omega) (fun j hj => by
            rw [Nat.zero_add, int_row_get HK2.out hj, List.getD_eq_getElem?_getD, List.getElem?_eq_getElem hj]
            rfl)
          rw [List.take_of_length_le (by rw [countT_len]; exact Nat.le_refl _), contains_count] at this
          exact this)
      go_wp2_with fail
      refine HCON.out.mono ?_
      rintro e w5 ⟨rfl, rfl⟩
      go_wp2_with fail
      go_ret
      exact ⟨rt1 (vbool (by simp)), HBN.out⟩
def checkN (g : Gram) : Int := if gramB g then wellE g.1.length g.2.1.length g.2.2 else 1
set_option maxRecDepth 100000 in
set_option maxHeartbeats 8000000 in
theorem check_any {A1 A2 A3 : Option Addr} {n m q c1 c2 c3 : Nat} {g : Gram} (w : World) (h : GramR w w.heap.size A1 A2 A3 n m q c1 c2 c3 g) :
    Calls Tryz.prog 90 #[gramV A1 A2 A3 n m q c1 c2 c3] w fun e w' => e = .returned (.int .i64 (checkN g)) ∧ Below w.heap.size w w' := by
  have hbx := (Below.refl w.heap.size w).alloc (Nat.le_refl _) (.cells #[.slice A1 n c1, .slice A2 m c2, .slice A3 q c3] 25)
  have HV := Lib.hid ((h.fut (B' := w.heap.size + 1) hbx (Nat.le_refl _) (by omega)))
  have HK := Lib.hid (Go.heap_alloc_new w (.cells #[.slice A1 n c1, .slice A2 m c2, .slice A3 q c3] 25))
  have HZ := Lib.hid (World.size_alloc w (.cells #[.slice A1 n c1, .slice A2 m c2, .slice A3 q c3] 25))
  have HBX := Lib.hid hbx
  have HL := Lib.hid h.ln
  clear h hbx
  have HSTEP : Hid (∀ (w1 w2 : World), Below (w.heap.size + 1) w1 w2 → GramR w1 (w.heap.size + 1) A1 A2 A3 n m q c1 c2 c3 g → w.heap.size + 1 ≤ w2.heap.size → GramR w2 w2.heap.size A1 A2 A3 n m q c1 c2 c3 g) := fun w1 w2 hb hg hs => hg.fut hb (Nat.le_refl _) hs
  have HCELL : Hid (∀ (w2 : World), w2.heap[w.heap.size]? = some (.cells #[.slice A1 n c1, .slice A2 m c2, .slice A3 q c3] 25 (0, 0)) → w2.cell? ⟨w.heap.size, 0, none⟩ = some (.slice A1 n c1) ∧ w2.cell? ⟨w.heap.size, 1, none⟩ = some (.slice A2 m c2) ∧ w2.cell? ⟨w.heap.size, 2, none⟩ = some (.slice A3 q c3)) := fun w2 hk => ⟨by rw [cell_of_row _ _ _ _ _ _ hk]; rfl, by rw [cell_of_row _ _ _ _ _ _ hk]; rfl, by rw [cell_of_row _ _ _ _ _ _ hk]; rfl⟩
  go_enter Tryz.func90, Tryz.ntmps90
  go_wp2_with fail
  generalize w.alloc (.cells #[.slice A1 n c1, .slice A2 m c2, .slice A3 q c3] 25) = w1 at *
  refine (GramR.valid (w := w1) (by rw [HZ.out]; exact HV.out)).mono ?_
  rintro e w2 ⟨rfl, hb2⟩
  have HB2 := Lib.hid (show Below (w.heap.size + 1) w1 w2 from hb2.mono (Nat.le_of_eq HZ.out.symm))
  have HS2 := Lib.hid (show w.heap.size + 1 ≤ w2.heap.size by have := hb2.size; have := HZ.out; omega)
  have HK2 := Lib.hid ((HB2.out.block w.heap.size (by omega)).trans HK.out)
  clear hb2
  cases hv : gramB g with
  | false =>
    have HC := Lib.hid (show checkN g = 1 by unfold checkN; rw [hv]; rfl)
    clear hv
    go_wp2_with fail
    go_ret
    exact ⟨rt1 (vint HC.out.symm), HBX.out.trans (HB2.out.mono (by omega))⟩
  | true =>
    have HVV := Lib.hid hv
    have HC := Lib.hid (show checkN g = wellE n m g.2.2 by unfold checkN; rw [hv, HL.out.1, HL.out.2.1]; rfl)
    obtain ⟨a0, a1, a2⟩ := HCELL.out w2 HK2.out
    clear hv
    go_wp2_with fail
    refine (productive_any w2 (HSTEP.out w1 w2 HB2.out HV.out HS2.out) HVV.out).mono ?_
    rintro e w3 ⟨AP, cP, rfl, hrp, hb3⟩
    have HB3 := Lib.hid (HB2.out.trans (hb3.mono HS2.out))
    have HS3 := Lib.hid (Nat.le_trans HS2.out hb3.size)
    have HK3 := Lib.hid ((HB3.out.block w.heap.size (by omega)).trans HK.out)
    have HPL := Lib.hid (show (productive g.2.2 n).length = n by unfold productive; rw [roundsOf_len prodStep_len, List.length_replicate])
    have HN2 := Lib.hid (show n ≤ 256 by have := (gramB_good HVV.out).nm; have := HL.out.1; omega)
    have HCO := Lib.hid (containsB_any AP cP (productive g.2.2 n) w3 hrp (by rw [HPL.out]; have := HN2.out; omega))
    rw [HPL.out] at HCO ⊢
    clear a0 a1 a2 hrp hb3
    go_wp2_with fail
    refine HCO.out.mono ?_
    rintro e w4 ⟨rfl, rfl⟩
    cases hp : (productive g.2.2 n).all id with
    | false =>
      have HE := Lib.hid (show checkN g = 18 by rw [HC.out]; unfold wellE; rw [hp]; rfl)
      clear hp HCO
      go_wp2_with fail
      go_ret
      exact ⟨rt1 (vint HE.out.symm), HBX.out.trans (HB3.out.mono (by omega))⟩
    | true =>
      have HE := Lib.hid (show checkN g = if (reached g.2.2 n).all id && (List.range m).all (usedT g.2.2) then 0 else 17 by rw [HC.out]; unfold wellE; rw [hp]; rfl)
      obtain ⟨a0, a1, a2⟩ := HCELL.out w4 HK3.out
      clear hp HCO
      go_wp2_with fail
      refine (reached_any w4 (HSTEP.out w1 w4 HB3.out HV.out HS3.out) HVV.out).mono ?_
      rintro e w5 ⟨AR, cR, rfl, hrr, hb5⟩
      have HB5 := Lib.hid (HB3.out.trans (hb5.mono HS3.out))
      have HS5 := Lib.hid (Nat.le_trans HS3.out hb5.size)
      have HK5 := Lib.hid ((HB5.out.block w.heap.size (by omega)).trans HK.out)
      have HRL := Lib.hid (show (reached g.2.2 n).length = n by
        unfold reached
        rw [roundsOf_len (f := reachStep) (fun P r => by
          unfold reachStep
          have : ∀ (l : List Int) (R : List Bool), (l.foldl (fun R s => reachSym R r.1 s) R).length = R.length := by
            intro l
            induction l with
            | nil => intro R; rfl
            | cons s l ih => intro R; rw [List.foldl_cons, ih, reachSym_len]
          exact this _ _), List.length_set, List.length_replicate])
      have HCO := Lib.hid (containsB_any AR cR (reached g.2.2 n) w5 hrr (by rw [HRL.out]; have := HN2.out; omega))
      rw [HRL.out] at HCO ⊢
      clear a0 a1 a2 hrr hb5
      go_wp2_with fail
      refine HCO.out.mono ?_
      rintro e w6 ⟨rfl, rfl⟩
      cases hr : (reached g.2.2 n).all id with
      | false =>
        have HE2 := Lib.hid (show checkN g = 17 by rw [HE.out, hr]; rfl)
        clear hr HCO HE
        go_wp2_with fail
        go_ret
        exact ⟨rt1 (vint HE2.out.symm), HBX.out.trans (HB5.out.mono (by omega))⟩
      | true =>
        have HE2 := Lib.hid (show checkN g = if (List.range m).all (usedT g.2.2) then 0 else 17 by rw [HE.out, hr]; rfl)
        obtain ⟨a0, a1, a2⟩ := HCELL.out w6 HK5.out
        clear hr HCO HE
        go_wp2_with fail
        refine (terms_any w6 (HSTEP.out w1 w6 HB5.out HV.out HS5.out) (gramB_good HVV.out)).mono ?_
        rintro e w7 ⟨rfl, hb7⟩
        have HB7 := Lib.hid (HB5.out.trans (hb7.mono HS5.out))
        cases hu : (List.range m).all (usedT g.2.2) with
        | false =>
          have HE3 := Lib.hid (show checkN g = 17 by rw [HE2.out, hu]; rfl)
          clear hu HE2 hb7
          go_wp2_with fail
          go_ret
          exact ⟨rt1 (vint HE3.out.symm), HBX.out.trans (HB7.out.mono (by omega))⟩
        | true =>
          have HE3 := Lib.hid (show checkN g = 0 by rw [HE2.out, hu]; rfl)
          clear hu HE2 hb7
          go_wp2_with fail
          go_ret
          exact ⟨rt1 (vint HE3.out.symm), HBX.out.trans (HB7.out.mono (by omega))⟩
end Go.Proofs.YtfpihflepeiagaaGreatDoor
namespace Go.Proofs.YtfpihflepeiagaaGreatDoor
open Go.RowKit Go.Sort

structure FirstSt (w : World) (g S K G lo C n k : Nat) (sets : Sets) (gr : Bool) : Prop where
  row : RowHi 22 g lo lo w sets
  len : sets.length = n
  small : SetsB sets
  asc : AllAsc sets
  bS : w.heap[S]? = some (.cells #[.slice (some ⟨g, 0, none⟩) n n] 81 (0, 0))
  bK : w.heap[K]? = some (.cells #[.int .i64 k] 3 (0, 0))
  bG : w.heap[G]? = some (.cells #[.bool gr] 4 (0, 0))
  le : C ≤ g ∧ C ≤ S ∧ C ≤ G ∧ K < C ∧ g < lo ∧ S < lo ∧ G < lo ∧ lo ≤ w.heap.size ∧ g ≠ S ∧ g ≠ G ∧ S ≠ G
theorem FirstSt.below {w w' : World} {g S K G lo C n k : Nat} {sets : Sets} {gr : Bool} (h : FirstSt w g S K G lo C n k sets gr) (hb : Below w.heap.size w w') : FirstSt w' g S K G lo C n k sets gr := by
  obtain ⟨l1, l2, l3, l4, l5, l6, l7, l8, l9⟩ := h.le
  exact ⟨h.row.below hb, h.len, h.small, h.asc, (hb.block S (by omega)).trans h.bS, (hb.block K (by omega)).trans h.bK, (hb.block G (by omega)).trans h.bG, l1, l2, l3, l4, l5, l6, l7, Nat.le_trans l8 hb.size, l9⟩
theorem box_set {w : World} {G : Nat} {v u : Value} {t : TypeId} (h : w.heap[G]? = some (.cells #[v] t (0, 0))) : (w.setCell ⟨G, 0, none⟩ u).heap[G]? = some (.cells #[u] t (0, 0)) := by
  simp only [World.setCell, Array.getElem?_modify, if_true, h, Option.map_some]
  rfl
theorem FirstSt.setG {w : World} {g S K G lo C n k : Nat} {sets : Sets} {gr : Bool} (h : FirstSt w g S K G lo C n k sets gr) (b : Bool) : FirstSt (w.setCell ⟨G, 0, none⟩ (.bool b)) g S K G lo C n k sets b := by
  obtain ⟨l1, l2, l3, l4, l5, l6, l7, l8, l9, l10, l11⟩ := h.le
  exact ⟨h.row.other _ l10 l7 (by show G ≠ lo; omega), h.len, h.small, h.asc, by rw [Below.heap_setCell _ _ _ _ (show S ≠ G from l11)]; exact h.bS, by rw [Below.heap_setCell _ _ _ _ (show K ≠ G by omega)]; exact h.bK, box_set h.bG, l1, l2, l3, l4, l5, l6, l7, by simpa [World.setCell] using l8, l9, l10, l11⟩
def GrowFTo (w : World) (g S K G lo C n k : Nat) (gr : Bool) (o : Option (Sets × Bool)) (e : Ending) (w' : World) : Prop :=
  Below C w w' ∧ match o with
  | none => e = .returned (.bool false)
  | some (s', g') => e = .returned (.bool true) ∧ FirstSt w' g S K G lo C n k s' (gr || g')
theorem fits_short {x : List Wd} (h : ShortW x) : Fits x := fun y hy => by have := h y hy; unfold maxLen; omega
set_option maxRecDepth 100000 in
set_option maxHeartbeats 8000000 in
theorem growF_any (w : World) (g S K G lo C n k N : Nat) (sets : Sets) (gr : Bool) (a : Nat) (r : List Int) (A : Option Addr) (q c : Nat) (h : FirstSt w g S K G lo C n k sets gr) (hk1 : 1 ≤ k) (hk2 : k ≤ 4) (ha : a < n) (hn : n ≤ 256) (hq : q = r.length) (hr : SlR eInt w N (.slice A q c) r) (hN : N ≤ w.heap.size) :
    Calls Tryz.prog 91 #[ruleV a A q c, .pointer (some ⟨S, 0, none⟩), .pointer (some ⟨K, 0, none⟩), .pointer (some ⟨G, 0, none⟩)] w (GrowFTo w g S K G lo C n k gr (growW k sets ((a : Int), r))) := by
  have hbx := (Below.refl w.heap.size w).alloc (Nat.le_refl _) (.cells #[.int .i64 a, .slice A q c] 55)
  have HH := Lib.hid h
  have H1 := Lib.hid (h.below hbx)
  have HZ := Lib.hid (World.size_alloc w (.cells #[.int .i64 a, .slice A q c] 55))
  have HK := Lib.hid (Go.heap_alloc_new w (.cells #[.int .i64 a, .slice A q c] 55))
  have HBX := Lib.hid hbx
  have HQ := Lib.hid hq
  have hOF := firstOf_any (some ⟨g, 0, none⟩) A n c k sets r (w.alloc (.cells #[.int .i64 a, .slice A q c] 55)) hk1 hk2 (by have := (h.below hbx).row.sl (by rw [h.len]; unfold maxLen; omega); rw [h.len] at this ⊢; exact this) (by rw [← hq]; exact hr.fut hbx hN (by rw [World.size_alloc]; omega)) (fun i x hx => by have := h.small i x hx; exact ⟨this.1, by omega⟩)
  rw [h.len, ← hq] at hOF
  have HOF := Lib.hid hOF
  clear h hbx hq hr hOF
  have cS := cell0 HH.out.bS
  have cK := cell0 HH.out.bK
  have lS := (Array.getElem?_eq_some_iff.1 HH.out.bS).1
  have lK := (Array.getElem?_eq_some_iff.1 HH.out.bK).1
  go_enter Tryz.func91, Tryz.ntmps91
  go_wp2_with fail
  clear cS cK lS lK
  generalize w.alloc (.cells #[.int .i64 a, .slice A q c] 55) = w1 at *
  refine HOF.out.mono ?_
  rintro e w2 ⟨hb2, he⟩
  have HB2 := Lib.hid (HBX.out.trans (hb2.mono (by rw [HZ.out]; omega)))
  have HST2 := Lib.hid (H1.out.below hb2)
  have HK2 := Lib.hid ((hb2.block w.heap.size (by rw [HZ.out]; omega)).trans HK.out)
  have hCw : C ≤ w.heap.size := by have := HH.out.le; omega
  cases ho : ofW sets k r with
  | none =>
    rw [ho] at he
    subst he
    have HG := Lib.hid (show growW k sets ((a : Int), r) = none by unfold growW; simp only [ho]; rfl)
    clear ho hb2
    go_wp2_with fail
    go_ret
    refine ⟨HB2.out.mono hCw, ?_⟩
    rw [HG.out]
    rfl
  | some x =>
    rw [ho] at he
    obtain ⟨Ax, cx, rfl, hsx⟩ := he
    have HX := Lib.hid (ofW_b hk2 ho)
    obtain ⟨qx, hqx⟩ : ∃ qx, qx = x.length := ⟨_, rfl⟩
    rw [← hqx] at hsx ⊢
    have HSX := Lib.hid hsx
    have HQX := Lib.hid hqx
    have has : a < sets.length := by rw [HST2.out.len]; exact ha
    obtain ⟨Ao, co, hco, ho1, ho2, hhi, hfz⟩ := HST2.out.row.get has
    have HOLD := Lib.hid (show sets.getD a [] = sets[a] by rw [List.getD_eq_getElem?_getD, List.getElem?_eq_getElem has]; rfl)
    obtain ⟨old, hold⟩ : ∃ old, old = sets[a] := ⟨_, rfl⟩
    rw [← hold] at hco ho1 hhi HOLD
    obtain ⟨qo, hqo⟩ : ∃ qo, qo = old.length := ⟨_, rfl⟩
    rw [← hqo] at hco ho1 hhi
    have HHI := Lib.hid hhi
    have HQO := Lib.hid hqo
    have HGW := Lib.hid (show growW k sets ((a : Int), r) = if (unionW old x).length ≤ 4096 then some (sets.set a (unionW old x), decide (old.length < (unionW old x).length)) else none by
      unfold growW
      simp only [ho, Option.bind_some, Int.toNat_natCast, HOLD.out])
    have HOB := Lib.hid (show ShortW old ∧ old.length ≤ 4096 by rw [← HOLD.out]; exact HST2.out.small.getD a)
    have cS := cell0 HST2.out.bS
    have c0 : w2.cell? ⟨w.heap.size, 0, none⟩ = some (.int .i64 a) := by rw [cell_of_row _ _ _ _ _ _ HK2.out]; rfl
    have lS := (Array.getElem?_eq_some_iff.1 HST2.out.bS).1
    have lG := (Array.getElem?_eq_some_iff.1 HST2.out.bG).1
    have lg := HST2.out.row.lt
    have lb := (Array.getElem?_eq_some_iff.1 HK2.out).1
    clear ho hsx hqx hold has hqo hhi
    go_wp2_with fail
    have hb3 := (Below.refl w2.heap.size w2).alloc (Nat.le_refl _) (.cells #[.slice Ao qo co, .slice Ax qx cx] 22)
    have hst3 := HST2.out.below hb3
    have hk3 := Go.heap_alloc_new w2 (.cells #[.slice Ao qo co, .slice Ax qx cx] 22)
    have HU := Lib.hid (union_any (some ⟨w2.heap.size, 0, none⟩) 2 old x (w2.alloc (.cells #[.slice Ao qo co, .slice Ax qx cx] 22)) (slS_two hk3 (HHI.out.sl.fut hb3 (Nat.le_refl _) hb3.size) (HSX.out.fut hb3 (Nat.le_refl _) hb3.size)) (by have := HOB.out.2; have := HX.out.2; omega))
    have HB3 := Lib.hid hb3
    have HST3 := Lib.hid hst3
    clear hb3 hst3 hk3 cS c0 hco hfz lS lG lg lb
    generalize w2.alloc (.cells #[.slice Ao qo co, .slice Ax qx cx] 22) = w3 at *
    refine HU.out.mono ?_
    rintro e w4 ⟨v4, rfl, hown, hb4⟩
    have HST4 := Lib.hid (HST3.out.below hb4)
    have HB24 := Lib.hid (HB3.out.trans (hb4.mono HB3.out.size))
    have HK4 := Lib.hid ((HB24.out.block w.heap.size (Array.getElem?_eq_some_iff.1 HK2.out).1).trans HK2.out)
    have HB4 := Lib.hid (HB2.out.trans (HB24.out.mono HB2.out.size))
    have HUB := Lib.hid (show ShortW (unionW old x) from short_union HOB.out.1 HX.out.1)
    have hown' : w4.ownsRow w3.heap.size 9 1 v4 (unionW old x).length (wcells (unionW old x)) := hown
    have HHU := Lib.hid (Hi.own (lo := lo) (e0 := lo) (fits_short HUB.out) hown' (.inl (by have := HST3.out.le; omega)))
    obtain ⟨A4, c4, rfl, h41, h42⟩ := own_form hown'
    have HULE := Lib.hid (show (unionW old x).length ≤ 8192 by
      have := setOf_le (old ++ x)
      rw [List.length_append] at this
      have h1 := HOB.out.2
      have h2 := HX.out.2
      unfold unionW
      omega)
    obtain ⟨u, hu⟩ : ∃ u, u = unionW old x := ⟨_, rfl⟩
    rw [← hu] at HGW HUB HHU h41 HULE
    rw [← hu]
    have HUU := Lib.hid hu
    clear hown hown' hb4 HU hu
    obtain ⟨qu, hqu⟩ : ∃ qu, qu = u.length := ⟨_, rfl⟩
    rw [← hqu] at HGW HHU h41 HULE ⊢
    have HQU := Lib.hid hqu
    rw [← HQO.out] at HGW
    clear hqu
    have hqu8 := HULE.out
    -- the row, the boxes in w4
    have has : a < sets.length := by rw [HST4.out.len]; exact ha
    obtain ⟨Ao', co', hco', ho1', ho2', hhi', hfz'⟩ := HST4.out.row.get has
    have holdl : sets[a].length = qo := by
      have := HOLD.out
      rw [List.getD_eq_getElem?_getD, List.getElem?_eq_getElem has] at this
      rw [HQO.out, ← this]
      rfl
    rw [holdl] at hco' ho1'
    have cS := cell0 HST4.out.bS
    have cG := cell0 HST4.out.bG
    have fG : w4.frozen? ⟨G, 0, none⟩ = false := by simp [World.frozen?, HST4.out.bG]
    have c0 : w4.cell? ⟨w.heap.size, 0, none⟩ = some (.int .i64 a) := by rw [cell_of_row _ _ _ _ _ _ HK4.out]; rfl
    obtain ⟨l1, l2, l3, l4, l5, l6, l7, l8, l9, l10, l11⟩ := HST4.out.le
    have hgb : G ≠ w.heap.size := by have := HH.out.le; omega
    have hgb2 : g ≠ w.heap.size := by have := HH.out.le; omega
    clear hhi' holdl has
    -- behind both stores
    have HFIN : Hid (∀ (b : Bool) (w5 : World), w5 = (w4.setCell ⟨G, 0, none⟩ (.bool b)).setCell ⟨g, a, none⟩ (.slice A4 qu c4) → qu ≤ 4096 → b = (gr || decide (qo < qu)) → GrowFTo w g S K G lo C n k gr (growW k sets ((a : Int), r)) (.returned (.bool true)) w5) := by
      rintro b w5 rfl hle rfl
      have hG : (w4.setCell ⟨G, 0, none⟩ (.bool (gr || decide (qo < qu)))).heap[G]? = some (.cells #[.bool (gr || decide (qo < qu))] 4 (0, 0)) := by
        simp only [World.setCell, Array.getElem?_modify, if_true, HST4.out.bG, Option.map_some]
        rfl
      refine ⟨((HB4.out.mono hCw).setCell l3 _).setCell l1 _, ?_⟩
      rw [HGW.out, if_pos hle]
      refine ⟨rfl, ⟨(HST4.out.row.other _ l10 l7 (by show G ≠ lo; omega)).set l5 (by omega) (HHU.out.keep (by simp [World.setCell]) fun p hp _ => World.cell?_of_block (Below.heap_setCell _ _ _ _ (by show p.block ≠ G; rcases hp with hp | hp <;> omega))), by rw [List.length_set]; exact HST4.out.len, HST4.out.small.set _ ⟨HUB.out, by rw [← HQU.out]; exact hle⟩, HST4.out.asc.set _ (by rw [HUU.out]; exact unionW_asc _ _), ?_, ?_, ?_, l1, l2, l3, l4, l5, l6, l7, by simpa [World.setCell] using l8, l9, l10, l11⟩⟩
      · rw [Below.heap_setCell _ _ _ _ (fun e => l9 e.symm), Below.heap_setCell _ _ _ _ (show S ≠ G from l11)]; exact HST4.out.bS
      · rw [Below.heap_setCell _ _ _ _ (show K ≠ g by omega), Below.heap_setCell _ _ _ _ (show K ≠ G by omega)]; exact HST4.out.bK
      · rw [Below.heap_setCell _ _ _ _ (fun e => l10 e.symm)]; exact hG
    have HFIN2 : Hid (∀ (b : Bool) (w5 : World), w5 = (w4.setCell ⟨G, 0, none⟩ (.bool b)).setCell ⟨g, a, none⟩ (.slice A4 qu c4) → ¬ qu ≤ 4096 → GrowFTo w g S K G lo C n k gr (growW k sets ((a : Int), r)) (.returned (.bool false)) w5) := by
      rintro b w5 rfl hle
      refine ⟨((HB4.out.mono hCw).setCell l3 _).setCell l1 _, ?_⟩
      rw [HGW.out, if_neg hle]
    have hans : n ≤ 256 := hn
    cases gr with
    | true =>
      by_cases hle : qu ≤ 4096
      · have hld : decide ((qu : Int) ≤ 4096) = true := by rw [decide_eq_true_eq]; omega
        go_wp2_with fail
        go_ret
        exact HFIN.out true _ rfl hle rfl
      · have hld : decide ((qu : Int) ≤ 4096) = false := by rw [decide_eq_false_iff_not]; omega
        go_wp2_with fail
        go_ret
        exact HFIN2.out true _ rfl hle
    | false =>
      by_cases hlt : qo < qu
      · have hltd : decide (qo < qu) = true := decide_eq_true hlt
        by_cases hle : qu ≤ 4096
        · have hld : decide ((qu : Int) ≤ 4096) = true := by rw [decide_eq_true_eq]; omega
          go_wp2_with fail
          go_ret
          exact HFIN.out true _ rfl hle (by rw [hltd]; rfl)
        · have hld : decide ((qu : Int) ≤ 4096) = false := by rw [decide_eq_false_iff_not]; omega
          go_wp2_with fail
          go_ret
          exact HFIN2.out true _ rfl hle
      · have hltd : decide (qo < qu) = false := decide_eq_false hlt
        have hle : qu ≤ 4096 := by have := HOB.out.2; have := HQO.out; omega
        have hld : decide ((qu : Int) ≤ 4096) = true := by rw [decide_eq_true_eq]; omega
        go_wp2_with fail
        go_ret
        exact HFIN.out false _ rfl hle (by rw [hltd]; rfl)
end Go.Proofs.YtfpihflepeiagaaGreatDoor
