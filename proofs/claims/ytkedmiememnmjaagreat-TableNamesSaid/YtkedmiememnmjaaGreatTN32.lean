/- Texts of this proof joined: Rf15c, FewF. -/
import Derived.Test.YtkedmiememnmjaaGreatTN29
import Derived.Test.YtkedmiememnmjaaGreatTN31
import Derived.Test.YtkedmiememnmjaaGreatTN06
namespace Go.Proofs.YtkedmiememnmjaaGreat
open Go.RowKit

def hasT (t : Nat) (r : Int × List Int) : Bool := r.2.any fun s => decide (s = -1 - (t : Int))
theorem any_takeB {α : Type} {p : α → Bool} {l : List α} {i : Nat} (h : i < l.length) : (l.take (i + 1)).any p = ((l.take i).any p || p l[i]) := by
  rw [List.take_succ_eq_append_getElem h, List.any_append]
  simp
theorem any_of_getB {α : Type} {p : α → Bool} {l : List α} {i : Nat} (h : i < l.length) (hp : p l[i] = true) : l.any p = true := List.any_eq_true.2 ⟨l[i], List.getElem_mem h, hp⟩
set_option maxRecDepth 100000 in
set_option maxHeartbeats 16000000 in
theorem used15_any {A1 A2 A3 : Option Addr} {n m q c1 c2 c3 : Nat} {g : Gram} (gr t : Nat) (R : List Bool) (w : World) (h : GramR w w.heap.size A1 A2 A3 n m q c1 c2 c3 g) (hv : gramB g = true) (hR : w.heap[gr]? = some (.cells (bcellsB R).toArray 4 (0, 0))) (hRl : R.length = n) (hRa : R.all id = true) (ht : t ≤ 1048576) :
    Calls Tryz.prog 27 #[gramV A1 A2 A3 n m q c1 c2 c3, .slice (some ⟨gr, 0, none⟩) n n, .int .i64 t] w fun e w' => e = .returned (.bool (usedT g.2.2 t)) ∧ Below w.heap.size w w' := by
  have hbx := (Below.refl w.heap.size w).alloc (Nat.le_refl _) (.cells #[.slice A1 n c1, .slice A2 m c2, .slice A3 q c3] 25)
  have HV := Lib.hid ((h.fut (B' := w.heap.size + 1) hbx (Nat.le_refl _) (by omega)).rules)
  have HK := Lib.hid (Go.heap_alloc_new w (.cells #[.slice A1 n c1, .slice A2 m c2, .slice A3 q c3] 25))
  have HZ := Lib.hid (World.size_alloc w (.cells #[.slice A1 n c1, .slice A2 m c2, .slice A3 q c3] 25))
  have HBX := Lib.hid hbx
  have HCELL : Hid (∀ (w2 : World), w2.heap[w.heap.size]? = some (.cells #[.slice A1 n c1, .slice A2 m c2, .slice A3 q c3] 25 (0, 0)) → w2.cell? ⟨w.heap.size, 0, none⟩ = some (.slice A1 n c1) ∧ w2.cell? ⟨w.heap.size, 2, none⟩ = some (.slice A3 q c3)) := fun w2 hk => ⟨by rw [cell_of_row _ _ _ _ _ _ hk]; rfl, by rw [cell_of_row _ _ _ _ _ _ hk]; rfl⟩
  have HR := Lib.hid ((hbx.block gr (Array.getElem?_eq_some_iff.1 hR).1).trans hR)
  have HRL := Lib.hid hRl
  have HRA := Lib.hid hRa
  have hn2 : n ≤ 256 := by have := (gramB_good hv).nm; have := h.ln.1; omega
  have hq2 : q ≤ 4096 := by have := (gramB_good hv).q; have := h.ln.2.2; omega
  have HFIT := Lib.hid (show ∀ r ∈ g.2.2, 0 ≤ r.1 ∧ r.1 < n ∧ r.2.length ≤ 64 from fun r hr => by
    obtain ⟨f1, f2, f3, f4⟩ := (gramB_good hv).fit r hr
    have := h.ln.1
    exact ⟨f1, by omega, f3⟩)
  have HQ := Lib.hid h.ln.2.2
  have hgr : gr < w.heap.size := (Array.getElem?_eq_some_iff.1 hR).1
  obtain ⟨ns, ts, rs⟩ := g
  simp only at HV HFIT HQ ⊢
  clear h hv hbx hR hRl hRa
  go_enter Tryz.func27, Tryz.ntmps27
  go_wp2_with fail
  generalize w.alloc (.cells #[.slice A1 n c1, .slice A2 m c2, .slice A3 q c3] 25) = w1 at *
  obtain ⟨a0, a2⟩ := HCELL.out w1 HK.out
  go_loopg [7] q (fun left v7 wr => ∃ (j : Nat), j ≤ q ∧ q - j ≤ left ∧ v7 = .int .i64 j ∧ Hid ((rs.take j).any (hasT t) = false) ∧ wr = w1)
  case atStart => exact ⟨0, by omega, by omega, rfl, by simp [Hid], rfl⟩
  case round =>
    obtain ⟨j, hj, hleft, rfl, HN, rfl⟩ := hrel
    obtain ⟨gas, hgas⟩ : ∃ gas, gas = gk := ⟨_, rfl⟩
    rw [← hgas] at hleft
    have HGK := Lib.hid hgas
    clear hgas
    generalize wr = wo at *
    by_cases hjq : j < q
    · have hjl : j < rs.length := by rw [← HQ.out]; exact hjq
      obtain ⟨b, off, cs, rfl, -, hbl, hrep, hcell⟩ := HV.out.get (k := j) hjl (by decide)
      obtain ⟨v, rfl, hsl, hz1, hz2⟩ := eRule_open hrep
      obtain ⟨A5, c5, rfl, hl5, hl6⟩ := hsl.form
      have hc0 := hcell 0 _ rfl
      have hc1 := hcell 1 _ rfl
      simp only [show eRule.size = 2 from rfl, Nat.add_zero, ← Nat.add_assoc] at hc0 hc1
      have HTK := Lib.hid (any_takeB (p := hasT t) hjl)
      have HAY := Lib.hid (show hasT t rs[j] = true → usedT rs t = true from fun h => any_of_getB (p := hasT t) hjl h)
      obtain ⟨f1, f2, f3⟩ := HFIT.out rs[j] (List.getElem_mem hjl)
      obtain ⟨r, hr⟩ : ∃ r, r = rs[j] := ⟨_, rfl⟩
      rw [← hr] at hc0 hc1 hsl hl5 f1 f2 f3 HTK HAY
      obtain ⟨a, right⟩ := r
      simp only at hc0 hc1 hsl hl5 f1 f2 f3
      obtain ⟨at_, rfl⟩ : ∃ at_ : Nat, a = (at_ : Int) := ⟨a.toNat, by omega⟩
      have hatR : at_ < R.length := by rw [HRL.out]; omega
      have cR := bool_row_get HR.out hatR
      have hRt : R[at_] = true := List.all_eq_true.1 HRA.out _ (List.getElem_mem hatR)
      rw [hRt] at cR
      have hatn : at_ < n := by omega
      obtain ⟨p, hp⟩ : ∃ p, p = right.length := ⟨_, rfl⟩
      rw [← hp] at hc1 hsl hl5 f3
      have HP := Lib.hid hp
      have HSR := Lib.hid hsl
      have HHT := Lib.hid (show hasT t ((at_ : Int), right) = right.any fun s => decide (s = -1 - (t : Int)) from rfl)
      clear hcell hrep hr hp hsl hjl hz1 hz2 hRt hatR
      go_wp2_with fail
      go_loopg [8] p (fun lf3 v8 wt => ∃ (k : Nat), k ≤ p ∧ p - k ≤ lf3 ∧ v8 = .int .i64 k ∧ Hid ((right.take k).any (fun s => decide (s = -1 - (t : Int))) = false) ∧ wt = wo)
      case atStart => exact ⟨0, by omega, by omega, rfl, by simp [Hid], rfl⟩
      case round =>
        obtain ⟨k, hk, hlf3, rfl, HM, rfl⟩ := hrel
        by_cases hkp : k < p
        · have hkl : k < right.length := by rw [← HP.out]; exact hkp
          obtain ⟨b4, o4, cs4, rfl, -, -, hrep4, hcell4⟩ := HSR.out.get (k := k) hkl (by decide)
          obtain ⟨rfl, hx1, hx2⟩ := hrep4
          have hc4 := hcell4 0 _ rfl
          simp only [show eInt.size = 1 from rfl, Nat.mul_one, Nat.add_zero] at hc4
          have HT3 := Lib.hid (any_takeB (p := fun s => decide (s = -1 - (t : Int))) hkl)
          have HA3 := Lib.hid (any_of_getB (p := fun s => decide (s = -1 - (t : Int))) hkl)
          obtain ⟨s, hs⟩ : ∃ s, s = right[k] := ⟨_, rfl⟩
          rw [← hs] at hc4 HT3 HA3 hx1 hx2
          clear hcell4 hs hkl
          by_cases hst : s = -1 - (t : Int)
          · have hd : (s == -1 - (t : Int)) = true := by simpa using hst
            have HE := Lib.hid (show usedT rs t = true from HAY.out (by rw [HHT.out]; exact HA3.out (by simpa using hst)))
            clear hst
            go_wp2_with fail
            go_ret
            exact ⟨rt1 (vbool HE.out.symm), HBX.out⟩
          · have hd : (s == -1 - (t : Int)) = false := by simpa using hst
            have HE := Lib.hid (show (right.take (k + 1)).any (fun s => decide (s = -1 - (t : Int))) = false by rw [HT3.out, HM.out]; simpa using hst)
            clear hst
            go_wp2_with fail
            go_roundg (gk - 1)
            case measure => omega
            case rel => exact ⟨k + 1, by omega, by omega, by go_num, HE.out, rfl⟩
        · have HE := Lib.hid (show (rs.take (j + 1)).any (hasT t) = false by
            rw [HTK.out, HN.out, HHT.out]
            have := HM.out
            rwa [List.take_of_length_le (by rw [← HP.out]; omega)] at this)
          go_wp2_with fail
          go_roundg (gas - 1)
          case measure => have := HGK.out; omega
          case rel => exact ⟨j + 1, by omega, by omega, by go_num, HE.out, rfl⟩
    · have HE := Lib.hid (show usedT rs t = false by
        have := HN.out
        rwa [List.take_of_length_le (by rw [← HQ.out]; omega)] at this)
      go_wp2_with fail
      go_ret
      exact ⟨rt1 (vbool HE.out.symm), HBX.out⟩
def check15 (g : Gram) : Int := if gramB g then wellE g.1.length g.2.1.length g.2.2 else 1
theorem reached_len (rs : RuleL) (n : Nat) : (reached rs n).length = n := by
  unfold reached
  rw [roundsOf_len (fun P r => ?_), List.length_set, List.length_replicate]
  unfold reachStep
  have : ∀ (l : List Int) (R : List Bool), (l.foldl (fun R s => reachSym R r.1 s) R).length = R.length := by
    intro l
    induction l with
    | nil => intro R; rfl
    | cons s l ih => intro R; rw [List.foldl_cons, ih, reachSym_len]
  exact this _ _
theorem all_falseB {P : List Bool} {i : Nat} (h : i < P.length) (hp : P[i] = false) : P.all id = false := by
  rw [List.all_eq_false]
  exact ⟨P[i], List.getElem_mem h, by simp [hp]⟩
set_option maxRecDepth 100000 in
set_option maxHeartbeats 16000000 in
theorem check15_any {A1 A2 A3 : Option Addr} {n m q c1 c2 c3 : Nat} {g : Gram} (w : World) (h : GramR w w.heap.size A1 A2 A3 n m q c1 c2 c3 g) :
    Calls Tryz.prog 9 #[gramV A1 A2 A3 n m q c1 c2 c3] w fun e w' => e = .returned (.int .i64 (check15 g)) ∧ Below w.heap.size w w' := by
  have hbx := (Below.refl w.heap.size w).alloc (Nat.le_refl _) (.cells #[.slice A1 n c1, .slice A2 m c2, .slice A3 q c3] 25)
  have HV := Lib.hid ((h.fut (B' := w.heap.size + 1) hbx (Nat.le_refl _) (by omega)))
  have HK := Lib.hid (Go.heap_alloc_new w (.cells #[.slice A1 n c1, .slice A2 m c2, .slice A3 q c3] 25))
  have HZ := Lib.hid (World.size_alloc w (.cells #[.slice A1 n c1, .slice A2 m c2, .slice A3 q c3] 25))
  have HBX := Lib.hid hbx
  have HCELL : Hid (∀ (w2 : World), w2.heap[w.heap.size]? = some (.cells #[.slice A1 n c1, .slice A2 m c2, .slice A3 q c3] 25 (0, 0)) → w2.cell? ⟨w.heap.size, 0, none⟩ = some (.slice A1 n c1) ∧ w2.cell? ⟨w.heap.size, 1, none⟩ = some (.slice A2 m c2) ∧ w2.cell? ⟨w.heap.size, 2, none⟩ = some (.slice A3 q c3)) := fun w2 hk => ⟨by rw [cell_of_row _ _ _ _ _ _ hk]; rfl, by rw [cell_of_row _ _ _ _ _ _ hk]; rfl, by rw [cell_of_row _ _ _ _ _ _ hk]; rfl⟩
  have HL := Lib.hid h.ln
  have hsm := h.small
  have HGR := Lib.hid (show ∀ w' : World, Below (w.heap.size + 1) (w.alloc (.cells #[.slice A1 n c1, .slice A2 m c2, .slice A3 q c3] 25)) w' → w.heap.size + 1 ≤ w'.heap.size → GramR w' w'.heap.size A1 A2 A3 n m q c1 c2 c3 g from fun w' hb hs => HV.out.fut hb (Nat.le_refl _) hs)
  clear h hbx
  go_enter Tryz.func9, Tryz.ntmps9
  go_wp2_with fail
  generalize w.alloc (.cells #[.slice A1 n c1, .slice A2 m c2, .slice A3 q c3] 25) = w1 at *
  refine (valid14_any w1 (HGR.out w1 (Below.refl _ _) (by rw [HZ.out]; exact Nat.le_refl _))).mono ?_
  rintro e w2 ⟨rfl, hb2⟩
  have HB2 := Lib.hid (hb2.mono (Nat.le_of_eq HZ.out.symm))
  have HS2 := Lib.hid (show w.heap.size + 1 ≤ w2.heap.size by have := hb2.size; have := HZ.out; omega)
  have HK2 := Lib.hid ((HB2.out.block w.heap.size (by omega)).trans HK.out)
  obtain ⟨a0, a1, a2⟩ := HCELL.out w2 HK2.out
  clear hb2
  cases hg : gramB g with
  | false =>
    have HE := Lib.hid (show check15 g = 1 by unfold check15; rw [if_neg (by rw [hg]; simp)])
    clear hg
    go_wp2_with fail
    go_ret
    exact ⟨by rw [HE.out]; rfl, HBX.out.trans (HB2.out.mono (Nat.le_succ _))⟩
  | true =>
    have HG := Lib.hid hg
    have HN1 := Lib.hid (show n = g.1.length from HL.out.1)
    have HE0 := Lib.hid (show check15 g = wellE n m g.2.2 by unfold check15; rw [if_pos hg, HL.out.1, HL.out.2.1])
    have hm2 : m ≤ 256 := by have := (gramB_good hg).nm; have := HL.out; omega
    have HPL := Lib.hid (show (productive g.2.2 n).length = n by unfold productive; rw [roundsOf_len prodStep_len, List.length_replicate])
    have HRL := Lib.hid (reached_len g.2.2 n)
    clear hg
    go_wp2_with fail
    refine (productive15_any w2 (HGR.out w2 HB2.out HS2.out) HG.out).mono ?_
    rintro e w3 ⟨gp, rfl, hgp, hgp2, hb3⟩
    have HB3 := Lib.hid (HB2.out.trans (hb3.mono HS2.out))
    have HS3 := Lib.hid (Nat.le_trans HS2.out hb3.size)
    have HP := Lib.hid hgp
    have HE1 := Lib.hid (show wellE n m g.2.2 = if (productive g.2.2 n).all id then (if (reached g.2.2 n).all id && (List.range m).all (usedT g.2.2) then 0 else 17) else 18 from rfl)
    obtain ⟨P, hP⟩ : ∃ P, P = productive g.2.2 n := ⟨_, rfl⟩
    rw [← hP] at HP HE1 HPL ⊢
    rw [HPL.out]
    clear a0 a1 a2 hgp hgp2 hb3 hP
    go_wp2_with fail
    go_loopg [4] n (fun left v4 wr => ∃ i : Nat, i ≤ n ∧ n - i ≤ left ∧ v4 = .int .i64 i ∧ Hid ((P.take i).all id = true) ∧ wr = w3)
    case atStart => exact ⟨0, by omega, by omega, rfl, by simp [Hid], rfl⟩
    case round =>
      obtain ⟨i, hi, hleft, rfl, HA, rfl⟩ := hrel
      by_cases hib : i < n
      · have hil : i < P.length := by rw [HPL.out]; exact hib
        have cP := bool_row_get HP.out hil
        have HT := Lib.hid (all_takeB (p := id) hil)
        have HF := Lib.hid (all_falseB hil)
        obtain ⟨b, hb⟩ : ∃ b, b = P[i] := ⟨_, rfl⟩
        rw [← hb] at cP HT HF
        clear hb hil
        cases b with
        | true =>
          have HA2 := Lib.hid (show (P.take (i + 1)).all id = true by rw [HT.out, HA.out]; rfl)
          go_wp2_with fail
          go_roundg (gk - 1)
          case measure => omega
          case rel => exact ⟨i + 1, by omega, by omega, by go_num, HA2.out, rfl⟩
        | false =>
          have HE := Lib.hid (show check15 g = 18 by rw [HE0.out, HE1.out, HF.out rfl]; rfl)
          go_wp2_with fail
          go_ret
          exact ⟨by rw [HE.out]; rfl, HBX.out.trans (HB3.out.mono (Nat.le_succ _))⟩
      · have HE2 := Lib.hid (show check15 g = if (reached g.2.2 n).all id && (List.range m).all (usedT g.2.2) then 0 else 17 by
          have := HA.out
          rw [List.take_of_length_le (by rw [HPL.out]; omega)] at this
          rw [HE0.out, HE1.out, this]
          rfl)
        obtain ⟨w3, hw3⟩ : ∃ w3, w3 = wr := ⟨_, rfl⟩
        rw [← hw3] at HB3 HS3 ⊢
        have HK3 := Lib.hid ((HB3.out.block w.heap.size (by omega)).trans HK.out)
        obtain ⟨a0, a1, a2⟩ := HCELL.out w3 HK3.out
        clear hw3 HP HE0 HE1
        go_wp2_with fail
        refine (reached15_any w3 (HGR.out w3 HB3.out HS3.out) HG.out).mono ?_
        rintro e w4 ⟨gr, rfl, hgr, hgr2, hb4⟩
        have HB4 := Lib.hid (HB3.out.trans (hb4.mono HS3.out))
        have HS4 := Lib.hid (Nat.le_trans HS3.out hb4.size)
        have HR := Lib.hid hgr
        obtain ⟨R, hR⟩ : ∃ R, R = reached g.2.2 n := ⟨_, rfl⟩
        rw [← hR] at HR HE2 HRL ⊢
        rw [HRL.out]
        clear a0 a1 a2 hgr hgr2 hb4 hR
        go_wp2_with fail
        go_loopg [6] n (fun left v6 wr => ∃ i : Nat, i ≤ n ∧ n - i ≤ left ∧ v6 = .int .i64 i ∧ Hid ((R.take i).all id = true) ∧ wr = w4)
        case atStart => exact ⟨0, by omega, by omega, rfl, by simp [Hid], rfl⟩
        case round =>
          obtain ⟨i, hi, hleft, rfl, HA, rfl⟩ := hrel
          by_cases hib : i < n
          · have hil : i < R.length := by rw [HRL.out]; exact hib
            have cP := bool_row_get HR.out hil
            have HT := Lib.hid (all_takeB (p := id) hil)
            have HF := Lib.hid (all_falseB hil)
            obtain ⟨b, hb⟩ : ∃ b, b = R[i] := ⟨_, rfl⟩
            rw [← hb] at cP HT HF
            clear hb hil
            cases b with
            | true =>
              have HA2 := Lib.hid (show (R.take (i + 1)).all id = true by rw [HT.out, HA.out]; rfl)
              go_wp2_with fail
              go_roundg (gk - 1)
              case measure => omega
              case rel => exact ⟨i + 1, by omega, by omega, by go_num, HA2.out, rfl⟩
            | false =>
              have HE := Lib.hid (show check15 g = 17 by rw [HE2.out, HF.out rfl]; rfl)
              go_wp2_with fail
              go_ret
              exact ⟨by rw [HE.out]; rfl, HBX.out.trans (HB4.out.mono (Nat.le_succ _))⟩
          · have HRA := Lib.hid (show R.all id = true by
              have := HA.out
              rwa [List.take_of_length_le (by rw [HRL.out]; omega)] at this)
            have HE3 := Lib.hid (show check15 g = if (List.range m).all (usedT g.2.2) then 0 else 17 by
              rw [HE2.out, HRA.out]
              rfl)
            obtain ⟨w4, hw4⟩ : ∃ w4, w4 = wr := ⟨_, rfl⟩
            rw [← hw4] at HB4 HS4 HR ⊢
            clear hw4 HA HE2
            go_wp2_with fail
            go_loopg [7] m (fun left v7 wr => ∃ i : Nat, i ≤ m ∧ m - i ≤ left ∧ v7 = .int .i64 i ∧ Hid (∀ j, j < i → usedT g.2.2 j = true) ∧ Hid (Below w4.heap.size w4 wr))
            case atStart => exact ⟨0, by omega, by omega, rfl, fun j hj => by omega, Below.refl _ _⟩
            case round =>
              obtain ⟨i, hi, hleft, rfl, HA, HBW⟩ := hrel
              have HB5 := Lib.hid (HB4.out.trans (HBW.out.mono HS4.out))
              have HS5 := Lib.hid (Nat.le_trans HS4.out HBW.out.size)
              have HK5 := Lib.hid ((HB5.out.block w.heap.size (by omega)).trans HK.out)
              obtain ⟨a0, a1, a2⟩ := HCELL.out wr HK5.out
              have HR5 := Lib.hid ((HBW.out.block gr (Array.getElem?_eq_some_iff.1 HR.out).1).trans HR.out)
              by_cases hib : i < m
              · go_wp2_with fail
                refine (used15_any gr i R wr (HGR.out wr HB5.out HS5.out) HG.out HR5.out HRL.out HRA.out (by omega)).mono ?_
                rintro e w6 ⟨rfl, hb6⟩
                have HB6 := Lib.hid (HBW.out.trans (hb6.mono HBW.out.size))
                obtain ⟨b, hb⟩ : ∃ b, b = usedT g.2.2 i := ⟨_, rfl⟩
                rw [← hb]
                have HBB := Lib.hid hb
                clear hb hb6 a0 a1 a2
                cases b with
                | true =>
                  go_wp2_with fail
                  go_roundg (gk - 1)
                  case measure => omega
                  case rel => exact ⟨i + 1, by omega, by omega, by go_num, fun j hj => by rcases Nat.lt_or_ge j i with h | h; (exact HA.out j h); (rw [show j = i by omega]; exact HBB.out.symm), HB6.out⟩
                | false =>
                  have HE := Lib.hid (show check15 g = 17 by
                    rw [HE3.out, if_neg]
                    intro h
                    have := List.all_eq_true.1 h i (List.mem_range.2 hib)
                    rw [← HBB.out] at this
                    cases this)
                  go_wp2_with fail
                  go_ret
                  exact ⟨by rw [HE.out]; rfl, HBX.out.trans ((HB4.out.trans (HB6.out.mono HS4.out)).mono (Nat.le_succ _))⟩
              · have HE := Lib.hid (show check15 g = 0 by
                  rw [HE3.out, if_pos]
                  exact List.all_eq_true.2 fun j hj => HA.out j (by have := List.mem_range.1 hj; omega))
                go_wp2_with fail
                go_ret
                exact ⟨by rw [HE.out]; rfl, HBX.out.trans (HB5.out.mono (Nat.le_succ _))⟩
end Go.Proofs.YtkedmiememnmjaaGreat
namespace Go.Proofs.YtkedmiememnmjaaGreat
open Go.RowKit

def Few14To (ns ts : List ByteArray) (rs : List (Int × List Int)) (w : World) (e : Ending) (w' : World) : Prop := ∃ z : Int, e = .returned (.int .i64 z) ∧ (z = 0 ∨ (z = 1 ∧ ns.length ≤ 12 ∧ ts.length ≤ 12 ∧ rs.length ≤ 40)) ∧ Below w.heap.size w w'
set_option maxHeartbeats 2000000 in
theorem few14_any (v1 v2 v3 : Value) (ns ts : List ByteArray) (rs : List (Int × List Int)) (w : World) (h1 : SlR eStr w w.heap.size v1 ns) (h2 : SlR eStr w w.heap.size v2 ts) (h3 : SlR eRule w w.heap.size v3 rs) :
    Calls Tryz.prog 6 #[.agg #[v1, v2, v3]] w (Few14To ns ts rs w) := by
  obtain ⟨A1, c1, rfl, hc1, hc1'⟩ := h1.form
  obtain ⟨A2, c2, rfl, hc2, hc2'⟩ := h2.form
  obtain ⟨A3, c3, rfl, hc3, hc3'⟩ := h3.form
  unfold maxLen at hc1' hc2' hc3'
  by_cases hgood : ns.length ≤ 12 ∧ ts.length ≤ 12 ∧ rs.length ≤ 40
  case neg =>
    have hcase : 12 < ns.length ∨ (ns.length ≤ 12 ∧ 12 < ts.length) ∨ (ns.length ≤ 12 ∧ ts.length ≤ 12 ∧ 40 < rs.length) := by omega
    rcases hcase with h | ⟨h0, h⟩ | ⟨h0, h0', h⟩
    all_goals
      go_enter Tryz.func6, Tryz.ntmps6
      go_wp2_with fail
      all_goals first
        | (exfalso; omega)
        | (go_ret; exact ⟨0, rfl, .inl rfl, by go_grown⟩)
  obtain ⟨g1, g2, g3⟩ := hgood
  go_enter Tryz.func6, Tryz.ntmps6
  go_wp2_with fail
  all_goals first
    | (exfalso; omega)
    | skip
  have HW : Hid (Below w.heap.size w (w.alloc (Obj.cells #[Value.slice A1 ns.length c1, Value.slice A2 ts.length c2, Value.slice A3 rs.length c3] 25))) := (Below.refl _ _).alloc (Nat.le_refl _) _
  have HS : Hid ((w.alloc (Obj.cells #[Value.slice A1 ns.length c1, Value.slice A2 ts.length c2, Value.slice A3 rs.length c3] 25)).heap.size = w.heap.size + 1) := by show _ = _; simp
  have k0 : (w.alloc (Obj.cells #[Value.slice A1 ns.length c1, Value.slice A2 ts.length c2, Value.slice A3 rs.length c3] 25)).cell? ⟨w.heap.size, 0, none⟩ = some (Value.slice A1 ns.length c1) := by simp
  have k1 : (w.alloc (Obj.cells #[Value.slice A1 ns.length c1, Value.slice A2 ts.length c2, Value.slice A3 rs.length c3] 25)).cell? ⟨w.heap.size, 1, none⟩ = some (Value.slice A2 ts.length c2) := by simp
  have k2 : (w.alloc (Obj.cells #[Value.slice A1 ns.length c1, Value.slice A2 ts.length c2, Value.slice A3 rs.length c3] 25)).cell? ⟨w.heap.size, 2, none⟩ = some (Value.slice A3 rs.length c3) := by simp
  generalize w.alloc (Obj.cells #[Value.slice A1 ns.length c1, Value.slice A2 ts.length c2, Value.slice A3 rs.length c3] 25) = W at HW HS k0 k1 k2 ⊢
  have h1W := h1.below HW.out
  have h2W := h2.below HW.out
  have h3W := h3.below HW.out
  clear h1 h2 h3
  go_loop [3] (fun v => ∃ k : Nat, k ≤ rs.length ∧ v = .int .i64 k) (fun v => rs.length - (intOf v).toNat)
  case atStart => exact ⟨0, by omega, rfl⟩
  case round =>
    obtain ⟨k, hk, rfl⟩ := hrel
    by_cases hlt : k < rs.length
    · obtain ⟨ab, ao, cs, rfl, _, hab, hrep, hcell⟩ := h3W.get hlt (by decide)
      obtain ⟨u, rfl, hu, hz1, hz2⟩ := eRule_open hrep
      obtain ⟨A4, e4, rfl, hq1, hq2⟩ := hu.form
      unfold maxLen at hq2
      have hc1' := hcell 1 _ rfl
      clear hcell
      simp only [show eRule.size = 2 from rfl, ← Nat.add_assoc] at hc1'
      go_wp2_with fail
      · go_ret
        exact ⟨0, rfl, .inl rfl, HW.out⟩
      · go_round
        case rel => exact ⟨k + 1, by omega, by go_num⟩
        case measure => simp [intOf]; omega
    go_wp2_with fail
    go_loop [4] (fun v => ∃ j : Nat, j ≤ ns.length ∧ v = .int .i64 j) (fun v => ns.length - (intOf v).toNat)
    case atStart => exact ⟨0, by omega, rfl⟩
    case round =>
      obtain ⟨j, hj, rfl⟩ := hrel
      by_cases hlj : j < ns.length
      · obtain ⟨ab, ao, cs, rfl, _, hab, hrep, hcell⟩ := h1W.get hlj (by decide)
        obtain ⟨rfl, hx1⟩ := hrep
        unfold maxLen at hx1
        have hc0 := hcell 0 _ rfl
        clear hcell
        simp only [show eStr.size = 1 from rfl, Nat.mul_one, Nat.add_zero] at hc0
        go_wp2_with fail
        · go_ret
          exact ⟨0, rfl, .inl rfl, HW.out⟩
        · go_round
          case rel => exact ⟨j + 1, by omega, by go_num⟩
          case measure => simp [intOf]; omega
      go_wp2_with fail
      go_loop [5] (fun v => ∃ i : Nat, i ≤ ts.length ∧ v = .int .i64 i) (fun v => ts.length - (intOf v).toNat)
      case atStart => exact ⟨0, by omega, rfl⟩
      case round =>
        obtain ⟨i, hi, rfl⟩ := hrel
        by_cases hli : i < ts.length
        · obtain ⟨ab, ao, cs, rfl, _, hab, hrep, hcell⟩ := h2W.get hli (by decide)
          obtain ⟨rfl, hx1⟩ := hrep
          unfold maxLen at hx1
          have hc0 := hcell 0 _ rfl
          clear hcell
          simp only [show eStr.size = 1 from rfl, Nat.mul_one, Nat.add_zero] at hc0
          go_wp2_with fail
          · go_ret
            exact ⟨0, rfl, .inl rfl, HW.out⟩
          · go_round
            case rel => exact ⟨i + 1, by omega, by go_num⟩
            case measure => simp [intOf]; omega
        go_wp2_with fail
        go_ret
        exact ⟨1, rfl, .inr ⟨rfl, g1, g2, g3⟩, HW.out⟩
end Go.Proofs.YtkedmiememnmjaaGreat
