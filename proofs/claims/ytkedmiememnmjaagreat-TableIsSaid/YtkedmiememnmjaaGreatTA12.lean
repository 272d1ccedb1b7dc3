/- Texts of this proof joined: Tab2, Rf09, FewF, Awk, AwkW, Tab3, NamesW, NamesW2, TabSort. -/
import Derived.Test.YtkedmiememnmjaaGreatTA11
import Derived.Test.YtkedmiememnmjaaGreatTA05
import Derived.Test.YtkedmiememnmjaaGreatTA04
import Derived.Deep.QuietTactic
import Derived.Deep.LoopGhost
import Derived.BigQuiet
import Derived.Test.YtkedmiememnmjaaGreatTA06
import Derived.Test.YtkedmiememnmjaaGreatTA09
import Derived.Test.YtkedmiememnmjaaGreatTA08
import Derived.Test.YtkedmiememnmjaaGreatSort
import Derived.Shelf.SlSortCmp.NoneTotal
import Derived.Sort.OwnSorted
namespace Go.Proofs.YtkedmiememnmjaaGreat
open Go.RowKit

def overB (n : Int) (s : Wd) : Bool := s.all fun c => decide ((c.toNat : Int) < n)
def wordOk (n k : Int) (s : Wd) : Bool := overB n s && decide ((s.length : Int) ≤ k)
theorem overB_take {n : Int} {s : Wd} {i : Nat} (h : i < s.length) : overB n (s.take (i + 1)) = (overB n (s.take i) && decide ((s[i].toNat : Int) < n)) := by
  unfold overB
  rw [List.take_succ_eq_append_getElem h, List.all_append]
  simp
theorem overB_bad {n : Int} {s : Wd} {i : Nat} (h : i < s.length) (hb : ¬ ((s[i].toNat : Int) < n)) : overB n s = false := by
  unfold overB
  rw [List.all_eq_false]
  exact ⟨s[i], List.getElem_mem h, by simpa using hb⟩
set_option maxHeartbeats 1600000 in
theorem wordValid_any (s : Wd) (n k : Int) (w : World) (hs : s.length ≤ maxLen) : Calls Tryz.prog 32 #[wv s, .int .i64 n, .int .i64 k] w fun e w' => e = .returned (.bool (wordOk n k s)) ∧ Below w.heap.size w w' := by
  obtain ⟨W, cw, hcv, hbW, hsW, hrd⟩ := conv_own (P := Tryz.prog) w 9 72 5 ⟨s.toArray⟩ Tryz.underlying9 Tryz.underlying72 Tryz.underlying5
  rw [wv_size] at hcv
  have HRD := Lib.hid (show Rd W (w.heap.size + 1) (some ⟨w.heap.size, 0, none⟩) (bcells s) from hrd)
  have HBW := Lib.hid hbW
  have HSW := Lib.hid hsW
  have hz := wv_size s
  obtain ⟨n0, hn0⟩ : ∃ n0, n0 = s.length := ⟨_, rfl⟩
  rw [← hn0] at hcv hz hs
  unfold maxLen at hs
  have HN := Lib.hid hn0
  have HLK := Lib.hid (show wordOk n k s = (overB n s && decide ((n0 : Int) ≤ k)) by unfold wordOk; rw [hn0])
  clear hrd hbW hsW hn0
  go_enter Tryz.func32, Tryz.ntmps32
  go_wp2_with fail
  go_loopg [12] n0 (fun left v12 wr => ∃ i : Nat, i ≤ n0 ∧ n0 - i ≤ left ∧ v12 = .int .i64 i ∧ wr = W ∧ Hid (overB n (s.take i) = true))
  case atStart => exact ⟨0, by omega, by omega, rfl, rfl, rfl⟩
  case round =>
    obtain ⟨i, hi, hleft, rfl, rfl, HO⟩ := hrel
    by_cases hib : i < n0
    · have hil : i < s.length := by rw [← HN.out]; exact hib
      obtain ⟨bb, bo, hbe, hbb, hcb⟩ := HRD.out.byte hil
      injection hbe with hbe
      injection hbe with e1 e2
      subst e1 e2
      rw [Nat.zero_add] at hcb
      have HT := Lib.hid (overB_take (n := n) hil)
      have HBAD := Lib.hid (overB_bad (n := n) hil)
      have hx1 := s[i].toNat_lt
      obtain ⟨x, hx, hx2, hx3⟩ : ∃ x : Int, ((s[i].toNat : Nat) : Int) = x ∧ 0 ≤ x ∧ x < 256 := ⟨_, rfl, by omega, by omega⟩
      rw [hx] at hcb HT HBAD
      clear hx hx1 hil
      by_cases hxn : x < n
      · have hd : decide (n ≤ x) = false := by simpa using hxn
        go_wp2_with fail
        go_roundg (gk - 1)
        case measure => omega
        case rel => exact ⟨i + 1, by omega, by omega, by go_num, rfl, by show _ = _; rw [HT.out, HO.out]; simpa using hxn⟩
      · have hd : decide (n ≤ x) = true := by simpa using hxn
        go_wp2_with fail
        go_ret
        exact ⟨rt1 (vbool (by rw [HLK.out, HBAD.out hxn]; rfl)), HBW.out⟩
    · have HF := Lib.hid (show overB n s = true by
        have := HO.out
        rwa [List.take_of_length_le (by rw [← HN.out]; omega)] at this)
      go_wp2_with fail
      go_ret
      exact ⟨rt1 (vbool (by rw [HLK.out, HF.out]; simp)), HBW.out⟩
theorem eqRow (a b : Row) : (decide (a.1 = b.1) && decide (a.2.1 = b.2.1) && decide (a.2.2 = b.2.2)) = decide (a = b) := by
  obtain ⟨a1, a2, a3⟩ := a
  obtain ⟨b1, b2, b3⟩ := b
  simp [Bool.and_assoc]
set_option maxHeartbeats 1600000 in
theorem equal_row (A B : Option Addr) (ca cb : Nat) (xs ys : List Row) (w : World) (ha : SlR eRow w w.heap.size (.slice A xs.length ca) xs) (hb : SlR eRow w w.heap.size (.slice B ys.length cb) ys) :
    Calls Tryz.prog 42 #[.slice A xs.length ca, .slice B ys.length cb] w fun e w' => e = .returned (.bool (decide (xs = ys))) ∧ Below w.heap.size w w' := by
  have HA := Lib.hid ha
  have HB := Lib.hid hb
  have h1 := ha.n_le
  have h2 := hb.n_le
  by_cases hl : xs.length = ys.length
  · rw [← hl] at HB h2 ⊢
    obtain ⟨n, hn⟩ : ∃ n, n = xs.length := ⟨_, rfl⟩
    rw [← hn] at HA HB h1 h2 ⊢
    have HN := Lib.hid hn
    have HN2 := Lib.hid (hn.trans hl)
    clear ha hb hl hn
    go_enter Tryz.func42, Tryz.ntmps42
    go_wp2_with fail
    go_loopg [13] n (fun left v13 wr => ∃ i : Nat, i ≤ n ∧ n - i ≤ left ∧ v13 = .int .i64 i ∧ Hid (xs.take i = ys.take i) ∧ Hid (Below w.heap.size w wr))
    case atStart => exact ⟨0, by omega, by omega, rfl, by simp [Hid], Below.refl _ _⟩
    case round =>
      obtain ⟨i, hi, hleft, rfl, HE, HBR⟩ := hrel
      by_cases hib : i < n
      · have hix : i < xs.length := by rw [← HN.out]; exact hib
        have hiy : i < ys.length := by rw [← HN2.out]; exact hib
        obtain ⟨b1, o1, rfl, -, hb1, a0, a1, a2, -⟩ := (HA.out.below HBR.out).rowAt hix
        obtain ⟨b2, o2, rfl, -, hb2, c0, c1, c2, -⟩ := (HB.out.below HBR.out).rowAt hiy
        have HT := Lib.hid (List.take_succ_eq_append_getElem hix)
        have HT2 := Lib.hid (List.take_succ_eq_append_getElem hiy)
        have HXE := Lib.hid (List.getElem?_eq_getElem hix)
        have HYE := Lib.hid (List.getElem?_eq_getElem hiy)
        obtain ⟨x, hx⟩ : ∃ x, x = xs[i] := ⟨_, rfl⟩
        obtain ⟨y, hy⟩ : ∃ y, y = ys[i] := ⟨_, rfl⟩
        rw [← hx] at a0 a1 a2 HT HXE
        rw [← hy] at c0 c1 c2 HT2 HYE
        clear hx hy hix hiy
        have HQ := Lib.hid (eqRow x y)
        obtain ⟨xa, xs1, xi⟩ := x
        obtain ⟨ya, ys1, yi⟩ := y
        simp only at a0 a1 a2 c0 c1 c2
        go_wp2_with fail
        refine Text.wp_text [8] (by kernel_rfl) (by kernel_rfl) (fun Q' hQ' => ?_)
        go_wp2_with fail
        all_goals refine ⟨by rfl, ?_⟩
        case isTrue.isTrue.isTrue =>
          rename_i g1 g2 g3
          subst g1 g2 g3
          go_wp2_with fail
          go_roundg (gk - 1)
          case measure => omega
          case rel => exact ⟨i + 1, by omega, by omega, by go_num, by show _ = _; rw [HT.out, HT2.out, HE.out], HBR.out.drew⟩
        all_goals
          have HNE := Lib.hid (show ¬ xs = ys by
            intro e
            have e2 := HXE.out.symm.trans ((congrArg (fun l : List Row => l[i]?) e).trans HYE.out)
            injection e2 with e2
            injection e2 with e2 e3
            injection e3 with e3 e4
            contradiction)
          go_wp2_with fail
          go_ret
          exact ⟨rt1 (vbool (by rw [eq_comm, decide_eq_false_iff_not]; exact HNE.out)), HBR.out.drew⟩
      · have HF := Lib.hid (show xs = ys by
          have := HE.out
          rwa [List.take_of_length_le (by rw [← HN.out]; omega), List.take_of_length_le (by rw [← HN2.out]; omega)] at this)
        go_wp2_with fail
        go_ret
        exact ⟨rt1 (vbool (by rw [HF.out]; simp)), HBR.out⟩
  · have hd : ((xs.length : Int) != ys.length) = true := by simpa using (show ¬ (xs.length : Int) = ys.length by omega)
    have HL := Lib.hid hl
    clear hl
    go_enter Tryz.func42, Tryz.ntmps42
    go_wp2_with fail
    go_ret
    exact ⟨rt1 (vbool (by rw [eq_comm, decide_eq_false_iff_not]; intro h; exact HL.out (congrArg List.length h))), by go_grown⟩
theorem same_rows (A B : Option Addr) (ca cb : Nat) (xs ys : List Row) (w : World) (ha : SlR eRow w w.heap.size (.slice A xs.length ca) xs) (hb : SlR eRow w w.heap.size (.slice B ys.length cb) ys) :
    Calls Tryz.prog 21 #[.slice A xs.length ca, .slice B ys.length cb] w fun e w' => e = .returned (.bool (decide (xs = ys))) ∧ Below w.heap.size w w' := by
  have HE := Lib.hid (equal_row A B ca cb xs ys w ha hb)
  clear ha hb
  go_enter Tryz.func21, Tryz.ntmps21
  go_wp2_with fail
  refine HE.out.mono ?_
  rintro e w1 ⟨rfl, hb1⟩
  go_wp2_with fail
  go_ret
  exact ⟨rfl, hb1⟩
end Go.Proofs.YtkedmiememnmjaaGreat
namespace Go.Proofs.YtkedmiememnmjaaGreat
open Go.RowKit

theorem less_step (x y : List UInt8) (i : Nat) (h1 : i < x.length) (h2 : i < y.length) :
    Op.bytesLess (x.drop i) (y.drop i) = (decide (x[i].toNat < y[i].toNat) || (x[i] == y[i] && Op.bytesLess (x.drop (i + 1)) (y.drop (i + 1)))) := by
  rw [List.drop_eq_getElem_cons h1, List.drop_eq_getElem_cons h2, Op.bytesLess]
  rfl
theorem below_drewN' {B : Nat} {w w' : World} (h : Below B w w') (n : Nat) : Below B w (w'.drewN n) := ⟨h.os, h.tape, h.output, h.size, h.block⟩
set_option maxRecDepth 100000 in
set_option maxHeartbeats 400000 in
theorem less09_any (x y : List UInt8) (w : World) (hx : x.length ≤ maxLen) (hy : y.length ≤ maxLen) :
    Calls Tryz.prog 41 #[.string ⟨x.toArray⟩, .string ⟨y.toArray⟩] w fun e w' => e = .returned (.bool (Op.bytesLess x y)) ∧ Below w.heap.size w w' := by
  unfold maxLen at hx hy
  obtain ⟨X, hX⟩ : ∃ X : ByteArray, X = ⟨x.toArray⟩ := ⟨_, rfl⟩
  obtain ⟨Y, hY⟩ : ∃ Y : ByteArray, Y = ⟨y.toArray⟩ := ⟨_, rfl⟩
  have hXs : X.size = x.length := by rw [hX]; rfl
  have hYs : Y.size = y.length := by rw [hY]; rfl
  rw [← hX, ← hY]
  have HXX := Lib.hid hX
  have HYY := Lib.hid hY
  clear hX hY
  go_enter Tryz.func41, Tryz.ntmps41
  go_wp2_with fail
  go_loopw [5] (fun v5 wr => ∃ (i : Nat), i ≤ x.length ∧ i ≤ y.length ∧ v5 = .int .i64 i ∧ Hid (Op.bytesLess (x.drop i) (y.drop i) = Op.bytesLess x y) ∧ Hid (Below w.heap.size w wr)) (fun v5 _ => x.length - (intOf v5).toNat)
  case atStart => exact ⟨0, by omega, by omega, rfl, rfl, (Below.refl _ _)⟩
  case round =>
    obtain ⟨i, hi, hj, rfl, HB, HW⟩ := hrel
    by_cases h1 : i < x.length
    · by_cases h2 : i < y.length
      · have hXi : ∀ (h : i < X.size), X[i] = x[i] := fun h => by
          have := HXX.out
          subst this
          rfl
        have hYi : ∀ (h : i < Y.size), Y[i] = y[i] := fun h => by
          have := HYY.out
          subst this
          rfl
        have HXI := Lib.hid hXi
        have HYI := Lib.hid hYi
        clear hXi hYi
        have HS := Lib.hid (less_step x y i h1 h2)
        go_wp2_with fail
        go_quiet (fail)
        go_wp2_with (go_quiet (fail))
        · rename_i _ hne
          go_ret
          refine ⟨rt1 (vbool ?_), below_drewN' (below_drewN' HW.out _) _⟩
          rw [← HB.out, HS.out]
          rw [HXI.out, HYI.out] at hne ⊢
          have : (x[i] == y[i]) = false := by
            rw [beq_eq_false_iff_ne]
            intro h
            rw [h] at hne
            simp at hne
          rw [this]
          simp
        · rename_i hne
          rw [HXI.out, HYI.out] at hne
          have he : x[i] = y[i] := UInt8.toNat_inj.1 (Int.ofNat_inj.1 (bne_eq_false_iff_eq.1 hne))
          refine ⟨⟨i + 1, by omega, by omega, by simp, ?_, below_drewN' HW.out _⟩, ?_⟩
          · show Op.bytesLess _ _ = _
            rw [← HB.out, HS.out, he]
            simp
          · simp [intOf]; omega
      · have HS := Lib.hid (show Op.bytesLess (x.drop i) (y.drop i) = decide (x.length < y.length) by
          have := HXX
          rw [List.drop_eq_nil_of_le (show y.length ≤ i by omega), List.drop_eq_getElem_cons h1]
          simp [Op.bytesLess]; omega)
        go_wp2_with fail
        go_ret
        exact ⟨rt1 (vbool (by rw [← HB.out, HS.out])), HW.out⟩
    · have HS := Lib.hid (show Op.bytesLess (x.drop i) (y.drop i) = decide (x.length < y.length) by
        rw [List.drop_eq_nil_of_le (show x.length ≤ i by omega)]
        by_cases h2 : i < y.length
        · rw [List.drop_eq_getElem_cons h2]
          simp [Op.bytesLess]; omega
        · rw [List.drop_eq_nil_of_le (show y.length ≤ i by omega)]
          simp [Op.bytesLess]; omega)
      go_wp2_with fail
      go_ret
      exact ⟨rt1 (vbool (by rw [← HB.out, HS.out])), HW.out⟩
theorem bytesLess_lt : ∀ a b : Wd, Op.bytesLess a b = true ↔ a < b
  | [], [] => by simp [Op.bytesLess]
  | [], b :: lb => by simp [Op.bytesLess]
  | a :: la, [] => by simp [Op.bytesLess]
  | a :: la, b :: lb => by
    rw [List.cons_lt_cons_iff, Op.bytesLess]
    simp only [Bool.or_eq_true, Bool.and_eq_true, decide_eq_true_eq, beq_iff_eq, bytesLess_lt la lb, UInt8.lt_iff_toNat_lt]
def ltB (x y : Row) : Bool := decide (x.1 < y.1) || (decide (x.1 = y.1) && Op.bytesLess x.2.1 y.2.1)
theorem ltB_iff (x y : Row) : ltB x y = true ↔ rowLt x y := by
  unfold ltB rowLt
  simp only [Bool.or_eq_true, Bool.and_eq_true, decide_eq_true_eq, bytesLess_lt]
set_option maxHeartbeats 1600000 in
theorem before_any (x y : Row) (w : World) (hx : x.2.1.length ≤ maxLen) (hy : y.2.1.length ≤ maxLen) : Calls Tryz.prog 19 #[rowv x, rowv y] w fun e w' => e = .returned (.bool (ltB x y)) ∧ Below w.heap.size w w' := by
  obtain ⟨a, s, i⟩ := x
  obtain ⟨b, t, j⟩ := y
  simp only at hx hy
  have hcc : a < b ∨ (b ≤ a ∧ a = b) ∨ (b ≤ a ∧ a ≠ b) := by omega
  rcases hcc with h | ⟨h, h'⟩ | ⟨h, h'⟩
  · have d1 : decide (a < b) = true := by simpa using h
    have HO := Lib.hid (show ltB (a, s, i) (b, t, j) = true by unfold ltB; simp [h])
    clear h
    go_enter Tryz.func19, Tryz.ntmps19
    go_wp2_with fail
    go_ret
    exact ⟨rt1 (vbool HO.out.symm), by go_grown⟩
  · have d1 : decide (a < b) = false := by simpa using h
    have d2 : (a == b) = true := by simp [h']
    have HO := Lib.hid (show ltB (a, s, i) (b, t, j) = Op.bytesLess s t by unfold ltB; simp [h'])
    have HL := Lib.hid (fun w => less09_any s t w hx hy)
    obtain ⟨bl, hbl⟩ : ∃ bl, bl = Op.bytesLess s t := ⟨_, rfl⟩
    rw [← hbl] at HO HL
    clear h h' hbl
    go_enter Tryz.func19, Tryz.ntmps19
    go_wp2_with fail
    refine (HL.out _).mono ?_
    rintro e w1 ⟨rfl, hb1⟩
    go_wp2_with fail
    go_ret
    refine ⟨rt1 (vbool HO.out.symm), Below.trans (by go_grown) (hb1.mono (by simp; omega))⟩
  · have d1 : decide (a < b) = false := by simpa using h
    have d2 : (a == b) = false := by simp [h']
    have HO := Lib.hid (show ltB (a, s, i) (b, t, j) = false by unfold ltB; simp [h']; omega)
    clear h h'
    go_enter Tryz.func19, Tryz.ntmps19
    go_wp2_with fail
    go_ret
    exact ⟨rt1 (vbool HO.out.symm), by go_grown⟩
set_option maxHeartbeats 1600000 in
theorem valid18_any (s : Wd) (n k : Int) (w : World) (hs : s.length ≤ maxLen) : Calls Tryz.prog 20 #[wv s, .int .i64 n, .int .i64 k] w fun e w' => e = .returned (.bool (wordOk n k s)) ∧ w = w' := by
  obtain ⟨S, hS⟩ : ∃ S : ByteArray, S = ⟨s.toArray⟩ := ⟨_, rfl⟩
  have hSs : S.size = s.length := by rw [hS]; rfl
  have hbt := bat_get S
  have HSL := Lib.hid (show S.data.toList = s by rw [hS])
  rw [show wv s = .string S by rw [hS]]
  clear hS
  obtain ⟨n0, hn0⟩ : ∃ n0, n0 = s.length := ⟨_, rfl⟩
  rw [← hn0] at hSs hs
  unfold maxLen at hs
  have HN := Lib.hid hn0
  have HLK := Lib.hid (show wordOk n k s = (overB n s && decide ((n0 : Int) ≤ k)) by unfold wordOk; rw [hn0])
  clear hn0
  by_cases hk : k < (n0 : Int)
  · have d1 : decide (k < (n0 : Int)) = true := by simpa using hk
    have HF := Lib.hid (show wordOk n k s = false by rw [HLK.out, decide_eq_false (by omega), Bool.and_false])
    go_enter Tryz.func20, Tryz.ntmps20
    go_wp2_with fail
    go_ret
    exact ⟨rt1 (vbool HF.out.symm), rfl⟩
  · have d1 : decide (k < (n0 : Int)) = false := by simpa using hk
    have HF := Lib.hid (show wordOk n k s = overB n s by rw [HLK.out, decide_eq_true (show (n0 : Int) ≤ k by omega), Bool.and_true])
    clear hk
    go_enter Tryz.func20, Tryz.ntmps20
    go_wp2_with fail
    go_loopg [7] n0 (fun left v7 wr => ∃ i : Nat, i ≤ n0 ∧ n0 - i ≤ left ∧ v7 = .int .i64 i ∧ wr = w ∧ Hid (overB n (s.take i) = true))
    case atStart => exact ⟨0, by omega, by omega, rfl, rfl, rfl⟩
    case round =>
      obtain ⟨i, hi, hleft, rfl, rfl, HO⟩ := hrel
      by_cases hib : i < n0
      · have hil : i < s.length := by rw [← HN.out]; exact hib
        have HT := Lib.hid (overB_take (n := n) hil)
        have HBAD := Lib.hid (overB_bad (n := n) hil)
        have HBL := Lib.hid (show bat S i = (s[i].toNat : Int) by
          have := bat_list S i (by rw [HSL.out]; exact hil)
          rw [this]
          simp only [HSL.out])
        obtain ⟨x, hx⟩ : ∃ x, x = bat S i := ⟨_, rfl⟩
        rw [← HBL.out, ← hx] at HT HBAD
        have hbx : bat S i = x := hx.symm
        obtain ⟨hx2, hx3⟩ := bat_bd S i
        rw [hbx] at hx2 hx3
        clear hx HBL hil
        by_cases hxn : x < n
        · have hd : decide (n ≤ x) = false := by simpa using hxn
          have HX := Lib.hid (show overB n (s.take (i + 1)) = true by rw [HT.out, HO.out]; simpa using hxn)
          clear hxn
          go_wp2_with fail
          go_roundg (gk - 1)
          case measure => omega
          case rel => exact ⟨i + 1, by omega, by omega, by go_num, rfl, HX.out⟩
        · have hd : decide (n ≤ x) = true := by simpa using hxn
          have HX := Lib.hid (HF.out.trans (HBAD.out hxn))
          clear hxn
          go_wp2_with fail
          go_ret
          exact ⟨rt1 (vbool HX.out.symm), rfl⟩
      · have HX := Lib.hid (show wordOk n k s = true by
          have := HO.out
          rw [List.take_of_length_le (by rw [← HN.out]; omega)] at this
          exact HF.out.trans this)
        go_wp2_with fail
        go_ret
        exact ⟨rt1 (vbool HX.out.symm), rfl⟩
end Go.Proofs.YtkedmiememnmjaaGreat
namespace Go.Proofs.YtkedmiememnmjaaGreat
open Go.RowKit

def Few14To (ns ts : List ByteArray) (rs : List (Int × List Int)) (w : World) (e : Ending) (w' : World) : Prop := ∃ z : Int, e = .returned (.int .i64 z) ∧ (z = 0 ∨ (z = 1 ∧ ns.length ≤ 12 ∧ ts.length ≤ 12 ∧ rs.length ≤ 40)) ∧ Below w.heap.size w w'
set_option maxHeartbeats 2000000 in
theorem few14_any (v1 v2 v3 : Value) (ns ts : List ByteArray) (rs : List (Int × List Int)) (w : World) (h1 : SlR eStr w w.heap.size v1 ns) (h2 : SlR eStr w w.heap.size v2 ts) (h3 : SlR eRule w w.heap.size v3 rs) :
    Calls Tryz.prog 6 #[.agg #[v1, v2, v3]] w (Few14To ns ts rs w) := by
  obtain ⟨A1, c1, rfl, hc1, hc1'⟩ := h1.form
  obtain ⟨A2, c2, rfl, hc2, hc2'⟩ := h2.form
  obtain ⟨A3, c3, rfl, hc3, hc3'⟩ := h3.form
  unfold maxLen at hc1' hc2' hc3'
  by_cases hgood : ns.length ≤ 12 ∧ ts.length ≤ 12 ∧ rs.length ≤ 40
  case neg =>
    have hcase : 12 < ns.length ∨ (ns.length ≤ 12 ∧ 12 < ts.length) ∨ (ns.length ≤ 12 ∧ ts.length ≤ 12 ∧ 40 < rs.length) := by omega
    rcases hcase with h | ⟨h0, h⟩ | ⟨h0, h0', h⟩
    all_goals
      go_enter Tryz.func6, Tryz.ntmps6
      go_wp2_with fail
      all_goals first
        | (exfalso; omega)
        | (go_ret; exact ⟨0, rfl, .inl rfl, by go_grown⟩)
  obtain ⟨g1, g2, g3⟩ := hgood
  go_enter Tryz.func6, Tryz.ntmps6
  go_wp2_with fail
  all_goals first
    | (exfalso; omega)
    | skip
  have HW : Hid (Below w.heap.size w (w.alloc (Obj.cells #[Value.slice A1 ns.length c1, Value.slice A2 ts.length c2, Value.slice A3 rs.length c3] 25))) := (Below.refl _ _).alloc (Nat.le_refl _) _
  have HS : Hid ((w.alloc (Obj.cells #[Value.slice A1 ns.length c1, Value.slice A2 ts.length c2, Value.slice A3 rs.length c3] 25)).heap.size = w.heap.size + 1) := by show _ = _; simp
  have k0 : (w.alloc (Obj.cells #[Value.slice A1 ns.length c1, Value.slice A2 ts.length c2, Value.slice A3 rs.length c3] 25)).cell? ⟨w.heap.size, 0, none⟩ = some (Value.slice A1 ns.length c1) := by simp
  have k1 : (w.alloc (Obj.cells #[Value.slice A1 ns.length c1, Value.slice A2 ts.length c2, Value.slice A3 rs.length c3] 25)).cell? ⟨w.heap.size, 1, none⟩ = some (Value.slice A2 ts.length c2) := by simp
  have k2 : (w.alloc (Obj.cells #[Value.slice A1 ns.length c1, Value.slice A2 ts.length c2, Value.slice A3 rs.length c3] 25)).cell? ⟨w.heap.size, 2, none⟩ = some (Value.slice A3 rs.length c3) := by simp
  generalize w.alloc (Obj.cells #[Value.slice A1 ns.length c1, Value.slice A2 ts.length c2, Value.slice A3 rs.length c3] 25) = W at HW HS k0 k1 k2 ⊢
  have h1W := h1.below HW.out
  have h2W := h2.below HW.out
  have h3W := h3.below HW.out
  clear h1 h2 h3
  go_loop [3] (fun v => ∃ k : Nat, k ≤ rs.length ∧ v = .int .i64 k) (fun v => rs.length - (intOf v).toNat)
  case atStart => exact ⟨0, by omega, rfl⟩
  case round =>
    obtain ⟨k, hk, rfl⟩ := hrel
    by_cases hlt : k < rs.length
    · obtain ⟨ab, ao, cs, rfl, _, hab, hrep, hcell⟩ := h3W.get hlt (by decide)
      obtain ⟨u, rfl, hu, hz1, hz2⟩ := eRule_open hrep
      obtain ⟨A4, e4, rfl, hq1, hq2⟩ := hu.form
      unfold maxLen at hq2
      have hc1' := hcell 1 _ rfl
      clear hcell
      simp only [show eRule.size = 2 from rfl, ← Nat.add_assoc] at hc1'
      go_wp2_with fail
      · go_ret
        exact ⟨0, rfl, .inl rfl, HW.out⟩
      · go_round
        case rel => exact ⟨k + 1, by omega, by go_num⟩
        case measure => simp [intOf]; omega
    go_wp2_with fail
    go_loop [4] (fun v => ∃ j : Nat, j ≤ ns.length ∧ v = .int .i64 j) (fun v => ns.length - (intOf v).toNat)
    case atStart => exact ⟨0, by omega, rfl⟩
    case round =>
      obtain ⟨j, hj, rfl⟩ := hrel
      by_cases hlj : j < ns.length
      · obtain ⟨ab, ao, cs, rfl, _, hab, hrep, hcell⟩ := h1W.get hlj (by decide)
        obtain ⟨rfl, hx1⟩ := hrep
        unfold maxLen at hx1
        have hc0 := hcell 0 _ rfl
        clear hcell
        simp only [show eStr.size = 1 from rfl, Nat.mul_one, Nat.add_zero] at hc0
        go_wp2_with fail
        · go_ret
          exact ⟨0, rfl, .inl rfl, HW.out⟩
        · go_round
          case rel => exact ⟨j + 1, by omega, by go_num⟩
          case measure => simp [intOf]; omega
      go_wp2_with fail
      go_loop [5] (fun v => ∃ i : Nat, i ≤ ts.length ∧ v = .int .i64 i) (fun v => ts.length - (intOf v).toNat)
      case atStart => exact ⟨0, by omega, rfl⟩
      case round =>
        obtain ⟨i, hi, rfl⟩ := hrel
        by_cases hli : i < ts.length
        · obtain ⟨ab, ao, cs, rfl, _, hab, hrep, hcell⟩ := h2W.get hli (by decide)
          obtain ⟨rfl, hx1⟩ := hrep
          unfold maxLen at hx1
          have hc0 := hcell 0 _ rfl
          clear hcell
          simp only [show eStr.size = 1 from rfl, Nat.mul_one, Nat.add_zero] at hc0
          go_wp2_with fail
          · go_ret
            exact ⟨0, rfl, .inl rfl, HW.out⟩
          · go_round
            case rel => exact ⟨i + 1, by omega, by go_num⟩
            case measure => simp [intOf]; omega
        go_wp2_with fail
        go_ret
        exact ⟨1, rfl, .inr ⟨rfl, g1, g2, g3⟩, HW.out⟩
end Go.Proofs.YtkedmiememnmjaaGreat
namespace Go.Proofs.YtkedmiememnmjaaGreat
open Go.RowKit

theorem size_many : ∀ (l : List Obj) (w : World), (l.foldl World.alloc w).heap.size = w.heap.size + l.length
  | [], w => rfl
  | o :: l, w => by rw [List.foldl_cons, size_many l, World.size_alloc, List.length_cons]; omega
theorem old_many : ∀ (l : List Obj) (w : World) (k : Nat), k < w.heap.size → (l.foldl World.alloc w).heap[k]? = w.heap[k]?
  | [], w, k, _ => rfl
  | o :: l, w, k, h => by rw [List.foldl_cons, old_many l _ k (by simp; omega), Below.heap_alloc _ _ _ h]
theorem heap_many : ∀ (l : List Obj) (w : World) (j : Nat) (o : Obj), l[j]? = some o → (l.foldl World.alloc w).heap[w.heap.size + j]? = some o
  | [], w, j, o, h => by simp at h
  | p :: l, w, 0, o, h => by
    rw [List.foldl_cons, old_many l _ _ (by simp)]
    cases h
    exact heap_alloc_new w p
  | p :: l, w, j + 1, o, h => by
    rw [List.foldl_cons]
    have := heap_many l (w.alloc p) j o h
    rwa [World.size_alloc, show w.heap.size + 1 + j = w.heap.size + (j + 1) by omega] at this
theorem below_many {B : Nat} {w : World} : ∀ (l : List Obj) (w' : World), Below B w w' → B ≤ w'.heap.size → Below B w (l.foldl World.alloc w')
  | [], w', h, _ => h
  | o :: l, w', h, hB => below_many l _ (h.alloc hB o) (by simp; omega)
def All2 {α : Type} (E : Elt α) (w : World) (B : Nat) : List (List Value) → List α → Prop
  | [], [] => True
  | c :: cs, x :: xs => E.rep w B c x ∧ All2 E w B cs xs
  | _, _ => False
theorem All2.at_ {α : Type} {E : Elt α} {w : World} {B : Nat} : ∀ {css : List (List Value)} {xs : List α}, All2 E w B css xs → css.length = xs.length ∧ ∀ (i : Nat) (cs : List Value) (x : α), css[i]? = some cs → xs[i]? = some x → E.rep w B cs x
  | [], [], _ => ⟨rfl, fun i cs x h => by simp at h⟩
  | c :: cs, x :: xs, h => by
    obtain ⟨h1, h2⟩ := All2.at_ h.2
    refine ⟨by simp [h1], fun i => ?_⟩
    match i with
    | 0 => intro a b e1 e2; cases e1; cases e2; exact h.1
    | i + 1 => intro a b e1 e2; exact h2 i a b (by simpa using e1) (by simpa using e2)
  | [], _ :: _, h => h.elim
  | _ :: _, [], h => h.elim
theorem SlR.row {α : Type} {E : Elt α} {w : World} {B g c : Nat} {e : TypeId} {fr : Nat × Nat} {cs : Array Value} (css : List (List Value)) {xs : List α} (h : w.heap[g]? = some (.cells cs e fr)) (hg : g < B) (hcs : cs.toList = css.flatten) (hr : All2 E w B css xs) (h1 : xs.length ≤ c) (h2 : c ≤ maxLen) {n : Nat} (hn : n = xs.length) :
    SlR E w B (.slice (some ⟨g, 0, none⟩) n c) xs := by
  subst hn
  obtain ⟨a1, a2⟩ := hr.at_
  exact ⟨some ⟨g, 0, none⟩, c, css, rfl, h1, h2, a1, hcs ▸ Rd.row h hg, a2⟩
def gA : Gram := ([⟨#[83]⟩], [⟨#[97]⟩], [(0, []), (0, [-1, 0])])
def awObjs (n : Nat) : List Obj := [.cells #[.string ⟨#[83]⟩] 9, .cells #[.string ⟨#[97]⟩] 9, .cells #[.int .i64 (-1), .int .i64 0] 3,
  .cells #[.int .i64 0, .slice none 0 0, .int .i64 0, .slice (some ⟨n + 2, 0, none⟩) 2 2] 48,
  .cells #[.slice (some ⟨n, 0, none⟩) 1 1, .slice (some ⟨n + 1, 0, none⟩) 1 1, .slice (some ⟨n + 3, 0, none⟩) 2 2] 25]
theorem aw_data (w W : World) (hW : W = (awObjs w.heap.size).foldl World.alloc w) : W.heap.size = w.heap.size + 5 ∧ Below w.heap.size w W ∧
    GramR W W.heap.size (some ⟨w.heap.size, 0, none⟩) (some ⟨w.heap.size + 1, 0, none⟩) (some ⟨w.heap.size + 3, 0, none⟩) 1 1 2 1 1 2 gA := by
  have hs : W.heap.size = w.heap.size + 5 := by rw [hW, size_many]; rfl
  have hq : ∀ j o, (awObjs w.heap.size)[j]? = some o → W.heap[w.heap.size + j]? = some o := fun j o h => by rw [hW]; exact heap_many _ w j o h
  have q0 := hq 0 _ rfl
  have q1 := hq 1 _ rfl
  have q2 := hq 2 _ rfl
  have q3 := hq 3 _ rfl
  refine ⟨hs, hW ▸ below_many _ w (Below.refl _ _) (Nat.le_refl _), ?_, ?_, ?_, by decide⟩
  · exact SlR.row (E := eStr) (B := W.heap.size) (xs := [⟨#[83]⟩]) [[.string ⟨#[83]⟩]] q0 (by omega) rfl ⟨⟨rfl, by decide⟩, trivial⟩ (Nat.le_refl _) (by decide) rfl
  · exact SlR.row (E := eStr) (B := W.heap.size) (xs := [⟨#[97]⟩]) [[.string ⟨#[97]⟩]] q1 (by omega) rfl ⟨⟨rfl, by decide⟩, trivial⟩ (Nat.le_refl _) (by decide) rfl
  · refine SlR.row (E := eRule) (B := W.heap.size) (xs := [(0, []), (0, [-1, 0])]) [[.int .i64 0, .slice none 0 0], [.int .i64 0, .slice (some ⟨w.heap.size + 2, 0, none⟩) 2 2]] q3 (by omega) rfl ⟨eRule_mk (r := (0, [])) SlR.nil_ (by decide) (by decide), eRule_mk (r := (0, [-1, 0])) ?_ (by decide) (by decide), trivial⟩ (Nat.le_refl _) (by decide) rfl
    exact SlR.row (E := eInt) (B := W.heap.size) (xs := [-1, 0]) [[.int .i64 (-1)], [.int .i64 0]] q2 (by omega) rfl ⟨⟨rfl, by decide, by decide⟩, ⟨rfl, by decide, by decide⟩, trivial⟩ (Nat.le_refl _) (by decide) rfl
end Go.Proofs.YtkedmiememnmjaaGreat
namespace Go.Proofs.YtkedmiememnmjaaGreat

def gAr : RuleL := [(0, []), (0, [-1, 0])]
theorem s1 : setOf [([] : Wd)] = [[]] := setOf_eq (by simp [Asc]) (by simp)
theorem s2 : setOf [([0] : Wd)] = [[0]] := setOf_eq (by simp [Asc]) (by simp)
theorem s3 : setOf [([] : Wd), [0]] = [[], [0]] := setOf_eq (by simp [Asc]) (by simp)
theorem s4 : setOf [([] : Wd), [0], []] = [[], [0]] := setOf_eq (by simp [Asc]) (by
  intro x
  simp only [List.mem_cons, List.not_mem_nil, or_false]
  constructor
  · rintro (h | h | h) <;> simp [h]
  · rintro (h | h) <;> simp [h])
theorem s5 : setOf [([] : Wd), [0], [0]] = [[], [0]] := setOf_eq (by simp [Asc]) (by simp)
theorem s6 : setOf [([0] : Wd), [0]] = [[0]] := setOf_eq (by simp [Asc]) (by simp)
theorem s7 : setOf [([] : Wd), []] = [[]] := setOf_eq (by simp [Asc]) (by simp)
theorem gA_first1 : firstRound 1 gAr [[]] = some ([[[], [0]]], true) := by
  simp [firstRound, roundW, growW, ofW, ofFrom, oneW, catW, prodW, unionW, tb, gAr, s1, s2, s3]
theorem gA_first2 : firstRound 1 gAr [[[], [0]]] = some ([[[], [0]]], false) := by
  simp [firstRound, roundW, growW, ofW, ofFrom, oneW, catW, prodW, unionW, tb, gAr, s2, s4, s5, s6]
theorem gA_first : FirstTo 1 gAr 1 (some [[[], [0]]]) := .more gA_first1 (.done gA_first2)
theorem gA_fol1 : folRound [[[], [0]]] 1 gAr [[[]]] = some ([[[]]], false) := by
  simp [folRound, spreadAll, spreadsW, spreadW, behindW, ofW, ofFrom, oneW, catW, prodW, unionW, gAr, s1, s3, s7]
theorem gA_fol : FollowTo [[[], [0]]] 1 gAr 1 (some [[[]]]) := .done gA_fol1
theorem gA_ahead : aheadW [[[], [0]]] [[[]]] 1 gAr = some [[[]], [[0]]] := by
  simp [aheadW, behindW, ofW, ofFrom, oneW, catW, prodW, tb, gAr, s1, s2, s6]
theorem gA_clash : clashW gAr 1 [[[]], [[0]]] = [] := by kernel_rfl
theorem gA_rows : rowsFrom 0 gAr [[[]], [[0]]] = [(0, [], 0), (0, [0], 1)] := by kernel_rfl
end Go.Proofs.YtkedmiememnmjaaGreat
namespace Go.Proofs.YtkedmiememnmjaaGreat
open Go.RowKit

theorem row_app : AppTy Tryz.prog 28 54 3 32 (.agg #[.int .i64 0, .string ⟨#[]⟩, .int .i64 0]) := appTy (by kernel_rfl) (by kernel_rfl) rfl (by omega)
def rcells (xs : List Row) : List Value := (xs.map rowc).flatten
theorem rcells_snoc (xs : List Row) (x : Row) : rcells (xs ++ [x]) = rcells xs ++ rowc x := by simp [rcells]
theorem rcells_len (xs : List Row) : (rcells xs).length = xs.length * 3 := by
  induction xs with
  | nil => rfl
  | cons x l ih => unfold rcells at *; rw [List.map_cons, List.flatten_cons, List.length_append, ih, List.length_cons]; simp; omega
def FitR (xs : List Row) : Prop := ∀ x ∈ xs, (-9223372036854775808 ≤ x.1 ∧ x.1 ≤ 9223372036854775807) ∧ x.2.1.length ≤ maxLen ∧ (-9223372036854775808 ≤ x.2.2 ∧ x.2.2 ≤ 9223372036854775807)
theorem slR_own {w : World} {base : Nat} {t : TypeId} {v : Value} {xs : List Row} (hf : FitR xs) (h : w.ownsRow base t 3 v xs.length (rcells xs)) : SlR eRow w w.heap.size v xs := by
  obtain ⟨A, c, rfl, h1, h2⟩ := own_form h
  refine ⟨A, c, xs.map rowc, rfl, h1, h2, by simp, Rd.of_own h, fun i cs x hc hx => ?_⟩
  rw [List.getElem?_map, hx] at hc
  injection hc with hc
  subst hc
  obtain ⟨⟨a1, a2⟩, a3, a4, a5⟩ := hf x (List.mem_of_getElem? hx)
  exact eRow_mk a1 a2 a3 a4 a5
theorem SlR.fitR {w : World} {B : Nat} {v : Value} {xs : List Row} (h : SlR eRow w B v xs) : FitR xs := by
  obtain ⟨A, c, css, e, h1, h2, h3, h4, h5⟩ := h
  intro x hx
  obtain ⟨i, hi, rfl⟩ := List.getElem_of_mem hx
  exact (eRow_open (h5 i _ _ (List.getElem?_eq_getElem (by omega)) (List.getElem?_eq_getElem hi))).2
def ofRows (left : Int) (xs : List Row) : List Row := xs.filter fun x => decide (x.1 = left)
theorem ofRows_succ (left : Int) (xs : List Row) (k : Nat) (h : k < xs.length) : ofRows left (xs.take (k + 1)) = ofRows left (xs.take k) ++ if xs[k].1 = left then [xs[k]] else [] := by
  unfold ofRows
  rw [List.take_succ_eq_append_getElem h, List.filter_append]
  congr 1
  by_cases hb : xs[k].1 = left <;> simp [hb]
theorem ofRows_le (left : Int) (xs : List Row) (k : Nat) : (ofRows left (xs.take k)).length ≤ k := by
  unfold ofRows
  refine Nat.le_trans (List.length_filter_le _ _) ?_
  rw [List.length_take]
  omega
def OwnRows (w : World) (l : List Row) (e : Ending) (w' : World) : Prop := ∃ v, e = .returned v ∧ w'.ownsRow w.heap.size 54 3 v l.length (rcells l) ∧ Below w.heap.size w w'
set_option maxHeartbeats 1600000 in
theorem of_rows (v : Value) (left : Int) (xs : List Row) (w : World) (hv : SlR eRow w w.heap.size v xs) (hr : xs.length ≤ 1048576) :
    Calls Tryz.prog 18 #[v, .int .i64 left] w (OwnRows w (ofRows left xs)) := by
  obtain ⟨A, c, rfl, he1, he2⟩ := hv.form
  unfold maxLen at he2
  go_enter Tryz.func18, Tryz.ntmps18
  go_wp2_with fail
  go_loopw [5, 10] (fun v5 v10 wr => ∃ k : Nat, k ≤ xs.length ∧ v10 = .int .i64 k ∧ wr.ownsRow w.heap.size 54 3 v5 (ofRows left (xs.take k)).length (rcells (ofRows left (xs.take k))) ∧ Below w.heap.size w wr) (fun _ v10 _ => xs.length - (intOf v10).toNat)
  case atStart => exact ⟨0, by omega, rfl, by simpa [ofRows, rcells] using World.ownsRow_nil _ _ _ _, by go_grown⟩
  case round =>
    obtain ⟨k, hk, rfl, hown, hbr⟩ := hrel
    by_cases hlt : k < xs.length
    · obtain ⟨b1, o1, rfl, -, hb1, a0, a1, a2, -⟩ := (hv.below hbr).rowAt hlt
      have hsn := Lib.hid (ofRows_succ left xs k hlt)
      have hle := ofRows_le left xs k
      have hbs := hbr.size
      obtain ⟨x, hx⟩ : ∃ x, x = xs[k] := ⟨_, rfl⟩
      rw [← hx] at a0 a1 a2 hsn
      clear hx
      obtain ⟨xa, xs1, xi⟩ := x
      simp only at a0 a1 a2
      by_cases hq : xa = left
      · have hqb : (xa == left) = true := by simp [hq]
        have HQ := Lib.hid hq
        clear hq
        go_wp2_with (at_builtin; refine wpList_app (m := 1) row_app rfl rfl rfl rfl ((hown.alloc _).alloc _) (Rd.row (B := wr.heap.size + 2) (heap_two wr _ _) (by omega)) rfl (by simp [Value.oneCell']) ?h63 ?hby ?hbase ?_)
        case h63 => simp only [maxLen]; omega
        case hby => omega
        case hbase => omega
        intro v1 w3 hown3 hg3 _ _
        go_wp2
        go_roundw
        case rel =>
          refine ⟨k + 1, by omega, by go_num, ?_, ?_⟩
          · rw [hsn.out, if_pos HQ.out]
            rw [rcells_snoc, List.length_append]
            exact hown3
          · exact grown_below ((hbr.alloc hbs _).alloc (by simp; omega) _) hg3 ((hown.alloc _).alloc _) (Nat.le_refl _) (by simp; omega)
        case measure => simp [intOf]; omega
      · have hqb : (xa == left) = false := by simp [hq]
        have HQ := Lib.hid hq
        clear hq
        go_wp2_with fail
        go_roundw
        case rel => exact ⟨k + 1, by omega, by go_num, by rw [hsn.out, if_neg HQ.out, List.append_nil]; exact hown.alloc _, hbr.alloc hbs _⟩
        case measure => simp [intOf]; omega
    · have hkl : k = xs.length := by omega
      subst hkl
      rw [List.take_length] at hown
      go_wp2_with fail
      go_ret
      exact ⟨_, rfl, hown, hbr⟩
end Go.Proofs.YtkedmiememnmjaaGreat
namespace Go.Proofs.YtkedmiememnmjaaGreat

section
variable {rs : RuleL} {n m k : Nat} {sets : Sets} {ah : Wd → Nat → Bool}
end
end Go.Proofs.YtkedmiememnmjaaGreat
namespace Go.Proofs.YtkedmiememnmjaaGreat

def keyOfRow (x : Row) : Int × Wd := (x.1, x.2.1)
theorem wd_tri (a b : Wd) : a < b ∨ a = b ∨ b < a := by
  rcases List.le_total a b with h | h
  · rcases List.le_iff_lt_or_eq.1 h with h | h
    · exact .inl h
    · exact .inr (.inl h)
  · rcases List.le_iff_lt_or_eq.1 h with h | h
    · exact .inr (.inr h)
    · exact .inr (.inl h.symm)
theorem rowLt_tri (a b : Row) : rowLt a b ∨ keyOfRow a = keyOfRow b ∨ rowLt b a := by
  unfold rowLt keyOfRow
  rcases Int.lt_trichotomy a.1 b.1 with h | h | h
  · exact .inl (.inl h)
  · rcases wd_tri a.2.1 b.2.1 with h2 | h2 | h2
    · exact .inl (.inr ⟨h, h2⟩)
    · exact .inr (.inl (by rw [h, h2]))
    · exact .inr (.inr (.inr ⟨h.symm, h2⟩))
  · exact .inr (.inr (.inl h))
theorem rowLt_irrefl {a b : Row} (h : rowLt a b) : keyOfRow a ≠ keyOfRow b := by
  intro e
  unfold keyOfRow at e
  injection e with e1 e2
  rcases h with h | ⟨_, h⟩
  · omega
  · rw [e2] at h; exact List.lt_irrefl _ h
theorem rowLt_trans {a b c : Row} (h1 : rowLt a b) (h2 : rowLt b c) : rowLt a c := by
  rcases h1 with h1 | ⟨e1, h1⟩
  · rcases h2 with h2 | ⟨e2, _⟩
    · exact .inl (by omega)
    · exact .inl (by omega)
  · rcases h2 with h2 | ⟨e2, h2⟩
    · exact .inl (by omega)
    · exact .inr ⟨by omega, List.lt_trans h1 h2⟩
section
variable {rs : RuleL} {n m k : Nat} {sets : Sets} {ah : Wd → Nat → Bool} {rows : List Row}
def LookTo (rows : List Row) (a : Int) (w : Wd) (r : Int) (ok : Bool) : Prop := (ok = true → (a, w, r) ∈ rows) ∧ (ok = false → r = 0 ∧ ∀ r', (a, w, r') ∉ rows)
end
end Go.Proofs.YtkedmiememnmjaaGreat
namespace Go.Proofs.YtkedmiememnmjaaGreat
open Go.RowKit Go.Sort

theorem rcells_get : ∀ (ks : List Row) (t : Nat), t < ks.length * 3 → (rcells ks)[t]? = some ((rowc (ks.toArray[t / 3]!))[t % 3]!)
  | [], t, h => by simp at h
  | k :: r, t, h => by
    unfold rcells
    rw [List.map_cons, List.flatten_cons]
    by_cases ht : t < 3
    · rw [List.getElem?_append_left (by exact ht), Nat.div_eq_of_lt ht, Nat.mod_eq_of_lt ht]
      have hl : t < (rowc k).length := ht
      rw [List.getElem?_eq_getElem hl]
      simp only [List.getElem!_toArray, List.getElem!_cons_zero]
      rw [getElem!_pos (rowc k) t hl]
    · rw [List.getElem?_append_right (by simp only [rowc, List.length_cons, List.length_nil]; omega)]
      have ih := rcells_get r (t - 3) (by rw [List.length_cons, Nat.add_mul] at h; omega)
      unfold rcells at ih
      rw [show t - (rowc k).length = t - 3 from rfl, ih]
      have e1 : t / 3 = (t - 3) / 3 + 1 := by omega
      have e2 : t % 3 = (t - 3) % 3 := by omega
      rw [e1, e2]
      have hlt : (t - 3) / 3 < r.length := by rw [List.length_cons, Nat.add_mul] at h; omega
      simp [hlt]
theorem flatR_list (ks : List Row) : (flatK rowc 3 ks.toArray).toList = rcells ks := by
  apply List.ext_getElem?
  intro t
  by_cases h : t < ks.length * 3
  · rw [rcells_get ks t h, Array.getElem?_toList]
    have h' : t < ks.toArray.size * 3 := by simpa using h
    have hs : t < (flatK rowc 3 ks.toArray).size := by rw [size_flatK]; exact h'
    have := get_flatK rowc 3 ks.toArray t h'
    rw [getElem!_pos _ t hs] at this
    rw [Array.getElem?_eq_getElem hs, this]
  · rw [List.getElem?_eq_none (by rw [Array.length_toList, size_flatK]; simpa using h), List.getElem?_eq_none (by rw [rcells_len]; omega)]
theorem ltOf_ord (x y : Row) : ltOf ordR x y = true ↔ rowLt x y := by
  unfold ltOf
  rw [decide_eq_true_eq]
  exact ordR_lt x y
theorem ltOf_ordF (x y : Row) : ltOf ordR x y = false ↔ ¬ rowLt x y := by
  rw [← ltOf_ord, Bool.not_eq_true]
theorem rowLt_key {a a' b : Row} (h : keyOfRow a = keyOfRow a') (hl : rowLt a b) : rowLt a' b := by
  unfold keyOfRow at h
  injection h with h1 h2
  unfold rowLt at *
  rw [← h1, ← h2]
  exact hl
theorem swoR : SWO (ltOf ordR) where
  irrefl := fun x => by rw [ltOf_ordF]; exact fun h => rowLt_irrefl h rfl
  trans := fun x y z h1 h2 => by rw [ltOf_ord] at *; exact rowLt_trans h1 h2
  ntrans := fun x y z h1 h2 => by
    rw [ltOf_ordF] at *
    intro h
    rcases rowLt_tri x y with h3 | h3 | h3
    · exact h1 h3
    · exact h2 (rowLt_key h3 h)
    · exact h2 (rowLt_trans h3 h)
theorem holds_rows {w : World} {g : Nat} {cur : Array Value} {e : TypeId} {ks : List Row} (hb : w.heap[g]? = some (.cells cur e (0, 0))) (ht : cur.toList.take (ks.length * 3) = rcells ks) : HoldsK rowc 3 w g 0 ks.toArray := by
  intro j hj
  have hj' : j < ks.length * 3 := by simpa using hj
  refine ⟨?_, by simp [World.frozen?, hb]⟩
  have h1 : (cur.toList.take (ks.length * 3))[j]? = (flatK rowc 3 ks.toArray).toList[j]? := by rw [ht, flatR_list]
  rw [List.getElem?_take_of_lt hj', Array.getElem?_toList, Array.getElem?_toList, Array.getElem?_eq_getElem hj] at h1
  rw [getElem!_pos _ j hj]
  simp only [World.cell?, hb, Nat.zero_add]
  simp only [Option.isSome_none, Bool.false_eq_true, if_false]
  rw [h1]
  rfl
theorem heap_sortedR {w : World} {g n : Nat} {os : Array Obj} {cur : Array Value} {e : TypeId} {fr : Nat × Nat} (F : Array Value) (hb : w.heap[g]? = some (.cells cur e fr)) :
    (Go.Sort.grow (putRow id (Sort.ahead w n) g 0 F) os).heap[g]? = some (.cells (putCells id 0 F cur) e fr) := by
  have hg : g < w.heap.size := (Array.getElem?_eq_some_iff.1 hb).1
  rw [heap_grow_old _ _ (by simpa using hg)]
  simp [putRow, mapBlock, Sort.ahead, Array.getElem?_modify, hb, onCells]
theorem grownBy_sortedR {w : World} {g n : Nat} {os : Array Obj} (F : Array Value) : w.grownBy (Go.Sort.grow (putRow id (Sort.ahead w n) g 0 F) os) (some g) := by
  refine ⟨rfl, rfl, rfl, by simp, fun k hk hne => ?_⟩
  rw [heap_grow_old _ _ (by simpa using hk)]
  have : g ≠ k := fun e => hne (by rw [e])
  simp [putRow, mapBlock, Sort.ahead, Array.getElem?_modify, this]
theorem take_putCellsR (cur F : Array Value) (h : F.size ≤ cur.size) : (putCells id 0 F cur).toList.take F.size = F.toList := by
  apply List.ext_getElem?
  intro j
  by_cases hj : j < F.size
  · rw [List.getElem?_take_of_lt hj, Array.getElem?_toList]
    simp [putCells, hj, show j < cur.size by omega]
  · rw [List.getElem?_take_eq_none (by omega), List.getElem?_eq_none (by simp; omega)]
theorem isAgg_row (w : World) : (isAgg 54).run Tryz.prog w = .ok true w := by kernel_rfl
theorem sizeOf_row (w : World) : (Go.sizeOf 54).run Tryz.prog w = .ok 3 w := by kernel_rfl
def SortedRows (base : Nat) (v : Value) (ks : List Row) (w : World) (w' : World) : Prop :=
  ∃ ks' : List Row, ks'.Perm ks ∧ ks'.Pairwise (fun a b => ¬ rowLt b a) ∧ w'.ownsRow base 54 3 v ks'.length (rcells ks') ∧ w.grownBy w' v.ownBlock
set_option maxRecDepth 100000 in
set_option maxHeartbeats 1000000 in
theorem sortRows_any (base : Nat) (A : Option Addr) (c : Nat) (ks : List Row) (w : World) (h : w.ownsRow base 54 3 (.slice A ks.length c) ks.length (rcells ks)) (hn : ks.length < 4611686018427387904) :
    Calls Tryz.prog 23 #[.slice A ks.length c, .func (.func 24) #[] #[]] w fun e w' => e = .returned (.tuple #[]) ∧ SortedRows base (.slice A ks.length c) ks w w' := by
  have eg : ∀ args w, (callFunc 24 args).run Tryz.prog w = .ok (.enter 24 args) w := enters_of Tryz.func24 (by kernel_rfl) rfl
  have HH := Lib.hid h
  rcases HH.out.2 with ⟨hnil, h0⟩ | ⟨g, cap, cur, hv, hbase, hb, h1, h2, h3, h4⟩
  · injection hnil with e1 e2 e3
    subst e1
    rw [h0]
    refine (AnyF.slices_SortFunc_none { Tryz.sortLay with } none c _ w).mono fun e w' ⟨he, hw⟩ => ⟨he, ks, List.Perm.refl _, ?_, ?_, ?_⟩
    · rw [List.eq_nil_of_length_eq_zero h0]; exact List.Pairwise.nil
    · subst hw; have := HH.out; rw [h0] at this; rw [h0]; exact this
    · subst hw; exact ⟨rfl, rfl, rfl, Nat.le_refl _, fun _ _ _ => rfl⟩
  · injection hv with e1 e2 e3
    subst e1 e3
    have hH := holds_rows hb h4
    have hgl : g < w.heap.size := (Array.getElem?_eq_some_iff.1 hb).1
    have := AnyQ.slices_SortFunc Tryz.sortLay 3 isAgg_row sizeOf_row rowc (fun _ => rfl) (fun k u hu => by simp only [rowc, List.mem_cons, List.not_mem_nil, or_false] at hu; rcases hu with rfl | rfl | rfl <;> rfl) ordR swoR 24 #[] g 0 c ks.toArray w eg (fun m os dk hdk x y => (order_any x y _).mono fun e w' ⟨he, hb, hd⟩ => ⟨he, grown_of hb hd⟩) hH hgl (by simpa using hn)
    simp only [List.size_toArray] at this
    refine Calls.mono this fun e w' ⟨he, d', n, os, hp, hs, hw⟩ => ⟨he, d'.toList, ?_, ?_, ?_, ?_⟩
    · obtain ⟨p1, _, p3⟩ := hp
      have e1 : d'.extract 0 ks.length = d' := by
        apply Array.extract_eq_self_of_le; rw [p1]; simp
      have e2 : ks.toArray.extract 0 ks.length = ks.toArray := by
        apply Array.extract_eq_self_of_le; simp
      rw [e1, e2] at p3
      simpa using p3
    · rw [List.pairwise_iff_getElem]
      intro i j hi hj hij
      have hsz : d'.size = ks.length := by rw [hp.1]; simp
      have := hs i j (Nat.zero_le _) hij (by rw [← hsz]; simpa using hj)
      rw [ltOf_ordF] at this
      have hj' : j < d'.size := by simpa using hj
      have hi' : i < d'.size := by simpa using hi
      rw [getElem!_pos d' j hj', getElem!_pos d' i hi'] at this
      simpa using this
    · have hsz : d'.toList.length = ks.length := by rw [Array.length_toList, hp.1]; simp
      subst hw
      have hF : (flatK rowc 3 d') = (flatK rowc 3 d'.toList.toArray) := by simp
      rw [hsz]
      refine ⟨by rw [rcells_len, hsz], .inr ⟨g, c, _, rfl, hbase, heap_sortedR _ hb, h1, h2, by simp [putCells, h3], ?_⟩⟩
      have hfs : (flatK rowc 3 d').size = ks.length * 3 := by rw [size_flatK, hp.1]; simp
      have := take_putCellsR cur (flatK rowc 3 d') (by rw [hfs, h3]; exact Nat.mul_le_mul_right 3 h1)
      rw [hfs] at this
      rw [this, hF, flatR_list]
    · subst hw
      exact grownBy_sortedR _
end Go.Proofs.YtkedmiememnmjaaGreat
