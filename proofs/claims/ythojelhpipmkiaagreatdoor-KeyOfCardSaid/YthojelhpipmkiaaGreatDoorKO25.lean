/- Texts of this proof joined: KeyG2, FewF, KeyLaw, HexPure, AtoiDec, Names, Tabs. -/
import Derived.Test.YthojelhpipmkiaaGreatDoorKO20
import Derived.Test.YthojelhpipmkiaaGreatDoorKO22
import Derived.Test.YthojelhpipmkiaaGreatDoorKO24
import Derived.Test.YthojelhpipmkiaaGreatDoorKO06
import Derived.Test.YthojelhpipmkiaaGreatDoorKO14
import Derived.Lib.AtoiTie
import Derived.Lib.ItoaNum
import Derived.Lib.ItoaMem
import Derived.Lib.ItoaLen
import Derived.Lib.Strings
import Derived.Test.YthojelhpipmkiaaGreatDoorShelf
import Derived.Shelf.Strconv.ErrVarAll
import Derived.Test.YthojelhpipmkiaaGreatDoorKO01
namespace Go.Proofs.YthojelhpipmkiaaGreatDoor
open Go.RowKit

set_option maxRecDepth 100000 in
set_option maxHeartbeats 8000000 in
theorem key17_any (v1 v2 v3 : Value) (g : Gram) (k : Int) (w : World) (hsz : g.1.length ≤ 1048576 ∧ g.2.1.length ≤ 1048576 ∧ g.2.2.length ≤ 1048576) (h1 : SlR eStr w w.heap.size v1 g.1) (h2 : SlR eStr w w.heap.size v2 g.2.1) (h3 : SlR eRule w w.heap.size v3 g.2.2) :
  Calls Tryz.prog 7 #[.agg #[v1, v2, v3], .int .i64 k] w (KeyTo w (keyG g k)) := by
 obtain ⟨A1, c1, rfl, _, _⟩ := h1.form
 obtain ⟨A2, c2, rfl, _, _⟩ := h2.form
 obtain ⟨A3, c3, rfl, _, _⟩ := h3.form
 obtain ⟨S, hS⟩ : ∃ S, S = w.heap.size := ⟨_, rfl⟩
 have H1 := Lib.hid h1
 have H2 := Lib.hid h2
 have H3 := Lib.hid h3
 have HSZ := Lib.hid hsz
 clear h1 h2 h3 hsz
 obtain ⟨n, hn⟩ : ∃ n, n = g.1.length := ⟨_, rfl⟩
 obtain ⟨m, hm⟩ : ∃ m, m = g.2.1.length := ⟨_, rfl⟩
 obtain ⟨q, hq⟩ : ∃ q, q = g.2.2.length := ⟨_, rfl⟩
 rw [← hn] at H1 ⊢
 rw [← hm] at H2 ⊢
 rw [← hq] at H3 ⊢
 have HN1 := Lib.hid hn
 have HM1 := Lib.hid hm
 have HQ1 := Lib.hid hq
 clear hn hm hq
 have HBL := Lib.hid (show Below w.heap.size w ((w.alloc (.cells #[.slice A1 n c1, .slice A2 m c2, .slice A3 q c3] 25)).alloc (.cells (hkCells z32 0).toArray 30)) from ((Below.refl _ _).alloc (Nat.le_refl _) _).alloc (by rw [World.size_alloc]; omega) _)
 have HG1 := Lib.hid (Go.heap_alloc2_old w (.cells #[.slice A1 n c1, .slice A2 m c2, .slice A3 q c3] 25) (.cells (hkCells z32 0).toArray 30))
 have HK1 := Lib.hid (Go.heap_alloc2_new w (.cells #[.slice A1 n c1, .slice A2 m c2, .slice A3 q c3] 25) (.cells (hkCells z32 0).toArray 30))
 go_enter Tryz.func7, Tryz.ntmps7
 go_wp2_with (refine stop_at (some 2) rfl ?_)
 refine Stop.go (wpList_box rfl _ rfl rfl (vs := [.slice A1 n c1, .slice A2 m c2, .slice A3 q c3]) rfl ?_)
 refine wpList_alloc rfl 30 rfl zero_key (vs := hkCells z32 0) rfl ?_
 rw [show (w.alloc (.cells [.slice A1 n c1, .slice A2 m c2, .slice A3 q c3].toArray 25)).heap.size = w.heap.size + 1 from World.size_alloc _ _]
 change wpList _ _ _ _ _ ((w.alloc (.cells #[.slice A1 n c1, .slice A2 m c2, .slice A3 q c3] 25)).alloc (.cells (hkCells z32 0).toArray 30))
 generalize (w.alloc (.cells #[.slice A1 n c1, .slice A2 m c2, .slice A3 q c3] 25)).alloc (.cells (hkCells z32 0).toArray 30) = w1 at *
 generalize hac : Act.put _ _ _ = a9
 simp [Act.put] at hac
 subst hac
 rw [← hS] at HBL HG1 HK1 H1 H2 H3 ⊢
 have HSE := Lib.hid hS
 clear hS
 have HZ1 := Lib.hid (show S + 1 < w1.heap.size from (Array.getElem?_eq_some_iff.1 HK1.out).1)
 have HVAL := Lib.hid (valid14_any (A1 := A1) (A2 := A2) (A3 := A3) (n := n) (m := m) (q := q) (c1 := c1) (c2 := c2) (c3 := c3) (g := g) w1 ⟨H1.out.fut HBL.out (Nat.le_refl _) (by have := HZ1.out; omega), H2.out.fut HBL.out (Nat.le_refl _) (by have := HZ1.out; omega), H3.out.fut HBL.out (Nat.le_refl _) (by have := HZ1.out; omega), by rw [HN1.out, HM1.out, HQ1.out]; exact HSZ.out⟩)
 obtain ⟨p0, p1, p2⟩ := rowC_cells HG1.out
 go_wp2_with fail
 refine HVAL.out.mono ?_
 rintro e w2 ⟨rfl, hb2⟩
 have HB2 := Lib.hid (HBL.out.trans (hb2.mono (by have := HZ1.out; omega)))
 have HG2 := Lib.hid ((hb2.block S (by have := HZ1.out; omega)).trans HG1.out)
 have HK2 := Lib.hid ((hb2.block (S + 1) HZ1.out).trans HK1.out)
 have HZ2 := Lib.hid (Nat.lt_of_lt_of_le HZ1.out hb2.size)
 clear hb2 HBL HG1 HK1 HVAL p0 p1 p2
 cases hgb : gramB g with
 |false =>
  have HN := Lib.hid (keyG_no (k := k) (.inl hgb))
  clear hgb
  go_wp2_with (refine stop_at (some 17) rfl ?_)
  refine Stop.go (wpList_build rfl 30 rfl (vs := #[]) (by rfl) (build_key0 _) ?_)
  refine wpList_store_agg rfl 30 rfl rfl rfl (store_row (hkv_cells _ _) (key_size _ _ z32_len) HK2.out (by simp [hkCells_length]) (hkCells_one _ _)) ?_
  go_wp2_with fail
  refine ret_key rfl z32_len rfl rfl rfl (setRow_heap _ _ _ _ _ _ HK2.out) ?_
  exact KeyTo.no HN.out (by rw [← HSE.out]; exact below_setRow HB2.out (Nat.le_succ _) _)
 |true =>
  have HGD := Lib.hid ((goodC_iff g).1 hgb)
  have HGB := Lib.hid hgb
  clear hgb
  by_cases hk1 : k < 1
  ·have d1 : decide (k < 1) = true := by simpa using hk1
   have HN := Lib.hid (keyG_no (g := g) (k := k) (.inr (by unfold kOk; simp; omega)))
   clear hk1
   go_wp2_with (refine stop_at (some 17) rfl ?_)
   refine Stop.go (wpList_build rfl 30 rfl (vs := #[]) (by rfl) (build_key0 _) ?_)
   refine wpList_store_agg rfl 30 rfl rfl rfl (store_row (hkv_cells _ _) (key_size _ _ z32_len) HK2.out (by simp [hkCells_length]) (hkCells_one _ _)) ?_
   go_wp2_with fail
   refine ret_key rfl z32_len rfl rfl rfl (setRow_heap _ _ _ _ _ _ HK2.out) ?_
   exact KeyTo.no HN.out (by rw [← HSE.out]; exact below_setRow HB2.out (Nat.le_succ _) _)
  by_cases hk4 : 4 < k
  ·have d1 : decide (k < 1) = false := by simpa using hk1
   have d2 : decide (4 < k) = true := by simpa using hk4
   have HN := Lib.hid (keyG_no (g := g) (k := k) (.inr (by unfold kOk; simp; omega)))
   clear hk1 hk4
   go_wp2_with (refine stop_at (some 17) rfl ?_)
   refine Stop.go (wpList_build rfl 30 rfl (vs := #[]) (by rfl) (build_key0 _) ?_)
   refine wpList_store_agg rfl 30 rfl rfl rfl (store_row (hkv_cells _ _) (key_size _ _ z32_len) HK2.out (by simp [hkCells_length]) (hkCells_one _ _)) ?_
   go_wp2_with fail
   refine ret_key rfl z32_len rfl rfl rfl (setRow_heap _ _ _ _ _ _ HK2.out) ?_
   exact KeyTo.no HN.out (by rw [← HSE.out]; exact below_setRow HB2.out (Nat.le_succ _) _)
  ·have d1 : decide (k < 1) = false := by simpa using hk1
   have d2 : decide (4 < k) = false := by simpa using hk4
   have hk : kOk k = true := by unfold kOk; simp; omega
   clear hk1 hk4
   have HN := Lib.hid (keyG_yes HGB.out hk)
   clear hk
   obtain ⟨p0, p1, p2⟩ := rowC_cells HG2.out
   have HTX := Lib.hid (canon16_any (.slice A1 n c1) (.slice A2 m c2) (.slice A3 q c3) (g.1.map ofB) (g.2.1.map ofB) g.2.2 w2 (by rw [map_toB_ofB, map_toB_ofB]; exact HGD.out) (by rw [map_toB_ofB]; exact H1.out.fut HB2.out (Nat.le_refl _) (by have := HZ2.out; omega)) (by rw [map_toB_ofB]; exact H2.out.fut HB2.out (Nat.le_refl _) (by have := HZ2.out; omega)) (H3.out.fut HB2.out (Nat.le_refl _) (by have := HZ2.out; omega)))
   have HTQ := Lib.hid (textC_eq g)
   have HGC := Lib.hid (gramC_good HGD.out)
   have HTB := Lib.hid (show (textC g).length ≤ 4294967296 from by rw [textC_eq]; exact textG_bound (gramC_good HGD.out))
   have HHL := Lib.hid (shaL_len (textC g))
   go_wp2_with (refine stop_at (some 18) rfl ?_)
   refine Stop.go (wpList_seg 6 _ _ _ (fun Q' hQ' => ?_))
   simp only [List.take_succ_cons, List.take_zero]
   go_wp2_with fail
   refine HTX.out.mono ?_
   intro e w3' hc
   obtain ⟨u1, u2, u3, rfl, k1, k2, k3, hb3⟩ := canTo_gram hc
   have HT2 := Lib.hid (text16_any u1 u2 u3 (gramC g).1 (gramC g).2.1 (gramC g).2.2 w3' HGC.out k1 k2 k3 (Nat.le_trans (textG_bound HGC.out) (by decide)))
   clear hc k1 k2 k3
   go_wp2_with fail
   refine HT2.out.mono ?_
   rintro e w4 ⟨rfl, hb4⟩
   replace hb4 : Below w2.heap.size w2 w4 := hb3.trans (hb4.mono hb3.size)
   rw [show textG ((gramC g).1, (gramC g).2.1, (gramC g).2.2) = textC g from HTQ.out.symm]
   have HB4 := Lib.hid (HB2.out.trans (hb4.mono (by have := HZ2.out; omega)))
   have HK4 := Lib.hid ((hb4.block (S + 1) HZ2.out).trans HK2.out)
   have HZ4 := Lib.hid (Nat.lt_of_lt_of_le HZ2.out hb4.size)
   clear hb4 HTX HB2 HG2 HK2 p0 p1 p2 HT2 hb3
   obtain ⟨w5, cw, hcv, hb5, hs5, hrd⟩ := conv_own (P := Tryz.prog) w4 9 45 5 (toB (textC g)) Tryz.underlying9 Tryz.underlying45 Tryz.underlying5
   rw [toB_len] at hcv
   rw [show (toB (textC g)).data.toList = textC g from rfl] at hrd
   obtain ⟨L, hL⟩ : ∃ L, L = (textC g).length := ⟨_, rfl⟩
   rw [← hL] at hcv HTB
   have HS5 := Lib.hid hs5
   have HB5 := Lib.hid hb5
   have HSH := Lib.hid (hash04_any (textC g) (some ⟨w4.heap.size, 0, none⟩) cw w5 (hrd.more (by rw [HS5.out]; exact Nat.le_refl _)) (by rw [← hL]; exact Nat.le_trans HTB.out (by decide)))
   rw [← hL] at HSH
   clear hrd hs5 hb5 hL
   go_wp2_with fail
   refine HSH.out.mono ?_
   rintro e w7 ⟨rfl, hb7⟩
   obtain ⟨h, hh⟩ : ∃ h, h = shaL (textC g) := ⟨_, rfl⟩
   have HB7 := Lib.hid (HB4.out.trans ((HB5.out.trans (hb7.mono HB5.out.size)).mono (by have := HZ4.out; omega)))
   have HK7 := Lib.hid (((HB5.out.trans (hb7.mono HB5.out.size)).block (S + 1) HZ4.out).trans HK4.out)
   rw [← hh] at HN HHL ⊢
   clear hb7 HSH HS5 HB5 hcv hh HB4 HK4
   go_wp2_with fail
   try simp only [List.drop_succ_cons, List.drop_zero]
   refine Stop.go (wpList_build rfl 30 rfl (vs := #[(0, .agg (bcells h).toArray), (1, .int .i64 k)]) (by rfl) (build_keyHK h k HHL.out _) ?_)
   refine wpList_store_agg rfl 30 rfl rfl rfl (store_row (hkv_cells _ _) (key_size _ _ HHL.out) HK7.out (by simp [hkCells_length, HHL.out, z32_len]) (hkCells_one _ _)) ?_
   go_wp2_with fail
   refine ret_key rfl HHL.out rfl rfl rfl (setRow_heap _ _ _ _ _ _ HK7.out) ?_
   exact KeyTo.yes HN.out HHL.out (by rw [← HSE.out]; exact below_setRow HB7.out (Nat.le_succ _) _)
end Go.Proofs.YthojelhpipmkiaaGreatDoor
namespace Go.Proofs.YthojelhpipmkiaaGreatDoor
open Go.RowKit

def Few14To (ns ts : List ByteArray) (rs : List (Int × List Int)) (w : World) (e : Ending) (w' : World) : Prop := ∃ z : Int, e = .returned (.int .i64 z) ∧ (z = 0 ∨ (z = 1 ∧ ns.length ≤ 12 ∧ ts.length ≤ 12 ∧ rs.length ≤ 40)) ∧ Below w.heap.size w w'
set_option maxHeartbeats 2000000 in
theorem few14_any (v1 v2 v3 : Value) (ns ts : List ByteArray) (rs : List (Int × List Int)) (w : World) (h1 : SlR eStr w w.heap.size v1 ns) (h2 : SlR eStr w w.heap.size v2 ts) (h3 : SlR eRule w w.heap.size v3 rs) :
  Calls Tryz.prog 4 #[.agg #[v1, v2, v3]] w (Few14To ns ts rs w) := by
 obtain ⟨A1, c1, rfl, hc1, hc1'⟩ := h1.form
 obtain ⟨A2, c2, rfl, hc2, hc2'⟩ := h2.form
 obtain ⟨A3, c3, rfl, hc3, hc3'⟩ := h3.form
 unfold maxLen at hc1' hc2' hc3'
 by_cases hgood : ns.length ≤ 12 ∧ ts.length ≤ 12 ∧ rs.length ≤ 40
 case neg =>
  have hcase : 12 < ns.length ∨ (ns.length ≤ 12 ∧ 12 < ts.length) ∨ (ns.length ≤ 12 ∧ ts.length ≤ 12 ∧ 40 < rs.length) := by omega
  rcases hcase with h | ⟨h0, h⟩ | ⟨h0, h0', h⟩
  all_goals
   go_enter Tryz.func4, Tryz.ntmps4
   go_wp2_with fail
   all_goals first
    |(exfalso; omega)
    |(go_ret; exact ⟨0, rfl, .inl rfl, by go_grown⟩)
 obtain ⟨g1, g2, g3⟩ := hgood
 go_enter Tryz.func4, Tryz.ntmps4
 go_wp2_with fail
 all_goals first
  |(exfalso; omega)
  |skip
 have HW : Hid (Below w.heap.size w (w.alloc (Obj.cells #[Value.slice A1 ns.length c1, Value.slice A2 ts.length c2, Value.slice A3 rs.length c3] 25))) := (Below.refl _ _).alloc (Nat.le_refl _) _
 have HS : Hid ((w.alloc (Obj.cells #[Value.slice A1 ns.length c1, Value.slice A2 ts.length c2, Value.slice A3 rs.length c3] 25)).heap.size = w.heap.size + 1) := by show _ = _; simp
 have k0 : (w.alloc (Obj.cells #[Value.slice A1 ns.length c1, Value.slice A2 ts.length c2, Value.slice A3 rs.length c3] 25)).cell? ⟨w.heap.size, 0, none⟩ = some (Value.slice A1 ns.length c1) := by simp
 have k1 : (w.alloc (Obj.cells #[Value.slice A1 ns.length c1, Value.slice A2 ts.length c2, Value.slice A3 rs.length c3] 25)).cell? ⟨w.heap.size, 1, none⟩ = some (Value.slice A2 ts.length c2) := by simp
 have k2 : (w.alloc (Obj.cells #[Value.slice A1 ns.length c1, Value.slice A2 ts.length c2, Value.slice A3 rs.length c3] 25)).cell? ⟨w.heap.size, 2, none⟩ = some (Value.slice A3 rs.length c3) := by simp
 generalize w.alloc (Obj.cells #[Value.slice A1 ns.length c1, Value.slice A2 ts.length c2, Value.slice A3 rs.length c3] 25) = W at HW HS k0 k1 k2 ⊢
 have h1W := h1.below HW.out
 have h2W := h2.below HW.out
 have h3W := h3.below HW.out
 clear h1 h2 h3
 go_loop [3] (fun v => ∃ k : Nat, k ≤ rs.length ∧ v = .int .i64 k) (fun v => rs.length - (intOf v).toNat)
 case atStart => exact ⟨0, by omega, rfl⟩
 case round =>
  obtain ⟨k, hk, rfl⟩ := hrel
  by_cases hlt : k < rs.length
  ·obtain ⟨ab, ao, cs, rfl, _, hab, hrep, hcell⟩ := h3W.get hlt (by decide)
   obtain ⟨u, rfl, hu, hz1, hz2⟩ := eRule_open hrep
   obtain ⟨A4, e4, rfl, hq1, hq2⟩ := hu.form
   unfold maxLen at hq2
   have hc1' := hcell 1 _ rfl
   clear hcell
   simp only [show eRule.size = 2 from rfl, ← Nat.add_assoc] at hc1'
   go_wp2_with fail
   ·go_ret
    exact ⟨0, rfl, .inl rfl, HW.out⟩
   ·go_round
    case rel => exact ⟨k + 1, by omega, by go_num⟩
    case measure => simp [intOf]; omega
  go_wp2_with fail
  go_loop [4] (fun v => ∃ j : Nat, j ≤ ns.length ∧ v = .int .i64 j) (fun v => ns.length - (intOf v).toNat)
  case atStart => exact ⟨0, by omega, rfl⟩
  case round =>
   obtain ⟨j, hj, rfl⟩ := hrel
   by_cases hlj : j < ns.length
   ·obtain ⟨ab, ao, cs, rfl, _, hab, hrep, hcell⟩ := h1W.get hlj (by decide)
    obtain ⟨rfl, hx1⟩ := hrep
    unfold maxLen at hx1
    have hc0 := hcell 0 _ rfl
    clear hcell
    simp only [show eStr.size = 1 from rfl, Nat.mul_one, Nat.add_zero] at hc0
    go_wp2_with fail
    ·go_ret
     exact ⟨0, rfl, .inl rfl, HW.out⟩
    ·go_round
     case rel => exact ⟨j + 1, by omega, by go_num⟩
     case measure => simp [intOf]; omega
   go_wp2_with fail
   go_loop [5] (fun v => ∃ i : Nat, i ≤ ts.length ∧ v = .int .i64 i) (fun v => ts.length - (intOf v).toNat)
   case atStart => exact ⟨0, by omega, rfl⟩
   case round =>
    obtain ⟨i, hi, rfl⟩ := hrel
    by_cases hli : i < ts.length
    ·obtain ⟨ab, ao, cs, rfl, _, hab, hrep, hcell⟩ := h2W.get hli (by decide)
     obtain ⟨rfl, hx1⟩ := hrep
     unfold maxLen at hx1
     have hc0 := hcell 0 _ rfl
     clear hcell
     simp only [show eStr.size = 1 from rfl, Nat.mul_one, Nat.add_zero] at hc0
     go_wp2_with fail
     ·go_ret
      exact ⟨0, rfl, .inl rfl, HW.out⟩
     ·go_round
      case rel => exact ⟨i + 1, by omega, by go_num⟩
      case measure => simp [intOf]; omega
    go_wp2_with fail
    go_ret
    exact ⟨1, rfl, .inr ⟨rfl, g1, g2, g3⟩, HW.out⟩
end Go.Proofs.YthojelhpipmkiaaGreatDoor
namespace Go.Proofs.YthojelhpipmkiaaGreatDoor
open Go.RowKit

def parse17 (l : List UInt8) : Option (List UInt8 × Int) :=
 if l.length = 66 ∧ l.getD 64 0 = 45 ∧ 49 ≤ (l.getD 65 0).toNat ∧ (l.getD 65 0).toNat ≤ 52 then (unhex (l.take 64)).map fun b => (b, ((l.getD 65 0).toNat : Int) - 48) else none
theorem unhex_digs : ∀ (l t : List UInt8), unhex l = some t → l.length = 2 * t.length ∧ ∀ b ∈ l, dB b = true
 |[], t, h => by
  simp only [unhex, Option.some.injEq] at h
  subst h
  simp
 |[_], t, h => by simp [unhex] at h
 |a :: b :: r, t, h => by
  rw [unhex] at h
  split at h
  ·rename_i hd
   rw [Option.map_eq_some_iff] at h
   obtain ⟨t', h1, rfl⟩ := h
   obtain ⟨h2, h3⟩ := unhex_digs r t' h1
   rw [Bool.and_eq_true] at hd
   refine ⟨by simp; omega, fun x hx => ?_⟩
   rcases List.mem_cons.1 hx with rfl | hx
   ·exact hd.1
   ·rcases List.mem_cons.1 hx with rfl | hx
    ·exact hd.2
    ·exact h3 x hx
  ·cases h
theorem dB_dash : dB 45 = false := by decide
theorem keyOf_eq (l : List UInt8) : keyOf l = parse17 l := by
 have hd : ∀ (i : Nat) (t : List UInt8), unhex (l.take i) = some t → ∀ k, k < i → l[k]? ≠ some 45 := by
  intro i t h k hk he
  have hm : (45 : UInt8) ∈ l.take i := by
   rw [List.mem_iff_getElem?]
   exact ⟨k, by rw [List.getElem?_take, if_pos hk]; exact he⟩
  have := (unhex_digs _ _ h).2 45 hm
  rw [dB_dash] at this
  cases this
 have hge := Lib.indexByte_ge l 45
 by_cases hm : Lib.indexByte l 45 = -1
 ·have hc : cutL l 45 = (l, [], false) := by unfold cutL; rw [if_pos hm]
  have h1 : keyOf l = none := by
   unfold keyOf
   rw [hc]
   cases unhex l <;> simp
  rw [h1]
  unfold parse17
  rw [if_neg]
  rintro ⟨h2, h3, _⟩
  refine Lib.indexByte_none hm 64 ?_
  rw [List.getElem?_eq_getElem (by omega)]
  rw [List.getD_eq_getElem?_getD, List.getElem?_eq_getElem (by omega)] at h3
  simpa using h3
 ·obtain ⟨i, hi⟩ : ∃ i : Nat, Lib.indexByte l 45 = i := ⟨(Lib.indexByte l 45).toNat, by omega⟩
  obtain ⟨hat, hbefore⟩ := Lib.indexByte_some hi
  have hil : i < l.length := (List.getElem?_eq_some_iff.1 hat).1
  have hc : cutL l 45 = (l.take i, l.drop (i + 1), true) := by unfold cutL; rw [if_neg hm, hi]; rfl
  unfold keyOf
  rw [hc]
  simp only [true_and]
  by_cases h64 : i = 64
  ·subst h64
   unfold parse17
   have h45 : l.getD 64 0 = 45 := by rw [List.getD_eq_getElem?_getD, hat]; rfl
   have hdl : (l.drop 65).getD 0 0 = l.getD 65 0 := by simp [List.getD_eq_getElem?_getD]
   rw [hdl, List.length_drop]
   cases hu : unhex (l.take 64) with
   |none => simp
   |some b =>
    have h32 := (unhex_digs _ _ hu).1
    rw [List.length_take] at h32
    have hb : b.length = 32 := by omega
    simp only [hb, h45, Option.map_some, true_and]
    have hk : ∀ n : Nat, (kOk ((n : Int) - 48) = true ↔ 49 ≤ n ∧ n ≤ 52) := fun n => by unfold kOk; simp; omega
    by_cases h66 : l.length = 66
    ·have : l.length - 65 = 1 := by omega
     simp only [h66, true_and, hk]
    ·have : ¬ (l.length - 65 = 1) := by omega
     simp only [h66, this, false_and, if_false]
  ·have h1 : parse17 l = none := by
    unfold parse17
    split
    ·rename_i hh
     obtain ⟨h2, h3, _⟩ := hh
     cases hu : unhex (l.take 64) with
     |none => rfl
     |some b =>
      exfalso
      have h4 : l[64]? = some 45 := by
       rw [List.getElem?_eq_getElem (by omega)]
       rw [List.getD_eq_getElem?_getD, List.getElem?_eq_getElem (by omega)] at h3
       simpa using h3
      rcases Nat.lt_or_ge i 64 with h5 | h5
      ·exact hd 64 b hu i h5 hat
      ·exact hbefore 64 (by omega) h4
    ·rfl
   rw [h1]
   cases hu : unhex (l.take i) with
   |none => rfl
   |some b =>
    have h32 := (unhex_digs _ _ hu).1
    rw [List.length_take] at h32
    simp only
    rw [if_neg]
    rintro ⟨h5, _⟩
    omega
end Go.Proofs.YthojelhpipmkiaaGreatDoor
namespace Go.Proofs.YthojelhpipmkiaaGreatDoor
open Go.RowKit

def hexDig (k : Nat) : UInt8 := (digAt k).toNat.toUInt8
theorem dig_back (k : Nat) (h : k < 16) : dB (hexDig k) = true ∧ dN (hexDig k) = k := by
 have h2 : ∀ j : Fin 16, dB (hexDig j.val) = true ∧ dN (hexDig j.val) = j.val := by decide +kernel
 exact h2 ⟨k, h⟩
theorem unhex_hexOf : ∀ (l : List UInt8), unhex (hexOf l) = some l
 |[] => rfl
 |b :: l => by
  have hb := b.toNat_lt
  have h1 := dig_back (b.toNat / 16) (by omega)
  have h2 := dig_back (b.toNat % 16) (by omega)
  show unhex (hexDig (b.toNat / 16) :: hexDig (b.toNat % 16) :: hexOf l) = _
  rw [unhex, h1.1, h2.1, h1.2, h2.2, unhex_hexOf l]
  have : 16 * (b.toNat / 16) + b.toNat % 16 = b.toNat := by omega
  rw [this]
  simp
end Go.Proofs.YthojelhpipmkiaaGreatDoor
namespace Go.Proofs.YthojelhpipmkiaaGreatDoor

theorem decFrom_cons (acc : Nat) (b : UInt8) (r : List UInt8) : Lib.decFrom acc (b :: r) = (Lib.digitVal b).bind fun d => Lib.decFrom (acc * 10 + d) r := by
 rw [Lib.decFrom]
 cases Lib.digitVal b <;> rfl
theorem decFrom_append (x y : List UInt8) : ∀ (acc : Nat), Lib.decFrom acc (x ++ y) = (Lib.decFrom acc x).bind fun m => Lib.decFrom m y := by
 induction x with
 |nil => intro acc; rfl
 |cons a x ih =>
  intro acc
  rw [List.cons_append, decFrom_cons, decFrom_cons]
  cases Lib.digitVal a with
  |none => rfl
  |some d => exact ih _
theorem digitVal_ofNat (d : Nat) (h : d < 10) : Lib.digitVal (UInt8.ofNat (48 + d)) = some d := by
 have h1 : (UInt8.ofNat (48 + d)).toNat = 48 + d := by
  rw [UInt8.toNat_ofNat']
  omega
 unfold Lib.digitVal
 rw [h1, if_pos (by omega)]
 congr 1
 omega
theorem decFrom_digits (u : Nat) : Lib.decFrom 0 (Lib.decDigits u) = some u := by
 induction u using Nat.strongRecOn with
 |_ u ih =>
  rw [Lib.decDigits]
  split
  ·rename_i h
   rw [decFrom_cons, digitVal_ofNat u h, Option.bind_some, Lib.decFrom, Nat.zero_mul, Nat.zero_add]
  ·rename_i h
   rw [decFrom_append, ih (u / 10) (by omega), Option.bind_some, decFrom_cons, digitVal_ofNat (u % 10) (by omega), Option.bind_some, Lib.decFrom]
   congr 1
   omega
theorem decDigits_ne (u : Nat) : Lib.decDigits u ≠ [] := fun h => by
 have h1 := Lib.decDigits_length u
 have h2 := Lib.nDigits_pos u
 rw [h] at h1
 simp at h1
 omega
theorem decDigits_dig (u : Nat) : ∀ b ∈ Lib.decDigits u, 48 ≤ b.toNat ∧ b.toNat ≤ 57 := fun b hb => by
 obtain ⟨k, hk⟩ := List.mem_iff_getElem?.1 hb
 obtain ⟨d, hd⟩ := Lib.digit_of_decFrom _ 0 u (decFrom_digits u) k b hk
 unfold Lib.digitVal at hd
 split at hd
 ·assumption
 ·cases hd
theorem atoi_digits (u : Nat) : Lib.atoi (Lib.decDigits u) = some (u : Int) := by
 have hd := decFrom_digits u
 have hb := decDigits_dig u
 cases hl : Lib.decDigits u with
 |nil => exact absurd hl (decDigits_ne u)
 |cons a r =>
  rw [hl] at hd hb
  have h1 := hb a (List.mem_cons_self ..)
  unfold Lib.atoi
  have n1 : (a == 45) = false := by
   rw [beq_eq_false_iff_ne]
   rintro rfl
   exact absurd h1.1 (by decide)
  have n2 : (a == 43) = false := by
   rw [beq_eq_false_iff_ne]
   rintro rfl
   exact absurd h1.1 (by decide)
  simp only [n1, n2, Bool.false_eq_true, if_false]
  unfold Lib.decNat
  simp only [List.isEmpty_cons, Bool.false_eq_true, if_false, hd, Option.map_some]
theorem nDigits_le10 (u : Nat) (h : u ≤ 1000000000) : Lib.nDigits u ≤ 10 := by
 rcases Nat.lt_or_ge 10 (Lib.nDigits u) with h1 | h1
 ·exfalso
  have : ∀ k v, v < 10 ^ (k + 1) → Lib.nDigits v ≤ k + 1 := by
   intro k
   induction k with
   |zero => intro v hv; rw [Lib.nDigits_small (by simpa using hv)]; exact Nat.le_refl _
   |succ k ih =>
    intro v hv
    by_cases h10 : v < 10
    ·rw [Lib.nDigits_small h10]; omega
    ·rw [Lib.nDigits_big h10]
     have := ih (v / 10) (by rw [Nat.pow_succ] at hv; omega)
     omega
  have h11 : (10 : Nat) ^ (9 + 1) = 10000000000 := by decide
  have := this 9 u (by omega)
  omega
 ·exact h1
theorem atoiAll_digits (u : Nat) (h : u ≤ 1000000000) : Lib.atoiAll (Lib.decDigits u) = .ok (u : Int) := by
 rw [Lib.atoiAll_short _ (by rw [Lib.decDigits_length]; have := nDigits_le10 u h; omega), atoi_digits]
 rfl
def atoiV (l : List UInt8) : Int := match Lib.atoiAll l with
 |.ok v => v
 |.range => Lib.atoiSat l
 |_ => 0
theorem atoiV_itoa (n : Int) (h0 : 0 ≤ n) (h1 : n ≤ 1000000000) : atoiV (Lib.itoa n) = n := by
 obtain ⟨u, rfl⟩ : ∃ u : Nat, n = u := ⟨n.toNat, by omega⟩
 rw [Lib.itoa_nonneg]
 unfold atoiV
 rw [atoiAll_digits u (by omega)]
end Go.Proofs.YthojelhpipmkiaaGreatDoor
namespace Go.Proofs.YthojelhpipmkiaaGreatDoor
open Go.RowKit

structure NmD where
 kind : Int
 h : List UInt8
 k : Int
 n : Int
def jour : List UInt8 := [106, 111, 117, 114, 110, 97, 108]
def jnew : List UInt8 := [106, 111, 117, 114, 110, 97, 108, 46, 110, 101, 119]
def frontL (k : Int) : List UInt8 := if k = 1 then [111, 45] else if k = 2 then [116, 45] else if k = 3 then [113, 45] else if k = 4 then jour else jnew
def nameL (x : NmD) : List UInt8 :=
 if x.kind = 1 then (if kOk x.k then [111, 45] ++ keyText x.h x.k else [])
 else if x.kind = 2 ∨ x.kind = 3 then (if 0 ≤ x.n ∧ x.n ≤ 1000000000 then frontL x.kind ++ Lib.itoa x.n else [])
 else if x.kind = 4 then jour else if x.kind = 5 then jnew else []
def candL (k : Int) (t : List UInt8) : NmD :=
 if k = 1 then (match keyOf t with | some (b, kk) => ⟨1, b, kk, 0⟩ | none => ⟨1, z32, 0, 0⟩) else ⟨k, z32, 0, atoiV t⟩
def tryL (k : Int) (s : List UInt8) : Option NmD :=
 if Lib.hasPrefix s (frontL k) then (if nameL (candL k (Lib.trimPrefix s (frontL k))) = s then some (candL k (Lib.trimPrefix s (frontL k))) else none) else none
def noName : NmD := ⟨0, z32, 0, 0⟩
def readL (s : List UInt8) : NmD :=
 if s = jour then ⟨4, z32, 0, 0⟩ else if s = jnew then ⟨5, z32, 0, 0⟩ else
  match tryL 1 s with
  |some x => x
  |none => match tryL 2 s with
   |some x => x
   |none => match tryL 3 s with
    |some x => x
    |none => noName
theorem keyText_len (h : List UInt8) (k : Int) (hh : h.length = 32) (hk : kOk k = true) : (keyText h k).length = 66 := by
 unfold keyText
 rw [if_pos hk, List.length_append, hexOf_length, hh]
 rfl
theorem keyText_ne (h : List UInt8) (k : Int) : keyText h k = [] ↔ kOk k = false := by
 unfold keyText
 cases kOk k <;> simp
theorem keyOf_text (h : List UInt8) (k : Int) (hh : h.length = 32) : keyOf (keyText h k) = if kOk k then some (h, k) else none := by
 rw [keyOf_eq]
 cases hk : kOk k
 ·rw [(keyText_ne h k).2 hk]
  rfl
 ·have hl : (hexOf h).length = 64 := by rw [hexOf_length, hh]
  have hb : 1 ≤ k ∧ k ≤ 4 := by unfold kOk at hk; simpa using hk
  have ht : keyText h k = hexOf h ++ [45, UInt8.ofNat (48 + k.toNat)] := by unfold keyText; rw [if_pos hk]
  have h64 : (keyText h k).getD 64 0 = 45 := by
   rw [ht, List.getD_eq_getElem?_getD, List.getElem?_append_right (by omega), hl]
   rfl
  have h65 : (keyText h k).getD 65 0 = UInt8.ofNat (48 + k.toNat) := by
   rw [ht, List.getD_eq_getElem?_getD, List.getElem?_append_right (by omega), hl]
   rfl
  have hn : (UInt8.ofNat (48 + k.toNat)).toNat = 48 + k.toNat := by rw [UInt8.toNat_ofNat']; omega
  have htk : (keyText h k).take 64 = hexOf h := by rw [ht, List.take_append_of_le_length (by omega), List.take_of_length_le (by omega)]
  unfold parse17
  rw [h64, h65, htk, hn, unhex_hexOf, keyText_len h k hh hk, if_pos ⟨rfl, rfl, by omega, by omega⟩, if_pos rfl]
  simp only [Option.map_some]
  congr 2
  omega
theorem hasPrefix_app (p t : List UInt8) : Lib.hasPrefix (p ++ t) p = true := by
 unfold Lib.hasPrefix
 rw [List.isPrefixOf_iff_prefix]
 exact List.prefix_append p t
theorem trimPrefix_app (p t : List UInt8) : Lib.trimPrefix (p ++ t) p = t := by
 unfold Lib.trimPrefix
 rw [hasPrefix_app, if_pos rfl]
 simp
theorem hasPrefix_two (a b c d : UInt8) (t : List UInt8) : Lib.hasPrefix (a :: b :: t) [c, d] = (c == a && (d == b)) := by
 simp [Lib.hasPrefix, List.isPrefixOf]
theorem tryL_name (k : Int) (s : List UInt8) (x : NmD) (h : tryL k s = some x) : nameL x = s ∧ x.kind = k := by
 unfold tryL at h
 split at h
 ·split at h
  ·rename_i hn
   cases h
   refine ⟨hn, ?_⟩
   unfold candL
   split
   ·rename_i hk
    subst hk
    split <;> rfl
   ·rfl
  ·cases h
 ·cases h
theorem read_name (s : List UInt8) : nameL (readL s) = s ∧ (readL s).kind ≠ 0 ∨ readL s = noName ∧ s ≠ jour ∧ s ≠ jnew ∧ tryL 1 s = none := by
 unfold readL
 split
 ·rename_i h; subst h; exact .inl ⟨rfl, by decide⟩
 split
 ·rename_i h; subst h; exact .inl ⟨rfl, by decide⟩
 rename_i h1 h2
 cases e1 : tryL 1 s with
 |some x => obtain ⟨p, q⟩ := tryL_name _ _ _ e1; exact .inl ⟨p, by rw [q]; decide⟩
 |none =>
  cases e2 : tryL 2 s with
  |some x => obtain ⟨p, q⟩ := tryL_name _ _ _ e2; exact .inl ⟨p, by rw [q]; decide⟩
  |none =>
   cases e3 : tryL 3 s with
   |some x => obtain ⟨p, q⟩ := tryL_name _ _ _ e3; exact .inl ⟨p, by rw [q]; decide⟩
   |none => exact .inr ⟨rfl, h1, h2, rfl⟩
theorem tryL_other (k : Int) (a : UInt8) (t : List UInt8) (c : UInt8) (hf : frontL k = [c, 45]) (hne : c ≠ a) : tryL k (a :: 45 :: t) = none := by
 unfold tryL
 rw [hf, hasPrefix_two, show (c == a) = false by rw [beq_eq_false_iff_ne]; exact hne]
 rfl
theorem read_write (x : NmD) (hh : x.h.length = 32) (hn : nameL x ≠ []) :
  readL (nameL x) = ⟨x.kind, if x.kind = 1 then x.h else z32, if x.kind = 1 then x.k else 0, if x.kind = 2 ∨ x.kind = 3 then x.n else 0⟩ := by
 obtain ⟨kind, h, k, n⟩ := x
 simp only at hh ⊢
 by_cases h1 : kind = 1
 ·subst h1
  cases hk : kOk k
  ·exfalso
   apply hn
   unfold nameL
   rw [if_pos rfl]
   simp [hk]
  ·have hs : nameL ⟨1, h, k, n⟩ = [111, 45] ++ keyText h k := by unfold nameL; rw [if_pos rfl, if_pos hk]
   rw [hs]
   have n1 : ¬ ([111, 45] ++ keyText h k = jour) := fun he => by have := congrArg List.head? he; simp [jour] at this
   have n2 : ¬ ([111, 45] ++ keyText h k = jnew) := fun he => by have := congrArg List.head? he; simp [jnew] at this
   have ht : tryL 1 ([111, 45] ++ keyText h k) = some ⟨1, h, k, 0⟩ := by
    unfold tryL
    have hc : candL 1 (keyText h k) = ⟨1, h, k, 0⟩ := by unfold candL; rw [if_pos rfl, keyOf_text h k hh, if_pos hk]
    rw [show frontL 1 = [111, 45] from rfl, hasPrefix_app, if_pos rfl, trimPrefix_app, hc, show nameL ⟨1, h, k, 0⟩ = [111, 45] ++ keyText h k by unfold nameL; rw [if_pos rfl, if_pos hk], if_pos rfl]
   unfold readL
   rw [if_neg n1, if_neg n2, ht]
   simp
 by_cases h23 : kind = 2 ∨ kind = 3
 ·by_cases hr : 0 ≤ n ∧ n ≤ 1000000000
  ·have hs : nameL ⟨kind, h, k, n⟩ = frontL kind ++ Lib.itoa n := by unfold nameL; rw [if_neg h1, if_pos h23, if_pos hr]
   have hs2 : nameL ⟨kind, z32, 0, n⟩ = frontL kind ++ Lib.itoa n := by unfold nameL; rw [if_neg h1, if_pos h23, if_pos hr]
   rw [hs]
   have ht : tryL kind (frontL kind ++ Lib.itoa n) = some ⟨kind, z32, 0, n⟩ := by
    unfold tryL
    have hc : candL kind (Lib.itoa n) = ⟨kind, z32, 0, n⟩ := by unfold candL; rw [if_neg h1, atoiV_itoa n hr.1 hr.2]
    rw [hasPrefix_app, if_pos rfl, trimPrefix_app, hc, hs2, if_pos rfl]
   rcases h23 with rfl | rfl
   ·have n1 : ¬ (frontL 2 ++ Lib.itoa n = jour) := fun he => by have := congrArg List.head? he; simp [jour, frontL] at this
    have n2 : ¬ (frontL 2 ++ Lib.itoa n = jnew) := fun he => by have := congrArg List.head? he; simp [jnew, frontL] at this
    have t1 : tryL 1 (frontL 2 ++ Lib.itoa n) = none := tryL_other 1 116 (Lib.itoa n) 111 rfl (by decide)
    unfold readL
    rw [if_neg n1, if_neg n2, t1, ht]
    simp
   ·have n1 : ¬ (frontL 3 ++ Lib.itoa n = jour) := fun he => by have := congrArg List.head? he; simp [jour, frontL] at this
    have n2 : ¬ (frontL 3 ++ Lib.itoa n = jnew) := fun he => by have := congrArg List.head? he; simp [jnew, frontL] at this
    have t1 : tryL 1 (frontL 3 ++ Lib.itoa n) = none := tryL_other 1 113 (Lib.itoa n) 111 rfl (by decide)
    have t2 : tryL 2 (frontL 3 ++ Lib.itoa n) = none := tryL_other 2 113 (Lib.itoa n) 116 rfl (by decide)
    unfold readL
    rw [if_neg n1, if_neg n2, t1, t2, ht]
    simp
  ·exfalso
   apply hn
   unfold nameL
   rw [if_neg h1, if_pos h23, if_neg hr]
 by_cases h4 : kind = 4
 ·subst h4
  rfl
 by_cases h5 : kind = 5
 ·subst h5
  rfl
 exfalso
 apply hn
 unfold nameL
 rw [if_neg h1, if_neg h23, if_neg h4, if_neg h5]
theorem read_t7 : readL [116, 45, 55] = ⟨2, z32, 0, 7⟩ := by
 have := read_write ⟨2, z32, 0, 7⟩ rfl (by simp [nameL, frontL])
 rw [show nameL ⟨2, z32, 0, 7⟩ = [116, 45, 55] by simp [nameL, frontL, Lib.itoa, Lib.decDigits]] at this
 simpa using this
theorem read_t07 : readL [116, 45, 48, 55] = noName := by
 rcases read_name [116, 45, 48, 55] with ⟨h1, h2⟩ | ⟨h, _⟩
 ·exfalso
  obtain ⟨x, hx⟩ : ∃ x, x = readL [116, 45, 48, 55] := ⟨_, rfl⟩
  rw [← hx] at h1 h2
  have hh : x.kind ≠ 1 → (x.kind = 2 ∨ x.kind = 3) → False := by
   intro n1 n2
   unfold nameL at h1
   rw [if_neg n1, if_pos n2] at h1
   split at h1
   ·rename_i hr
    obtain ⟨u, hu⟩ : ∃ u : Nat, x.n = u := ⟨x.n.toNat, by omega⟩
    rw [hu, Lib.itoa_nonneg] at h1
    have hd : Lib.decDigits u = [48, 55] := by
     rcases n2 with e | e <;> rw [e] at h1 <;> simp [frontL] at h1 ⊢ <;> exact h1
    have h7 := decFrom_digits u
    rw [hd] at h7
    have : Lib.decFrom 0 [48, 55] = some 7 := by decide
    rw [this] at h7
    cases h7
    have : Lib.decDigits 7 = [55] := by simp [Lib.decDigits]
    rw [this] at hd
    cases hd
   ·cases h1
  by_cases k1 : x.kind = 1
  ·unfold nameL at h1
   rw [if_pos k1] at h1
   split at h1
   ·have := congrArg List.head? h1
    simp at this
   ·cases h1
  by_cases k23 : x.kind = 2 ∨ x.kind = 3
  ·exact hh k1 k23
  unfold nameL at h1
  rw [if_neg k1, if_neg k23] at h1
  split at h1
  ·cases h1
  split at h1
  ·cases h1
  ·cases h1
 ·exact h
end Go.Proofs.YthojelhpipmkiaaGreatDoor
namespace Go.Proofs.YthojelhpipmkiaaGreatDoor
open Go.RowKit

theorem var_below {P : Program} {w w' : World} {n : String} {cs : Array Value} (h : w.var? P n = some cs) (hb : Below w.heap.size w w') : w'.var? P n = some cs := by
 unfold World.var? at h ⊢
 cases hg : P.globalNamed n with
 |none => simp [hg] at h
 |some g =>
  simp only [hg, Option.bind_some] at h ⊢
  have hlt : g < w.heap.size := by
   rcases Nat.lt_or_ge g w.heap.size with h' | h'
   ·exact h'
   ·simp [Array.getElem?_eq_none h'] at h
  rw [hb.block g hlt]
  exact h
structure Tabs (w : World) : Prop where
 tab : Lib.TabIs Tryz.prog w "internal/strconv.uint64pow10" .u64 Lib.pow10Tab
 syn : ∃ tp p, w.var? Tryz.prog "strconv.ErrSyntax" = some #[.iface tp p]
 rng : ∃ tp p, w.var? Tryz.prog "strconv.ErrRange" = some #[.iface tp p]
theorem Tabs.below {w w' : World} (h : Tabs w) (hb : Below w.heap.size w w') : Tabs w' :=
 ⟨var_below h.tab hb, let ⟨tp, p, q⟩ := h.syn; ⟨tp, p, var_below q hb⟩, let ⟨tp, p, q⟩ := h.rng; ⟨tp, p, var_below q hb⟩⟩
theorem Tabs.drew {w : World} (h : Tabs w) : Tabs w.drew := h.below (Below.refl _ _).drew
theorem Tabs.alloc {w : World} (h : Tabs w) (o : Obj) : Tabs (w.alloc o) := h.below ((Below.refl _ _).alloc (Nat.le_refl _) _)
theorem below_grow (w : World) (k : Nat) (os : Array Obj) : Below w.heap.size w (Sort.grow (w.drewN k) os) :=
 ⟨rfl, rfl, rfl, by simp [Sort.grow, World.drewN], fun i hi => by
  show (w.heap ++ os)[i]? = _
  rw [Array.getElem?_append_left hi]⟩
theorem itoa_any (n : Int) (w : World) (h0 : 0 ≤ n) (h1 : n ≤ 1000000000) (ht : Tabs w) :
  Calls Tryz.prog 23 #[.int .i64 n] w fun e w' => e = .returned (.string ⟨(Lib.itoa n).toArray⟩) ∧ Below w.heap.size w w' := by
 refine (Tryz.strconv_Itoa n (by omega) (by omega) w ht.tab).mono ?_
 rintro e w' ⟨rfl, k, os, rfl⟩
 exact ⟨rfl, below_grow w k os⟩
theorem atoi_any (l : List UInt8) (w : World) (hl : l.length ≤ 1099511627776) (ht : Tabs w) :
  Calls Tryz.prog 21 #[.string ⟨l.toArray⟩] w fun e w' => ∃ ev, e = .returned (.tuple #[.int .i64 (atoiV l), ev]) ∧ Below w.heap.size w w' := by
 obtain ⟨s, hs⟩ : ∃ s : ByteArray, s = ⟨l.toArray⟩ := ⟨_, rfl⟩
 have hd : s.data.toList = l := by rw [hs]
 have hz : s.size = l.length := by rw [hs]; rfl
 rw [← hs]
 rcases h : Lib.atoiAll l with v | _ | _
 ·have hv : atoiV l = v := by unfold atoiV; rw [h]
  refine (Tryz.strconv_Atoi_ok s (by omega) v (by rw [hd]; exact h) w).mono ?_
  rintro e w' ⟨rfl, hw⟩
  refine ⟨_, by rw [hv], ?_⟩
  rcases hw with rfl | ⟨t, rfl⟩
  ·exact Below.refl _ _
  ·exact Lib.bytesWorld_below _ _ _
 ·have hv : atoiV l = 0 := by unfold atoiV; rw [h]
  obtain ⟨tp, p, q⟩ := ht.syn
  have hc : Calls Tryz.prog 21 #[.string s] w _ := Any.strconv_Atoi_syntax_var Tryz.laysC172 s (by omega) (by rw [hd]; exact h) tp p w q
  refine hc.mono ?_
  rintro e w' ⟨N, rfl, _, _, hb⟩
  exact ⟨_, by rw [hv], hb⟩
 ·have hv : atoiV l = Lib.atoiSat l := by unfold atoiV; rw [h]
  obtain ⟨tp, p, q⟩ := ht.rng
  have hc : Calls Tryz.prog 21 #[.string s] w _ := Any.strconv_Atoi_range_var Tryz.laysC172 s (by omega) (by rw [hd]; exact h) tp p w q
  refine hc.mono ?_
  rintro e w' ⟨N, rfl, _, _, hb⟩
  exact ⟨_, by rw [hv, hd], hb⟩
end Go.Proofs.YthojelhpipmkiaaGreatDoor
