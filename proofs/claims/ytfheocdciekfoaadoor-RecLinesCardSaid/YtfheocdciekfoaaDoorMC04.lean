/- The law RecLines walked. -/
import Derived.Test.YtfheocdciekfoaaDoorMA37
import Derived.Test.YtfheocdciekfoaaDoorMC03
import Derived.Test.YtfheocdciekfoaaDoorMA38
import Derived.Test.YtfheocdciekfoaaDoorMA16
import Derived.Test.YtfheocdciekfoaaDoorMA19
namespace Go.Proofs.YtfheocdciekfoaaDoor
open Go.RowKit

theorem sameD_self (a : RecD) : sameD a a = true := by simp [sameD]
set_option maxRecDepth 100000 in
set_option maxHeartbeats 8000000 in
theorem recLines_any (a b : RecD) (A1 : Option Addr) (n1 c1 : Nat) (A2 : Option Addr) (n2 c2 B : Nat) (w : World) (ha : Hs a) (hb : Hs b) (h1 : SlR eKey w B (.slice A1 n1 c1) a.keys) (h2 : SlR eKey w B (.slice A2 n2 c2) b.keys)
    (hk1 : ∀ x ∈ a.keys, x.1.length = 32) (hk2 : ∀ x ∈ b.keys, x.1.length = 32) (hB : B ≤ w.heap.size) :
    Calls Tryd.prog 3 #[rv a (.slice A1 n1 c1), rv b (.slice A2 n2 c2)] w fun e w' => e = .returned (.bool true) ∧ Below w.heap.size w w' := by
  have hn1 := h1.n_eq
  have hn2 := h2.n_eq
  subst hn1 hn2
  have HA := Lib.hid ha
  have HB := Lib.hid hb
  have H1 := Lib.hid h1
  have H2 := Lib.hid h2
  have HK1 := Lib.hid hk1
  have HK2 := Lib.hid hk2
  have HBW := Lib.hid hB
  clear ha hb h1 h2 hk1 hk2 hB
  go_enter Tryd.func3, Tryd.ntmps3
  go_wp2_with (refine stop_at (some 2) rfl ?_)
  refine Stop.go (wpList_box rfl _ rfl rfl rfl (wpList_box rfl _ rfl rfl rfl ?_))
  have hsz : (w.alloc (.cells (recCells a.kind a.seq a.kh a.kk a.mh a.ms (.slice A1 a.keys.length c1)).toArray 29)).heap.size = w.heap.size + 1 := Array.size_push _
  have hbA : Below w.heap.size w (w.alloc (.cells (recCells a.kind a.seq a.kh a.kk a.mh a.ms (.slice A1 a.keys.length c1)).toArray 29)) := (Below.refl _ _).alloc (Nat.le_refl _) _
  have hbB : Below w.heap.size w ((w.alloc (.cells (recCells a.kind a.seq a.kh a.kk a.mh a.ms (.slice A1 a.keys.length c1)).toArray 29)).alloc (.cells (recCells b.kind b.seq b.kh b.kk b.mh b.ms (.slice A2 b.keys.length c2)).toArray 29)) := hbA.alloc (by omega) _
  have HRA := Lib.hid ((RecAt.new (t := 29) (v := .slice A1 a.keys.length c1) (kind := a.kind) (seq := a.seq) (kk := a.kk) (ms := a.ms) w HA.out.1 HA.out.2).later ((Below.refl _ _).alloc (Nat.le_refl _) (.cells (recCells b.kind b.seq b.kh b.kk b.mh b.ms (.slice A2 b.keys.length c2)).toArray 29)))
  have HRB := Lib.hid (RecAt.new (t := 29) (v := .slice A2 b.keys.length c2) (kind := b.kind) (seq := b.seq) (kk := b.kk) (ms := b.ms) (w.alloc (.cells (recCells a.kind a.seq a.kh a.kk a.mh a.ms (.slice A1 a.keys.length c1)).toArray 29)) HB.out.1 HB.out.2)
  have HBB := Lib.hid hbB
  rw [hsz] at HRB
  clear hbA hbB
  generalize hac : Act.put _ _ _ = a9
  simp [Act.put] at hac
  subst hac
  generalize (w.alloc (.cells (recCells a.kind a.seq a.kh a.kk a.mh a.ms (.slice A1 a.keys.length c1)).toArray 29)).alloc (.cells (recCells b.kind b.seq b.kh b.kk b.mh b.ms (.slice A2 b.keys.length c2)).toArray 29) = w2 at *
  have HCA := Lib.hid HRA.out.keys_
  have HCB := Lib.hid HRB.out.keys_
  have hca := HCA.out
  have hcb := HCB.out
  clear hsz
  by_cases hl1 : 300 < a.keys.length
  · go_wp2_with fail
    refine (awake32_any w2).mono ?_
    rintro e w3 ⟨rfl, hb3⟩
    go_wp2_with fail
    go_ret
    exact ⟨rfl, HBB.out.trans (hb3.mono HBB.out.size)⟩
  by_cases hl2 : 300 < b.keys.length
  · go_wp2_with fail
    refine (awake32_any w2).mono ?_
    rintro e w3 ⟨rfl, hb3⟩
    go_wp2_with fail
    go_ret
    exact ⟨rfl, HBB.out.trans (hb3.mono HBB.out.size)⟩
  clear hca hcb
  have hca := HCA.out
  have hcb := HCB.out
  go_wp2_with (refine stop_at (some 21) rfl ?_)
  refine Stop.go (wpList_load_agg rfl 29 rfl rfl recTy_u rfl (rec_size _ _ _ _ _ _ _ HA.out.1 HA.out.2) HRA.out.all_ ?_)
  go_wp2_with fail
  refine (plain_any a.kind a.seq a.kh a.kk a.mh a.ms A1 a.keys.length c1 w2 HA.out.1 HA.out.2).mono ?_
  rintro e w3 ⟨rfl, hb3⟩
  have HB3 := Lib.hid (HBB.out.trans (hb3.mono HBB.out.size))
  have hRA3 := HRA.out.later hb3
  have hRB3 := HRB.out.later hb3
  clear hca hcb HCA HCB hb3
  go_wp2_with (refine stop_at (some 5) rfl ?_)
  refine Stop.go (wpList_alloc rfl 32 rfl zero_rec32 rfl ?_)
  refine wpList_store_agg rfl 32 rfl rfl rfl (store_new2 (g := w3.heap.size) rfl (recv_cells ..) (rec32_size _ _ _ _ _ _ _ HA.out.1 HA.out.2) (by rw [List.size_toArray, recCells_length, recCells_length, HA.out.1, HA.out.2]; rfl) (recCells_one _ _ _ _ _ _ _ _ _)) ?_
  have hb4 : Below w3.heap.size w3 (w3.alloc (.cells (recCells a.kind a.seq a.kh a.kk a.mh a.ms (.slice A1 a.keys.length c1)).toArray 32)) := (Below.refl _ _).alloc (Nat.le_refl _) _
  have HRA4 := Lib.hid (hRA3.later hb4)
  have HRB4 := Lib.hid (hRB3.later hb4)
  have HRP4 := Lib.hid (RecAt.new (t := 32) (v := .slice A1 a.keys.length c1) (kind := a.kind) (seq := a.seq) (kk := a.kk) (ms := a.ms) w3 HA.out.1 HA.out.2)
  have HB4 := Lib.hid (HB3.out.trans (hb4.mono HB3.out.size))
  clear hb4 hRA3 hRB3 HB3 HRA HRB HBB
  generalize w3.alloc (.cells (recCells a.kind a.seq a.kh a.kk a.mh a.ms (.slice A1 a.keys.length c1)).toArray 32) = w4 at *
  generalize w3.heap.size = m at *
  generalize hac : Act.put _ _ _ = a9
  simp [Act.put] at hac
  subst hac
  go_wp2_with (refine stop_at (some 24) rfl ?_)
  refine Stop.go (wpList_load_agg rfl 29 rfl rfl recTy_u rfl (rec_size _ _ _ _ _ _ _ HA.out.1 HA.out.2) HRA4.out.all_ ?_)
  go_wp2_with fail
  refine (line_any a A1 a.keys.length c1 B w4 HA.out (H1.out.below (HB4.out.mono HBW.out)) (Nat.le_trans HBW.out HB4.out.size) HK1.out).mono ?_
  rintro e w5 ⟨hcase, hb5⟩
  have HB5 := Lib.hid (HB4.out.trans (hb5.mono HB4.out.size))
  have HRA5 := Lib.hid (HRA4.out.later hb5)
  have HRB5 := Lib.hid (HRB4.out.later hb5)
  have HRP5 := Lib.hid (HRP4.out.later hb5)
  have HS45 := Lib.hid hb5.size
  clear hb5
  have hxy : ∃ x y, e = .returned (.tuple #[x, y]) ∧ ((rightB a = false ∧ x = .slice none 0 0 ∧ y = .int .i64 1) ∨ (rightB a = true ∧ y = .int .i64 0 ∧ w5.ownsRow w4.heap.size 5 1 x (lineL a).length (bcells (lineL a)))) := by
    unfold LineTo at hcase
    cases hR : rightB a with
    | false =>
      rw [hR, if_neg (by simp)] at hcase
      exact ⟨_, _, hcase, .inl ⟨rfl, rfl, rfl⟩⟩
    | true =>
      rw [hR, if_pos rfl] at hcase
      obtain ⟨v, he, ho⟩ := hcase
      exact ⟨_, _, he, .inr ⟨rfl, rfl, ho⟩⟩
  obtain ⟨x, y, rfl, hxy⟩ := hxy
  have HXY := Lib.hid hxy
  obtain ⟨rb, hrb⟩ : ∃ rb, rb = rightB a := ⟨_, rfl⟩
  have HRB := Lib.hid hrb
  clear hxy hcase HRA4 HRB4 HRP4 HB4 hrb
  go_wp2_with fail
  refine wpT_grow [1, 3, 8, 11, 12] [0, 2, 6, 7, 9, 10] [] (by kernel_rfl) (by kernel_rfl) ?_
  have HB5d := Lib.hid (HB5.out.drew)
  refine wpT_seg 1 (by decide) (fun Q1 hQ1 => ?_)
  simp only [List.take_succ_cons, List.take_zero]
  refine wpList_load_agg rfl 29 rfl rfl recTy_u rfl (rec_size _ _ _ _ _ _ _ HA.out.1 HA.out.2) HRA5.out.all_ ?_
  refine hQ1 _ _ ?_
  simp only [List.drop_succ_cons, List.drop_zero]
  generalize hac : Act.put _ _ _ = a9
  simp [Act.put] at hac
  subst hac
  refine wpT_one (fun Q1 hQ1 => ?_)
  go_wp2_with fail
  refine (right32_any a A1 a.keys.length c1 B _ HA.out (H1.out.below (HB5d.out.mono HBW.out)) (Nat.le_trans HBW.out HB5d.out.size)).mono ?_
  rw [rightP_eq, ← HRB.out]
  rintro e w6 ⟨rfl, hb⟩
  have HD6 := Lib.hid hb
  have HT6 := Lib.hid (below_drew HD6.out)
  have HB6 := Lib.hid (HB5.out.trans (HT6.out.mono HB5.out.size))
  have HRA6 := Lib.hid (HRA5.out.later HT6.out)
  have HRB6 := Lib.hid (HRB5.out.later HT6.out)
  have HRP6 := Lib.hid (HRP5.out.later HT6.out)
  clear hb
  go_wp2_with fail
  refine ⟨HD6.out, ?_⟩
  refine wpT_seg 1 (by decide) (fun Q1 hQ1 => ?_)
  simp only [List.take_succ_cons, List.take_zero]
  refine wpList_load_agg rfl 32 rfl rfl rec32Ty_u rfl (rec32_size _ _ _ _ _ _ _ HA.out.1 HA.out.2) HRP6.out.all_ ?_
  refine hQ1 _ _ ?_
  simp only [List.drop_succ_cons, List.drop_zero]
  generalize hac : Act.put _ _ _ = a9
  simp [Act.put] at hac
  subst hac
  refine wpT_one (fun Q1 hQ1 => ?_)
  go_wp2_with fail
  refine (refRight_any a A1 a.keys.length c1 B w6 HA.out (H1.out.below (HB6.out.mono HBW.out)) (Nat.le_trans HBW.out HB6.out.size)).mono ?_
  rw [← HRB.out]
  rintro e w7 ⟨rfl, hb⟩
  have HD7 := Lib.hid (HD6.out.trans (hb.mono HD6.out.size))
  have HT7 := Lib.hid (below_drew HD7.out)
  have HB7 := Lib.hid (HB5.out.trans (HT7.out.mono HB5.out.size))
  have HRA7 := Lib.hid (HRA5.out.later HT7.out)
  have HRB7 := Lib.hid (HRB5.out.later HT7.out)
  have HRP7 := Lib.hid (HRP5.out.later HT7.out)
  clear hb
  go_wp2_with fail
  refine ⟨HD7.out, ?_⟩
  refine wpT_seg 2 (by decide) (fun Q1 hQ1 => ?_)
  simp only [List.take_succ_cons, List.take_zero]
  go_wp2_with fail
  try simp only [List.drop_succ_cons, List.drop_zero]
  refine wpT_seg 1 (by decide) (fun Q1 hQ1 => ?_)
  simp only [List.take_succ_cons, List.take_zero]
  refine wpList_load_aggG (by rfl) 29 rfl rfl recTy_u rfl (rec_size _ _ _ _ _ _ _ HA.out.1 HA.out.2) HRA7.out.all_ ?_
  refine hQ1 _ _ ?_
  simp only [List.drop_succ_cons, List.drop_zero]
  generalize hac : Act.put _ _ _ = a9
  simp [Act.put] at hac
  subst hac
  refine wpT_seg 1 (by decide) (fun Q1 hQ1 => ?_)
  simp only [List.take_succ_cons, List.take_zero]
  refine wpList_load_aggG (by rfl) 29 rfl rfl recTy_u rfl (rec_size _ _ _ _ _ _ _ HB.out.1 HB.out.2) HRB7.out.all_ ?_
  refine hQ1 _ _ ?_
  simp only [List.drop_succ_cons, List.drop_zero]
  generalize hac : Act.put _ _ _ = a9
  simp [Act.put] at hac
  subst hac
  refine wpT_one (fun Q1 hQ1 => ?_)
  go_wp2_with fail
  refine (same_any a b A1 A2 a.keys.length c1 b.keys.length c2 B B w7 HA.out HB.out (H1.out.below (HB7.out.mono HBW.out)) (H2.out.below (HB7.out.mono HBW.out)) (Nat.le_trans HBW.out HB7.out.size) (Nat.le_trans HBW.out HB7.out.size)).mono ?_
  rintro e w8 ⟨rfl, hb⟩
  have HD8 := Lib.hid (HD7.out.trans (hb.mono HD7.out.size))
  have HT8 := Lib.hid (below_drew HD8.out)
  have HB8 := Lib.hid (HB5.out.trans (HT8.out.mono HB5.out.size))
  have HRA8 := Lib.hid (HRA5.out.later HT8.out)
  have HRB8 := Lib.hid (HRB5.out.later HT8.out)
  have HRP8 := Lib.hid (HRP5.out.later HT8.out)
  clear hb
  go_wp2_with fail
  refine ⟨HD8.out, ?_⟩
  refine wpT_seg 1 (by decide) (fun Q1 hQ1 => ?_)
  simp only [List.take_succ_cons, List.take_zero]
  refine wpList_load_aggG (by rfl) 32 rfl rfl rec32Ty_u rfl (rec32_size _ _ _ _ _ _ _ HA.out.1 HA.out.2) HRP8.out.all_ ?_
  refine hQ1 _ _ ?_
  simp only [List.drop_succ_cons, List.drop_zero]
  generalize hac : Act.put _ _ _ = a9
  simp [Act.put] at hac
  subst hac
  refine wpT_seg 1 (by decide) (fun Q1 hQ1 => ?_)
  simp only [List.take_succ_cons, List.take_zero]
  refine wpList_load_aggG (by rfl) 29 rfl rfl recTy_u rfl (rec_size _ _ _ _ _ _ _ HB.out.1 HB.out.2) HRB8.out.all_ ?_
  refine hQ1 _ _ ?_
  simp only [List.drop_succ_cons, List.drop_zero]
  generalize hac : Act.put _ _ _ = a9
  simp [Act.put] at hac
  subst hac
  refine wpT_one (fun Q1 hQ1 => ?_)
  go_wp2_with fail
  refine (plain_any b.kind b.seq b.kh b.kk b.mh b.ms A2 b.keys.length c2 w8 HB.out.1 HB.out.2).mono ?_
  rintro e w9 ⟨rfl, hb⟩
  have HD9 := Lib.hid (HD8.out.trans (hb.mono HD8.out.size))
  have HT9 := Lib.hid (below_drew HD9.out)
  have HB9 := Lib.hid (HB5.out.trans (HT9.out.mono HB5.out.size))
  have HRA9 := Lib.hid (HRA5.out.later HT9.out)
  have HRB9 := Lib.hid (HRB5.out.later HT9.out)
  have HRP9 := Lib.hid (HRP5.out.later HT9.out)
  clear hb
  go_wp2_with fail
  refine ⟨HD9.out, ?_⟩
  refine wpT_one (fun Q1 hQ1 => ?_)
  go_wp2_with fail
  refine (same32_any a b A1 A2 a.keys.length c1 b.keys.length c2 B B w9 HA.out HB.out (H1.out.below (HB9.out.mono HBW.out)) (H2.out.below (HB9.out.mono HBW.out)) (Nat.le_trans HBW.out HB9.out.size) (Nat.le_trans HBW.out HB9.out.size)).mono ?_
  rintro e w10 ⟨rfl, hb⟩
  have HD10 := Lib.hid (HD9.out.trans (hb.mono HD9.out.size))
  have HT10 := Lib.hid (below_drew HD10.out)
  have HB10 := Lib.hid (HB5.out.trans (HT10.out.mono HB5.out.size))
  have HRA10 := Lib.hid (HRA5.out.later HT10.out)
  have HRB10 := Lib.hid (HRB5.out.later HT10.out)
  have HRP10 := Lib.hid (HRP5.out.later HT10.out)
  clear hb
  go_wp2_with fail
  refine ⟨HD10.out, ?_⟩
  refine wpT_seg 2 (by decide) (fun Q1 hQ1 => ?_)
  simp only [List.take_succ_cons, List.take_zero]
  go_wp2_with fail
  try simp only [List.drop_succ_cons, List.drop_zero]
  refine wpT_end ⟨by rfl, ⟨(fun _ => ⟨_, _, rfl, by simpa using HRA5.out.all_ 0 _ rfl⟩), (fun _ => ⟨_, _, rfl, by simpa using HRP5.out.all_ 0 _ rfl⟩), (fun _ => ⟨_, _, rfl, by simpa using HRA5.out.all_ 0 _ rfl⟩), (fun _ => ⟨_, _, rfl, by simpa using HRB5.out.all_ 0 _ rfl⟩), (fun _ => ⟨_, _, rfl, by simpa using HRP5.out.all_ 0 _ rfl⟩), (fun _ => ⟨_, _, rfl, by simpa using HRB5.out.all_ 0 _ rfl⟩), trivial⟩, ?_⟩
  go_wp2_with (refine stop_at (some 43) rfl ?_)
  refine Stop.go (wpList_load_agg rfl 32 rfl rfl rec32Ty_u rfl (rec32_size _ _ _ _ _ _ _ HA.out.1 HA.out.2) HRP10.out.all_ ?_)
  have HO10 := Lib.hid HT10.out
  clear HRA6 HRB6 HRP6 HRA7 HRB7 HRP7 HRA8 HRB8 HRP8 HRA9 HRB9 HRP9 HD6 HD7 HD8 HD9 HD10 HB6 HB7 HB8 HB9 HT6 HT7 HT8 HT9
  go_wp2_with fail
  refine (refRight_any a A1 a.keys.length c1 B w10 HA.out (H1.out.below (HB10.out.mono HBW.out)) (Nat.le_trans HBW.out HB10.out.size)).mono ?_
  rw [← HRB.out]
  rintro e w11 ⟨rfl, hb⟩
  have HT11 := Lib.hid (HT10.out.trans (hb.mono HT10.out.size))
  have HB11 := Lib.hid (HB10.out.trans (hb.mono HB10.out.size))
  have HRA11 := Lib.hid (HRA10.out.later hb)
  have HRB11 := Lib.hid (HRB10.out.later hb)
  have HRP11 := Lib.hid (HRP10.out.later hb)
  clear hb
  cases rb with
  | false =>
    rcases HXY.out with ⟨_, rfl, rfl⟩ | ⟨h, _⟩
    · go_wp2_with fail
      refine (awake32_any w11).mono ?_
      rintro e w12 ⟨rfl, hb⟩
      go_wp2_with fail
      go_ret
      exact ⟨rfl, HB11.out.trans (hb.mono HB11.out.size)⟩
    · exact absurd (HRB.out.trans h) (by decide)
  | true =>
    rcases HXY.out with ⟨h, _⟩ | ⟨hR, rfl, hown⟩
    · exact absurd (HRB.out.trans h) (by decide)
    have HG := Lib.hid (show GoodR a from ⟨hR, HA.out, HK1.out⟩)
    have hll := line_le HG.out
    have HO := Lib.hid (own_below hown HT11.out)
    obtain ⟨AL, cL, rfl, hcL, _⟩ := own_form hown
    have HCL := Lib.hid hcL
    clear hown HXY HT10 HO10 HRA10 HRB10 HRP10 hR hcL
    go_wp2_with fail
    refine (parse32_any (lineL a) AL cL w11.heap.size w11 (Rd.of_own HO.out) (Nat.le_refl _) (by omega) HCL.out).mono ?_
    rintro e w12 ⟨hb, hcase⟩
    rcases hcase with ⟨hno, _⟩ | ⟨r, v8, hsome, rfl, hks⟩
    · rw [parseL_line HG.out] at hno
      cases hno
    have hra : a = r := by
      have := (parseL_line HG.out).symm.trans hsome
      injection this
    subst hra
    obtain ⟨AK, cK, rfl, _, _⟩ := own_form hks.1
    have HT12 := Lib.hid (HT11.out.trans (hb.mono HT11.out.size))
    have HB12 := Lib.hid (HB11.out.trans (hb.mono HB11.out.size))
    have hP12 := HRP11.out.later hb
    have hO12 := own_below HO.out hb
    go_wp2_with (refine stop_at (some 8) rfl ?_)
    refine Stop.go (wpList_alloc rfl 29 rfl zero_rec rfl ?_)
    refine wpList_store_agg rfl 29 rfl rfl rfl (store_new2 (g := w12.heap.size) rfl (recv_cells ..) (rec_size _ _ _ _ _ _ _ HA.out.1 HA.out.2) (by rw [List.size_toArray, recCells_length, recCells_length, HA.out.1, HA.out.2]; rfl) (recCells_one _ _ _ _ _ _ _ _ _)) ?_
    have hb3 : Below w12.heap.size w12 (w12.alloc (.cells (recCells a.kind a.seq a.kh a.kk a.mh a.ms (.slice AK a.keys.length cK)).toArray 29)) := (Below.refl _ _).alloc (Nat.le_refl _) _
    have HR8 := Lib.hid (RecAt.new (t := 29) (v := .slice AK a.keys.length cK) (kind := a.kind) (seq := a.seq) (kk := a.kk) (ms := a.ms) w12 HA.out.1 HA.out.2)
    have HRP := Lib.hid (hP12.later hb3)
    have HO13 := Lib.hid (own_below hO12 hb3)
    have HKS := Lib.hid (hks.later hb3)
    have HB13 := Lib.hid (HB12.out.trans (hb3.mono HB12.out.size))
    clear hb3 hb hP12 hO12 hks hsome HO HB12 HT12 HT11 HB11 HRA11 HRB11 HRP11
    generalize w12.alloc (.cells (recCells a.kind a.seq a.kh a.kk a.mh a.ms (.slice AK a.keys.length cK)).toArray 29) = w13 at *
    generalize w12.heap.size = m8 at *
    generalize hac : Act.put _ _ _ = a9
    simp [Act.put] at hac
    subst hac
    obtain ⟨sa, hsa⟩ : ∃ sa : ByteArray, sa = ⟨(lineL a).toArray⟩ := ⟨_, rfl⟩
    obtain ⟨N, hN⟩ : ∃ N, N = (lineL a).length := ⟨_, rfl⟩
    have HN := Lib.hid hN
    have HSA := Lib.hid hsa
    have hcv : ∀ w', Below w13.heap.size w13 w' → (convert 34 9 (.slice AL N cL)).run Tryd.prog w' = .ok (.string sa) w' := by
      intro w' hb
      rw [HSA.out]
      exact conv_bytes (P := Tryd.prog) (Rd.of_own (own_below HO13.out hb)) Tryd.underlying34 Tryd.underlying5 Tryd.underlying9 N HN.out cL
    have HCV := Lib.hid hcv
    rw [← hN]
    clear hcv hsa hN hll
    have hcv1 := HCV.out _ (Below.refl _ _).drew
    go_wp2_with fail
    refine wpT_grow [6, 7, 17, 18, 21] [4, 5, 15, 16] [4, 7] (by kernel_rfl) (by kernel_rfl) ?_
    refine wpT_seg 5 (by decide) (fun Q1 hQ1 => ?_)
    simp only [List.take_succ_cons, List.take_zero]
    go_wp2_with fail
    try simp only [List.drop_succ_cons, List.drop_zero]
    refine wpT_seg 1 (by decide) (fun Q1 hQ1 => ?_)
    simp only [List.take_succ_cons, List.take_zero]
    refine wpList_load_aggG (by rfl) 32 rfl rfl rec32Ty_u rfl (rec32_size _ _ _ _ _ _ _ HA.out.1 HA.out.2) HRP.out.all_ ?_
    refine hQ1 _ _ ?_
    simp only [List.drop_succ_cons, List.drop_zero]
    generalize hac : Act.put _ _ _ = a9
    simp [Act.put] at hac
    subst hac
    refine wpT_one (fun Q1 hQ1 => ?_)
    go_wp2_with fail
    have HB13d := Lib.hid (HB13.out.drew)
    refine (line32_any a A1 a.keys.length c1 B _ HA.out (H1.out.below (HB13d.out.mono HBW.out)) (Nat.le_trans HBW.out HB13d.out.size) HG.out.1 HK1.out).mono ?_
    rintro e w14 ⟨v, rfl, hown, hb⟩
    obtain ⟨A8, c8, rfl, _, _⟩ := own_form hown
    have HD14 := Lib.hid hb
    have HT14 := Lib.hid (below_drew HD14.out)
    have HB14 := Lib.hid (HB13.out.trans (HT14.out.mono HB13.out.size))
    have hcv2 : (convert 34 9 (.slice A8 N c8)).run Tryd.prog w14 = .ok (.string sa) w14 := by
      rw [HSA.out]
      exact conv_bytes (P := Tryd.prog) (Rd.of_own hown) Tryd.underlying34 Tryd.underlying5 Tryd.underlying9 N HN.out c8
    rw [← HN.out]
    clear hown hb hcv1
    go_wp2_with fail
    refine ⟨HD14.out, ?_⟩
    refine wpT_one (fun Q1 hQ1 => ?_)
    go_wp2_with fail
    refine ⟨HD14.out, ?_⟩
    have HRP14 := Lib.hid (HRP.out.later HT14.out)
    have HR814 := Lib.hid (HR8.out.later HT14.out)
    refine wpT_seg 7 (by decide) (fun Q1 hQ1 => ?_)
    simp only [List.take_succ_cons, List.take_zero]
    go_wp2_with fail
    try simp only [List.drop_succ_cons, List.drop_zero]
    refine wpT_seg 1 (by decide) (fun Q1 hQ1 => ?_)
    simp only [List.take_succ_cons, List.take_zero]
    refine wpList_load_aggG (by rfl) 32 rfl rfl rec32Ty_u rfl (rec32_size _ _ _ _ _ _ _ HA.out.1 HA.out.2) HRP14.out.all_ ?_
    refine hQ1 _ _ ?_
    simp only [List.drop_succ_cons, List.drop_zero]
    generalize hac : Act.put _ _ _ = a9
    simp [Act.put] at hac
    subst hac
    refine wpT_seg 1 (by decide) (fun Q1 hQ1 => ?_)
    simp only [List.take_succ_cons, List.take_zero]
    refine wpList_load_aggG (by rfl) 29 rfl rfl recTy_u rfl (rec_size _ _ _ _ _ _ _ HA.out.1 HA.out.2) HR814.out.all_ ?_
    refine hQ1 _ _ ?_
    simp only [List.drop_succ_cons, List.drop_zero]
    generalize hac : Act.put _ _ _ = a9
    simp [Act.put] at hac
    subst hac
    refine wpT_one (fun Q1 hQ1 => ?_)
    go_wp2_with fail
    refine (plain_any a.kind a.seq a.kh a.kk a.mh a.ms AK a.keys.length cK w14 HA.out.1 HA.out.2).mono ?_
    rintro e w15 ⟨rfl, hb⟩
    have HD15 := Lib.hid (HD14.out.trans (hb.mono HD14.out.size))
    have HB15 := Lib.hid (HB14.out.trans (hb.mono HB14.out.size))
    have HT15 := Lib.hid (below_drew HD15.out)
    clear hb
    go_wp2_with fail
    refine ⟨HD15.out, ?_⟩
    refine wpT_one (fun Q1 hQ1 => ?_)
    go_wp2_with fail
    refine (same32_any a a A1 AK a.keys.length c1 a.keys.length cK B w15.heap.size w15 HA.out HA.out (H1.out.below (HB15.out.mono HBW.out)) (HKS.out.later HT15.out).sl (Nat.le_trans HBW.out HB15.out.size) (Nat.le_refl _)).mono ?_
    rintro e w16 ⟨rfl, hb⟩
    have HD16 := Lib.hid (HD15.out.trans (hb.mono HD15.out.size))
    have HB16 := Lib.hid (HB15.out.trans (hb.mono HB15.out.size))
    clear hb
    rw [sameD_self]
    go_wp2_with fail
    refine ⟨HD16.out, ?_⟩
    refine wpT_seg 2 (by decide) (fun Q1 hQ1 => ?_)
    simp only [List.take_succ_cons, List.take_zero]
    go_wp2_with fail
    try simp only [List.drop_succ_cons, List.drop_zero]
    refine wpT_one (fun Q1 hQ1 => ?_)
    go_wp2_with fail
    refine (awake32_any w16).mono ?_
    rintro e w17 ⟨rfl, hb⟩
    have HD17 := Lib.hid (HD16.out.trans (hb.mono HD16.out.size))
    have HB17 := Lib.hid (HB16.out.trans (hb.mono HB16.out.size))
    clear hb
    go_wp2_with fail
    refine ⟨HD17.out, ?_⟩
    refine wpT_seg 2 (by decide) (fun Q1 hQ1 => ?_)
    simp only [List.take_succ_cons, List.take_zero]
    go_wp2_with fail
    try simp only [List.drop_succ_cons, List.drop_zero]
    refine wpT_end ⟨by rfl, ⟨(fun _ => ⟨_, fun w' hb => HCV.out w' ⟨hb.os, hb.tape, hb.output, hb.size, hb.block⟩⟩), (fun _ => ⟨_, _, rfl, by simpa using HRP.out.all_ 0 _ rfl⟩), (fun _ => ⟨_, _, rfl, by simpa using HRP.out.all_ 0 _ rfl⟩), (fun _ => ⟨_, _, rfl, by simpa using HR8.out.all_ 0 _ rfl⟩), trivial⟩, ?_⟩
    go_wp2_with fail
    go_ret
    exact ⟨rfl, HB17.out⟩
end Go.Proofs.YtfheocdciekfoaaDoor
