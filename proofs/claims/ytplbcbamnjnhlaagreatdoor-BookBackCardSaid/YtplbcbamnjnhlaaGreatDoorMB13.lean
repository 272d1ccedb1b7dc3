/- Texts of this proof joined: Right, Rising2. -/
import Derived.Test.YtplbcbamnjnhlaaGreatDoorMB12
import Derived.Test.YtplbcbamnjnhlaaGreatDoorMB11
namespace Go.Proofs.YtplbcbamnjnhlaaGreatDoor
open Go.RowKit

def rightP (r : RecD) : Bool := onlyOk r && sameD (onlyD r) r
theorem onlyD_hs (r : RecD) (h : Hs r) : Hs (onlyD r) := by
  obtain ⟨h1, h2⟩ := h
  unfold onlyD
  repeat' split
  all_goals first | exact ⟨h1, h2⟩ | exact ⟨rfl, rfl⟩ | exact ⟨h1, rfl⟩
theorem rec_cells {r : RecD} {w : World} {g : Nat} {v : Value} {t : TypeId} (h : w.heap[g]? = some (.cells (recCells r.kind r.seq r.kh r.kk r.mh r.ms v).toArray t (0, 0))) : ∀ j u, (recCells r.kind r.seq r.kh r.kk r.mh r.ms v)[j]? = some u → w.cell? ⟨g, 0 + j, none⟩ = some u := row_cells h
set_option maxRecDepth 100000 in
set_option maxHeartbeats 1000000 in
theorem right32_any (r : RecD) (A : Option Addr) (n c B : Nat) (w : World) (hr : Hs r) (h1 : SlR eKey w B (.slice A n c) r.keys) (hB : B ≤ w.heap.size) :
    Calls Tryz.prog 52 #[rv r (.slice A n c)] w fun e w' => e = .returned (.bool (rightP r)) ∧ Below w.heap.size w w' := by
  have HR := Lib.hid hr
  have HBW := Lib.hid hB
  have HB1 := Lib.hid ((Below.refl _ _).alloc (Nat.le_refl _) (.cells (recCells r.kind r.seq r.kh r.kk r.mh r.ms (.slice A n c)).toArray 38) : Below w.heap.size w _)
  have HG1 := Lib.hid (Go.heap_alloc_new w (.cells (recCells r.kind r.seq r.kh r.kk r.mh r.ms (.slice A n c)).toArray 38))
  have HK1 := Lib.hid (h1.fut HB1.out hB (Nat.le_refl B))
  clear hr h1 hB
  go_enter Tryz.func52, Tryz.ntmps52
  go_wp2_with (refine stop_at (some 1) rfl ?_)
  refine Stop.go (wpList_box rfl _ rfl rfl (recv_cells ..) ?_)
  generalize w.alloc (.cells (recCells r.kind r.seq r.kh r.kk r.mh r.ms (.slice A n c)).toArray 38) = w1 at *
  go_wp2_with (refine stop_at (some 6) rfl ?_)
  refine Stop.go (wpList_load_agg rfl 38 rfl rfl recTy_u rfl (rec_size _ _ _ _ _ _ _ HR.out.1 HR.out.2) (rec_cells HG1.out) ?_)
  refine wpList_seg 4 _ _ _ (fun Q' hQ' => ?_)
  simp only [List.take_succ_cons, List.take_zero]
  go_wp2_with (go_at_call 74; refine (only_any r A n c B _ HR.out HK1.out (Nat.le_trans HBW.out HB1.out.size)).mono ?_; rintro e w2 ⟨v, rfl, hk2, hb2⟩)
  try simp only [List.drop_succ_cons, List.drop_zero]
  obtain ⟨A2, c2, rfl, hv1, hv2⟩ := hk2.form
  have HO := Lib.hid (onlyD_hs r HR.out)
  refine Stop.go (wpList_alloc rfl 38 rfl zero_rec rfl ?_)
  refine wpList_store_agg rfl 38 rfl rfl rfl (store_new2 (g := w2.heap.size) rfl (recv_cells ..) (rec_size _ _ _ _ _ _ _ HO.out.1 HO.out.2) (by rw [List.size_toArray, recCells_length, recCells_length, HO.out.1, HO.out.2]; rfl) (recCells_one _ _ _ _ _ _ _ _ _)) ?_
  have hb3 := hb2.trans ((Below.refl _ _).alloc hb2.size (.cells (recCells (onlyD r).kind (onlyD r).seq (onlyD r).kh (onlyD r).kk (onlyD r).mh (onlyD r).ms (.slice A2 (onlyD r).keys.length c2)).toArray 38))
  have HG3 := Lib.hid (Go.heap_alloc_new w2 (.cells (recCells (onlyD r).kind (onlyD r).seq (onlyD r).kh (onlyD r).kk (onlyD r).mh (onlyD r).ms (.slice A2 (onlyD r).keys.length c2)).toArray 38))
  have HK3 := Lib.hid (hk2.below (((Below.refl _ _).alloc (Nat.le_refl _) (.cells (recCells (onlyD r).kind (onlyD r).seq (onlyD r).kh (onlyD r).kk (onlyD r).mh (onlyD r).ms (.slice A2 (onlyD r).keys.length c2)).toArray 38)).mono (show B ≤ w2.heap.size from Nat.le_trans (Nat.le_trans HBW.out HB1.out.size) hb2.size)))
  have HG4 := Lib.hid ((hb3.block _ (Array.getElem?_eq_some_iff.1 HG1.out).1).trans HG1.out)
  have HK4 := Lib.hid (HK1.out.below (hb3.mono (Nat.le_trans HBW.out HB1.out.size)))
  have HB3 := Lib.hid (HB1.out.trans (hb3.mono HB1.out.size))
  clear hb2 hb3 hk2 hv1 hv2
  generalize w2.alloc (.cells (recCells (onlyD r).kind (onlyD r).seq (onlyD r).kh (onlyD r).kk (onlyD r).mh (onlyD r).ms (.slice A2 (onlyD r).keys.length c2)).toArray 38) = w3 at *
  generalize w2.heap.size = m3 at *
  cases ho : onlyOk r
  · have HF := Lib.hid (show rightP r = false by unfold rightP; rw [ho]; rfl)
    clear ho
    go_wp2_with fail
    go_ret
    exact ⟨rt1 (vbool HF.out.symm), HB3.out⟩
  · have HF := Lib.hid (show rightP r = sameD (onlyD r) r by unfold rightP; rw [ho]; rfl)
    clear ho
    go_wp2_with (refine stop_at (some 12) rfl ?_)
    refine Stop.go (wpList_load_aggG (by rfl) 38 rfl rfl recTy_u rfl (rec_size _ _ _ _ _ _ _ HO.out.1 HO.out.2) (rec_cells HG3.out) ?_)
    refine wpList_load_aggG (by rfl) 38 rfl rfl recTy_u rfl (rec_size _ _ _ _ _ _ _ HR.out.1 HR.out.2) (rec_cells HG4.out) ?_
    go_wp2_with (go_at_call 75; refine (same_any (onlyD r) r A2 A (onlyD r).keys.length c2 n c B B _ HO.out HR.out HK3.out HK4.out (Nat.le_trans HBW.out HB3.out.size) (Nat.le_trans HBW.out HB3.out.size)).mono ?_; rintro e w5 ⟨rfl, hb5⟩)
    go_ret
    exact ⟨rt1 (vbool HF.out.symm), HB3.out.trans (hb5.mono HB3.out.size)⟩
end Go.Proofs.YtplbcbamnjnhlaaGreatDoor
namespace Go.Proofs.YtplbcbamnjnhlaaGreatDoor
open Go.RowKit

set_option maxRecDepth 100000 in
set_option maxHeartbeats 2000000 in
theorem refRising_any (A : Option Addr) (c B n : Nat) (xs : List KeyD) (w : World) (h1 : SlR eKey w B (.slice A n c) xs) (hB : B ≤ w.heap.size) :
    Calls Tryz.prog 54 #[.slice A n c] w fun e w' => e = .returned (.bool (risingB xs)) ∧ Below w.heap.size w w' := by
  have N1 := Lib.hid h1.n_eq
  have hc1 := h1.n_le
  have H1 := Lib.hid h1
  have HBW := Lib.hid hB
  clear h1 hB
  go_enter Tryz.func54, Tryz.ntmps54
  go_wp2_with fail
  go_loopw [3] (fun v3 wr => ∃ i : Nat, i ≤ n ∧ v3 = .int .i64 i ∧ Hid (stepsOk xs i = true) ∧ Hid (Below w.heap.size w wr)) (fun v3 _ => n - (intOf v3).toNat)
  case atStart => exact ⟨0, by omega, rfl, rfl, Below.refl _ _⟩
  case round =>
    obtain ⟨i, hi, rfl, HP, HB⟩ := hrel
    by_cases hlt : i < n
    · have hlt1 : i < xs.length := by have := N1.out; omega
      have HR := Lib.hid (H1.out.below (HB.out.mono HBW.out))
      obtain ⟨b1, o1, rfl, _, hb1, l1, e1⟩ := keys_at HR.out hlt1
      obtain ⟨x1, x2, hx⟩ : ∃ x1 x2, xs[i] = (x1, x2) := ⟨_, _, rfl⟩
      rw [hx] at l1 e1
      simp only at l1 e1
      have HX := Lib.hid hx
      have E1 := Lib.hid e1
      have L1 := Lib.hid l1
      have HLT := Lib.hid (Nat.lt_of_lt_of_le hb1 (Nat.le_trans HBW.out HB.out.size))
      clear e1 hx l1
      go_wp2_with fail
      refine wpT_grow [4, 15, 20, 21] [3, 14, 19] [] (by kernel_rfl) (by kernel_rfl) ?_
      refine wpT_seg 3 (by decide) (fun Q0 hQ0 => ?_)
      simp only [List.take_succ_cons, List.take_zero]
      go_wp2_with fail
      try simp only [List.drop_succ_cons, List.drop_zero]
      refine wpT_seg 1 (by decide) (fun Q1 hQ1 => ?_)
      simp only [List.take_succ_cons, List.take_zero]
      refine wpList_load_agg rfl 34 rfl rfl keyTy.ut rfl (key_size x1 x2 L1.out) E1.out ?_
      refine hQ1 _ _ ?_
      simp only [List.drop_succ_cons, List.drop_zero]
      generalize hac : Act.put _ _ _ = a9
      simp [Act.put] at hac
      subst hac
      refine wpT_one (fun Q1 hQ1 => ?_)
      go_wp2_with fail
      refine (may_any x1 x2 _ L1.out).mono ?_
      rintro e w3 ⟨rfl, hb3⟩
      have HB3 := Lib.hid hb3
      clear hb3
      cases hk : kOk x2
      · have HF := Lib.hid (show risingB xs = false by unfold risingB; rw [stepsOk_no xs i xs.length hlt1 (by rw [stepOk_at xs i hlt1, HX.out]; simp [hk])]; rfl)
        clear hk
        go_wp2_with fail
        refine ⟨HB3.out, ?_⟩
        refine wpT_seg 1 (by decide) (fun Q2 hQ2 => ?_)
        simp only [List.take_succ_cons, List.take_zero]
        refine wpList_val rfl (v := .bool true) rfl ?_
        refine hQ2 _ _ ?_
        simp only [List.drop_succ_cons, List.drop_zero]
        generalize hac : Act.put _ _ _ = a9
        simp [Act.put] at hac
        subst hac
        refine wpT_seg 1 (by decide) (fun Q2 hQ2 => ?_)
        simp only [List.take_succ_cons, List.take_zero]
        refine wpList_val rfl (v := .bool true) rfl ?_
        refine hQ2 _ _ ?_
        simp only [List.drop_succ_cons, List.drop_zero]
        generalize hac : Act.put _ _ _ = a9
        simp [Act.put] at hac
        subst hac
        refine wpT_seg 1 (by decide) (fun Q2 hQ2 => ?_)
        simp only [List.take_succ_cons, List.take_zero]
        refine wpList_skip rfl ?_
        refine hQ2 _ _ ?_
        simp only [List.drop_succ_cons, List.drop_zero]
        generalize hac : Act.put _ _ _ = a9
        simp [Act.put] at hac
        subst hac
        refine wpT_seg 1 (by decide) (fun Q2 hQ2 => ?_)
        simp only [List.take_succ_cons, List.take_zero]
        refine wpList_skip rfl ?_
        refine hQ2 _ _ ?_
        simp only [List.drop_succ_cons, List.drop_zero]
        generalize hac : Act.put _ _ _ = a9
        simp [Act.put] at hac
        subst hac
        refine wpT_seg 1 (by decide) (fun Q2 hQ2 => ?_)
        simp only [List.take_succ_cons, List.take_zero]
        refine wpList_skip rfl ?_
        refine hQ2 _ _ ?_
        simp only [List.drop_succ_cons, List.drop_zero]
        generalize hac : Act.put _ _ _ = a9
        simp [Act.put] at hac
        subst hac
        refine wpT_seg 1 (by decide) (fun Q2 hQ2 => ?_)
        simp only [List.take_succ_cons, List.take_zero]
        refine wpList_skip rfl ?_
        refine hQ2 _ _ ?_
        simp only [List.drop_succ_cons, List.drop_zero]
        generalize hac : Act.put _ _ _ = a9
        simp [Act.put] at hac
        subst hac
        refine wpT_seg 1 (by decide) (fun Q2 hQ2 => ?_)
        simp only [List.take_succ_cons, List.take_zero]
        refine wpList_skip rfl ?_
        refine hQ2 _ _ ?_
        simp only [List.drop_succ_cons, List.drop_zero]
        generalize hac : Act.put _ _ _ = a9
        simp [Act.put] at hac
        subst hac
        refine wpT_seg 1 (by decide) (fun Q2 hQ2 => ?_)
        simp only [List.take_succ_cons, List.take_zero]
        refine wpList_skip rfl ?_
        refine hQ2 _ _ ?_
        simp only [List.drop_succ_cons, List.drop_zero]
        generalize hac : Act.put _ _ _ = a9
        simp [Act.put] at hac
        subst hac
        refine wpT_seg 1 (by decide) (fun Q2 hQ2 => ?_)
        simp only [List.take_succ_cons, List.take_zero]
        refine wpList_skip rfl ?_
        refine hQ2 _ _ ?_
        simp only [List.drop_succ_cons, List.drop_zero]
        generalize hac : Act.put _ _ _ = a9
        simp [Act.put] at hac
        subst hac
        refine wpT_seg 1 (by decide) (fun Q2 hQ2 => ?_)
        simp only [List.take_succ_cons, List.take_zero]
        refine wpList_skip rfl ?_
        refine hQ2 _ _ ?_
        simp only [List.drop_succ_cons, List.drop_zero]
        generalize hac : Act.put _ _ _ = a9
        simp [Act.put] at hac
        subst hac
        refine wpT_skip rfl ?_
        generalize hac : Act.put _ _ _ = a9
        simp [Act.put] at hac
        subst hac
        refine wpT_seg 1 (by decide) (fun Q2 hQ2 => ?_)
        simp only [List.take_succ_cons, List.take_zero]
        refine wpList_skip rfl ?_
        refine hQ2 _ _ ?_
        simp only [List.drop_succ_cons, List.drop_zero]
        generalize hac : Act.put _ _ _ = a9
        simp [Act.put] at hac
        subst hac
        refine wpT_seg 1 (by decide) (fun Q2 hQ2 => ?_)
        simp only [List.take_succ_cons, List.take_zero]
        refine wpList_skip rfl ?_
        refine hQ2 _ _ ?_
        simp only [List.drop_succ_cons, List.drop_zero]
        generalize hac : Act.put _ _ _ = a9
        simp [Act.put] at hac
        subst hac
        refine wpT_seg 1 (by decide) (fun Q2 hQ2 => ?_)
        simp only [List.take_succ_cons, List.take_zero]
        refine wpList_skip rfl ?_
        refine hQ2 _ _ ?_
        simp only [List.drop_succ_cons, List.drop_zero]
        generalize hac : Act.put _ _ _ = a9
        simp [Act.put] at hac
        subst hac
        refine wpT_seg 1 (by decide) (fun Q2 hQ2 => ?_)
        simp only [List.take_succ_cons, List.take_zero]
        refine wpList_skip rfl ?_
        refine hQ2 _ _ ?_
        simp only [List.drop_succ_cons, List.drop_zero]
        generalize hac : Act.put _ _ _ = a9
        simp [Act.put] at hac
        subst hac
        refine wpT_skip rfl ?_
        generalize hac : Act.put _ _ _ = a9
        simp [Act.put] at hac
        subst hac
        refine wpT_skip rfl ?_
        generalize hac : Act.put _ _ _ = a9
        simp [Act.put] at hac
        subst hac
        refine wpT_seg 1 (by decide) (fun Q2 hQ2 => ?_)
        simp only [List.take_succ_cons, List.take_zero]
        refine wpList_skip rfl ?_
        refine hQ2 _ _ ?_
        simp only [List.drop_succ_cons, List.drop_zero]
        generalize hac : Act.put _ _ _ = a9
        simp [Act.put] at hac
        subst hac
        refine wpT_seg 1 (by decide) (fun Q2 hQ2 => ?_)
        simp only [List.take_succ_cons, List.take_zero]
        refine wpList_skip rfl ?_
        refine hQ2 _ _ ?_
        simp only [List.drop_succ_cons, List.drop_zero]
        generalize hac : Act.put _ _ _ = a9
        simp [Act.put] at hac
        subst hac
        refine wpT_seg 1 (by decide) (fun Q2 hQ2 => ?_)
        simp only [List.take_succ_cons, List.take_zero]
        refine wpList_val rfl (v := .bool true) rfl ?_
        refine hQ2 _ _ ?_
        simp only [List.drop_succ_cons, List.drop_zero]
        generalize hac : Act.put _ _ _ = a9
        simp [Act.put] at hac
        subst hac
        refine wpT_end ⟨by rfl, ⟨(fun _ => ⟨_, _, rfl, E1.out 0 _ (List.getElem?_eq_getElem (by rw [hkCells_length]; omega))⟩), Text.no_want rfl, Text.no_want rfl, trivial⟩, ?_⟩
        go_wp2_with fail
        go_ret
        exact ⟨rt1 (vbool HF.out.symm), HB.out.trans ((below_drew HB3.out).mono HB.out.size)⟩
      · have HBT := Lib.hid (HB.out.trans ((below_drew HB3.out).mono HB.out.size))
        by_cases hi0 : i = 0
        · subst hi0
          have HS1 := Lib.hid (show stepsOk xs (0 + 1) = true by rw [stepsOk_succ, HP.out, stepOk_at xs 0 hlt1, HX.out]; simp [hk])
          clear hk
          go_wp2_with fail
          refine ⟨HB3.out, ?_⟩
          refine wpT_seg 1 (by decide) (fun Q2 hQ2 => ?_)
          simp only [List.take_succ_cons, List.take_zero]
          refine wpList_val rfl (v := .bool false) rfl ?_
          refine hQ2 _ _ ?_
          simp only [List.drop_succ_cons, List.drop_zero]
          generalize hac : Act.put _ _ _ = a9
          simp [Act.put] at hac
          subst hac
          refine wpT_seg 1 (by decide) (fun Q2 hQ2 => ?_)
          simp only [List.take_succ_cons, List.take_zero]
          refine wpList_val rfl (v := .bool false) rfl ?_
          refine hQ2 _ _ ?_
          simp only [List.drop_succ_cons, List.drop_zero]
          generalize hac : Act.put _ _ _ = a9
          simp [Act.put] at hac
          subst hac
          refine wpT_seg 1 (by decide) (fun Q2 hQ2 => ?_)
          simp only [List.take_succ_cons, List.take_zero]
          refine wpList_valG rfl (v := .int .i64 0) rfl ?_
          refine hQ2 _ _ ?_
          simp only [List.drop_succ_cons, List.drop_zero]
          generalize hac : Act.put _ _ _ = a9
          simp [Act.put] at hac
          subst hac
          refine wpT_seg 1 (by decide) (fun Q2 hQ2 => ?_)
          simp only [List.take_succ_cons, List.take_zero]
          refine wpList_valG rfl (v := .bool false) rfl ?_
          refine hQ2 _ _ ?_
          simp only [List.drop_succ_cons, List.drop_zero]
          generalize hac : Act.put _ _ _ = a9
          simp [Act.put] at hac
          subst hac
          refine wpT_seg 1 (by decide) (fun Q2 hQ2 => ?_)
          simp only [List.take_succ_cons, List.take_zero]
          refine wpList_valG rfl (v := .bool false) rfl ?_
          refine hQ2 _ _ ?_
          simp only [List.drop_succ_cons, List.drop_zero]
          generalize hac : Act.put _ _ _ = a9
          simp [Act.put] at hac
          subst hac
          refine wpT_seg 1 (by decide) (fun Q2 hQ2 => ?_)
          simp only [List.take_succ_cons, List.take_zero]
          refine wpList_skip rfl ?_
          refine hQ2 _ _ ?_
          simp only [List.drop_succ_cons, List.drop_zero]
          generalize hac : Act.put _ _ _ = a9
          simp [Act.put] at hac
          subst hac
          refine wpT_seg 1 (by decide) (fun Q2 hQ2 => ?_)
          simp only [List.take_succ_cons, List.take_zero]
          refine wpList_skip rfl ?_
          refine hQ2 _ _ ?_
          simp only [List.drop_succ_cons, List.drop_zero]
          generalize hac : Act.put _ _ _ = a9
          simp [Act.put] at hac
          subst hac
          refine wpT_seg 1 (by decide) (fun Q2 hQ2 => ?_)
          simp only [List.take_succ_cons, List.take_zero]
          refine wpList_skip rfl ?_
          refine hQ2 _ _ ?_
          simp only [List.drop_succ_cons, List.drop_zero]
          generalize hac : Act.put _ _ _ = a9
          simp [Act.put] at hac
          subst hac
          refine wpT_seg 1 (by decide) (fun Q2 hQ2 => ?_)
          simp only [List.take_succ_cons, List.take_zero]
          refine wpList_skip rfl ?_
          refine hQ2 _ _ ?_
          simp only [List.drop_succ_cons, List.drop_zero]
          generalize hac : Act.put _ _ _ = a9
          simp [Act.put] at hac
          subst hac
          refine wpT_seg 1 (by decide) (fun Q2 hQ2 => ?_)
          simp only [List.take_succ_cons, List.take_zero]
          refine wpList_skip rfl ?_
          refine hQ2 _ _ ?_
          simp only [List.drop_succ_cons, List.drop_zero]
          generalize hac : Act.put _ _ _ = a9
          simp [Act.put] at hac
          subst hac
          refine wpT_skip rfl ?_
          generalize hac : Act.put _ _ _ = a9
          simp [Act.put] at hac
          subst hac
          refine wpT_seg 1 (by decide) (fun Q2 hQ2 => ?_)
          simp only [List.take_succ_cons, List.take_zero]
          refine wpList_skip rfl ?_
          refine hQ2 _ _ ?_
          simp only [List.drop_succ_cons, List.drop_zero]
          generalize hac : Act.put _ _ _ = a9
          simp [Act.put] at hac
          subst hac
          refine wpT_seg 1 (by decide) (fun Q2 hQ2 => ?_)
          simp only [List.take_succ_cons, List.take_zero]
          refine wpList_skip rfl ?_
          refine hQ2 _ _ ?_
          simp only [List.drop_succ_cons, List.drop_zero]
          generalize hac : Act.put _ _ _ = a9
          simp [Act.put] at hac
          subst hac
          refine wpT_seg 1 (by decide) (fun Q2 hQ2 => ?_)
          simp only [List.take_succ_cons, List.take_zero]
          refine wpList_skip rfl ?_
          refine hQ2 _ _ ?_
          simp only [List.drop_succ_cons, List.drop_zero]
          generalize hac : Act.put _ _ _ = a9
          simp [Act.put] at hac
          subst hac
          refine wpT_seg 1 (by decide) (fun Q2 hQ2 => ?_)
          simp only [List.take_succ_cons, List.take_zero]
          refine wpList_skip rfl ?_
          refine hQ2 _ _ ?_
          simp only [List.drop_succ_cons, List.drop_zero]
          generalize hac : Act.put _ _ _ = a9
          simp [Act.put] at hac
          subst hac
          refine wpT_skip rfl ?_
          generalize hac : Act.put _ _ _ = a9
          simp [Act.put] at hac
          subst hac
          refine wpT_skip rfl ?_
          generalize hac : Act.put _ _ _ = a9
          simp [Act.put] at hac
          subst hac
          refine wpT_seg 1 (by decide) (fun Q2 hQ2 => ?_)
          simp only [List.take_succ_cons, List.take_zero]
          refine wpList_skip rfl ?_
          refine hQ2 _ _ ?_
          simp only [List.drop_succ_cons, List.drop_zero]
          generalize hac : Act.put _ _ _ = a9
          simp [Act.put] at hac
          subst hac
          refine wpT_seg 1 (by decide) (fun Q2 hQ2 => ?_)
          simp only [List.take_succ_cons, List.take_zero]
          refine wpList_valG rfl (v := .bool false) rfl ?_
          refine hQ2 _ _ ?_
          simp only [List.drop_succ_cons, List.drop_zero]
          generalize hac : Act.put _ _ _ = a9
          simp [Act.put] at hac
          subst hac
          refine wpT_seg 1 (by decide) (fun Q2 hQ2 => ?_)
          simp only [List.take_succ_cons, List.take_zero]
          refine wpList_val rfl (v := .bool false) rfl ?_
          refine hQ2 _ _ ?_
          simp only [List.drop_succ_cons, List.drop_zero]
          generalize hac : Act.put _ _ _ = a9
          simp [Act.put] at hac
          subst hac
          refine wpT_end ⟨by rfl, ⟨(fun _ => ⟨_, _, rfl, E1.out 0 _ (List.getElem?_eq_getElem (by rw [hkCells_length]; omega))⟩), Text.no_want rfl, Text.no_want rfl, trivial⟩, ?_⟩
          go_wp2_with fail
          refine ⟨⟨1, by omega, rfl, HS1, HBT⟩, ?_⟩
          simp [intOf]; omega
        · obtain ⟨j, rfl⟩ : ∃ j, i = j + 1 := ⟨i - 1, by omega⟩
          have hj : j < xs.length := by omega
          obtain ⟨b2, o2, hA2, _, hb2, l2, e2⟩ := keys_at HR.out hj
          injection hA2 with hA2
          injection hA2 with hA2 hA3
          subst hA2 hA3
          obtain ⟨y1, y2, hy⟩ : ∃ y1 y2, xs[j] = (y1, y2) := ⟨_, _, rfl⟩
          rw [hy] at l2 e2
          simp only at l2 e2
          have HY := Lib.hid hy
          have E2 := Lib.hid e2
          have L2 := Lib.hid l2
          have HST := Lib.hid (show stepsOk xs (j + 1 + 1) = keyLess y1 y2 x1 x2 by rw [stepsOk_succ, HP.out, stepOk_at xs (j + 1) hlt1, HX.out]; simp only [Nat.add_sub_cancel, HY.out, hk]; simp)
          have HNO := Lib.hid (show keyLess y1 y2 x1 x2 = false → risingB xs = false from fun hL => by unfold risingB; rw [stepsOk_no xs (j + 1) xs.length hlt1 (by rw [stepOk_at xs (j + 1) hlt1, HX.out]; simp only [Nat.add_sub_cancel, HY.out, hL]; simp)]; rfl)
          have E3 := Lib.hid (fun (q : Nat) (u : Value) (hu : (hkCells y1 y2)[q]? = some u) => ((below_drew HB3.out).cell (p := ⟨b1, o1 + j * 33 + q, none⟩) HLT.out).trans (e2 q u hu))
          clear hk e2 hy l2 hi0
          obtain ⟨Lb, hLb⟩ : ∃ Lb, Lb = keyLess y1 y2 x1 x2 := ⟨_, rfl⟩
          rw [← hLb] at HST HNO
          have HLB := Lib.hid hLb
          clear hLb
          have HSZ := Lib.hid (show (keyText y1 y2).length ≤ 68719476736 from by cases hk : kOk y2; rw [(keyText_ne y1 y2).2 hk]; decide; rw [keyText_len y1 y2 L2.out hk]; decide)
          have HUZ := Lib.hid (show (keyText x1 x2).length ≤ 68719476736 from by cases hk : kOk x2; rw [(keyText_ne x1 x2).2 hk]; decide; rw [keyText_len x1 x2 L1.out hk]; decide)
          obtain ⟨S, hS⟩ : ∃ S : ByteArray, S = ⟨(keyText y1 y2).toArray⟩ := ⟨_, rfl⟩
          obtain ⟨U, hU⟩ : ∃ U : ByteArray, U = ⟨(keyText x1 x2).toArray⟩ := ⟨_, rfl⟩
          have HS := Lib.hid hS
          have HU := Lib.hid hU
          clear hS hU
          go_wp2_with fail
          refine ⟨HB3.out, ?_⟩
          refine wpT_seg 9 (by decide) (fun Q2 hQ2 => ?_)
          simp only [List.take_succ_cons, List.take_zero]
          go_wp2_with fail
          try simp only [List.drop_succ_cons, List.drop_zero]
          refine wpT_seg 1 (by decide) (fun Q2 hQ2 => ?_)
          simp only [List.take_succ_cons, List.take_zero]
          refine wpList_load_aggG (by rfl) 34 rfl rfl keyTy.ut rfl (key_size y1 y2 L2.out) E3.out ?_
          refine hQ2 _ _ ?_
          simp only [List.drop_succ_cons, List.drop_zero]
          generalize hac : Act.put _ _ _ = a9
          simp [Act.put] at hac
          subst hac
          refine wpT_one (fun Q3 hQ3 => ?_)
          go_wp2_with fail
          refine (refText_any y1 y2 _ L2.out).mono ?_
          rw [← HS.out]
          rintro e w4 ⟨rfl, hb4⟩
          have HB4 := Lib.hid (HB3.out.trans (hb4.mono HB3.out.size))
          have E4 := Lib.hid (fun (q : Nat) (u : Value) (hu : (hkCells x1 x2)[q]? = some u) => ((below_drew HB4.out).cell (p := ⟨b1, o1 + (j + 1) * 33 + q, none⟩) HLT.out).trans (E1.out q u hu))
          clear hb4
          go_wp2_with fail
          refine ⟨HB4.out, ?_⟩
          refine wpT_seg 3 (by decide) (fun Q2 hQ2 => ?_)
          simp only [List.take_succ_cons, List.take_zero]
          go_wp2_with fail
          try simp only [List.drop_succ_cons, List.drop_zero]
          refine wpT_seg 1 (by decide) (fun Q2 hQ2 => ?_)
          simp only [List.take_succ_cons, List.take_zero]
          refine wpList_load_aggG (by rfl) 34 rfl rfl keyTy.ut rfl (key_size x1 x2 L1.out) E4.out ?_
          refine hQ2 _ _ ?_
          simp only [List.drop_succ_cons, List.drop_zero]
          generalize hac : Act.put _ _ _ = a9
          simp [Act.put] at hac
          subst hac
          refine wpT_one (fun Q3 hQ3 => ?_)
          go_wp2_with fail
          refine (refText_any x1 x2 _ L1.out).mono ?_
          rw [← HU.out]
          rintro e w5 ⟨rfl, hb5⟩
          have HB5 := Lib.hid (HB4.out.trans (hb5.mono HB4.out.size))
          clear hb5
          go_wp2_with fail
          refine ⟨HB5.out, ?_⟩
          refine wpT_one (fun Q3 hQ3 => ?_)
          go_wp2_with fail
          rw [HS.out, HU.out]
          refine (less09_any (keyText y1 y2) (keyText x1 x2) _ HSZ.out HUZ.out).mono ?_
          rw [show Op.bytesLess (keyText y1 y2) (keyText x1 x2) = Lb from HLB.out.symm, ← HS.out, ← HU.out]
          rintro e w6 ⟨rfl, hb6⟩
          have HB6 := Lib.hid (HB5.out.trans (hb6.mono HB5.out.size))
          clear hb6
          cases Lb
          · have HF := Lib.hid (HNO.out rfl)
            go_wp2_with fail
            refine ⟨HB6.out, ?_⟩
            refine wpT_seg 3 (by decide) (fun Q2 hQ2 => ?_)
            simp only [List.take_succ_cons, List.take_zero]
            go_wp2_with fail
            try simp only [List.drop_succ_cons, List.drop_zero]
            refine wpT_end ⟨by rfl, ⟨(fun _ => ⟨_, _, rfl, E1.out 0 _ (List.getElem?_eq_getElem (by rw [hkCells_length]; omega))⟩), (fun _ => ⟨_, _, rfl, E2.out 0 _ (List.getElem?_eq_getElem (by rw [hkCells_length]; omega))⟩), (fun _ => ⟨_, _, rfl, E1.out 0 _ (List.getElem?_eq_getElem (by rw [hkCells_length]; omega))⟩), trivial⟩, ?_⟩
            go_wp2_with fail
            go_ret
            exact ⟨rt1 (vbool HF.out.symm), HB.out.trans ((below_drew HB6.out).mono HB.out.size)⟩
          · have HBT6 := Lib.hid (HB.out.trans ((below_drew HB6.out).mono HB.out.size))
            go_wp2_with fail
            refine ⟨HB6.out, ?_⟩
            refine wpT_seg 3 (by decide) (fun Q2 hQ2 => ?_)
            simp only [List.take_succ_cons, List.take_zero]
            go_wp2_with fail
            try simp only [List.drop_succ_cons, List.drop_zero]
            refine wpT_end ⟨by rfl, ⟨(fun _ => ⟨_, _, rfl, E1.out 0 _ (List.getElem?_eq_getElem (by rw [hkCells_length]; omega))⟩), (fun _ => ⟨_, _, rfl, E2.out 0 _ (List.getElem?_eq_getElem (by rw [hkCells_length]; omega))⟩), (fun _ => ⟨_, _, rfl, E1.out 0 _ (List.getElem?_eq_getElem (by rw [hkCells_length]; omega))⟩), trivial⟩, ?_⟩
            go_wp2_with fail
            refine ⟨⟨j + 1 + 1, by omega, by simp, HST, HBT6⟩, ?_⟩
            simp [intOf]; omega
    · obtain rfl : i = n := by omega
      have HS := Lib.hid (show stepsOk xs xs.length = true by have := HP.out; rwa [N1.out] at this)
      have HZ := Lib.hid (show risingB xs = decide (1 ≤ i ∧ i ≤ 256) by unfold risingB; rw [HS.out, N1.out]; simp)
      by_cases h1 : 1 ≤ i
      · by_cases h2 : i ≤ 256
        · have HF := Lib.hid (show risingB xs = true by rw [HZ.out]; exact decide_eq_true ⟨h1, h2⟩)
          go_wp2_with fail
          go_ret
          exact ⟨rt1 (vbool (by rw [HF.out]; exact decide_eq_true (by omega))), HB.out⟩
        · have HF := Lib.hid (show risingB xs = false by rw [HZ.out]; exact decide_eq_false (fun h => h2 h.2))
          go_wp2_with fail
          go_ret
          exact ⟨rt1 (vbool (by rw [HF.out]; exact decide_eq_false (by omega))), HB.out⟩
      · have HF := Lib.hid (show risingB xs = false by rw [HZ.out]; exact decide_eq_false (fun h => h1 h.1))
        go_wp2_with fail
        go_ret
        exact ⟨rt1 (vbool HF.out.symm), HB.out⟩
end Go.Proofs.YtplbcbamnjnhlaaGreatDoor
