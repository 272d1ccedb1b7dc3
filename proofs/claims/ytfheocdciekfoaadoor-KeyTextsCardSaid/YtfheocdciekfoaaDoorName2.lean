/- Contract of key.Read, every world that holds the library's tables. -/
import Derived.Test.YtfheocdciekfoaaDoorName1
import Derived.Test.YtfheocdciekfoaaDoorKeyParse
namespace Go.Proofs.YtfheocdciekfoaaDoor
open Go.RowKit

def ReadRel (l : List UInt8) (w0 : World) (k : Int) (wr : World) : Prop :=
  (∀ j : Int, 1 ≤ j → j < k → tryL j l = none) ∧ wr.heap[w0.heap.size]? = some (.cells (nmCells noName).toArray 68 (0, 0)) ∧ Below w0.heap.size w0 wr ∧ Tabs wr
theorem candL_len (k : Int) (t : List UInt8) : (candL k t).h.length = 32 := by
  unfold candL
  split
  · split
    · rename_i b kk h
      exact (text_keyOf t b kk h).2.1
    · rfl
  · rfl
theorem readL_len (l : List UInt8) : (readL l).h.length = 32 := by
  have ht : ∀ k x, tryL k l = some x → x.h.length = 32 := fun k x h => by
    unfold tryL at h
    split at h
    · split at h
      · cases h; exact candL_len _ _
      · cases h
    · cases h
  unfold readL
  split
  · rfl
  split
  · rfl
  split
  · rename_i x h; exact ht _ _ h
  split
  · rename_i x h; exact ht _ _ h
  split
  · rename_i x h; exact ht _ _ h
  · rfl
theorem readL_of (l : List UInt8) (k : Int) (x : NmD) (h1 : l ≠ jour) (h2 : l ≠ jnew) (hk : 1 ≤ k ∧ k ≤ 3) (hb : ∀ j : Int, 1 ≤ j → j < k → tryL j l = none) (hx : tryL k l = some x) : readL l = x := by
  have h : k = 1 ∨ k = 2 ∨ k = 3 := by omega
  unfold readL
  rw [if_neg h1, if_neg h2]
  rcases h with rfl | rfl | rfl
  · rw [hx]
  · rw [hb 1 (by decide) (by decide), hx]
  · rw [hb 1 (by decide) (by decide), hb 2 (by decide) (by decide), hx]
theorem readL_none (l : List UInt8) (h1 : l ≠ jour) (h2 : l ≠ jnew) (hb : ∀ j : Int, 1 ≤ j → j < 4 → tryL j l = none) : readL l = noName := by
  unfold readL
  rw [if_neg h1, if_neg h2, hb 1 (by decide) (by decide), hb 2 (by decide) (by decide), hb 3 (by decide) (by decide)]
theorem nm_row_key (k : Int) (b : List UInt8) (kk : Int) (hb : b.length = 32) :
    ((nmCells ⟨k, z32, 0, 0⟩).toArray.toList.take 1 ++ hkCells b kk ++ (nmCells ⟨k, z32, 0, 0⟩).toArray.toList.drop (1 + (hkCells b kk).length)).toArray = (nmCells ⟨k, b, kk, 0⟩).toArray := by
  rw [hkCells_length, hb]
  have e1 : (nmCells ⟨k, z32, 0, 0⟩).toArray.toList.take 1 = [.int .i64 k] := rfl
  have e2 : (nmCells ⟨k, z32, 0, 0⟩).toArray.toList.drop (1 + (32 + 1)) = [.int .i64 0] := rfl
  rw [e1, e2]
  simp [nmCells]
theorem nm_row_n (k : Int) (n : Int) :
    ((nmCells ⟨k, z32, 0, 0⟩).toArray.toList.take 34 ++ [Value.int .i64 n] ++ (nmCells ⟨k, z32, 0, 0⟩).toArray.toList.drop (34 + 1)).toArray = (nmCells ⟨k, z32, 0, n⟩).toArray := rfl
theorem ret_nm {fn : Func} {p : Tmp} {Q : Ending → World → Prop} (h : fn.results = #[.cell p 68]) {a : Act} {w : World} {g : Nat} {x : NmD} {fr : Nat × Nat} {t : TypeId} (hl : x.h.length = 32) (hd : a.defers = [])
    (hp : a.tmps.getD p undef = .pointer (some ⟨g, 0, none⟩)) (hg : w.heap[g]? = some (.cells (nmCells x).toArray t fr)) (hq : Q (.returned (nmv x)) w) : bodyPost Tryd.prog fn Q .ret a w :=
  bodyPost_ret (results_cell_row h _ _ g t (nmCells x).toArray fr _ hp hg nmTy_u rfl (nm_size x hl)) hd hq
theorem KeyTo.cand {w : World} {T : List UInt8} {e : Ending} {w' : World} (h : KeyTo w (keyOf T) e w') :
    ∃ b kk o, e = .returned (.tuple #[hkv b kk, .bool o]) ∧ b.length = 32 ∧ candL 1 T = ⟨1, b, kk, 0⟩ ∧ Below w.heap.size w w' := by
  unfold KeyTo at h
  unfold candL
  cases hk : keyOf T with
  | none =>
    rw [hk] at h
    exact ⟨z32, 0, false, h.1, rfl, rfl, h.2⟩
  | some p =>
    obtain ⟨b, kk⟩ := p
    rw [hk] at h
    exact ⟨b, kk, true, h.1.2, h.1.1, rfl, h.2⟩
set_option maxRecDepth 100000 in
set_option maxHeartbeats 1000000 in
theorem kread_any (l : List UInt8) (w : World) (hl : l.length ≤ 1099511627776) (ht : Tabs w) :
    Calls Tryd.prog 32 #[.string ⟨l.toArray⟩] w fun e w' => e = .returned (nmv (readL l)) ∧ Below w.heap.size w w' := by
  obtain ⟨s, hs⟩ : ∃ s : ByteArray, s = ⟨l.toArray⟩ := ⟨_, rfl⟩
  have hsz : s.size = l.length := by rw [hs]; rfl
  have htl : s.toList = l := by rw [hs]; simp
  rw [← hs]
  have HS := Lib.hid hs
  have HTL := Lib.hid htl
  clear hs htl
  have HG := Lib.hid (Go.heap_alloc_new w (.cells (nmCells noName).toArray 68))
  have HB := Lib.hid ((Below.refl _ _).alloc (Nat.le_refl _) _ : Below w.heap.size w (w.alloc (.cells (nmCells noName).toArray 68)))
  have HT := Lib.hid (ht.alloc (.cells (nmCells noName).toArray 68))
  have HTW := Lib.hid ht
  clear ht
  go_enter Tryd.func32, Tryd.ntmps32
  go_wp2_with (refine stop_at (some 2) rfl ?_)
  refine Stop.go (wpList_alloc rfl _ rfl zero_nm rfl ?_)
  by_cases h1 : l = jour
  · have h1' : s.toList = frontL 4 := by rw [HTL.out, h1]; rfl
    go_wp2_with (first | (go_at_call 61; refine (kfront_any _ _ (by decide)).mono ?_; rintro e w2 ⟨rfl, rfl⟩) | refine stop_at (some 10) rfl ?_)
    have HR := Lib.hid (show readL l = ⟨4, z32, 0, 0⟩ by unfold readL; rw [if_pos h1])
    refine Stop.go (wpList_build rfl 68 rfl (vs := #[(0, .int .i64 4)]) (by rfl) (build_nmK 4 _) ?_)
    refine wpList_store_agg rfl 68 rfl rfl rfl (store_row (nmv_cells _) (nm_size _ rfl) HG.out rfl (nmCells_one _)) ?_
    go_wp2_with fail
    refine ret_nm rfl rfl rfl rfl (setRow_heap _ _ _ _ _ _ HG.out) ?_
    exact ⟨by rw [HR.out], below_setRow HB.out (Nat.le_refl _) _⟩
  · have h1' : (s.toList == frontL 4) = false := by rw [HTL.out, beq_eq_false_iff_ne]; exact h1
    have H1 := Lib.hid h1
    clear h1
    by_cases h2 : l = jnew
    · have h2' : s.toList = frontL 5 := by rw [HTL.out, h2]; rfl
      have HR := Lib.hid (show readL l = ⟨5, z32, 0, 0⟩ by unfold readL; rw [if_neg H1.out, if_pos h2])
      clear h2
      go_wp2_with (first | (go_at_call 61; refine (kfront_any _ _ (by decide)).mono ?_; rintro e w2 ⟨rfl, rfl⟩) | refine stop_at (some 14) rfl ?_)
      refine Stop.go (wpList_build rfl 68 rfl (vs := #[(0, .int .i64 5)]) (by rfl) (build_nmK 5 _) ?_)
      refine wpList_store_agg rfl 68 rfl rfl rfl (store_row (nmv_cells _) (nm_size _ rfl) HG.out rfl (nmCells_one _)) ?_
      go_wp2_with fail
      refine ret_nm rfl rfl rfl rfl (setRow_heap _ _ _ _ _ _ HG.out) ?_
      exact ⟨by rw [HR.out], below_setRow HB.out (Nat.le_refl _) _⟩
    · have h2' : (s.toList == frontL 5) = false := by rw [HTL.out, beq_eq_false_iff_ne]; exact h2
      have H2 := Lib.hid h2
      clear h2
      go_wp2_with (go_at_call 61; refine (kfront_any _ _ (by decide)).mono ?_; rintro e w2 ⟨rfl, rfl⟩)
      go_loopw [3] (fun v3 wr => ∃ k : Int, 1 ≤ k ∧ k ≤ 4 ∧ v3 = .int .i64 k ∧ Hid (ReadRel l w k wr)) (fun v3 _ => 4 - (intOf v3).toNat)
      case atStart => exact ⟨1, by decide, by decide, rfl, ⟨fun j h3 h4 => absurd h4 (by omega), HG.out, HB.out, HT.out⟩⟩
      case round =>
        obtain ⟨k, hk1, hk4, rfl, HRR⟩ := hrel
        obtain ⟨hnone, hg, hbr, htr⟩ := HRR.out
        have HNONE := Lib.hid hnone
        have HGR := Lib.hid hg
        have HBR := Lib.hid hbr
        have HTR := Lib.hid htr
        clear hnone hg hbr htr HRR
        by_cases hk3 : k ≤ 3
        · have HCP := Lib.hid (show Lib.hasPrefix s.data.toList (frontL k) = Lib.hasPrefix l (frontL k) ∧ Lib.trimPrefix s.data.toList (frontL k) = Lib.trimPrefix l (frontL k) from by rw [HS.out]; exact ⟨rfl, rfl⟩)
          cases hpre : Lib.hasPrefix l (frontL k)
          · go_wp2_with (first | (go_at_call 61; refine (kfront_any _ _ (by omega)).mono ?_; rintro e w2 ⟨rfl, rfl⟩) | (go_at_call 63; refine (Tryd.strings_CutPrefix _ _ _).mono ?_; rintro e w2 ⟨rfl, rfl⟩; simp only [HCP.out.1, HCP.out.2, hpre]))
            refine ⟨⟨k + 1, by omega, by omega, rfl, ⟨fun j h3 h4 => ?_, HGR.out, HBR.out, HTR.out⟩⟩, by simp [intOf]; omega⟩
            by_cases hj : j = k
            · subst hj
              unfold tryL
              rw [hpre]
              rfl
            · exact HNONE.out j h3 (by omega)
          · go_wp2_with (first | (go_at_call 61; refine (kfront_any _ _ (by omega)).mono ?_; rintro e w2 ⟨rfl, rfl⟩) | (go_at_call 63; refine (Tryd.strings_CutPrefix _ _ _).mono ?_; rintro e w2 ⟨rfl, rfl⟩; simp only [HCP.out.1, HCP.out.2, hpre]) | refine stop_at (some 29) rfl ?_)
            refine Stop.go (wpList_build rfl 68 rfl (vs := #[(0, .int .i64 k)]) (by rfl) (build_nmK k _) ?_)
            refine wpList_alloc rfl 68 rfl zero_nm rfl ?_
            refine wpList_store_agg rfl 68 rfl rfl rfl (store_new2 (g := w2.heap.size) rfl (nmv_cells _) (nm_size _ rfl) rfl (nmCells_one _)) ?_
            have HTLN := Lib.hid (show (Lib.trimPrefix l (frontL k)).length ≤ 1099511627776 from Nat.le_trans (Lib.trimPrefix_le _ _) hl)
            obtain ⟨T, hT⟩ : ∃ T, T = Lib.trimPrefix l (frontL k) := ⟨_, rfl⟩
            rw [← hT] at HTLN ⊢
            have HTT := Lib.hid hT
            clear hT
            have hbn : Below w2.heap.size w2 (w2.alloc (.cells (nmCells ⟨k, z32, 0, 0⟩).toArray 68)) := (Below.refl _ _).alloc (Nat.le_refl _) _
            have HG3 := Lib.hid ((hbn.block _ (Array.getElem?_eq_some_iff.1 HGR.out).1).trans HGR.out)
            have HM3 := Lib.hid (Go.heap_alloc_new w2 (.cells (nmCells ⟨k, z32, 0, 0⟩).toArray 68))
            have HB3 := Lib.hid (HBR.out.trans (hbn.mono HBR.out.size))
            have HT3 := Lib.hid (HTR.out.below hbn)
            have HLT := Lib.hid (Array.getElem?_eq_some_iff.1 HGR.out).1
            have HSZ := Lib.hid HBR.out.size
            clear hbn HTR HBR HGR HG HB HT
            generalize w2.alloc (.cells (nmCells ⟨k, z32, 0, 0⟩).toArray 68) = w3 at *
            generalize w2.heap.size = m at *
            by_cases hk1' : k = 1
            · subst hk1'
              go_wp2_with (refine stop_at (some 34) rfl ?_)
              refine Stop.go (wpList_seg 5 _ _ _ (fun Q' hQ' => ?_))
              simp only [List.take_succ_cons, List.take_zero]
              go_wp2_with (go_at_call 27; refine (keyParse_any T _ HTLN.out).mono ?_; intro e w4 hp; obtain ⟨b, kk, o, rfl, hbl, hcand, hb4⟩ := hp.cand)
              simp only [List.drop_succ_cons, List.drop_zero]
              have HM4 := Lib.hid ((hb4.block _ (Array.getElem?_eq_some_iff.1 HM3.out).1).trans HM3.out)
              have HG4 := Lib.hid ((hb4.block _ (Array.getElem?_eq_some_iff.1 HG3.out).1).trans HG3.out)
              have HB4 := Lib.hid (HB3.out.trans (hb4.mono HB3.out.size))
              have HT4 := Lib.hid (HT3.out.below hb4)
              have HBL := Lib.hid hbl
              clear hp hb4 HM3 HG3 HB3 HT3
              have hst : (Instr.storeAt 24 (.pointer (some ⟨m, 1, none⟩)) (hkv b kk)).run Tryd.prog w4 = .ok () (w4.setRow m (nmCells ⟨1, b, kk, 0⟩).toArray) := by
                rw [store_agg (hkv_cells b kk) (key_size b kk hbl) HM4.out (by rw [hkCells_length, hbl]; decide) (hkCells_one _ _)]
                exact congrArg (fun r => Result.ok () (w4.setRow m r)) (nm_row_key 1 b kk hbl)
              refine Stop.go (wpList_store_agg rfl 24 rfl rfl rfl hst ?_)
              have hx : candL 1 (Lib.trimPrefix l (frontL 1)) = ⟨1, b, kk, 0⟩ := by rw [← HTT.out]; exact hcand
              clear hst hcand hbl
              obtain ⟨x, hxd⟩ : ∃ x : NmD, x = ⟨1, b, kk, 0⟩ := ⟨_, rfl⟩
              rw [← hxd] at hx ⊢
              have HXL := Lib.hid (show x.h.length = 32 by rw [hxd]; exact HBL.out)
              have HX := Lib.hid hx
              clear hx hxd
              have HM5 := Lib.hid (setRow_heap w4 m _ (nmCells x).toArray _ _ HM4.out)
              have HG5 := Lib.hid ((setRow_other w4 m w.heap.size (nmCells x).toArray (Nat.ne_of_lt HLT.out)).trans HG4.out)
              have HB5 := Lib.hid (below_setRow HB4.out (Nat.le_of_lt HLT.out) (nmCells x).toArray : Below w.heap.size w (w4.setRow m _))
              have HT5 := Lib.hid (HTW.out.below HB5.out)
              clear HM4 HG4 HB4 HT4
              generalize w4.setRow m (nmCells x).toArray = w5 at *
              go_wp2_with (refine stop_at (some 44) rfl ?_)
              refine Stop.go (wpList_load_agg rfl 68 rfl rfl nmTy_u rfl (nm_size x HXL.out) (row_cells HM5.out) ?_)
              obtain ⟨X, hX⟩ : ∃ X : ByteArray, X = ⟨(nameL x).toArray⟩ := ⟨_, rfl⟩
              have hXl : X.toList = nameL x := by rw [hX]; simp
              have HXS := Lib.hid hX
              have HXT := Lib.hid hXl
              clear hX hXl
              by_cases hq : nameL x = l
              · have hE : (X.toList == s.toList) = true := by rw [HTL.out, HXT.out, hq]; simp
                have HTRY := Lib.hid (show tryL 1 l = some x by unfold tryL; rw [hpre, if_pos rfl, HX.out, if_pos hq])
                have HR := Lib.hid (readL_of l 1 x H1.out H2.out ⟨hk1, hk3⟩ HNONE.out HTRY.out)
                clear hq
                go_wp2_with (first | (go_at_call 30; refine (kwrite_any x _ HXL.out HT5.out).mono ?_; rintro e w6 ⟨rfl, hb6⟩; rw [← HXS.out]) | refine stop_at (some 48) rfl ?_)
                have HM6 := Lib.hid ((hb6.block _ (Array.getElem?_eq_some_iff.1 HM5.out).1).trans HM5.out)
                have HG6 := Lib.hid ((hb6.block _ (Array.getElem?_eq_some_iff.1 HG5.out).1).trans HG5.out)
                have HB6 := Lib.hid (HB5.out.trans (hb6.mono HB5.out.size))
                clear hb6
                refine Stop.go (wpList_load_agg rfl 68 rfl rfl nmTy_u rfl (nm_size x HXL.out) (row_cells HM6.out) ?_)
                refine wpList_store_agg rfl 68 rfl rfl rfl (store_row (nmv_cells _) (nm_size _ HXL.out) HG6.out (by rw [nmCells_length, HXL.out]; rfl) (nmCells_one _)) ?_
                go_wp2_with fail
                refine ret_nm rfl HXL.out rfl rfl (setRow_heap _ _ _ _ _ _ HG6.out) ?_
                exact ⟨by rw [HR.out], below_setRow HB6.out (Nat.le_refl _) _⟩
              · have hE : (X.toList == s.toList) = false := by rw [HTL.out, HXT.out, beq_eq_false_iff_ne]; exact hq
                have HTRY := Lib.hid (show tryL 1 l = none by unfold tryL; rw [hpre, if_pos rfl, HX.out, if_neg hq])
                clear hq
                go_wp2_with (go_at_call 30; refine (kwrite_any x _ HXL.out HT5.out).mono ?_; rintro e w6 ⟨rfl, hb6⟩; rw [← HXS.out])
                have HG6 := Lib.hid ((hb6.block _ (Array.getElem?_eq_some_iff.1 HG5.out).1).trans HG5.out)
                have HB6 := Lib.hid (HB5.out.trans (hb6.mono HB5.out.size))
                refine ⟨⟨1 + 1, by omega, by omega, rfl, ⟨fun j h3 h4 => ?_, HG6.out, HB6.out, HTW.out.below HB6.out⟩⟩, by simp [intOf]⟩
                by_cases hj : j = 1
                · subst hj
                  exact HTRY.out
                · exact HNONE.out j h3 (by omega)
            · go_wp2_with (refine stop_at (some 40) rfl ?_)
              refine Stop.go (wpList_seg 5 _ _ _ (fun Q' hQ' => ?_))
              simp only [List.take_succ_cons, List.take_zero]
              go_wp2_with (go_at_call 64; refine (atoi_any T _ HTLN.out HT3.out).mono ?_; rintro e w4 ⟨ev, rfl, hb4⟩)
              simp only [List.drop_succ_cons, List.drop_zero]
              have HM4 := Lib.hid ((hb4.block _ (Array.getElem?_eq_some_iff.1 HM3.out).1).trans HM3.out)
              have HG4 := Lib.hid ((hb4.block _ (Array.getElem?_eq_some_iff.1 HG3.out).1).trans HG3.out)
              have HB4 := Lib.hid (HB3.out.trans (hb4.mono HB3.out.size))
              have HT4 := Lib.hid (HT3.out.below hb4)
              clear hb4 HM3 HG3 HB3 HT3
              have hst : (Instr.storeAt 3 (.pointer (some ⟨m, 34, none⟩)) (.int .i64 (atoiV T))).run Tryd.prog w4 = .ok () (w4.setRow m (nmCells ⟨k, z32, 0, atoiV T⟩).toArray) := by
                rw [store_agg (vs := [.int .i64 (atoiV T)]) rfl (by kernel_rfl) HM4.out (by rw [List.size_toArray, nmCells_length]; exact Nat.le_refl _) (fun u hu => by rw [List.mem_singleton.1 hu]; rfl)]
                exact congrArg (fun r => Result.ok () (w4.setRow m r)) (nm_row_n k (atoiV T))
              refine Stop.go (wpList_store_agg rfl 3 rfl rfl rfl hst ?_)
              have hx : candL k (Lib.trimPrefix l (frontL k)) = ⟨k, z32, 0, atoiV T⟩ := by rw [← HTT.out]; unfold candL; rw [if_neg hk1']
              clear hst
              obtain ⟨x, hxd⟩ : ∃ x : NmD, x = ⟨k, z32, 0, atoiV T⟩ := ⟨_, rfl⟩
              rw [← hxd] at hx ⊢
              have HXL := Lib.hid (show x.h.length = 32 by rw [hxd]; exact rfl)
              have HX := Lib.hid hx
              clear hx hxd
              have HM5 := Lib.hid (setRow_heap w4 m _ (nmCells x).toArray _ _ HM4.out)
              have HG5 := Lib.hid ((setRow_other w4 m w.heap.size (nmCells x).toArray (Nat.ne_of_lt HLT.out)).trans HG4.out)
              have HB5 := Lib.hid (below_setRow HB4.out (Nat.le_of_lt HLT.out) (nmCells x).toArray : Below w.heap.size w (w4.setRow m _))
              have HT5 := Lib.hid (HTW.out.below HB5.out)
              clear HM4 HG4 HB4 HT4
              generalize w4.setRow m (nmCells x).toArray = w5 at *
              go_wp2_with (refine stop_at (some 44) rfl ?_)
              refine Stop.go (wpList_load_agg rfl 68 rfl rfl nmTy_u rfl (nm_size x HXL.out) (row_cells HM5.out) ?_)
              obtain ⟨X, hX⟩ : ∃ X : ByteArray, X = ⟨(nameL x).toArray⟩ := ⟨_, rfl⟩
              have hXl : X.toList = nameL x := by rw [hX]; simp
              have HXS := Lib.hid hX
              have HXT := Lib.hid hXl
              clear hX hXl
              by_cases hq : nameL x = l
              · have hE : (X.toList == s.toList) = true := by rw [HTL.out, HXT.out, hq]; simp
                have HTRY := Lib.hid (show tryL k l = some x by unfold tryL; rw [hpre, if_pos rfl, HX.out, if_pos hq])
                have HR := Lib.hid (readL_of l k x H1.out H2.out ⟨hk1, hk3⟩ HNONE.out HTRY.out)
                clear hq
                go_wp2_with (first | (go_at_call 30; refine (kwrite_any x _ HXL.out HT5.out).mono ?_; rintro e w6 ⟨rfl, hb6⟩; rw [← HXS.out]) | refine stop_at (some 48) rfl ?_)
                have HM6 := Lib.hid ((hb6.block _ (Array.getElem?_eq_some_iff.1 HM5.out).1).trans HM5.out)
                have HG6 := Lib.hid ((hb6.block _ (Array.getElem?_eq_some_iff.1 HG5.out).1).trans HG5.out)
                have HB6 := Lib.hid (HB5.out.trans (hb6.mono HB5.out.size))
                clear hb6
                refine Stop.go (wpList_load_agg rfl 68 rfl rfl nmTy_u rfl (nm_size x HXL.out) (row_cells HM6.out) ?_)
                refine wpList_store_agg rfl 68 rfl rfl rfl (store_row (nmv_cells _) (nm_size _ HXL.out) HG6.out (by rw [nmCells_length, HXL.out]; rfl) (nmCells_one _)) ?_
                go_wp2_with fail
                refine ret_nm rfl HXL.out rfl rfl (setRow_heap _ _ _ _ _ _ HG6.out) ?_
                exact ⟨by rw [HR.out], below_setRow HB6.out (Nat.le_refl _) _⟩
              · have hE : (X.toList == s.toList) = false := by rw [HTL.out, HXT.out, beq_eq_false_iff_ne]; exact hq
                have HTRY := Lib.hid (show tryL k l = none by unfold tryL; rw [hpre, if_pos rfl, HX.out, if_neg hq])
                clear hq
                go_wp2_with (go_at_call 30; refine (kwrite_any x _ HXL.out HT5.out).mono ?_; rintro e w6 ⟨rfl, hb6⟩; rw [← HXS.out])
                have HG6 := Lib.hid ((hb6.block _ (Array.getElem?_eq_some_iff.1 HG5.out).1).trans HG5.out)
                have HB6 := Lib.hid (HB5.out.trans (hb6.mono HB5.out.size))
                refine ⟨⟨k + 1, by omega, by omega, rfl, ⟨fun j h3 h4 => ?_, HG6.out, HB6.out, HTW.out.below HB6.out⟩⟩, by simp [intOf]; omega⟩
                by_cases hj : j = k
                · subst hj
                  exact HTRY.out
                · exact HNONE.out j h3 (by omega)
        · obtain rfl : k = 4 := by omega
          have HR := Lib.hid (readL_none l H1.out H2.out HNONE.out)
          go_wp2_with (refine stop_at (some 49) rfl ?_)
          refine Stop.go (wpList_build rfl 68 rfl (vs := #[]) (by rfl) (build_nm0 _) ?_)
          refine wpList_store_agg rfl 68 rfl rfl rfl (store_row (nmv_cells _) (nm_size _ rfl) HGR.out rfl (nmCells_one _)) ?_
          go_wp2_with fail
          refine ret_nm rfl rfl rfl rfl (setRow_heap _ _ _ _ _ _ HGR.out) ?_
          exact ⟨by rw [HR.out], below_setRow HBR.out (Nat.le_refl _) _⟩
end Go.Proofs.YtfheocdciekfoaaDoor
