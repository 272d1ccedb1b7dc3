/- Texts of this proof joined: BookBackLaw, RecOpen, Laid33. -/
import Derived.Test.YtplbcbamnjnhlaaGreatDoorMB36
import Derived.Test.YtplbcbamnjnhlaaGreatDoorMB10
import Derived.Test.YtplbcbamnjnhlaaGreatDoorCards
import Derived.Test.YtplbcbamnjnhlaaGreatDoorTie
import Derived.Test.YtplbcbamnjnhlaaGreatDoorMB04
import Derived.WalkKit
import Derived.ProofKit
import Derived.OpenShut
import Derived.Deep.DeepHandedRow
namespace Go.Proofs.YtplbcbamnjnhlaaGreatDoor
open Go.RowKit

theorem ins_len {β : Type} (f : β → Bool) (x : β) (l : List β) : (ins f x l).length = l.length + 1 := (ins_perm f x l).length_eq
theorem applyD_len (b : BookD) (r : RecD) : (applyD b r).live.length ≤ b.live.length + 1 ∧ (applyD b r).pins.length ≤ b.pins.length + 1 ∧ (applyD b r).ints.length ≤ b.ints.length + 1 := by
  unfold applyD
  split
  rotate_left
  · omega
  unfold writeD
  have hp : ∀ k m, (putL k m b.live).length ≤ b.live.length + 1 := fun k m => by unfold putL; rw [ins_len]; have := outL_len b.live k; omega
  have hd : ∀ s, (dropI b.ints s).length ≤ b.ints.length := fun s => by unfold dropI; exact List.eraseP_sublist.length_le
  have hu : ∀ k, (unpinL b.pins k).length ≤ b.pins.length := fun k => List.length_filter_le _ _
  have hn : ∀ k, (pinL k b.pins).length ≤ b.pins.length + 1 := fun k => by unfold pinL; rw [ins_len]; have := hu k; omega
  split
  · simp
  split
  · simp
  split
  · split
    · rename_i i _
      have h1 := hp i.2.1 i.2.2
      have h2 := hd r.seq
      simp only
      omega
    · omega
  split
  · have h1 := hp (rkey r) (rmark r)
    simp only
    omega
  split
  · have h1 := hn (rkey r)
    simp only
    omega
  split
  · have h1 := hu (rkey r)
    simp only
    omega
  · have h1 := (foldOut_sub r.keys b.live).length_le
    simp only
    omega
theorem build_book33 (b : BookD) (A1 A2 : Option Addr) (n1 n2 c1 c2 : Nat) (w : World) (h : b.head = true) (hn : b.next = 0) : (Instr.build 30 #[(0, .bool true), (1, .slice A1 n1 c1), (2, .slice A2 n2 c2)]).run Tryz.prog w = .ok (.agg (refCells b (.slice A1 n1 c1) (.slice A2 n2 c2) nilV).toArray) w := by
  have hf : ((Tryz.prog.fieldsOf 30).mapM fun (f : Field) => do pure (f.offset, ← sizeOf f.type)).run Tryz.prog w = .ok #[(0, 1), (1, 1), (2, 1), (3, 1), (4, 1)] w := by kernel_rfl
  unfold refCells
  rw [h, hn]
  unfold Instr.build
  simp only [Sem.run_bind, zero_book33, Result.andThen_ok, run_underlying book33_u, book33D, hf]
  rfl
structure BackM (w wc : World) (g q4 : Nat) (b b' : BookD) (L P O : Value) (v : Value) (rs : List RecD) : Prop where
  book : BookAt wc g b
  row : wc.heap[q4]? = some (.cells (refCells b' L P O).toArray 30 (0, 0))
  live : SlR eItem wc wc.heap.size L (liveI b'.live)
  pins : SlR eK wc wc.heap.size P b'.pins
  ints : SlR eItem wc wc.heap.size O b'.ints
  recs : SlR eRec wc w.heap.size v rs
  below : Below w.heap.size w wc
  gle : w.heap.size ≤ g
  gq : g + 4 ≤ q4
section
variable {w wc w' : World} {g q4 : Nat} {b b' b2 : BookD} {L P O L2 P2 O2 v : Value} {rs : List RecD}
theorem BackM.lt (h : BackM w wc g q4 b b' L P O v rs) : q4 < wc.heap.size := (Array.getElem?_eq_some_iff.1 h.row).1
theorem BackM.later (h : BackM w wc g q4 b b' L P O v rs) (hb : Below wc.heap.size wc w') : BackM w w' g q4 b b' L P O v rs :=
  have hl := h.lt
  have h1 := h.gle
  have h2 := h.gq
  ⟨h.book.below hb (by omega), (hb.block _ hl).trans h.row, h.live.fut hb (Nat.le_refl _) hb.size, h.pins.fut hb (Nat.le_refl _) hb.size, h.ints.fut hb (Nat.le_refl _) hb.size, h.recs.below (hb.mono (by omega)), h.below.trans (hb.mono (by omega)), h1, h2⟩
theorem BackM.drew (h : BackM w wc g q4 b b' L P O v rs) : BackM w wc.drew g q4 b b' L P O v rs := h.later (Below.refl _ _).drew
theorem BackM.write (h : BackM w wc g q4 b b' L P O v rs) (hk : BookAt w' g b2) (hs : Beside g wc w') : BackM w w' g q4 b2 b' L P O v rs :=
  have hl := h.lt
  have h1 := h.gle
  have h2 := h.gq
  ⟨hk, (hs.block _ hl (.inr h2)).trans h.row, (sl_beside hs h.book hk (Nat.le_refl _) (by decide) (fun _ _ h => h) h.live).more hs.size, (sl_beside hs h.book hk (Nat.le_refl _) (by decide) (fun _ _ h => h) h.pins).more hs.size, (sl_beside hs h.book hk (Nat.le_refl _) (by decide) (fun _ _ h => h) h.ints).more hs.size,
    recs_beside hs h.book hk (by omega) h.recs, h.below.trans (hs.below h1 (by omega)), h1, h2⟩
theorem BackM.other (h : BackM w wc g q4 b b' L P O v rs) {q : Nat} {cs cs2 : Array Value} {t : TypeId} (hq : wc.heap[q]? = some (.cells cs t (0, 0))) (h5 : cs.size = 5) (hlt : q4 < q) : BackM w (wc.setRow q cs2) g q4 b b' L P O v rs := by
  have hl := h.lt
  have h1 := h.gle
  have h2 := h.gq
  have ho : ∀ k, k ≠ q → (wc.setRow q cs2).heap[k]? = wc.heap[k]? := fun k hk => setRow_other _ _ _ _ hk
  have hb : Below q wc (wc.setRow q cs2) := below_setRow (Below.refl _ _) (Nat.le_refl _) _
  refine ⟨h.book.below hb (by omega), (ho _ (by omega)).trans h.row, ?_, ?_, ?_, h.recs.below (hb.mono (by omega)), h.below.trans (hb.mono (by omega)), h1, h2⟩
  · rw [setRow_size]; exact sl_five hq h5 ho (by decide) (fun _ _ h => h) h.live
  · rw [setRow_size]; exact sl_five hq h5 ho (by decide) (fun _ _ h => h) h.pins
  · rw [setRow_size]; exact sl_five hq h5 ho (by decide) (fun _ _ h => h) h.ints
theorem BackM.turn (h : BackM w wc g q4 b b' L P O v rs) (hL : SlR eItem wc wc.heap.size L2 (liveI b2.live)) (hP : SlR eK wc wc.heap.size P2 b2.pins) (hO : SlR eItem wc wc.heap.size O2 b2.ints) :
    BackM w (wc.setRow q4 (refCells b2 L2 P2 O2).toArray) g q4 b b2 L2 P2 O2 v rs := by
  have hl := h.lt
  have h1 := h.gle
  have h2 := h.gq
  have ho : ∀ k, k ≠ q4 → (wc.setRow q4 (refCells b2 L2 P2 O2).toArray).heap[k]? = wc.heap[k]? := fun k hk => setRow_other _ _ _ _ hk
  have hb : Below q4 wc (wc.setRow q4 (refCells b2 L2 P2 O2).toArray) := below_setRow (Below.refl _ _) (Nat.le_refl _) _
  refine ⟨h.book.below hb (by omega), setRow_heap _ _ _ _ _ _ h.row, ?_, ?_, ?_, h.recs.below (hb.mono (by omega)), h.below.trans (hb.mono (by omega)), h1, h2⟩
  · rw [setRow_size]; exact sl_five h.row rfl ho (by decide) (fun _ _ h => h) hL
  · rw [setRow_size]; exact sl_five h.row rfl ho (by decide) (fun _ _ h => h) hP
  · rw [setRow_size]; exact sl_five h.row rfl ho (by decide) (fun _ _ h => h) hO
end
theorem RB.other {w : World} {q : Nat} {cs cs2 : Array Value} {t : TypeId} {v : Value} {b : BookD} (h : RB w w.heap.size v b) (hq : w.heap[q]? = some (.cells cs t (0, 0))) (h5 : cs.size = 5) : RB (w.setRow q cs2) (w.setRow q cs2).heap.size v b := by
  obtain ⟨L, P, O, e, hL, hP, hO⟩ := h
  have ho : ∀ k, k ≠ q → (w.setRow q cs2).heap[k]? = w.heap[k]? := fun k hk => setRow_other _ _ _ _ hk
  rw [setRow_size]
  exact ⟨L, P, O, e, sl_five hq h5 ho (by decide) (fun _ _ h => h) hL, sl_five hq h5 ho (by decide) (fun _ _ h => h) hP, sl_five hq h5 ho (by decide) (fun _ _ h => h) hO⟩
set_option maxRecDepth 100000 in
set_option maxHeartbeats 40000000 in
theorem bookBack_any (rs : List RecD) (A : Option Addr) (n c B : Nat) (w : World) (h : SlR eRec w B (.slice A n c) rs) (hB : B ≤ w.heap.size) :
    Calls Tryz.prog 3 #[.slice A n c] w fun e w' => e = .returned (.bool true) ∧ Below w.heap.size w w' := by
  have hn := h.n_eq
  subst hn
  have hcl := h.n_le
  have HFW := Lib.hid (few33_any rs A rs.length c B w h hB)
  have HS := Lib.hid h
  have HBW := Lib.hid hB
  clear h hB
  obtain ⟨n, hn⟩ : ∃ n, n = rs.length := ⟨_, rfl⟩
  rw [← hn] at HFW HS hcl ⊢
  have HN := Lib.hid hn
  clear hn
  go_enter Tryz.func3, Tryz.ntmps3
  go_wp2_with fail
  refine HFW.out.mono ?_
  rintro e w1 ⟨rfl, rfl⟩
  obtain ⟨z, hz⟩ : ∃ z, z = fewB rs := ⟨_, rfl⟩
  rw [← hz]
  have HZ := Lib.hid hz.symm
  clear hz HFW
  cases z
  · go_wp2_with fail
    refine (awake33_any w1).mono ?_
    rintro e w2 ⟨rfl, hb2⟩
    have HB2 := Lib.hid hb2
    clear hb2
    go_wp2_with fail
    go_ret
    exact ⟨rfl, HB2.out⟩
  have HN30 := Lib.hid (show n ≤ 30 by
    have := HZ.out
    unfold fewB at this
    rw [Bool.and_eq_true, decide_eq_true_eq, ← HN.out] at this
    exact this.1)
  have hn30 := HN30.out
  clear HZ
  go_wp2_with fail
  refine (new_any w1).mono ?_
  rintro e w2 ⟨rfl, hbk, hb2, hs2⟩
  have HB2 := Lib.hid hb2
  have HBK := Lib.hid hbk
  have HS2 := Lib.hid hs2
  clear hb2 hbk hs2
  go_wp2_with (refine stop_at (some 4) rfl ?_)
  refine Stop.go (wpList_alloc rfl 30 rfl zero_book33 (vs := refCells book0 nilV nilV nilV) rfl ?_)
  have HM := Lib.hid (show BackM w1 (w2.alloc (.cells (refCells book0 nilV nilV nilV).toArray 30)) w1.heap.size w2.heap.size book0 book0 nilV nilV nilV (.slice A n c) rs from by
    have hb3 : Below w2.heap.size w2 (w2.alloc (.cells (refCells book0 nilV nilV nilV).toArray 30)) := (Below.refl _ _).alloc (Nat.le_refl _) _
    have h2 := HS2.out
    have hb := HB2.out.trans (hb3.mono (by omega))
    exact ⟨HBK.out.below hb3 (by omega), Go.heap_alloc_new _ _, SlR.nil_, SlR.nil_, SlR.nil_, HS.out.fut hb HBW.out HBW.out, hb, Nat.le_refl _, by omega⟩)
  clear HB2 HBK HS2 HS HBW
  generalize w2.alloc (.cells (refCells book0 nilV nilV nilV).toArray 30) = w3 at *
  generalize w2.heap.size = q4 at *
  obtain ⟨g, hg⟩ : ∃ g, g = w1.heap.size := ⟨_, rfl⟩
  rw [← hg] at HM ⊢
  have HGE := Lib.hid hg.symm
  clear hg
  generalize hac : Act.put _ _ _ = a9
  simp [Act.put] at hac
  subst hac
  go_wp2_with fail
  go_loopw [5] (fun v5 wr => ∃ (i : Nat) (b : BookD) (L P O : Value), i ≤ n ∧ v5 = .int .i64 i ∧ Hid (BackM w1 wr g q4 b b L P O (.slice A n c) rs) ∧ Hid (Good b) ∧ Hid (b.live.length ≤ i ∧ b.pins.length ≤ i ∧ b.ints.length ≤ i)) (fun v5 _ => n - (intOf v5).toNat)
  case atStart => exact ⟨0, book0, nilV, nilV, nilV, Nat.zero_le _, rfl, HM.out, good0, ⟨Nat.le_refl _, Nat.le_refl _, Nat.le_refl _⟩⟩
  case round =>
    clear HM
    obtain ⟨i, b, L, P, O, hi, rfl, HM, HGD, HLN⟩ := hrel
    by_cases hlt : i < n
    · have hil : i < rs.length := by rw [← HN.out]; exact hlt
      obtain ⟨qr, fr, Ak, ck, hA, _, hqr, hhs, hks, hcells⟩ := rec_at HM.out.recs hil
      subst hA
      obtain ⟨r, hr⟩ : ∃ r, r = rs[i] := ⟨_, rfl⟩
      rw [← hr] at hhs hks hcells
      have HHS := Lib.hid hhs
      have HKS := Lib.hid hks
      have HCS := Lib.hid hcells
      have HRI := Lib.hid hr
      clear hhs hks hcells hqr hr
      go_wp2_with (refine stop_at (some 26) rfl ?_)
      refine Stop.go (wpList_load_agg rfl 38 rfl rfl recTy_u rfl (rec_size _ _ _ _ _ _ _ HHS.out.1 HHS.out.2) HCS.out ?_)
      generalize hac : Act.put _ _ _ = a9
      simp [Act.put] at hac
      subst hac
      go_wp2_with fail
      have hwl := HM.out.lt
      have hwq := HM.out.gq
      have hwg := HM.out.gle
      refine (write33_any g b r Ak r.keys.length ck w1.heap.size wr HM.out.book HGD.out HHS.out HKS.out (by omega)).mono ?_
      rintro e w4 ⟨rfl, hbk, hbs⟩
      have HM4 := Lib.hid (HM.out.write hbk hbs)
      clear hbk hbs HKS HCS HHS HM hwl hwq hwg
      obtain ⟨b2, hb2⟩ : ∃ b2, b2 = applyD b r := ⟨_, rfl⟩
      rw [← hb2] at HM4
      have HB2E := Lib.hid hb2
      clear hb2
      go_wp2_with fail
      refine wpF_float [5, 6, 10] [0, 4] [] (fun w' => Below w4.drew.heap.size w4.drew w') 10 _ (Below.refl _ _) (by kernel_rfl) rfl rfl (by kernel_rfl) ?_
      have HM5 := Lib.hid HM4.out.drew
      clear HM4
      generalize w4.drew = w5 at *
      obtain ⟨qr, fr, Ak, ck, hA, _, hqr, hhs, hks, hcells⟩ := rec_at HM5.out.recs hil
      injection hA with hA
      injection hA with hA1 hA2
      subst hA1 hA2
      rw [← HRI.out] at hhs hks hcells
      have HHS := Lib.hid hhs
      have HKS := Lib.hid hks
      have HCS := Lib.hid hcells
      have hqw : w1.heap.size < w5.heap.size := by have := HM5.out.lt; have := HM5.out.gq; have := HM5.out.gle; omega
      have HLD := Lib.hid (show ∀ w', Below w5.heap.size w5 w' → (Instr.loadAt 30 (.pointer (some ⟨q4, 0, none⟩))).run Tryz.prog w' = .ok (.agg (refCells b L P O).toArray) w' ∧
          (Instr.loadAt 38 (.pointer (some ⟨qr, fr + i * 69, none⟩))).run Tryz.prog w' = .ok (.agg (recCells r.kind r.seq r.kh r.kk r.mh r.ms (.slice Ak r.keys.length ck)).toArray) w' from fun w' hb =>
        ⟨load_agg book33_u rfl (book33_sz ..) (row_cells (vs := refCells b L P O) ((hb.block _ HM5.out.lt).trans HM5.out.row)) |> fun h => by simpa using h,
         load_agg recTy_u rfl (rec_size _ _ _ _ _ _ _ HHS.out.1 HHS.out.2) (fun j u hu => (hb.cell (p := ⟨qr, fr + i * 69 + j, none⟩) (Nat.lt_trans hqr hqw)).trans (HCS.out j u hu))⟩)
      clear hhs hks hcells hqr
      refine wpF_seg 5 (by decide) (fun Q0 hQ0 => ?_)
      simp only [List.take_succ_cons, List.take_zero]
      go_wp2_with (refine stop_at (some 29) rfl ?_)
      refine Stop.go (wpList_load_agg rfl 30 rfl rfl book33_u rfl (cs := refCells b L P O) (book33_sz ..) (row_cells (vs := refCells b L P O) HM5.out.row) ?_)
      generalize hac : Act.put _ _ _ = a9
      simp [Act.put] at hac
      subst hac
      refine wpList_seg 3 _ _ _ (fun Q2 hQ2 => ?_)
      simp only [List.take_succ_cons, List.take_zero]
      go_wp2_with fail
      try simp only [List.drop_succ_cons, List.drop_zero]
      refine Stop.go (wpList_load_agg rfl 38 rfl rfl recTy_u rfl (rec_size _ _ _ _ _ _ _ HHS.out.1 HHS.out.2) HCS.out ?_)
      refine hQ0 _ _ ?_
      simp only [List.drop_succ_cons, List.drop_zero]
      generalize hac : Act.put _ _ _ = a9
      simp [Act.put] at hac
      subst hac
      have HRB := Lib.hid (show ∀ wq, Below w5.heap.size w5 wq → RB wq w5.heap.size (.agg (refCells b L P O).toArray) b ∧ SlR eKey wq w1.heap.size (.slice Ak r.keys.length ck) r.keys from fun wq hb => ⟨⟨L, P, O, rfl, HM5.out.live.below hb, HM5.out.pins.below hb, HM5.out.ints.below hb⟩, HKS.out.below (hb.mono (Nat.le_of_lt hqw))⟩)
      have HSZ := Lib.hid hqw
      have HQ4 := Lib.hid HM5.out.lt
      have HL3 := Lib.hid (show b.live.length ≤ 10000 ∧ b.pins.length ≤ 10000 ∧ b.ints.length ≤ 10000 by have := HLN.out; have := HN30.out; omega)
      clear hqw HCS HKS
      refine wpF_one (by decide) rfl (fun Q1 hQ1 => ?_) (fun Q1 hQ1 => ?_)
      · refine wpList_alloc rfl 30 rfl zero_book33 (vs := refCells book0 nilV nilV nilV) rfl ?_
        have HD6 := Lib.hid ((Below.refl _ _).alloc (Nat.le_refl _) (.cells (refCells book0 nilV nilV nilV).toArray 30) : Below w5.heap.size w5 _)
        have hbb := Below.refl w5.heap.size w5
        have HB6 := Lib.hid (hbb.trans (HD6.out.mono hbb.size))
        have HQ6 := Lib.hid (Go.heap_alloc_new w5 (.cells (refCells book0 nilV nilV nilV).toArray 30))
        have HQL := Lib.hid (Nat.lt_of_lt_of_le HQ4.out hbb.size)
        clear hbb
        generalize w5.alloc (.cells (refCells book0 nilV nilV nilV).toArray 30) = w6 at *
        refine hQ1 _ _ ⟨HB6.out, ?_⟩
        generalize hac : Act.put _ _ _ = a9
        simp [Act.put] at hac
        subst hac
        refine wpX_one (by decide) (fun Q1 hQ1 => ?_)
        go_wp2_with fail
        refine (plain_any r.kind r.seq r.kh r.kk r.mh r.ms Ak r.keys.length ck w6 HHS.out.1 HHS.out.2).mono ?_
        rintro e w7 ⟨rfl, hbp⟩
        have HD7 := Lib.hid hbp
        have hbb := HB6.out
        have HB7 := Lib.hid (hbb.trans (HD7.out.mono hbb.size))
        clear hbp hbb
        go_wp2_with fail
        refine ⟨HB7.out, ?_⟩
        have HQ6 := Lib.hid ((HD7.out.block _ (Array.getElem?_eq_some_iff.1 HQ6.out).1).trans HQ6.out)
        refine wpX_one (by decide) (fun Q1 hQ1 => ?_)
        go_wp2_with fail
        refine (refApply_any b r (.agg (refCells b L P O).toArray) Ak r.keys.length ck w5.heap.size w7 (HRB.out w7 HB7.out).1 HHS.out ((HRB.out w7 HB7.out).2.more (Nat.le_of_lt HSZ.out)) HB7.out.size HL3.out).mono ?_
        rintro e w8 ⟨v8, rfl, hrb, hb8⟩
        rw [← HB2E.out] at hrb
        obtain ⟨L8, P8, O8, hv8, h8L, h8P, h8O⟩ := hrb
        subst hv8
        have HR8 := Lib.hid (show RB w8 w8.heap.size (.agg (refCells b2 L8 P8 O8).toArray) b2 from ⟨L8, P8, O8, rfl, h8L, h8P, h8O⟩)
        have HO8 := Lib.hid (refCells_one' (b := b2) h8L h8P h8O)
        have HD8 := Lib.hid hb8
        have HB8 := Lib.hid (HB7.out.trans (HD8.out.mono HB7.out.size))
        clear h8L h8P h8O hb8
        go_wp2_with fail
        refine ⟨HB8.out, ?_⟩
        have HQ6 := Lib.hid ((HD8.out.block _ (Array.getElem?_eq_some_iff.1 HQ6.out).1).trans HQ6.out)
        refine wpX_seg 3 (by decide) (fun Q1 hQ1 => ?_)
        simp only [List.take_succ_cons, List.take_zero]
        go_wp2_with fail
        try simp only [List.drop_succ_cons, List.drop_zero]
        refine wpX_skip ?_
        refine wpX_seg 1 (by decide) (fun Q1 hQ1 => ?_)
        simp only [List.take_succ_cons, List.take_zero]
        refine wpList_store_agg rfl 30 rfl rfl rfl (store_all5 HQ6.out rfl HO8.out) ?_
        refine hQ1 _ _ ?_
        simp only [List.drop_succ_cons, List.drop_zero]
        have HM8 := Lib.hid (HM5.out.later HB8.out)
        have HM9 := Lib.hid (HM8.out.other (cs2 := (refCells b2 L8 P8 O8).toArray) HQ6.out rfl HQL.out)
        have HR9 := Lib.hid (HR8.out.other (cs2 := (refCells b2 L8 P8 O8).toArray) HQ6.out rfl)
        have HQ9 := Lib.hid (setRow_heap w8 w5.heap.size _ (refCells b2 L8 P8 O8).toArray _ _ HQ6.out)
        generalize w8.setRow w5.heap.size (refCells b2 L8 P8 O8).toArray = wa at *
        generalize hac : Act.put _ _ _ = a9
        simp [Act.put] at hac
        subst hac
        refine wpX_seg 1 (by decide) (fun Q1 hQ1 => ?_)
        simp only [List.take_succ_cons, List.take_zero]
        go_wp2_with fail
        try simp only [List.drop_succ_cons, List.drop_zero]
        refine wpX_end ⟨by rfl, ⟨fun _ => ⟨_, fun w' hb => (HLD.out w' hb).1⟩, fun _ => ⟨_, fun w' hb => (HLD.out w' hb).2⟩, trivial⟩, ?_⟩
        go_wp2_with (refine stop_at (some 38) rfl ?_)
        refine Stop.go (wpList_load_agg rfl 30 rfl rfl book33_u rfl (cs := refCells b2 L8 P8 O8) (book33_sz ..) (row_cells (vs := refCells b2 L8 P8 O8) HQ9.out) ?_)
        refine wpList_store_agg rfl 30 rfl rfl rfl (store_all5 HM9.out.row rfl HO8.out) ?_
        obtain ⟨Lx, Px, Ox, hex, hxL, hxP, hxO⟩ := HR9.out
        have hex2 := congrArg Value.cells hex
        have hex3 : (refCells b2 L8 P8 O8).toArray = (refCells b2 Lx Px Ox).toArray := hex2
        rw [hex3]
        have HMB := Lib.hid (HM9.out.turn hxL hxP hxO)
        have HGB := Lib.hid (show Good b2 by rw [HB2E.out]; exact applyD_good HGD.out HHS.out)
        have HLB := Lib.hid (show b2.live.length ≤ i + 1 ∧ b2.pins.length ≤ i + 1 ∧ b2.ints.length ≤ i + 1 by rw [HB2E.out]; have := applyD_len b r; have := HLN.out; omega)
        generalize wa.setRow q4 (refCells b2 Lx Px Ox).toArray = wb at *
        clear hex hex2 hex3 hxL hxP hxO HM9 HR9 HQ9 HM8 HRB HLD HQ6 HR8 HO8
        generalize hac : Act.put _ _ _ = a9
        simp [Act.put] at hac
        subst hac
        go_wp2_with fail
        go_roundw
        case rel => exact ⟨i + 1, b2, Lx, Px, Ox, by omega, by go_num, HMB.out, HGB.out, HLB.out⟩
        case measure => simp [intOf]; omega
      · go_wp2_with fail
        refine (plain_any r.kind r.seq r.kh r.kk r.mh r.ms Ak r.keys.length ck w5 HHS.out.1 HHS.out.2).mono ?_
        rintro e w6 ⟨rfl, hbp⟩
        have HD6 := Lib.hid hbp
        have hbb := Below.refl w5.heap.size w5
        have HB6 := Lib.hid (hbb.trans (HD6.out.mono hbb.size))
        clear hbp hbb
        go_wp2_with fail
        refine ⟨HB6.out, ?_⟩
        refine wpF_one (by decide) rfl (fun Q1 hQ1 => ?_) (fun Q1 hQ1 => ?_)
        · refine wpList_alloc rfl 30 rfl zero_book33 (vs := refCells book0 nilV nilV nilV) rfl ?_
          have HD7 := Lib.hid ((Below.refl _ _).alloc (Nat.le_refl _) (.cells (refCells book0 nilV nilV nilV).toArray 30) : Below w6.heap.size w6 _)
          have hbb := HB6.out
          have HB7 := Lib.hid (hbb.trans (HD7.out.mono hbb.size))
          have HQ6 := Lib.hid (Go.heap_alloc_new w6 (.cells (refCells book0 nilV nilV nilV).toArray 30))
          have HQL := Lib.hid (Nat.lt_of_lt_of_le HQ4.out hbb.size)
          clear hbb
          generalize w6.alloc (.cells (refCells book0 nilV nilV nilV).toArray 30) = w7 at *
          refine hQ1 _ _ ⟨HB7.out, ?_⟩
          generalize hac : Act.put _ _ _ = a9
          simp [Act.put] at hac
          subst hac
          refine wpX_one (by decide) (fun Q1 hQ1 => ?_)
          go_wp2_with fail
          refine (refApply_any b r (.agg (refCells b L P O).toArray) Ak r.keys.length ck w5.heap.size w7 (HRB.out w7 HB7.out).1 HHS.out ((HRB.out w7 HB7.out).2.more (Nat.le_of_lt HSZ.out)) HB7.out.size HL3.out).mono ?_
          rintro e w8 ⟨v8, rfl, hrb, hb8⟩
          rw [← HB2E.out] at hrb
          obtain ⟨L8, P8, O8, hv8, h8L, h8P, h8O⟩ := hrb
          subst hv8
          have HR8 := Lib.hid (show RB w8 w8.heap.size (.agg (refCells b2 L8 P8 O8).toArray) b2 from ⟨L8, P8, O8, rfl, h8L, h8P, h8O⟩)
          have HO8 := Lib.hid (refCells_one' (b := b2) h8L h8P h8O)
          have HD8 := Lib.hid hb8
          have HB8 := Lib.hid (HB7.out.trans (HD8.out.mono HB7.out.size))
          clear h8L h8P h8O hb8
          go_wp2_with fail
          refine ⟨HB8.out, ?_⟩
          have HQ6 := Lib.hid ((HD8.out.block _ (Array.getElem?_eq_some_iff.1 HQ6.out).1).trans HQ6.out)
          refine wpX_seg 3 (by decide) (fun Q1 hQ1 => ?_)
          simp only [List.take_succ_cons, List.take_zero]
          go_wp2_with fail
          try simp only [List.drop_succ_cons, List.drop_zero]
          refine wpX_skip ?_
          refine wpX_seg 1 (by decide) (fun Q1 hQ1 => ?_)
          simp only [List.take_succ_cons, List.take_zero]
          refine wpList_store_agg rfl 30 rfl rfl rfl (store_all5 HQ6.out rfl HO8.out) ?_
          refine hQ1 _ _ ?_
          simp only [List.drop_succ_cons, List.drop_zero]
          have HM8 := Lib.hid (HM5.out.later HB8.out)
          have HM9 := Lib.hid (HM8.out.other (cs2 := (refCells b2 L8 P8 O8).toArray) HQ6.out rfl HQL.out)
          have HR9 := Lib.hid (HR8.out.other (cs2 := (refCells b2 L8 P8 O8).toArray) HQ6.out rfl)
          have HQ9 := Lib.hid (setRow_heap w8 w6.heap.size _ (refCells b2 L8 P8 O8).toArray _ _ HQ6.out)
          generalize w8.setRow w6.heap.size (refCells b2 L8 P8 O8).toArray = wa at *
          generalize hac : Act.put _ _ _ = a9
          simp [Act.put] at hac
          subst hac
          refine wpX_seg 1 (by decide) (fun Q1 hQ1 => ?_)
          simp only [List.take_succ_cons, List.take_zero]
          go_wp2_with fail
          try simp only [List.drop_succ_cons, List.drop_zero]
          refine wpX_end ⟨by rfl, ⟨fun _ => ⟨_, fun w' hb => (HLD.out w' hb).1⟩, fun _ => ⟨_, fun w' hb => (HLD.out w' hb).2⟩, trivial⟩, ?_⟩
          go_wp2_with (refine stop_at (some 38) rfl ?_)
          refine Stop.go (wpList_load_agg rfl 30 rfl rfl book33_u rfl (cs := refCells b2 L8 P8 O8) (book33_sz ..) (row_cells (vs := refCells b2 L8 P8 O8) HQ9.out) ?_)
          refine wpList_store_agg rfl 30 rfl rfl rfl (store_all5 HM9.out.row rfl HO8.out) ?_
          obtain ⟨Lx, Px, Ox, hex, hxL, hxP, hxO⟩ := HR9.out
          have hex2 := congrArg Value.cells hex
          have hex3 : (refCells b2 L8 P8 O8).toArray = (refCells b2 Lx Px Ox).toArray := hex2
          rw [hex3]
          have HMB := Lib.hid (HM9.out.turn hxL hxP hxO)
          have HGB := Lib.hid (show Good b2 by rw [HB2E.out]; exact applyD_good HGD.out HHS.out)
          have HLB := Lib.hid (show b2.live.length ≤ i + 1 ∧ b2.pins.length ≤ i + 1 ∧ b2.ints.length ≤ i + 1 by rw [HB2E.out]; have := applyD_len b r; have := HLN.out; omega)
          generalize wa.setRow q4 (refCells b2 Lx Px Ox).toArray = wb at *
          clear hex hex2 hex3 hxL hxP hxO HM9 HR9 HQ9 HM8 HRB HLD HQ6 HR8 HO8
          generalize hac : Act.put _ _ _ = a9
          simp [Act.put] at hac
          subst hac
          go_wp2_with fail
          go_roundw
          case rel => exact ⟨i + 1, b2, Lx, Px, Ox, by omega, by go_num, HMB.out, HGB.out, HLB.out⟩
          case measure => simp [intOf]; omega
        · go_wp2_with fail
          refine (refApply_any b r (.agg (refCells b L P O).toArray) Ak r.keys.length ck w5.heap.size w6 (HRB.out w6 HB6.out).1 HHS.out ((HRB.out w6 HB6.out).2.more (Nat.le_of_lt HSZ.out)) HB6.out.size HL3.out).mono ?_
          rintro e w8 ⟨v8, rfl, hrb, hb8⟩
          rw [← HB2E.out] at hrb
          obtain ⟨L8, P8, O8, hv8, h8L, h8P, h8O⟩ := hrb
          subst hv8
          have HR8 := Lib.hid (show RB w8 w8.heap.size (.agg (refCells b2 L8 P8 O8).toArray) b2 from ⟨L8, P8, O8, rfl, h8L, h8P, h8O⟩)
          have HO8 := Lib.hid (refCells_one' (b := b2) h8L h8P h8O)
          have HD8 := Lib.hid hb8
          have HB8 := Lib.hid (HB6.out.trans (HD8.out.mono HB6.out.size))
          clear h8L h8P h8O hb8
          go_wp2_with fail
          refine ⟨HB8.out, ?_⟩
          refine wpF_seg 3 (by decide) (fun Q1 hQ1 => ?_)
          simp only [List.take_succ_cons, List.take_zero]
          go_wp2_with fail
          try simp only [List.drop_succ_cons, List.drop_zero]
          refine wpF_at ?_
          refine wpI_one (fun Q1 hQ1 => ?_)
          refine wpList_alloc rfl 30 rfl zero_book33 (vs := refCells book0 nilV nilV nilV) rfl ?_
          have HD9 := Lib.hid ((Below.refl _ _).alloc (Nat.le_refl _) (.cells (refCells book0 nilV nilV nilV).toArray 30) : Below w8.heap.size w8 _)
          have hbb := HB8.out
          have HB9 := Lib.hid (hbb.trans (HD9.out.mono hbb.size))
          have HQ6 := Lib.hid (Go.heap_alloc_new w8 (.cells (refCells book0 nilV nilV nilV).toArray 30))
          have HQL := Lib.hid (Nat.lt_of_lt_of_le HQ4.out hbb.size)
          clear hbb
          generalize w8.alloc (.cells (refCells book0 nilV nilV nilV).toArray 30) = w9 at *
          refine hQ1 _ _ ⟨HB9.out, ?_⟩
          generalize hac : Act.put _ _ _ = a9
          simp [Act.put] at hac
          subst hac
          have hr8 := HR8.out
          have HR8 := Lib.hid (show RB w9 w9.heap.size (.agg (refCells b2 L8 P8 O8).toArray) b2 from hr8.fut HD9.out (Nat.le_refl _) HD9.out.size)
          have HB8 := HB9
          clear hr8
          refine wpI_seg 1 (by decide) (fun Q1 hQ1 => ?_)
          simp only [List.take_succ_cons, List.take_zero]
          refine wpList_store_agg rfl 30 rfl rfl rfl (store_all5 HQ6.out rfl HO8.out) ?_
          refine hQ1 _ _ ?_
          simp only [List.drop_succ_cons, List.drop_zero]
          have HM8 := Lib.hid (HM5.out.later HB8.out)
          have HM9 := Lib.hid (HM8.out.other (cs2 := (refCells b2 L8 P8 O8).toArray) HQ6.out rfl HQL.out)
          have HR9 := Lib.hid (HR8.out.other (cs2 := (refCells b2 L8 P8 O8).toArray) HQ6.out rfl)
          have HQ9 := Lib.hid (setRow_heap w9 w8.heap.size _ (refCells b2 L8 P8 O8).toArray _ _ HQ6.out)
          generalize w9.setRow w8.heap.size (refCells b2 L8 P8 O8).toArray = wa at *
          generalize hac : Act.put _ _ _ = a9
          simp [Act.put] at hac
          subst hac
          refine wpI_seg 1 (by decide) (fun Q1 hQ1 => ?_)
          simp only [List.take_succ_cons, List.take_zero]
          go_wp2_with fail
          try simp only [List.drop_succ_cons, List.drop_zero]
          refine wpI_end ⟨by rfl, ⟨fun _ => ⟨_, fun w' hb => (HLD.out w' hb).1⟩, fun _ => ⟨_, fun w' hb => (HLD.out w' hb).2⟩, trivial⟩, ?_⟩
          go_wp2_with (refine stop_at (some 38) rfl ?_)
          refine Stop.go (wpList_load_agg rfl 30 rfl rfl book33_u rfl (cs := refCells b2 L8 P8 O8) (book33_sz ..) (row_cells (vs := refCells b2 L8 P8 O8) HQ9.out) ?_)
          refine wpList_store_agg rfl 30 rfl rfl rfl (store_all5 HM9.out.row rfl HO8.out) ?_
          obtain ⟨Lx, Px, Ox, hex, hxL, hxP, hxO⟩ := HR9.out
          have hex2 := congrArg Value.cells hex
          have hex3 : (refCells b2 L8 P8 O8).toArray = (refCells b2 Lx Px Ox).toArray := hex2
          rw [hex3]
          have HMB := Lib.hid (HM9.out.turn hxL hxP hxO)
          have HGB := Lib.hid (show Good b2 by rw [HB2E.out]; exact applyD_good HGD.out HHS.out)
          have HLB := Lib.hid (show b2.live.length ≤ i + 1 ∧ b2.pins.length ≤ i + 1 ∧ b2.ints.length ≤ i + 1 by rw [HB2E.out]; have := applyD_len b r; have := HLN.out; omega)
          generalize wa.setRow q4 (refCells b2 Lx Px Ox).toArray = wb at *
          clear hex hex2 hex3 hxL hxP hxO HM9 HR9 HQ9 HM8 HRB HLD HQ6 HR8 HO8
          generalize hac : Act.put _ _ _ = a9
          simp [Act.put] at hac
          subst hac
          go_wp2_with fail
          go_roundw
          case rel => exact ⟨i + 1, b2, Lx, Px, Ox, by omega, by go_num, HMB.out, HGB.out, HLB.out⟩
          case measure => simp [intOf]; omega
    · have HL3 := Lib.hid (show b.live.length ≤ 10000 ∧ b.pins.length ≤ 10000 by have := HLN.out; have := HN30.out; omega)
      go_wp2_with fail
      clear hlt hi
      refine (lines33_any g b wr HM.out.book HGD.out HL3.out.1 HL3.out.2).mono ?_
      rintro e w4 ⟨v4, rfl, ho4, hb4⟩
      obtain ⟨A4, c4, hv4, hc4, hm4⟩ := own_form ho4
      subst hv4
      have HM4 := Lib.hid (HM.out.later hb4)
      have HO4 := Lib.hid ho4
      have HLL := Lib.hid (show (linesD b).length ≤ 68719476736 by
        have h1 := lines_le (recsD b) (recs_right HGD.out)
        have h2 : (recsD b).length = b.live.length + b.pins.length + 1 := by simp [recsD]
        have h3 := HL3.out
        have h4 : (linesD b).length = ((recsD b).flatMap lineL).length := rfl
        rw [h2] at h1
        omega)
      clear ho4 hb4 HM
      go_wp2_with fail
      refine (replay33_any (linesD b) A4 c4 w4.heap.size w4 (Rd.of_own HO4.out) (Nat.le_refl _) HLL.out hc4).mono ?_
      rintro e w5 ⟨g2, rs2, n2, hat, rfl, hbk, hg2, hb5⟩
      obtain ⟨h1, h2⟩ := all_one hat (all_linesD HGD.out)
      subst h1 h2
      rw [replay_back HGD.out] at hbk ⊢
      have HM5 := Lib.hid (HM4.out.later hb5)
      have HO5 := Lib.hid (own_below HO4.out hb5)
      have HK5 := Lib.hid (show BookAt w5 g2 (backD b) from hbk)
      clear hat hbk hg2 hb5 HM4 HO4
      obtain ⟨nL, hnL⟩ : ∃ nL, nL = (linesD b).length := ⟨_, rfl⟩
      rw [← hnL] at HO5 hc4 ⊢
      have HNL := Lib.hid hnL
      clear hnL
      obtain ⟨sa, hsa⟩ : ∃ sa : ByteArray, sa = ⟨(linesD b).toArray⟩ := ⟨_, rfl⟩
      have HCV := Lib.hid (show ∀ (wq w' : World) (A : Option Addr) (c base : Nat), wq.ownsRow base 5 1 (.slice A nL c) nL (bcells (linesD b)) → Below wq.heap.size wq w' → (convert 44 9 (.slice A nL c)).run Tryz.prog w' = .ok (.string sa) w' from fun wq w' A c base ho hb => by
        rw [hsa]
        exact conv_bytes (P := Tryz.prog) (Rd.of_own (own_below ho hb)) Tryz.underlying44 Tryz.underlying5 Tryz.underlying9 _ HNL.out c)
      clear hsa
      go_wp2_with fail
      have HM6 := Lib.hid HM5.out.drew
      have HK6 := Lib.hid (show BookAt w5.drew g2 (backD b) from HK5.out.below (Below.refl _ _).drew HK5.out.lt)
      have HO6 := Lib.hid (show w5.drew.ownsRow wr.heap.size 5 1 (.slice A4 nL c4) nL (bcells (linesD b)) from HO5.out.drew)
      clear HM5 HK5 HO5
      have HGB := Lib.hid (good_back HGD.out)
      obtain ⟨AL, cL, hLe, _, _⟩ := HM6.out.live.form
      subst hLe
      obtain ⟨AP, cP, hPe, _, _⟩ := HM6.out.pins.form
      subst hPe
      refine wpT_grow [6, 7, 14, 18, 23, 33, 37] [9, 29, 31] [7, 9] (by kernel_rfl) (by kernel_rfl) ?_
      generalize w5.drew = w6 at *
      have HC := Lib.hid (row_cell5 HM6.out.row)
      refine wpT_seg 6 (by decide) (fun Q1 hQ1 => ?_)
      simp only [List.take_succ_cons, List.take_zero]
      go_wp2_with fail
      try simp only [List.drop_succ_cons, List.drop_zero]
      refine wpT_one (fun Q1 hQ1 => ?_)
      go_wp2_with fail
      refine (lines33_any g2 (backD b) w6 HK6.out HGB.out HL3.out.1 HL3.out.2).mono ?_
      rintro e w7 ⟨v7, rfl, ho7, hb7⟩
      rw [linesD_back, ← HNL.out] at ho7
      obtain ⟨A7, c7, hv7, _, _⟩ := own_form ho7
      subst hv7
      have HB7 := Lib.hid hb7
      have HO7 := Lib.hid ho7
      clear ho7 hb7
      go_wp2_with fail
      refine ⟨HB7.out, ?_⟩
      have hcv := HCV.out w7 w7 A7 c7 _ HO7.out (Below.refl _ _)
      refine wpT_one (fun Q1 hQ1 => ?_)
      go_wp2_with fail
      refine ⟨HB7.out, ?_⟩
      clear hcv
      have hcv := HCV.out w6 w7 A4 c4 _ HO6.out HB7.out
      refine wpT_seg 6 (by decide) (fun Q1 hQ1 => ?_)
      simp only [List.take_succ_cons, List.take_zero]
      go_wp2_with fail
      try simp only [List.drop_succ_cons, List.drop_zero]
      clear hcv
      refine wpT_one (fun Q1 hQ1 => ?_)
      go_wp2_with fail
      refine (headed_any g2 (backD b) w7 (HK6.out.below HB7.out HK6.out.lt)).mono ?_
      rintro e w8 ⟨rfl, rfl⟩
      rw [show (backD b).head = true from rfl]
      go_wp2_with fail
      refine ⟨HB7.out, ?_⟩
      refine wpT_seg 3 (by decide) (fun Q1 hQ1 => ?_)
      simp only [List.take_succ_cons, List.take_zero]
      go_wp2_with fail
      try simp only [List.drop_succ_cons, List.drop_zero]
      refine wpT_one (fun Q1 hQ1 => ?_)
      go_wp2_with fail
      refine (intents_any g2 (backD b) w7 (HK6.out.below HB7.out HK6.out.lt)).mono ?_
      rintro e w8 ⟨rfl, rfl⟩
      rw [show (backD b).ints.length = 0 from rfl]
      go_wp2_with fail
      refine ⟨HB7.out, ?_⟩
      refine wpT_seg 4 (by decide) (fun Q1 hQ1 => ?_)
      simp only [List.take_succ_cons, List.take_zero]
      go_wp2_with fail
      try simp only [List.drop_succ_cons, List.drop_zero]
      refine wpT_one (fun Q1 hQ1 => ?_)
      go_wp2_with fail
      refine (next_any g2 (backD b) w7 (HK6.out.below HB7.out HK6.out.lt)).mono ?_
      rintro e w8 ⟨rfl, rfl⟩
      rw [show (backD b).next = 0 from rfl]
      go_wp2_with fail
      refine ⟨HB7.out, ?_⟩
      have HC7 := Lib.hid (row_cell5 (HM6.out.later HB7.out).row)
      have cl7 := HC7.out.2.1
      have cp7 := HC7.out.2.2.1
      refine wpT_seg 9 (by decide) (fun Q1 hQ1 => ?_)
      simp only [List.take_succ_cons, List.take_zero]
      go_wp2_with (refine stop_at (some 78) rfl ?_)
      refine Stop.go (wpList_buildG (by rfl) 30 rfl (vs := #[(0, .bool true), (1, .slice AL _ cL), (2, .slice AP _ cP)]) (by rfl) (build_book33 (backD b) AL AP _ _ cL cP _ rfl rfl) ?_)
      refine hQ1 _ _ ?_
      simp only [List.drop_succ_cons, List.drop_zero]
      generalize hac : Act.put _ _ _ = a9
      simp [Act.put] at hac
      subst hac
      clear cl7 cp7
      refine wpT_one (fun Q1 hQ1 => ?_)
      go_wp2_with fail
      refine (says33_any g2 (backD b) _ w7.heap.size w7 (HK6.out.below HB7.out HK6.out.lt) ⟨_, _, _, rfl, (HM6.out.later HB7.out).live, (HM6.out.later HB7.out).pins, SlR.nil_⟩ HGB.out (Nat.le_refl _) HL3.out).mono ?_
      rintro e w8 ⟨rfl, hb8⟩
      have HB8 := Lib.hid (HB7.out.trans (hb8.mono HB7.out.size))
      clear hb8
      go_wp2_with fail
      refine ⟨HB8.out, ?_⟩
      refine wpT_seg 3 (by decide) (fun Q1 hQ1 => ?_)
      simp only [List.take_succ_cons, List.take_zero]
      go_wp2_with fail
      try simp only [List.drop_succ_cons, List.drop_zero]
      refine wpT_one (fun Q1 hQ1 => ?_)
      go_wp2_with fail
      refine (awake33_any w8).mono ?_
      rintro e w9 ⟨rfl, hb9⟩
      have HB9 := Lib.hid (HB8.out.trans (hb9.mono HB8.out.size))
      clear hb9
      go_wp2_with fail
      refine ⟨HB9.out, ?_⟩
      refine wpT_seg 2 (by decide) (fun Q1 hQ1 => ?_)
      simp only [List.take_succ_cons, List.take_zero]
      go_wp2_with fail
      try simp only [List.drop_succ_cons, List.drop_zero]
      have cl6 := HC.out.2.1
      have cp6 := HC.out.2.2.1
      refine wpT_end ⟨by rfl, ⟨(fun _ => ⟨_, fun w' hb => HCV.out w6 w' A4 c4 _ HO6.out ⟨hb.os, hb.tape, hb.output, hb.size, hb.block⟩⟩), (fun _ => ⟨_, _, rfl, cl6⟩), (fun _ => ⟨_, _, rfl, cp6⟩), trivial⟩, ?_⟩
      have HP := Lib.hid (show Below w1.heap.size w1 w9 from (HM6.out.later HB9.out).below)
      clear cl6 cp6 HC HC7 HB9 HB8 HB7
      go_wp2_with fail
      go_ret
      exact ⟨rfl, HP.out⟩
end Go.Proofs.YtplbcbamnjnhlaaGreatDoor
namespace Go.Proofs.YtplbcbamnjnhlaaGreatDoor
open Go.ChangeShapes Go.WideShapes Go.ChangeAt Go.RowKit

section
variable {H : Type} {enc : TypeId × Value → H}
theorem opens_key32 : Opens enc Tryz.prog eKey 34 := opens_two Tryz.underlying34 (opens_bytes Tryz.underlying32 Tryz.underlying5 (by kernel_rfl) (by kernel_rfl)) (opens_int Tryz.underlying3) (by kernel_rfl) (by kernel_rfl) rfl rfl (by kernel_rfl)
theorem opens_mark32 : Opens enc Tryz.prog eKey 36 := opens_two Tryz.underlying36 (opens_bytes Tryz.underlying32 Tryz.underlying5 (by kernel_rfl) (by kernel_rfl)) (opens_int Tryz.underlying3) (by kernel_rfl) (by kernel_rfl) rfl rfl (by kernel_rfl)
theorem opens_keys32 : Opens enc Tryz.prog (eSl eKey) 28 := opens_sl opens_key32 Tryz.underlying28 (by kernel_rfl) (by decide)
theorem opens_rec32 : Opens enc Tryz.prog eRec 38 := by
  intro W fuel cs x h
  obtain ⟨xs, n, _, _, hl, hlen, hf⟩ := DataW.trod_struct Tryz.underlying38 h
  obtain ⟨a0, h0⟩ := opens_field hlen hf 0 _ rfl (opens_int Tryz.underlying3)
  obtain ⟨a1, h1⟩ := opens_field hlen hf 1 _ rfl (opens_int Tryz.underlying3)
  obtain ⟨a2, h2⟩ := opens_field hlen hf 2 _ rfl opens_key32
  obtain ⟨a3, h3⟩ := opens_field hlen hf 3 _ rfl opens_mark32
  obtain ⟨a4, h4⟩ := opens_field hlen hf 4 _ rfl opens_keys32
  have h0 : eInt.rep W W.heap.size ((cs.drop 0).take (Tryz.prog.cellsOf 3)) a0 := h0
  have h1 : eInt.rep W W.heap.size ((cs.drop 1).take (Tryz.prog.cellsOf 3)) a1 := h1
  have h2 : eKey.rep W W.heap.size ((cs.drop 2).take (Tryz.prog.cellsOf 34)) a2 := h2
  have h3 : eKey.rep W W.heap.size ((cs.drop 35).take (Tryz.prog.cellsOf 36)) a3 := h3
  have h4 : (eSl eKey).rep W W.heap.size ((cs.drop 68).take (Tryz.prog.cellsOf 28)) a4 := h4
  rw [show Tryz.prog.cellsOf 3 = 1 by kernel_rfl] at h0 h1
  rw [show Tryz.prog.cellsOf 34 = 33 by kernel_rfl] at h2
  rw [show Tryz.prog.cellsOf 36 = 33 by kernel_rfl] at h3
  rw [show Tryz.prog.cellsOf 28 = 1 by kernel_rfl] at h4
  have hcl : cs.length = 69 := by rw [hl]; kernel_rfl
  obtain ⟨h0, _⟩ := h0
  obtain ⟨h1, _⟩ := h1
  obtain ⟨h2, l2, _⟩ := eKey_rep h2
  obtain ⟨h3, l3, _⟩ := eKey_rep h3
  obtain ⟨v, h4, hs⟩ := h4
  refine ⟨⟨a0, a1, a2.1, a2.2, a3.1, a3.2, a4⟩, v, ?_, l2, l3, hs⟩
  have e : cs = (cs.drop 0).take 1 ++ ((cs.drop 1).take 1 ++ ((cs.drop 2).take 33 ++ ((cs.drop 35).take 33 ++ (cs.drop 68).take 1))) := by
    have s0 := (List.take_append_drop 1 (cs.drop 0)).symm
    have s1 := (List.take_append_drop 1 (cs.drop 1)).symm
    have s2 := (List.take_append_drop 33 (cs.drop 2)).symm
    have s3 := (List.take_append_drop 33 (cs.drop 35)).symm
    have s4 : (cs.drop 68).take 1 = cs.drop 68 := List.take_of_length_le (by rw [List.length_drop]; omega)
    rw [List.drop_drop] at s0 s1 s2 s3
    rw [s4]
    conv => lhs; rw [← List.drop_zero (l := cs), s0, s1, s2, s3]
  rw [e]
  rw [h0, h1, h2, h3, h4]
  rfl
theorem opens_recs32 : Opens enc Tryz.prog (eSl eRec) 22 := opens_sl opens_rec32 Tryz.underlying22 (by kernel_rfl) (by decide)
end
end Go.Proofs.YtplbcbamnjnhlaaGreatDoor
namespace Go.Proofs.YtplbcbamnjnhlaaGreatDoor
open Go.ChangeShapes Go.WideShapes Go.ChangeAt Go.RowKit

theorem own : ownKnob Tryz.prog.godebug = none := by kernel_rfl
theorem laidOut : laidOutB Tryz.prog = true := by kernel_rfl
abbrev list32 : List (String × DataW Unit) := Rows.bookBackRow.laid
def tab32 : Array Value := (#[0, 1, 28, 2, 29, 14, 24, 3, 30, 22, 20, 15, 25, 17, 4, 8, 31, 27, 13, 23, 21, 19, 16, 7, 26, 12, 18, 6, 11, 5, 10, 9] : Array Int).map fun z => .int .u8 z
def tab64 : Array Value := (#[0, 1, 56, 2, 57, 49, 28, 3, 61, 58, 42, 50, 38, 29, 17, 4, 62, 47, 59, 36, 45, 43, 51, 22, 53, 39, 33, 30, 24, 18, 12, 5, 63, 55, 48, 27, 60, 41, 37, 16, 46, 35, 44, 21, 52, 32, 23, 11, 54, 26, 40, 15, 34, 20, 31, 10, 25, 14, 19, 9, 13, 8, 7, 6] : Array Int).map fun z => .int .u8 z
def tabPow : Array Value := (#[1, 10, 100, 1000, 10000, 100000, 1000000, 10000000, 100000000, 1000000000, 10000000000, 100000000000, 1000000000000, 10000000000000, 100000000000000, 1000000000000000, 10000000000000000, 100000000000000000, 1000000000000000000, 10000000000000000000] : Array Int).map fun z => .int .u64 z
def putIn (cs : Array Value) : Obj → Obj
  | .cells _ t frozen => .cells cs t frozen
  | o => o
noncomputable def laidWorld (os : Os) : World :=
  let w0 := World.holding Tryz.prog os ⟨#[], #[], []⟩
  { w0 with heap := ((w0.heap.modify 2 (putIn tab32)).modify 3 (putIn tab64)).modify 0 (putIn tabPow) }
theorem laid32_met (os : Os) (args : Array Value) : laidMet Tryz.prog list32 ((laidWorld os).forCall (fun _ _ => 0) ⟨#[], args, []⟩).memory :=
  laidMet_of_run' 8 (by kernel_rfl) (by kernel_rfl)
end Go.Proofs.YtplbcbamnjnhlaaGreatDoor
