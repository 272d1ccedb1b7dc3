/- Texts of this proof joined: RefAll, RefSame, LostLaw, RecAt, LawLines, Awake32. -/
import Derived.Test.YtplbcbamnjnhlaaDoorMP25
import Derived.Test.YtplbcbamnjnhlaaDoorMP28
import Derived.Test.YtplbcbamnjnhlaaDoorMP14
import Derived.Test.YtplbcbamnjnhlaaDoorMP15
import Derived.Test.YtplbcbamnjnhlaaDoorMP23
import Derived.Test.YtplbcbamnjnhlaaDoorMP26
/- Contract of the reference's All (32). -/
namespace Go.Proofs.YtplbcbamnjnhlaaDoor
open Go.RowKit

theorem rec32_app : AppTy Tryd.prog 44 36 69 120 (recv 0 0 z32 0 z32 0 (.slice none 0 0)) := appTy Tryd.underlying44 (by kernel_rfl) rfl (by omega)
theorem rec32_info (k s : Int) (kh : List UInt8) (kk : Int) (mh : List UInt8) (ms : Int) (v : Value) (h1 : kh.length = 32) (h2 : mh.length = 32) : (Tryd.prog.info? 36).map (fun i => (i.zero, i.size)) = some (some (recv 0 0 z32 0 z32 0 (.slice none 0 0)), (recCells k s kh kk mh ms v).length) := by rw [recCells_length, h1, h2]; kernel_rfl
/-- what the reference's All answers -/
def RefAllTo (l : List UInt8) (w : World) (e : Ending) (w' : World) : Prop :=
  ∃ rs n v, e = .returned (.tuple #[v, .int .i64 (n : Nat)]) ∧ AllTo l rs n ∧ OwnL eRec w' w.heap.size 36 v rs ∧ Below w.heap.size w w'
set_option maxRecDepth 100000 in
set_option maxHeartbeats 4000000 in
theorem refAll_any (l : List UInt8) (A : Option Addr) (c B : Nat) (w : World) (hr : Rd w B A (bcells l)) (hB : B ≤ w.heap.size) (hl : l.length ≤ 68719476736) (hc : l.length ≤ c) :
    Calls Tryd.prog 10 #[.slice A l.length c] w (RefAllTo l w) := by
  have HBW := Lib.hid hB
  have HR := Lib.hid hr
  clear hr hB
  go_enter Tryd.func10, Tryd.ntmps10
  go_wp2_with fail
  go_loopw [4, 5, 6] (fun v4 v5 v6 wr => ∃ (n i : Nat) (rs : List RecD) (A4 : Option Addr) (c4 : Nat), n ≤ i ∧ i ≤ l.length ∧ v5 = .int .i64 n ∧ v6 = .int .i64 i ∧ v4 = .slice A4 rs.length c4 ∧ Hid (OwnL eRec wr w.heap.size 36 (.slice A4 rs.length c4) rs) ∧
    Hid (l.take n = rs.flatMap lineL ∧ ∀ r ∈ rs, GoodR r) ∧ Hid (∀ j, j < i - n → (l.drop n)[j]? ≠ some 10) ∧ Hid (Below w.heap.size w wr)) (fun _ _ v6 _ => l.length - (intOf v6).toNat)
  case atStart => exact ⟨0, 0, [], none, 0, by omega, by omega, rfl, rfl, rfl, OwnL.nil _ _ _, ⟨rfl, fun r hr => nomatch hr⟩, (fun j hj => by omega), Below.refl _ _⟩
  case round =>
    obtain ⟨n, i, rs, A4, c4, hni, hil, rfl, rfl, rfl, HO, HL, HF, HB⟩ := hrel
    have hn : n ≤ l.length := Nat.le_trans hni hil
    have HRn := Lib.hid ((HR.out.below (HB.out.mono HBW.out)).cut n c hc)
    have hdl : (l.drop n).length = l.length - n := by rw [List.length_drop]
    by_cases hlt : i < l.length
    · obtain ⟨k, hk⟩ : ∃ k, k = i - n := ⟨_, rfl⟩
      have hkl : k < l.length - n := by omega
      obtain ⟨ab, ao, hAe, hab, hcell⟩ := (HR.out.below (HB.out.mono HBW.out)).byte hlt
      subst hAe
      obtain ⟨d, hd⟩ : ∃ d, d = l[i].toNat := ⟨_, rfl⟩
      rw [← hd] at hcell
      have hlk : (l.drop n)[k]? = some l[i] := by rw [List.getElem?_drop, show n + k = i by omega, List.getElem?_eq_getElem hlt]
      by_cases hd10 : d = 10
      · obtain ⟨q, hq⟩ : ∃ q, q = i + 1 := ⟨_, rfl⟩
        have hqi : (i : Int) + 1 = (q : Int) := by omega
        have hql : q ≤ l.length := by omega
        have hnq : n ≤ q := by omega
        have hu2 := u8_mid (some ⟨ab, ao, none⟩) l.length c n q hnq (by omega)
        have HTL := Lib.hid (show ((l.drop n).take (k + 1)).length = q - n by rw [List.length_take, hdl]; omega)
        have HP := Lib.hid (refParse_any ((l.drop n).take (k + 1)) (cutA (some ⟨ab, ao, none⟩) c n) (c - n) B wr (HRn.out.upto (k + 1)) (Nat.le_trans HBW.out HB.out.size) (by rw [HTL.out]; omega) (by rw [HTL.out]; omega))
        rw [HTL.out] at HP
        have HFD := Lib.hid (show FeedAt (l.drop n) k from ⟨by rw [hlk]; exact congrArg some (UInt8.toNat_inj.1 (hd.symm.trans hd10)), fun j hj => HF.out j (by omega)⟩)
        have HQ := Lib.hid (show q = n + k + 1 by omega)
        clear hd hlk hk hdl HF hq
        subst hd10
        go_wp2_with fail
        refine HP.out.mono ?_
        rintro e w2 ⟨hb2, hcase⟩
        have HO2 := Lib.hid (HO.out.later hb2)
        have HLT := Lib.hid (show ∀ g, (Value.slice A4 rs.length c4).ownBlock = some g → g < wr.heap.size by
          obtain ⟨css, h1, _⟩ := HO.out
          exact fun g hg => (h1.lt g hg).2)
        have HB2 := Lib.hid (HB.out.trans (hb2.mono HB.out.size))
        rcases hcase with ⟨hnone, rfl⟩ | ⟨r, v, hsome, rfl, hks⟩
        · have HA := Lib.hid (show AllTo l rs n from ⟨hn, HL.out.1, HL.out.2, fun j hj => by rw [hj.one HFD.out]; exact hnone⟩)
          clear hnone hb2 HO HB
          have hb3 : Below w2.heap.size w2 (w2.alloc (.cells (recCells zeroD.kind zeroD.seq zeroD.kh zeroD.kk zeroD.mh zeroD.ms (.slice none 0 0)).toArray 36)) := (Below.refl _ _).alloc (Nat.le_refl _) _
          have HO3 := Lib.hid (HO2.out.later hb3)
          have HB3 := Lib.hid (HB2.out.trans (hb3.mono HB2.out.size))
          clear hb3
          go_wp2_with (refine stop_at (some 7) rfl ?_)
          refine Stop.go (wpList_alloc rfl 36 rfl zero_rec32 rfl ?_)
          refine wpList_store_agg rfl 36 rfl rfl rfl (store_new2 (g := w2.heap.size) rfl (recv_cells ..) (rec32_size _ _ _ _ _ _ _ rfl rfl) (by rw [List.size_toArray, recCells_length, recCells_length]; rfl) (recCells_one _ _ _ _ _ _ _ _ _)) ?_
          generalize w2.alloc (.cells (recCells zeroD.kind zeroD.seq zeroD.kh zeroD.kk zeroD.mh zeroD.ms (.slice none 0 0)).toArray 36) = w3 at *
          go_wp2_with fail
          go_ret2
          exact ⟨rs, n, _, rfl, HA.out, HO3.out, HB3.out⟩
        · obtain ⟨hgr, hline⟩ := parseL_some hsome
          have HGR := Lib.hid hgr
          have HLN := Lib.hid (show l.take q = (rs ++ [r]).flatMap lineL by
            rw [HQ.out, Nat.add_assoc, List.take_add, HL.out.1, hline, List.flatMap_append]
            simp)
          have HG2 := Lib.hid (show ∀ x ∈ rs ++ [r], GoodR x from fun x hx => by
            rcases List.mem_append.1 hx with hx | hx
            · exact HL.out.2 x hx
            · rw [List.mem_singleton.1 hx]; exact HGR.out)
          obtain ⟨AK, cK, rfl, _, _⟩ := own_form hks.1
          have hsz := all_len HL.out.1
          have hb3 : Below w2.heap.size w2 (w2.alloc (.cells (recCells r.kind r.seq r.kh r.kk r.mh r.ms (.slice AK r.keys.length cK)).toArray 36)) := (Below.refl _ _).alloc (Nat.le_refl _) _
          have HO3 := Lib.hid (HO2.out.later hb3)
          have HB3 := Lib.hid (HB2.out.trans (hb3.mono HB2.out.size))
          have HK3 := Lib.hid (hks.later hb3)
          have HA3 := Lib.hid (RecAt.new (t := 36) (kind := r.kind) (seq := r.seq) (kk := r.kk) (ms := r.ms) (v := .slice AK r.keys.length cK) w2 hgr.2.1.1 hgr.2.1.2)
          have HHS := Lib.hid hgr.2.1
          clear hb3 hb2 hks hline hsome hgr HO HO2 HB HB2 HP HL
          go_wp2_with (refine stop_at (some 7) rfl ?_)
          refine Stop.go (wpList_alloc rfl 36 rfl zero_rec32 rfl ?_)
          refine wpList_store_agg rfl 36 rfl rfl rfl (store_new2 (g := w2.heap.size) rfl (recv_cells ..) (rec32_size _ _ _ _ _ _ _ HHS.out.1 HHS.out.2) (by rw [List.size_toArray, recCells_length, recCells_length, HHS.out.1, HHS.out.2]; rfl) (recCells_one _ _ _ _ _ _ _ _ _)) ?_
          generalize w2.alloc (.cells (recCells r.kind r.seq r.kh r.kk r.mh r.ms (.slice AK r.keys.length cK)).toArray 36) = w3 at *
          go_wp2_with (refine stop_at (some 34) rfl ?_)
          refine Stop.go (wpList_load_agg rfl 36 rfl rfl rec32Ty_u rfl (rec32_size _ _ _ _ _ _ _ HHS.out.1 HHS.out.2) HA3.out.all_ ?_)
          refine wpList_build_one rfl 44 36 rfl rfl Tryd.underlying44 (rec32_info r.kind r.seq r.kh r.kk r.mh r.ms (.slice AK r.keys.length cK) HHS.out.1 HHS.out.2) (recv_cells ..) (by rw [recCells_length]; omega) (by rw [recCells_length, HHS.out.1, HHS.out.2]; decide) ?_
          have hb4 : Below w3.heap.size w3 (w3.alloc (.cells (recCells r.kind r.seq r.kh r.kk r.mh r.ms (.slice AK r.keys.length cK)).toArray 36)) := (Below.refl _ _).alloc (Nat.le_refl _) _
          have HO4 := Lib.hid (HO3.out.later hb4)
          have HB4 := Lib.hid (HB3.out.trans (hb4.mono HB3.out.size))
          have HK4 := Lib.hid (HK3.out.later hb4)
          have HG4 := Lib.hid (Go.heap_alloc_new w3 (.cells (recCells r.kind r.seq r.kh r.kk r.mh r.ms (.slice AK r.keys.length cK)).toArray 36))
          have HS4 := Lib.hid (show (w3.alloc (.cells (recCells r.kind r.seq r.kh r.kk r.mh r.ms (.slice AK r.keys.length cK)).toArray 36)).heap.size = w3.heap.size + 1 from Array.size_push _)
          generalize w3.alloc (.cells (recCells r.kind r.seq r.kh r.kk r.mh r.ms (.slice AK r.keys.length cK)).toArray 36) = w4 at *
          clear hb4 HO3 HB3 HK3
          obtain ⟨css, hcs1, hcs2, hcs3⟩ := HO4.out
          have HC3 := Lib.hid hcs3
          have hbw4 := HB4.out.size
          refine wpList_app rec32_app rfl rfl rfl rfl hcs1 (Rd.row (B := w4.heap.size) HG4.out (by rw [HS4.out]; omega)) (m := 1) (by rw [recCells_length, HHS.out.1, HHS.out.2]) (recCells_one _ _ _ _ _ _ _ _ _) ?h63 ?hby ?hbase ?_
          case h63 => simp only [maxLen]; omega
          case hby => omega
          case hbase => exact hbw4
          intro v5 w5 hown5 hg5 hor5 _
          have HO5 := Lib.hid (OwnL.snoc hcs2 HC3.out (x := r) (fun w' ha => eRec_away HHS.out HK4.out HLT.out ha) hown5 hg5 hor5)
          have HB5 := Lib.hid (grown_below HB4.out hg5 hcs1 (Nat.le_refl _) hbw4)
          obtain ⟨A5, c5, rfl, _, _⟩ := own_form hown5
          clear hown5 hg5 hor5 hcs1 hcs3 HC3 hcs2
          generalize hac : Act.put _ _ _ = a9
          simp [Act.put] at hac
          subst hac
          go_wp2_with fail
          refine ⟨⟨q, q, rs ++ [r], A5, c5, Nat.le_refl _, hql, rfl, rfl, ?_, ?_, Lib.hid ⟨HLN.out, HG2.out⟩, Lib.hid (fun j hj => by omega), HB5⟩, ?_⟩
          · rw [List.length_append]; rfl
          · rw [List.length_append]; exact HO5
          · simp [intOf]; omega
      · have hne : ((d : Int) != 10) = true := by simp; omega
        have HF2 := Lib.hid (show ∀ j, j < i + 1 - n → (l.drop n)[j]? ≠ some 10 by
          intro j hj
          by_cases h : j < i - n
          · exact HF.out j h
          · obtain rfl : j = k := by omega
            rw [hlk]
            intro he
            injection he with he
            exact hd10 (by rw [hd, he]; rfl))
        clear hd hlk hk hdl
        go_wp2_with fail
        refine ⟨⟨n, i + 1, rs, A4, c4, by omega, by omega, rfl, (by go_num), rfl, HO, HL, HF2, HB⟩, ?_⟩
        simp [intOf]; omega
    · have HA := Lib.hid (show AllTo l rs n from ⟨hn, HL.out.1, HL.out.2, fun j hj => absurd hj.1 (by
        by_cases h : j < i - n
        · exact HF.out j h
        · rw [List.getElem?_eq_none (by rw [hdl]; omega)]
          simp)⟩)
      clear HF hdl
      go_wp2_with fail
      go_ret2
      exact ⟨rs, n, _, rfl, HA.out, HO.out, HB.out⟩
end Go.Proofs.YtplbcbamnjnhlaaDoor
/- Contract of the reference's Same (32). -/
namespace Go.Proofs.YtplbcbamnjnhlaaDoor
open Go.RowKit

set_option maxRecDepth 100000 in
set_option maxHeartbeats 4000000 in
theorem same32_any (a b : RecD) (A1 A2 : Option Addr) (n1 c1 n2 c2 B1 B2 : Nat) (w : World) (ha : Hs a) (hb : Hs b) (h1 : SlR eKey w B1 (.slice A1 n1 c1) a.keys) (h2 : SlR eKey w B2 (.slice A2 n2 c2) b.keys) (hB1 : B1 ≤ w.heap.size) (hB2 : B2 ≤ w.heap.size) :
    Calls Tryd.prog 7 #[rv a (.slice A1 n1 c1), rv b (.slice A2 n2 c2)] w fun e w' => e = .returned (.bool (sameD a b)) ∧ Below w.heap.size w w' := by
  obtain ⟨a0, a1, a2, a3, a4, a5, a6⟩ := a
  obtain ⟨b0, b1, b2, b3, b4, b5, b6⟩ := b
  obtain ⟨ha1, ha2⟩ := ha
  obtain ⟨hb1, hb2⟩ := hb
  simp only at ha1 ha2 hb1 hb2 h1 h2
  have hbw : Below w.heap.size w ((w.alloc (.cells (recCells a0 a1 a2 a3 a4 a5 (.slice A1 n1 c1)).toArray 36)).alloc (.cells (recCells b0 b1 b2 b3 b4 b5 (.slice A2 n2 c2)).toArray 36)) :=
    ((Below.refl _ _).alloc (Nat.le_refl _) _).alloc (Nat.le_of_lt (by show _ < (Array.push _ _).size; rw [Array.size_push]; exact Nat.lt_succ_self _)) _
  have hr1 : RecAt ((w.alloc (.cells (recCells a0 a1 a2 a3 a4 a5 (.slice A1 n1 c1)).toArray 36)).alloc (.cells (recCells b0 b1 b2 b3 b4 b5 (.slice A2 n2 c2)).toArray 36)) w.heap.size 36 a0 a1 a2 a3 a4 a5 (.slice A1 n1 c1) :=
    (RecAt.new w ha1 ha2).later ((Below.refl _ _).alloc (Nat.le_refl _) _)
  have hr2 := RecAt.new (t := 36) (kind := b0) (seq := b1) (kk := b3) (ms := b5) (v := .slice A2 n2 c2) (w.alloc (.cells (recCells a0 a1 a2 a3 a4 a5 (.slice A1 n1 c1)).toArray 36)) hb1 hb2
  have hn1 := h1.n_eq
  have hn2 := h2.n_eq
  have hc1 := h1.n_le
  have hc2 := h2.n_le
  have H1 := Lib.hid (h1.fut hbw hB1 (Nat.le_refl B1))
  have H2 := Lib.hid (h2.fut hbw hB2 (Nat.le_refl B2))
  have HBW := Lib.hid hbw
  have N1 := Lib.hid hn1
  have N2 := Lib.hid hn2
  clear h1 h2 hbw hn1 hn2
  go_enter Tryd.func7, Tryd.ntmps7
  go_wp2_with (refine stop_at (some 2) rfl ?_)
  refine Stop.go (wpList_box rfl _ rfl rfl rfl (wpList_box rfl _ rfl rfl rfl ?_))
  rw [show (w.alloc (.cells (recCells a0 a1 a2 a3 a4 a5 (.slice A1 n1 c1)).toArray 36)).heap.size = w.heap.size + 1 from Array.size_push _] at hr2 ⊢
  generalize (w.alloc (.cells (recCells a0 a1 a2 a3 a4 a5 (.slice A1 n1 c1)).toArray 36)).alloc (.cells (recCells b0 b1 b2 b3 b4 b5 (.slice A2 n2 c2)).toArray 36) = w1 at *
  have c2' := hr1.keys_
  have d2 := hr2.keys_
  have HR1 := Lib.hid hr1
  have HR2 := Lib.hid hr2
  clear hr1 hr2
  by_cases hl : n1 = n2
  · subst hl
    go_wp2_with fail
    go_loopw [5] (fun v5 wr => ∃ i : Nat, i ≤ n1 ∧ v5 = .int .i64 i ∧ Hid (a6.take i = b6.take i ∧ ∀ p : Addr, wr.cell? p = w1.cell? p) ∧ Hid (Below w.heap.size w wr) ∧ Hid (Below w1.heap.size w1 wr)) (fun v5 _ => n1 - (intOf v5).toNat)
    case atStart => exact ⟨0, by omega, rfl, ⟨by simp, fun _ => rfl⟩, HBW, Lib.hid (Below.refl _ _)⟩
    case round =>
      obtain ⟨i, hi, rfl, HR, HB, HB1⟩ := hrel
      obtain ⟨hpre, hcell⟩ := HR.out
      have c3 := (hcell _).trans c2'
      have d3 := (hcell _).trans d2
      have HC := Lib.hid hcell
      have HP := Lib.hid hpre
      clear hpre hcell HR
      by_cases hlt : i < n1
      · have hlt1 : i < a6.length := by have := N1.out; omega
        have hlt2 : i < b6.length := by have := N2.out; omega
        obtain ⟨p1, o1, rfl, _, _, l1, e1⟩ := keys_at H1.out hlt1
        obtain ⟨p2, o2, rfl, _, _, l2, e2⟩ := keys_at H2.out hlt2
        have E1 := Lib.hid e1
        have E2 := Lib.hid e2
        clear e1 e2
        go_wp2_with fail
        refine Text.wp_text [10] (by kernel_rfl) (by kernel_rfl) (fun Q' hQ' => ?_)
        refine wpList_seg 4 _ _ _ (fun Q' hQ' => ?_)
        simp only [List.take_succ_cons, List.take_zero]
        go_wp2_with fail
        try simp only [List.drop_succ_cons, List.drop_zero]
        refine Stop.go (wpList_load_agg rfl 26 rfl rfl keyTy.ut rfl (key_size _ _ l1) (fun j u hu => (HC.out _).trans (E1.out j u hu)) ?_)
        refine wpList_seg 4 _ _ _ (fun Q' hQ' => ?_)
        simp only [List.take_succ_cons, List.take_zero]
        go_wp2_with fail
        try simp only [List.drop_succ_cons, List.drop_zero]
        refine Stop.go (wpList_load_agg rfl 26 rfl rfl keyTy.ut rfl (key_size _ _ l2) (fun j u hu => (HC.out _).trans (E2.out j u hu)) ?_)
        refine wpList_bin rfl .neq 26 rfl rfl rfl (hkv_guard keyTy.gd ..) (hkv_neq keyTy l1 l2) ?_
        by_cases he : a6[i] = b6[i]
        · rw [show (!(decide (a6[i].1 = b6[i].1) && decide (a6[i].2 = b6[i].2))) = false by rw [he]; simp]
          refine hQ' _ _ ⟨by rfl, ?_⟩
          go_wp2_with fail
          have HP2 := Lib.hid (And.intro (take_eq_succ HP.out hlt1 hlt2 he) (fun p => HC.out p : ∀ p : Addr, wr.drew.cell? p = w1.cell? p))
          refine ⟨⟨i + 1, by omega, by simp, HP2, Lib.hid HB.out.drew, Lib.hid HB1.out.drew⟩, ?_⟩
          simp [intOf]; omega
        · rw [show (!(decide (a6[i].1 = b6[i].1) && decide (a6[i].2 = b6[i].2))) = true by
            have : ¬ (a6[i].1 = b6[i].1 ∧ a6[i].2 = b6[i].2) := fun h => he (Prod.ext h.1 h.2)
            by_cases h1 : a6[i].1 = b6[i].1 <;> simp_all]
          refine hQ' _ _ ⟨by rfl, ?_⟩
          have HF := Lib.hid (show sameD ⟨a0, a1, a2, a3, a4, a5, a6⟩ ⟨b0, b1, b2, b3, b4, b5, b6⟩ = false by
            unfold sameD
            simp only
            rw [decide_eq_false (show ¬ a6 = b6 from fun h => he (by subst h; rfl)), Bool.and_false])
          go_wp2_with fail
          go_ret
          exact ⟨rt1 (vbool HF.out.symm), HB.out.drew⟩
      · obtain rfl : i = n1 := by omega
        have hkeq : a6 = b6 := by have := HP.out; rwa [List.take_of_length_le (by have := N1.out; omega), List.take_of_length_le (by have := N2.out; omega)] at this
        have R1 := Lib.hid (HR1.out.later HB1.out)
        have R2 := Lib.hid (HR2.out.later HB1.out)
        have c0 := R1.out.kind_
        have c1' := R1.out.seq_
        have c5' := R1.out.size_
        have d0 := R2.out.kind_
        have d1 := R2.out.seq_
        have d5 := R2.out.size_
        clear hi
        by_cases e0 : a0 = b0
        · by_cases e1 : a1 = b1
          · subst e0 e1
            go_wp2_with (refine stop_at (some 31) rfl ?_)
            refine Stop.go (wpList_seg 14 _ _ _ (fun Q' hQ' => ?_))
            simp only [List.take_succ_cons, List.take_zero]
            go_wp2_with fail
            try simp only [List.drop_succ_cons, List.drop_zero]
            refine Stop.go (wpList_load_aggG (by rfl) 26 rfl rfl keyTy.ut rfl (key_size _ _ ha1) R1.out.key_ ?_)
            refine wpList_seg 1 _ _ _ (fun Q' hQ' => ?_)
            simp only [List.take_succ_cons, List.take_zero]
            go_wp2_with fail
            try simp only [List.drop_succ_cons, List.drop_zero]
            refine Stop.go (wpList_load_aggG (by rfl) 26 rfl rfl keyTy.ut rfl (key_size _ _ hb1) R2.out.key_ ?_)
            refine wpList_binG (by rfl) .eql 26 rfl rfl rfl (hkv_guard keyTy.gd ..) (hkv_eql keyTy ha1 hb1) ?_
            cases ek : (decide (a2 = b2) && decide (a3 = b3))
            · have HF := Lib.hid (show sameD ⟨a0, a1, a2, a3, a4, a5, a6⟩ ⟨a0, a1, b2, b3, b4, b5, b6⟩ = false by unfold sameD; simp only [ek]; simp)
              go_wp2_with fail
              go_ret
              exact ⟨rt1 (vbool HF.out.symm), HB.out⟩
            · refine wpList_seg 3 _ _ _ (fun Q' hQ' => ?_)
              simp only [List.take_succ_cons, List.take_zero]
              go_wp2_with fail
              try simp only [List.drop_succ_cons, List.drop_zero]
              refine Stop.go (wpList_load_aggG (by rfl) 24 rfl rfl hashTy.ua rfl (hash_size _ ha2) R1.out.hash_ ?_)
              refine wpList_seg 1 _ _ _ (fun Q' hQ' => ?_)
              simp only [List.take_succ_cons, List.take_zero]
              go_wp2_with fail
              try simp only [List.drop_succ_cons, List.drop_zero]
              refine Stop.go (wpList_load_aggG (by rfl) 24 rfl rfl hashTy.ua rfl (hash_size _ hb2) R2.out.hash_ ?_)
              refine wpList_binG (by rfl) .eql 24 rfl rfl rfl (hashv_guard hashTy.gd ..) (hashv_eql hashTy ha2 hb2) ?_
              cases em : decide (a4 = b4)
              · have HF := Lib.hid (show sameD ⟨a0, a1, a2, a3, a4, a5, a6⟩ ⟨a0, a1, b2, b3, b4, b5, b6⟩ = false by unfold sameD; simp only [ek, em]; simp)
                go_wp2_with fail
                go_ret
                exact ⟨rt1 (vbool HF.out.symm), HB.out⟩
              · have HF := Lib.hid (show sameD ⟨a0, a1, a2, a3, a4, a5, a6⟩ ⟨a0, a1, b2, b3, b4, b5, b6⟩ = decide (a5 = b5) by unfold sameD; simp only [ek, em, hkeq]; simp)
                have hE : (a5 == b5) = decide (a5 = b5) := by by_cases h : a5 = b5 <;> simp [h]
                go_wp2_with fail
                go_ret
                exact ⟨rt1 (vbool (hE.trans HF.out.symm)), HB.out⟩
          · have HF := Lib.hid (show sameD ⟨a0, a1, a2, a3, a4, a5, a6⟩ ⟨b0, b1, b2, b3, b4, b5, b6⟩ = false by unfold sameD; simp [e1])
            have e1' : (a1 == b1) = false := by rw [beq_eq_false_iff_ne]; exact e1
            subst e0
            clear e1
            go_wp2_with fail
            go_ret
            exact ⟨rt1 (vbool HF.out.symm), HB.out⟩
        · have HF := Lib.hid (show sameD ⟨a0, a1, a2, a3, a4, a5, a6⟩ ⟨b0, b1, b2, b3, b4, b5, b6⟩ = false by unfold sameD; simp [e0])
          have e0' : (a0 == b0) = false := by rw [beq_eq_false_iff_ne]; exact e0
          clear e0
          go_wp2_with fail
          go_ret
          exact ⟨rt1 (vbool HF.out.symm), HB.out⟩
  · have HF := Lib.hid (show sameD ⟨a0, a1, a2, a3, a4, a5, a6⟩ ⟨b0, b1, b2, b3, b4, b5, b6⟩ = false by
      unfold sameD
      simp only
      rw [decide_eq_false (show ¬ a6 = b6 from fun h => hl (by rw [N1.out, N2.out, h])), Bool.and_false])
    have hne : ((n1 : Int) != (n2 : Int)) = true := by simp; omega
    go_wp2_with fail
    go_ret
    exact ⟨rt1 (vbool HF.out.symm), HBW.out⟩
end Go.Proofs.YtplbcbamnjnhlaaDoor
/- The plain law of lines of which something is lost: the whole lines ahead of it are told. -/
namespace Go.Proofs.YtplbcbamnjnhlaaDoor
open Go.RowKit

theorem AllTo.cons {r : RecD} {c : List UInt8} {rs : List RecD} {n : Nat} (h : AllTo c rs n) (hr : GoodR r) : AllTo (lineL r ++ c) (r :: rs) ((lineL r).length + n) := by
  refine ⟨?_, ?_, ?_, ?_⟩
  · have := h.le
    rw [List.length_append]; omega
  · rw [List.take_length_add_append, h.lines, List.flatMap_cons]
  · intro x hx
    rcases List.mem_cons.1 hx with rfl | hx
    · exact hr
    · exact h.good x hx
  · rw [List.drop_length_add_append]
    exact h.stuck
theorem AllTo.nil {c : List UInt8} (h : Stuck c) : AllTo c [] 0 := ⟨Nat.zero_le _, rfl, (fun _ h => nomatch h), h⟩
/-- how many lines end at a place, or ahead of it -/
def wholeN : List RecD → Nat → Nat
  | [], _ => 0
  | r :: rs, a => if (lineL r).length ≤ a then 1 + wholeN rs (a - (lineL r).length) else 0
theorem wholeN_le : ∀ (rs : List RecD) (a : Nat), wholeN rs a ≤ rs.length
  | [], _ => Nat.le_refl _
  | r :: rs, a => by
    have := wholeN_le rs (a - (lineL r).length)
    unfold wholeN
    split <;> simp <;> omega
/-- where each line ends -/
def endsL : List RecD → List Nat
  | [] => []
  | r :: rs => (lineL r).length :: (endsL rs).map ((lineL r).length + ·)
theorem endsL_length : ∀ rs : List RecD, (endsL rs).length = rs.length
  | [] => rfl
  | r :: rs => by simp [endsL, endsL_length rs]
theorem endsL_get : ∀ (rs : List RecD) (i : Nat) (h : i < (endsL rs).length), (endsL rs)[i] = ((rs.take (i + 1)).flatMap lineL).length
  | [], i, h => by simp [endsL] at h
  | r :: rs, 0, h => by simp [endsL]
  | r :: rs, i + 1, h => by
    have := endsL_get rs i (by simpa [endsL] using h)
    simp only [endsL, List.getElem_cons_succ, List.getElem_map, this, List.take_succ_cons, List.flatMap_cons, List.length_append]
theorem endsL_snoc (rs : List RecD) (r : RecD) : endsL (rs ++ [r]) = endsL rs ++ [((rs ++ [r]).flatMap lineL).length] := by
  induction rs with
  | nil => simp [endsL]
  | cons x rs ih => simp [endsL, ih]
theorem countP_ends : ∀ (rs : List RecD) (a : Nat), (endsL rs).countP (fun e => decide (e ≤ a)) = wholeN rs a
  | [], _ => rfl
  | r :: rs, a => by
    unfold endsL wholeN
    rw [List.countP_cons, List.countP_map]
    by_cases h : (lineL r).length ≤ a
    · rw [if_pos h]
      have ih := countP_ends rs (a - (lineL r).length)
      rw [← ih]
      have e : ((fun e => decide (e ≤ a)) ∘ fun x => (lineL r).length + x) = fun e => decide (e ≤ a - (lineL r).length) := by
        funext x
        show decide ((lineL r).length + x ≤ a) = _
        rw [decide_eq_decide]
        omega
      rw [e]
      simp [h]
      omega
    · rw [if_neg h]
      have e : ((fun e => decide (e ≤ a)) ∘ fun x => (lineL r).length + x) = fun _ => false := by
        funext x
        show decide ((lineL r).length + x ≤ a) = _
        rw [decide_eq_false_iff_not]
        omega
      rw [e]
      simp [h]
/-- bytes of which something is lost, from place F on -/
structure Lost (b m : List UInt8) (F : Nat) : Prop where
  le : F ≤ m.length
  len : m.length ≤ b.length
  same : m.take F = b.take F
  zero : F < m.length → m[F]? = some 0
theorem lost_stuck {r : RecD} {c m : List UInt8} {F : Nat} (h : Lost (lineL r ++ c) m F) (hF : F < (lineL r).length) : Stuck m := by
  have hl := line_len r
  have hpre : ∀ j, j < F → m[j]? = (lineL r)[j]? := fun j hj => by
    have h1 : (m.take F)[j]? = m[j]? := by rw [List.getElem?_take, if_pos hj]
    rw [← h1, h.same, List.getElem?_take, if_pos hj, List.getElem?_append_left (by omega)]
  intro n hn
  cases hp : parseL (m.take (n + 1)) with
  | none => rfl
  | some r' =>
    exfalso
    have hnl : n < m.length := by
      by_cases hlt : n < m.length
      · exact hlt
      · have := hn.1
        rw [List.getElem?_eq_none (by omega)] at this
        cases this
    by_cases h1 : n < F
    · have h2 := hpre n h1
      rw [hn.1, List.getElem?_eq_getElem (by omega)] at h2
      injection h2 with h2
      have h3 := line_get (r := r) (j := n) (by omega) (by omega)
      rw [← h2] at h3
      exact absurd h3 (by decide)
    · have hz := h.zero (by omega)
      by_cases h2 : n = F
      · subst h2
        have := hn.1
        rw [hz] at this
        exact absurd this (by decide)
      · obtain ⟨_, he⟩ := parseL_some hp
        have hl' := line_len r'
        have h5 := congrArg List.length he
        rw [List.length_take, Nat.min_eq_left (by omega)] at h5
        have h3 : (m.take (n + 1))[F]? = some 0 := by rw [List.getElem?_take, if_pos (by omega), hz]
        rw [he, List.getElem?_eq_getElem (by omega)] at h3
        injection h3 with h3
        have h4 := line_get (r := r') (j := F) (by omega) (by omega)
        rw [h3] at h4
        exact absurd h4 (by decide)
theorem lost_all : ∀ (rs : List RecD) (m : List UInt8) (F : Nat), (∀ r ∈ rs, GoodR r) → Lost (rs.flatMap lineL) m F → AllTo m (rs.take (wholeN rs F)) ((rs.take (wholeN rs F)).flatMap lineL).length
  | [], m, F, _, h => by
    have hm : m = [] := by have := h.len; exact List.length_eq_zero_iff.1 (by simpa using this)
    subst hm
    exact AllTo.nil fun n hn => by have := hn.1; simp at this
  | r :: rs, m, F, hg, h => by
    unfold wholeN
    by_cases hF : (lineL r).length ≤ F
    · rw [if_pos hF, Nat.add_comm 1, List.take_succ_cons, List.flatMap_cons, List.length_append]
      have hle := h.le
      have e : m = lineL r ++ m.drop (lineL r).length := by
        have h1 : m.take (lineL r).length = lineL r := by
          have h2 := congrArg (List.take (lineL r).length) h.same
          rw [List.take_take, List.take_take, Nat.min_eq_left hF, List.flatMap_cons, List.take_left] at h2
          exact h2
        conv => lhs; rw [← List.take_append_drop (lineL r).length m, h1]
      have ih := lost_all rs (m.drop (lineL r).length) (F - (lineL r).length) (fun x hx => hg x (by simp [hx])) (by
        refine ⟨?_, ?_, ?_, ?_⟩
        · rw [List.length_drop]; omega
        · have := h.len
          rw [List.flatMap_cons, List.length_append] at this
          rw [List.length_drop]; omega
        · have h2 := congrArg (List.drop (lineL r).length) h.same
          rw [List.drop_take, List.drop_take, List.flatMap_cons, List.drop_left] at h2
          exact h2
        · intro h3
          rw [List.length_drop] at h3
          rw [List.getElem?_drop, show (lineL r).length + (F - (lineL r).length) = F by omega]
          exact h.zero (by omega))
      have hc := ih.cons (hg r (by simp))
      rwa [← e] at hc
    · rw [if_neg hF, List.take_zero]
      exact AllTo.nil (lost_stuck (by rwa [List.flatMap_cons] at h) (by omega))
end Go.Proofs.YtplbcbamnjnhlaaDoor
/- Records in a slice; the length of lines; a record is the same as itself. -/
namespace Go.Proofs.YtplbcbamnjnhlaaDoor
open Go.RowKit

theorem sameD_self (a : RecD) : sameD a a = true := by simp [sameD]
theorem line_le {r : RecD} (h : GoodR r) : (lineL r).length ≤ 20000 := by
  have h1 := loadL_le r h.2.1 h.2.2 h.1
  have h2 := vForm_len_le (loadL r).length (by omega)
  have h3 := sevPack_length (frameR r)
  have h4 := line_len r
  have h5 : (frameR r).length = 5 + (vForm (loadL r).length).length + (loadL r).length := frameSeal_length _ _
  omega
theorem lines_le : ∀ (rs : List RecD), (∀ r ∈ rs, GoodR r) → (rs.flatMap lineL).length ≤ 20000 * rs.length
  | [], _ => by simp
  | r :: rs, h => by
    have h1 := line_le (h r (by simp))
    have h2 := lines_le rs fun x hx => h x (by simp [hx])
    rw [List.flatMap_cons, List.length_append, List.length_cons]
    omega
/-- a record of a slice: where it lies -/
theorem rec_at {w : World} {B : Nat} {A : Option Addr} {n c : Nat} {rs : List RecD} (h : SlR eRec w B (.slice A n c) rs) {k : Nat} (hk : k < rs.length) :
    ∃ b off A2 c2, A = some ⟨b, off, none⟩ ∧ n ≤ c ∧ b < B ∧ Hs rs[k] ∧ SlR eKey w B (.slice A2 rs[k].keys.length c2) rs[k].keys ∧
      (∀ j u, (recCells rs[k].kind rs[k].seq rs[k].kh rs[k].kk rs[k].mh rs[k].ms (.slice A2 rs[k].keys.length c2))[j]? = some u → w.cell? ⟨b, off + k * 69 + j, none⟩ = some u) := by
  obtain ⟨b, off, cs, h1, h2, h3, h4, h5⟩ := h.get hk (by decide)
  obtain ⟨v, rfl, l1, l2, hs⟩ := h4
  obtain ⟨A2, c2, rfl, _, _⟩ := hs.form
  exact ⟨b, off, A2, c2, h1, h2, h3, ⟨l1, l2⟩, hs, fun j u hu => by have := h5 j u hu; rwa [show eRec.size = 69 from rfl, ← Nat.add_assoc] at this⟩
theorem keys_len32 {w : World} {B : Nat} {v : Value} {xs : List KeyD} (h : SlR eKey w B v xs) : ∀ k ∈ xs, k.1.length = 32 := by
  intro k hk
  obtain ⟨i, hi, rfl⟩ := List.getElem_of_mem hk
  obtain ⟨A, c, rfl, _, _⟩ := h.form
  obtain ⟨_, _, _, _, _, h6, _⟩ := keys_at h hi
  exact h6
theorem rec_last {k s : Int} {kh : List UInt8} {kk : Int} {mh : List UInt8} {ms : Int} {v : Value} (h1 : kh.length = 32) (h2 : mh.length = 32) : (recCells k s kh kk mh ms v)[68]? = some v := by
  rw [rec_split4]
  rw [List.getElem?_append_right (by simp [hkCells_length, bcells_length, h1, h2])]
  simp [hkCells_length, bcells_length, h1, h2]
end Go.Proofs.YtplbcbamnjnhlaaDoor
/- Contract of the law's lines (32). -/
namespace Go.Proofs.YtplbcbamnjnhlaaDoor
open Go.RowKit

def ncell (n : Nat) : Value := .int .i64 n
/-- what lines answers -/
def LinesTo (rs : List RecD) (w : World) (e : Ending) (w' : World) : Prop :=
  Below w.heap.size w w' ∧ ((∃ x y, e = .returned (.tuple #[x, y, .bool false])) ∨ ∃ va ve, e = .returned (.tuple #[va, ve, .bool true]) ∧ w'.ownsRow w.heap.size 5 1 va (rs.flatMap lineL).length (bcells (rs.flatMap lineL)) ∧
    w'.ownsRow w.heap.size 3 1 ve rs.length ((endsL rs).map ncell) ∧ ∀ r ∈ rs, GoodR r)
end Go.Proofs.YtplbcbamnjnhlaaDoor
/- Contract of the law's awake (32). -/
namespace Go.Proofs.YtplbcbamnjnhlaaDoor
open Go.RowKit

theorem build_recKS (k s : Int) (w : World) : (Instr.build 31 #[(0, .int .i64 k), (1, .int .i64 s)]).run Tryd.prog w = .ok (recv k s z32 0 z32 0 (.slice none 0 0)) w := by
  unfold Instr.build
  simp only [Sem.run_bind, zero_rec, Result.andThen_ok, recv_cells, run_underlying recTy_u, recTy, fields_rec]
  rfl
def aw1 : RecD := ⟨1, 0, z32, 0, z32, 0, []⟩
def aw3 : RecD := ⟨3, 9, z32, 0, z32, 0, []⟩
theorem aw1_good : GoodR aw1 := ⟨by decide, ⟨rfl, rfl⟩, fun _ h => nomatch h⟩
theorem aw3_good : GoodR aw3 := ⟨by decide, ⟨rfl, rfl⟩, fun _ h => nomatch h⟩
theorem aw1_len : (lineL aw1).length = 9 := by
  rw [line_len, sevPack_length]
  have : (frameR aw1).length = 7 := by
    show (frameSeal _ (loadL aw1)).length = 7
    have h1 : (loadL aw1).length = 1 := rfl
    rw [frameSeal_length, h1, vForm_lt (by omega)]
    rfl
  rw [this]
theorem aw3_len : (lineL aw3).length = 15 := by
  rw [line_len, sevPack_length]
  have : (frameR aw3).length = 12 := by
    show (frameSeal _ (loadL aw3)).length = 12
    have h1 : (loadL aw3).length = 6 := by
      show (([] : List UInt8) ++ (beBytes 6 _ ++ ([] ++ ([] ++ [])))).length = 6
      simp [beBytes_length]
    rw [frameSeal_length, h1, vForm_lt (by omega)]
    rfl
  rw [this]
theorem aw_all {rs : List RecD} {n : Nat} (h : AllTo (lineL aw1 ++ lineL aw3) rs n) : rs = [aw1, aw3] ∧ n = 24 := by
  have h0 : AllTo [] [] 0 := AllTo.nil fun n hn => by have := hn.1; simp at this
  have h1 := (h0.cons aw3_good).cons aw1_good
  rw [List.append_nil] at h1
  obtain ⟨e1, e2⟩ := all_one h h1
  rw [aw1_len, aw3_len] at e2
  exact ⟨e1, by omega⟩
set_option maxRecDepth 100000 in
set_option maxHeartbeats 4000000 in
theorem awake32_any (w : World) : Calls Tryd.prog 4 #[] w fun e w' => e = .returned (.bool true) ∧ Below w.heap.size w w' := by
  have H1 := Lib.hid (line_any aw1 none 0 0 0 w ⟨rfl, rfl⟩ SlR.nil_ (Nat.zero_le _) (fun _ h => nomatch h))
  go_enter Tryd.func4, Tryd.ntmps4
  go_wp2_with (refine stop_at (some 8) rfl ?_)
  refine Stop.go (wpList_build rfl 31 rfl (vs := #[(0, .int .i64 1)]) (by rfl) (build_recK 1 _) ?_)
  go_wp2_with fail
  refine H1.out.mono ?_
  rintro e w1 ⟨hl1, hb1⟩
  unfold LineTo at hl1
  rw [show rightB aw1 = true from aw1_good.1, if_pos rfl] at hl1
  obtain ⟨v1, rfl, ho1⟩ := hl1
  rw [aw1_len] at ho1
  obtain ⟨A1, c1, rfl, _, _⟩ := own_form ho1
  have H2 := Lib.hid (line_any aw3 none 0 0 0 w1 ⟨rfl, rfl⟩ SlR.nil_ (Nat.zero_le _) (fun _ h => nomatch h))
  have HO1 := Lib.hid ho1
  have HB1 := Lib.hid hb1
  clear ho1 hb1 H1
  go_wp2_with (refine stop_at (some 13) rfl ?_)
  refine Stop.go (wpList_build rfl 31 rfl (vs := #[(0, .int .i64 3), (1, .int .i64 9)]) (by rfl) (build_recKS 3 9 _) ?_)
  go_wp2_with fail
  refine H2.out.mono ?_
  rintro e w2 ⟨hl2, hb2⟩
  unfold LineTo at hl2
  rw [show rightB aw3 = true from aw3_good.1, if_pos rfl] at hl2
  obtain ⟨v2, rfl, ho2⟩ := hl2
  rw [aw3_len] at ho2
  obtain ⟨A2, c2, rfl, _, _⟩ := own_form ho2
  have HO12 := Lib.hid (own_below HO1.out hb2)
  have HO2 := Lib.hid ho2
  have HB2 := Lib.hid (HB1.out.trans (hb2.mono HB1.out.size))
  clear ho2 hb2 H2 HO1 HB1
  have hb3 : Below w2.heap.size w2 (w2.alloc (.cells #[] 5)) := (Below.refl _ _).alloc (Nat.le_refl _) _
  have hown0 : (w2.alloc (.cells #[] 5)).ownsRow w2.heap.size 5 1 (.slice (some ⟨w2.heap.size, 0, none⟩) 0 0) 0 [] := World.ownsRow_lit w2 #[] 0 (Nat.le_refl _) (by simp [maxLen]) rfl
  have HR1 := Lib.hid (Rd.of_own (own_below HO12.out hb3))
  go_wp2_with (refine stop_at (some 18) rfl ?_)
  refine Stop.go (wpList_seg 2 _ _ _ (fun Q' hQ' => ?_))
  simp only [List.take_succ_cons, List.take_zero]
  go_wp2_with fail
  try simp only [List.drop_succ_cons, List.drop_zero]
  refine Stop.go (wpList_app u8_ty rfl rfl rfl rfl hown0 HR1.out (m := 9) (by rw [bcells_length, aw1_len]) (bcells_one _) ?h63 ?hby ?hbase ?_)
  case h63 => simp [maxLen]
  case hby => decide
  case hbase => simp
  intro v3 w3 hown3 hg3 _ _
  have HB3 := Lib.hid (grown_below hb3 hg3 hown0 (Nat.le_refl _) (by simp))
  have HO23 := Lib.hid (Rd.of_own (own_below HO2.out HB3.out))
  have hw3 := HB3.out.size
  obtain ⟨A3, c3, rfl, _, _⟩ := own_form hown3
  generalize hac : Act.put _ _ _ = a9
  simp [Act.put] at hac
  subst hac
  refine wpList_seg 1 _ _ _ (fun Q' hQ' => ?_)
  simp only [List.take_succ_cons, List.take_zero]
  go_wp2_with fail
  try simp only [List.drop_succ_cons, List.drop_zero]
  refine Stop.go (wpList_app u8_ty rfl rfl rfl rfl hown3 HO23.out (m := 15) (by rw [bcells_length, aw3_len]) (bcells_one _) ?h63 ?hby ?hbase ?_)
  case h63 => simp [maxLen]
  case hby => decide
  case hbase => exact hw3
  intro v4 w4 hown4 hg4 _ _
  have HB4 := Lib.hid (HB2.out.trans ((grown_below HB3.out hg4 hown3 (Nat.le_refl _) hw3).mono HB2.out.size))
  obtain ⟨A4, c4, rfl, hc4, _⟩ := own_form hown4
  have hlen : (lineL aw1 ++ lineL aw3).length = 24 := by rw [List.length_append, aw1_len, aw3_len]
  have hrd4 : Rd w4 w4.heap.size A4 (bcells (lineL aw1 ++ lineL aw3)) := by rw [bcells_append]; exact Rd.of_own hown4
  have HAL := Lib.hid (all32_any (lineL aw1 ++ lineL aw3) A4 c4 w4.heap.size w4 hrd4 (Nat.le_refl _) (by rw [hlen]; decide) (by rw [hlen]; exact hc4))
  rw [hlen] at HAL
  clear hown4 hrd4 hown3 hg3 hg4 hown0 hb3 hlen
  generalize hac : Act.put _ _ _ = a9
  simp [Act.put] at hac
  subst hac
  go_wp2_with fail
  refine HAL.out.mono ?_
  rintro e w5 ⟨rs, n, v, rfl, hat, ho, hb5⟩
  obtain ⟨rfl, rfl⟩ := aw_all hat
  have HB5 := Lib.hid (HB4.out.trans (hb5.mono HB4.out.size))
  obtain ⟨A5, c5, rfl, _, _⟩ := ho.form
  obtain ⟨b, off, A6, c6, rfl, hcc, _, _, _, hcell⟩ := rec_at ho.sl (show 1 < [aw1, aw3].length by decide)
  have hs : w5.cell? ⟨b, off + 1 * 69 + 1, none⟩ = some (.int .i64 9) := hcell 1 _ rfl
  clear hat ho hb5 hcell HAL
  have hs70 : w5.cell? ⟨b, off + 70, none⟩ = some (.int .i64 9) := by rw [← hs, Nat.add_assoc]
  have hl2 : [aw1, aw3].length = 2 := rfl
  rw [hl2] at hcc ⊢
  go_wp2_with fail
  go_ret
  exact ⟨rfl, HB5.out⟩
end Go.Proofs.YtplbcbamnjnhlaaDoor
