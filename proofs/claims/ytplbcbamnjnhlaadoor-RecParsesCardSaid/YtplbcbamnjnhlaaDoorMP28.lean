/- Contract of the reference's Parse (32). -/
import Derived.Test.YtplbcbamnjnhlaaDoorMP27
import Derived.Test.YtplbcbamnjnhlaaDoorMP25
import Derived.Deep.Cut
import Derived.Deep.CutBlock
import Derived.Deep.DeepCutAuto
namespace Go.Proofs.YtplbcbamnjnhlaaDoor
open Go.RowKit

theorem D2_no {k : Nat} {l : List UInt8} (h : ¬(k = 2 ∧ l.length = 74)) : D2 k l = D1 k := if_neg h
theorem D3_no {k : Nat} {l : List UInt8} (h : ¬(k = 3 ∧ l.length = 6)) : D3 k l = D2 k l := if_neg h
theorem D4_no {k : Nat} {l : List UInt8} (h : ¬(k = 4 ∧ l.length = 68)) : D4 k l = D3 k l := if_neg h
theorem D5_no {k : Nat} {l : List UInt8} (h : ¬((k = 5 ∨ k = 6) ∧ l.length = 33)) : D5 k l = D4 k l := if_neg h
theorem D2_yes {l : List UInt8} (h : l.length = 74) : D2 2 l = ⟨2, (beVal ((l.drop 0).take 6) : Nat), (l.drop 6).take 32, (beVal ((l.drop (6 + 32)).take 1) : Nat), (l.drop 39).take 32, (beVal ((l.drop 71).take 3) : Nat), []⟩ := (if_pos ⟨rfl, h⟩).trans rfl
theorem D3_yes {l : List UInt8} (h : l.length = 6) : D3 3 l = ⟨3, (beVal ((l.drop 0).take 6) : Nat), z32, 0, z32, 0, []⟩ := (if_pos ⟨rfl, h⟩).trans rfl
theorem D4_yes {l : List UInt8} (h : l.length = 68) : D4 4 l = ⟨4, 0, (l.drop 0).take 32, (beVal ((l.drop (0 + 32)).take 1) : Nat), (l.drop 33).take 32, (beVal ((l.drop 65).take 3) : Nat), []⟩ := (if_pos ⟨rfl, h⟩).trans rfl
theorem D5_yes {k : Nat} {l : List UInt8} (hk : k = 5 ∨ k = 6) (h : l.length = 33) : D5 k l = ⟨(k : Nat), 0, (l.drop 0).take 32, (beVal ((l.drop (0 + 32)).take 1) : Nat), z32, 0, []⟩ := by
  refine (if_pos ⟨hk, h⟩).trans ?_
  rcases hk with rfl | rfl <;> rfl
theorem D2_at (l : List UInt8) {k : Nat} (h : k ≠ 2) : D2 k l = ⟨(k : Nat), 0, z32, 0, z32, 0, []⟩ := D2_no (fun x => h x.1)
theorem D3_at (l : List UInt8) {k : Nat} (h : k ≠ 2) (h3 : k ≠ 3) : D3 k l = ⟨(k : Nat), 0, z32, 0, z32, 0, []⟩ := (D3_no (fun x => h3 x.1)).trans (D2_at l h)
theorem D4_at (l : List UInt8) {k : Nat} (h : k ≠ 2) (h3 : k ≠ 3) (h4 : k ≠ 4) : D4 k l = ⟨(k : Nat), 0, z32, 0, z32, 0, []⟩ := (D4_no (fun x => h4 x.1)).trans (D3_at l h h3)
theorem then_ret32 {K : Act → World → Prop} {Q : Exit → Act → World → Prop} {a : Act} {w : World} (h : Q .ret a w) : Exit.then K Q .ret a w := h
set_option maxRecDepth 100000 in
set_option maxHeartbeats 40000000 in
theorem refParse_any (l : List UInt8) (A : Option Addr) (c B : Nat) (w : World) (hr : Rd w B A (bcells l)) (hB : B ≤ w.heap.size) (hl : l.length ≤ 68719476736) (hc : l.length ≤ c) :
    Calls Tryd.prog 6 #[.slice A l.length c] w (RefParseTo l w) := by
  have HBW := Lib.hid hB
  have HR := Lib.hid hr
  clear hr
  go_enter Tryd.func6, Tryd.ntmps6
  go_wp2_with (refine stop_at (some 2) rfl ?_)
  refine Stop.go (wpList_alloc rfl 36 rfl zero_rec32 rfl ?_)
  have hb1 : Below w.heap.size w (w.alloc (.cells (recCells 0 0 z32 0 z32 0 (.slice none 0 0)).toArray 36)) := (Below.refl _ _).alloc (Nat.le_refl _) _
  have HG1 := Lib.hid (Go.heap_alloc_new w (.cells (recCells 0 0 z32 0 z32 0 (.slice none 0 0)).toArray 36))
  have HR1 := Lib.hid (HR.out.below (hb1.mono hB))
  have HB1 := Lib.hid hb1
  clear hb1 HR hB
  generalize w.alloc (.cells (recCells 0 0 z32 0 z32 0 (.slice none 0 0)).toArray 36) = w1 at *
  by_cases h0 : l.length = 0
  · have HN := Lib.hid (show parseL l = none by rw [List.length_eq_zero_iff.1 h0]; exact parseL_nil)
    have h00 : ((l.length : Int) == 0) = true := by simp [h0]
    clear h0
    go_wp2_with (refine stop_at (some 27) rfl ?_)
    refine Stop.go (wpList_build rfl 36 rfl (vs := #[]) (by rfl) (build_zero32 _) ?_)
    refine wpList_store_agg rfl 36 rfl rfl rfl (store_row (recv_cells ..) (rec32_size _ _ _ _ _ _ _ rfl rfl) HG1.out (by rw [List.size_toArray, recCells_length, recCells_length]; rfl) (recCells_one _ _ _ _ _ _ _ _ _)) ?_
    go_wp2_with fail
    refine ret_rec32 rfl rfl rfl rfl rfl rfl (setRow_heap _ _ _ _ _ _ HG1.out) ?_
    exact refParseTo_no HN.out rfl (below_setRow HB1.out (Nat.le_refl _) _)
  · have h0' : 0 < l.length := by omega
    have h00 : ((l.length : Int) == 0) = false := by simp only [beq_eq_false_iff_ne]; omega
    obtain ⟨n, hn⟩ : ∃ n, l.length = n + 1 := ⟨l.length - 1, by omega⟩
    have hnl : n < l.length := by omega
    obtain ⟨ab, ao, rfl, hab, hcell⟩ := HR1.out.byte hnl
    obtain ⟨d, hd⟩ : ∃ d, d = l[n].toNat := ⟨_, rfl⟩
    rw [← hd] at hcell
    have en : l.length - 1 = n := by omega
    by_cases hd10 : d = 10
    · have HP := Lib.hid (show parseL l = bodyL (l.take n) by
        have := parseL_body h0' (by apply UInt8.toNat_inj.1; simp only [en]; rw [← hd, hd10]; rfl)
        rwa [en] at this)
      have HT := Lib.hid (show (l.take n).length = n by rw [List.length_take]; omega)
      have hXL := HT.out
      have HRT := Lib.hid (show Rd w1 B (some ⟨ab, ao, none⟩) (bcells (l.take n)) by have := HR1.out.take_ n; rwa [show (bcells l).take n = bcells (l.take n) by simp [bcells]] at this)
      subst hd10
      have hu := u8_upto (some ⟨ab, ao, none⟩) (n + 1) c n (by omega)
      clear hd en HR1 h0 h0'
      rw [hn] at hl hc hnl h00 ⊢
      clear hn
      have hsub : ((n + 1 : Nat) : Int) - 1 = (n : Int) := by omega
      have HU := refUnpack_any (l.take n) (some ⟨ab, ao, none⟩) c B w1 HRT.out (Nat.le_trans HBW.out HB1.out.size) (by rw [HT.out]; omega)
      rw [HT.out] at HU
      have HUU := Lib.hid HU
      obtain ⟨X, hX⟩ : ∃ X, X = l.take n := ⟨_, rfl⟩
      rw [← hX] at HP HUU hXL
      have HXL := Lib.hid hXL
      clear HU HRT HT hX hXL
      go_wp2_with fail
      refine HUU.out.mono ?_
      rintro e w2 ⟨hb2, hcase⟩
      have HB2 := Lib.hid (HB1.out.trans (hb2.mono HB1.out.size))
      have HG2 := Lib.hid ((hb2.block _ (Array.getElem?_eq_some_iff.1 HG1.out).1).trans HG1.out)
      cases hun : sevUnpack X with
      | none =>
        rw [hun] at hcase
        obtain rfl : e = _ := hcase
        have HN := Lib.hid (HP.out.trans (bodyL_1 hun))
        clear hun hb2 HG1 HB1 HP HUU
        go_wp2_with (refine stop_at (some 38) rfl ?_)
        refine Stop.go (wpList_build rfl 36 rfl (vs := #[]) (by rfl) (build_zero32 _) ?_)
        refine wpList_store_agg rfl 36 rfl rfl rfl (store_row (recv_cells ..) (rec32_size _ _ _ _ _ _ _ rfl rfl) HG2.out (by rw [List.size_toArray, recCells_length, recCells_length]; rfl) (recCells_one _ _ _ _ _ _ _ _ _)) ?_
        go_wp2_with fail
        refine ret_rec32 rfl rfl rfl rfl rfl rfl (setRow_heap _ _ _ _ _ _ HG2.out) ?_
        exact refParseTo_no HN.out rfl (below_setRow HB2.out (Nat.le_refl _) _)
      | some F =>
        rw [hun] at hcase
        obtain ⟨vF, rfl, hoF⟩ := hcase
        have HUN := Lib.hid hun
        obtain ⟨AF, cF, rfl, hcF, _⟩ := own_form hoF
        have HRF := Lib.hid (Rd.of_own hoF)
        have hFl : F.length ≤ 68719476736 := by
          have := congrArg List.length (sevPack_unpack hun)
          have h3 := sevPack_length F
          have h4 : X.length ≤ 68719476736 := by rw [HXL.out]; omega
          omega
        clear hun hb2 HG1 HB1 HUU hoF
        go_wp2_with fail
        refine (refFront_any F AF cF w2.heap.size w2 HRF.out (Nat.le_refl _) hFl hcF).mono ?_
        rintro e w3 ⟨hb3, hcase⟩
        have HB3 := Lib.hid (HB2.out.trans (hb3.mono HB2.out.size))
        have HG3 := Lib.hid ((hb3.block _ (Array.getElem?_eq_some_iff.1 HG2.out).1).trans HG2.out)
        cases hfo : frameParse F with
        | none =>
          rw [hfo] at hcase
          obtain ⟨x, hx0, hx1, hx2, rfl⟩ := hcase
          have HN := Lib.hid (HP.out.trans (bodyL_2 HUN.out (show frameOpen F = none by unfold frameOpen; rw [hfo])))
          have hxne : (x != 0) = true := by simpa using hx0
          clear hfo hb3 HG2 HB2 HP HUN HRF
          go_wp2_with (refine stop_at (some 54) rfl ?_)
          refine Stop.go (wpList_build rfl 36 rfl (vs := #[]) (by rfl) (build_zero32 _) ?_)
          refine wpList_store_agg rfl 36 rfl rfl rfl (store_row (recv_cells ..) (rec32_size _ _ _ _ _ _ _ rfl rfl) HG3.out (by rw [List.size_toArray, recCells_length, recCells_length]; rfl) (recCells_one _ _ _ _ _ _ _ _ _)) ?_
          go_wp2_with fail
          refine ret_rec32 rfl rfl rfl rfl rfl rfl (setRow_heap _ _ _ _ _ _ HG3.out) ?_
          exact refParseTo_no HN.out rfl (below_setRow HB3.out (Nat.le_refl _) _)
        | some kln =>
          obtain ⟨k, load, z⟩ := kln
          rw [hfo] at hcase
          obtain ⟨AL, cL, rfl, hrL⟩ := hcase
          by_cases hz : z = F.length
          · have hfo2 : frameOpen F = some (k, load) := by unfold frameOpen; rw [hfo]; simp only; rw [if_pos hz]
            have hLl := (frameOpen_some hfo2).2
            have HN := Lib.hid (HP.out.trans (bodyL_3 HUN.out hfo2))
            obtain ⟨kn, hkn⟩ : ∃ kn : Nat, kn = k.toNat := ⟨_, rfl⟩
            have hk8 : kn < 256 := by rw [hkn]; exact UInt8.toNat_lt _
            rw [← hkn] at HN ⊢
            have hzb : ((z : Int) != (F.length : Int)) = false := by simp [hz]
            have HZ := Lib.hid (And.intro hfo hz)
            clear hfo hb3 HG2 HB2 HP HUN HRF hkn hz hfo2
            go_wp2_with (refine stop_at (some 56) rfl ?_)
            refine Stop.go (wpList_seg 1 _ _ _ (fun Q' hQ' => ?_))
            simp only [List.take_succ_cons, List.take_zero]
            go_wp2_with fail
            try simp only [List.drop_succ_cons, List.drop_zero]
            refine Stop.go (wpList_build rfl 36 rfl (vs := #[(0, .int .i64 (kn : Nat))]) (by rfl) (build_kind32 _ _) ?_)
            refine wpList_alloc rfl 36 rfl zero_rec32 rfl ?_
            refine wpList_store_agg rfl 36 rfl rfl rfl (store_new2 (g := w3.heap.size) rfl (recv_cells ..) (rec32_size _ _ _ _ _ _ _ rfl rfl) (by rw [List.size_toArray, recCells_length, recCells_length]) (recCells_one _ _ _ _ _ _ _ _ _)) ?_
            have hb4 : Below w3.heap.size w3 (w3.alloc (.cells (recCells (kn : Nat) 0 z32 0 z32 0 (.slice none 0 0)).toArray 36)) := (Below.refl _ _).alloc (Nat.le_refl _) _
            have HT1 := Lib.hid (At32.mk (r := D1 kn) (v := .slice none 0 0) (RecAt.new (t := 36) w3 rfl rfl) (KeysOwn.nil _ _) (hrL.below hb4) ((hb4.block _ (Array.getElem?_eq_some_iff.1 HG3.out).1).trans HG3.out) (HB3.out.trans (hb4.mono HB3.out.size)) (Array.getElem?_eq_some_iff.1 HG3.out).1 : At32 w (w3.alloc (.cells (recCells (kn : Nat) 0 z32 0 z32 0 (.slice none 0 0)).toArray 36)) w3.heap.size AL load (D1 kn) (.slice none 0 0))
            clear hb4 hrL HG3 HB3
            generalize w3.alloc (.cells (recCells (kn : Nat) 0 z32 0 z32 0 (.slice none 0 0)).toArray 36) = w4 at *
            generalize w3.heap.size = m at *
            generalize hac : Act.put _ _ _ = a9
            simp [Act.put] at hac
            subst hac

            go_upto_region 11 with fail
            go_cut [64] from 58 (fun v wx => v = .bool (decide (kn = 2 ∧ load.length = 74)) ∧ wx = w4)
            case first =>
              clear HN
              by_cases hk : kn = 2
              · have hkb : ((kn : Int) == 2) = true := by rw [hk]; rfl
                by_cases hl : load.length = 74
                · have hlb : ((load.length : Int) == 74) = true := by rw [hl]; rfl
                  have HC := Lib.hid (decide_eq_true (p := kn = 2 ∧ load.length = 74) ⟨hk, hl⟩)
                  clear hk hl
                  go_wp2_with fail
                  go_meet
                  case rel => exact ⟨congrArg Value.bool HC.out.symm, rfl⟩
                · have hlb : ((load.length : Int) == 74) = false := by simp only [beq_eq_false_iff_ne]; omega
                  have HC := Lib.hid (decide_eq_false (p := kn = 2 ∧ load.length = 74) (fun h => hl h.2))
                  clear hk hl
                  go_wp2_with fail
                  go_meet
                  case rel => exact ⟨congrArg Value.bool HC.out.symm, rfl⟩
              · have hkb : ((kn : Int) == 2) = false := by simp only [beq_eq_false_iff_ne]; omega
                have HC := Lib.hid (decide_eq_false (p := kn = 2 ∧ load.length = 74) (fun h => hk h.1))
                clear hk
                go_wp2_with fail
                go_meet
                case rel => exact ⟨congrArg Value.bool HC.out.symm, rfl⟩
            case rest =>
              obtain ⟨hv, hw⟩ := hcut
              subst hv
              subst wc
              obtain ⟨b, hb⟩ : ∃ b, b = decide (kn = 2 ∧ load.length = 74) := ⟨_, rfl⟩
              rw [← hb]
              have HBB := Lib.hid hb
              clear hb
              go_upto_if 64 with fail
              go_cut [] from 12 (fun wx => Hid (At32 w wx m AL load (D2 kn load) (.slice none 0 0)))
              case first => as_aux_lemma =>
                clear HN
                cases b with
                | false =>
                  go_wp2_with fail
                  go_meet
                  case rel => exact Lib.hid (by rw [D2_no (of_decide_eq_false HBB.out.symm)]; exact HT1.out)
                | true =>
                  obtain ⟨rfl, hl⟩ := of_decide_eq_true HBB.out.symm
                  have HL := Lib.hid hl
                  clear hl HBB
                  have HA0 := Lib.hid (show At32 w w4 m AL load ⟨2, 0, z32, 0, z32, 0, []⟩ (.slice none 0 0) from HT1.out)
                  clear HT1
                  have HLK := Lib.hid (show z32.length = 32 from rfl)
                  have HLM := Lib.hid (show z32.length = 32 from rfl)
                  have hv := value32_any load AL cL m 0 6 w4 HA0.out.ld (by decide) (by rw [HL.out]; decide) (by omega)
                  rw [show ((0 : Nat) : Int) = 0 from rfl, show ((6 : Nat) : Int) = 6 from rfl] at hv
                  have HV := Lib.hid hv
                  clear hv
                  go_wp2_with fail
                  refine HV.out.mono ?_
                  rintro e _ ⟨rfl, rfl⟩
                  clear HV
                  obtain ⟨x, hx⟩ : ∃ x : Nat, x = beVal ((load.drop 0).take 6) := ⟨_, rfl⟩
                  have Hx := Lib.hid hx
                  rw [← hx]
                  clear hx
                  obtain ⟨w10, hst, hgm, hot, hbl⟩ := store_field (P := Tryd.prog) w4 (g := m) (off := 1) (vs := [.int .i64 (x : Nat)]) (v := .int .i64 (x : Nat)) (ty := 3) rfl (by kernel_rfl) HA0.out.rec_.blk (by simp [recCells_length, HLK.out]) (fun u hu => by rw [List.mem_singleton.1 hu]; rfl) (row_seq 2 0 z32 0 z32 0 (.slice none 0 0) (x : Nat))
                  have HA1 := Lib.hid (HA0.out.stored (r' := ⟨2, (x : Nat), z32, 0, z32, 0, []⟩) ⟨rfl, rfl⟩ rfl hgm hot (hbl m w4 (Below.refl _ _) (Nat.le_refl _)))
                  have HST := Lib.hid hst
                  clear hst hgm hot hbl
                  go_wp2_with (refine stop_at none rfl ?_)
                  refine Stop.go (wpList_store_agg rfl 3 rfl rfl rfl HST.out ?_)
                  clear HST
                  clear HA0
                  have hv := take32_any load AL cL m 6 w10 HA1.out.ld (Nat.le_of_lt HA1.out.rec_.lt) (by rw [HL.out]; decide) (by omega)
                  rw [show ((6 : Nat) : Int) = 6 from rfl] at hv
                  have HV := Lib.hid hv
                  clear hv
                  go_wp2_with fail
                  refine HV.out.mono ?_
                  rintro e w11 ⟨rfl, hb⟩
                  have HA2 := Lib.hid (HA1.out.later hb)
                  clear HV hb
                  clear HLK
                  obtain ⟨kh, hkh⟩ : ∃ kh, kh = (load.drop 6).take 32 := ⟨_, rfl⟩
                  obtain ⟨kk, hkk⟩ : ∃ kk : Int, kk = (beVal ((load.drop (6 + 32)).take 1) : Nat) := ⟨_, rfl⟩
                  have HLK := Lib.hid (show kh.length = 32 by rw [hkh, List.length_take, List.length_drop, HL.out]; decide)
                  rw [← hkh, ← hkk]
                  have HKH := Lib.hid hkh
                  have HKK := Lib.hid hkk
                  clear hkh hkk
                  obtain ⟨w12, hst, hgm, hot, hbl⟩ := store_field (P := Tryd.prog) w11 (g := m) (off := 2) (vs := hkCells kh kk) (v := hkv kh kk) (ty := 26) (hkv_cells _ _) (key_size _ _ HLK.out) HA2.out.rec_.blk (by simp [recCells_length, hkCells_length, HLK.out, z32_len]) (hkCells_one _ _) (row_key 2 (x : Nat) z32 0 z32 0 (.slice none 0 0) kh kk rfl HLK.out)
                  have HA3 := Lib.hid (HA2.out.stored (r' := ⟨2, (x : Nat), kh, kk, z32, 0, []⟩) ⟨HLK.out, rfl⟩ rfl hgm hot (hbl m w11 (Below.refl _ _) (Nat.le_refl _)))
                  have HST := Lib.hid hst
                  clear hst hgm hot hbl
                  go_wp2_with (refine stop_at none rfl ?_)
                  refine Stop.go (wpList_store_agg rfl 26 rfl rfl rfl HST.out ?_)
                  clear HST
                  clear HA2 HA1
                  clear HLM
                  go_wp2_with fail
                  go_loopw [12] (fun v12 wr => ∃ i : Nat, i ≤ 32 ∧ v12 = .int .i64 i ∧ Hid (At32 w wr m AL load ⟨2, (x : Nat), kh, kk, (load.drop 39).take i ++ List.replicate (32 - i) 0, 0, []⟩ (.slice none 0 0))) (fun v12 _ => 32 - (intOf v12).toNat)
                  case atStart => exact ⟨0, by omega, rfl, HA3.out⟩
                  case round =>
                    obtain ⟨i, hi, rfl, HI⟩ := hrel
                    by_cases hlt : i < 32
                    · have hin : 39 + i < load.length := by rw [HL.out]; omega
                      obtain ⟨ab, ao, rfl, hab, hcell⟩ := HI.out.ld.byte hin
                      have HT_ := Lib.hid (show ((load.drop 39).take i).length = i by rw [List.length_take, List.length_drop, HL.out]; omega)
                      have HS := Lib.hid (show (load.drop 39).take (i + 1) = (load.drop 39).take i ++ [load[39 + i]] by
                        rw [List.take_succ_eq_append_getElem (by rw [List.length_drop, HL.out]; omega), List.getElem_drop])
                      obtain ⟨w9, hst, hgm, hot, hbl⟩ := store_field (P := Tryd.prog) wr (g := m) (off := 35 + i) (vs := [.int .u8 (load[39 + i].toNat : Nat)]) (v := .int .u8 (load[39 + i].toNat : Nat)) (ty := 5) rfl (by kernel_rfl) HI.out.rec_.blk (by simp [recCells_length, HLK.out, HT_.out]; omega) (fun u hu => by rw [List.mem_singleton.1 hu]; rfl) (row_hash1 2 (x : Nat) kh kk 0 (.slice none 0 0) _ i _ HLK.out HT_.out hlt)
                      have HT9 := Lib.hid (HI.out.stored (r' := ⟨2, (x : Nat), kh, kk, (load.drop 39).take (i + 1) ++ List.replicate (32 - (i + 1)) 0, 0, []⟩) ⟨HLK.out, by simp [List.length_take, List.length_drop, HL.out]; omega⟩ rfl (by rw [HS.out]; exact hgm) hot (hbl m wr (Below.refl _ _) (Nat.le_refl _)))
                      have HST := Lib.hid hst
                      obtain ⟨d, hd⟩ : ∃ d, d = load[39 + i].toNat := ⟨_, rfl⟩
                      rw [← hd] at hcell HST
                      obtain ⟨b, hb⟩ : ∃ b, b = 39 + i := ⟨_, rfl⟩
                      have hbi : (39 : Int) + (i : Int) = (b : Int) := by omega
                      rw [show ao + (39 + i) = ao + b by omega] at hcell
                      have hbl2 : b < load.length := by omega
                      clear hst hgm hot hbl hd hb HS hin
                      go_wp2_with (refine stop_at (some 78) rfl ?_)
                      refine Stop.go (wpList_seg 5 _ _ _ (fun Q' hQ' => ?_))
                      simp only [List.take_succ_cons, List.take_zero]
                      go_wp2_with fail
                      simp only [List.drop_succ_cons, List.drop_zero]
                      refine Stop.go (wpList_store_agg rfl 5 rfl rfl rfl HST.out ?_)
                      go_wp2_with fail
                      refine ⟨⟨i + 1, by omega, rfl, HT9⟩, ?_⟩
                      simp [intOf]; omega
                    · obtain rfl : i = 32 := by omega
                      have HT5 := Lib.hid (show At32 w wr m AL load ⟨2, (x : Nat), kh, kk, (load.drop 39).take 32, 0, []⟩ (.slice none 0 0) by have := HI.out; rwa [Nat.sub_self, List.replicate_zero, List.append_nil] at this)
                      clear HI hlt hi
                      obtain ⟨mh, hmh⟩ : ∃ mh, mh = (load.drop 39).take 32 := ⟨_, rfl⟩
                      rw [← hmh] at HT5
                      have Hmh := Lib.hid hmh
                      have HLM := Lib.hid (show mh.length = 32 by rw [hmh, List.length_take, List.length_drop, HL.out]; decide)
                      clear hmh
                      have hv := value32_any load AL cL m 71 3 wr HT5.out.ld (by decide) (by rw [HL.out]; decide) (by omega)
                      rw [show ((71 : Nat) : Int) = 71 from rfl, show ((3 : Nat) : Int) = 3 from rfl] at hv
                      have HV := Lib.hid hv
                      clear hv
                      go_wp2_with fail
                      refine HV.out.mono ?_
                      rintro e _ ⟨rfl, rfl⟩
                      clear HV
                      obtain ⟨y, hy⟩ : ∃ y : Nat, y = beVal ((load.drop 71).take 3) := ⟨_, rfl⟩
                      have Hy := Lib.hid hy
                      rw [← hy]
                      clear hy
                      obtain ⟨w14, hst, hgm, hot, hbl⟩ := store_field (P := Tryd.prog) wr (g := m) (off := 67) (vs := [.int .i64 (y : Nat)]) (v := .int .i64 (y : Nat)) (ty := 3) rfl (by kernel_rfl) HT5.out.rec_.blk (by simp [recCells_length, HLK.out, HLM.out]) (fun u hu => by rw [List.mem_singleton.1 hu]; rfl) (row_ms 2 (x : Nat) kh kk 0 (.slice none 0 0) mh (y : Nat) HLK.out HLM.out)
                      have HA6 := Lib.hid (HT5.out.stored (r' := ⟨2, (x : Nat), kh, kk, mh, (y : Nat), []⟩) ⟨HLK.out, HLM.out⟩ rfl hgm hot (hbl m wr (Below.refl _ _) (Nat.le_refl _)))
                      have HST := Lib.hid hst
                      clear hst hgm hot hbl
                      go_wp2_with (refine stop_at none rfl ?_)
                      refine Stop.go (wpList_store_agg rfl 3 rfl rfl rfl HST.out ?_)
                      clear HST
                      go_wp2_with fail
                      go_meet
                      case rel => exact Lib.hid (by rw [D2_yes HL.out, ← Hx.out, ← HKH.out, ← HKK.out, ← Hmh.out, ← Hy.out]; exact HA6.out)
              case rest =>
                have HT2 := Lib.hid hcut.out
                clear hcut HT1 HBB
                generalize wc = wd2 at *
                go_upto_region 19 with fail
                go_cut [92] from 58 (fun v wx => v = .bool (decide (kn = 3 ∧ load.length = 6)) ∧ wx = wd2)
                case first =>
                  clear HN
                  by_cases hk : kn = 3
                  · have hkb : ((kn : Int) == 3) = true := by rw [hk]; rfl
                    by_cases hl : load.length = 6
                    · have hlb : ((load.length : Int) == 6) = true := by rw [hl]; rfl
                      have HC := Lib.hid (decide_eq_true (p := kn = 3 ∧ load.length = 6) ⟨hk, hl⟩)
                      clear hk hl
                      go_wp2_with fail
                      go_meet
                      case rel => exact ⟨congrArg Value.bool HC.out.symm, rfl⟩
                    · have hlb : ((load.length : Int) == 6) = false := by simp only [beq_eq_false_iff_ne]; omega
                      have HC := Lib.hid (decide_eq_false (p := kn = 3 ∧ load.length = 6) (fun h => hl h.2))
                      clear hk hl
                      go_wp2_with fail
                      go_meet
                      case rel => exact ⟨congrArg Value.bool HC.out.symm, rfl⟩
                  · have hkb : ((kn : Int) == 3) = false := by simp only [beq_eq_false_iff_ne]; omega
                    have HC := Lib.hid (decide_eq_false (p := kn = 3 ∧ load.length = 6) (fun h => hk h.1))
                    clear hk
                    go_wp2_with fail
                    go_meet
                    case rel => exact ⟨congrArg Value.bool HC.out.symm, rfl⟩
                case rest =>
                  obtain ⟨hv, hw⟩ := hcut
                  subst hv
                  subst wc
                  obtain ⟨b, hb⟩ : ∃ b, b = decide (kn = 3 ∧ load.length = 6) := ⟨_, rfl⟩
                  rw [← hb]
                  have HBB := Lib.hid hb
                  clear hb
                  go_upto_if 92 with fail
                  go_cut [] from 12 (fun wx => Hid (At32 w wx m AL load (D3 kn load) (.slice none 0 0)))
                  case first => as_aux_lemma =>
                    clear HN
                    cases b with
                    | false =>
                      go_wp2_with fail
                      go_meet
                      case rel => exact Lib.hid (by rw [D3_no (of_decide_eq_false HBB.out.symm)]; exact HT2.out)
                    | true =>
                      obtain ⟨rfl, hl⟩ := of_decide_eq_true HBB.out.symm
                      have HL := Lib.hid hl
                      clear hl HBB
                      have HA0 := Lib.hid (show At32 w wd2 m AL load ⟨3, 0, z32, 0, z32, 0, []⟩ (.slice none 0 0) from (by have := HT2.out; rwa [D2_at load (by decide)] at this))
                      clear HT2
                      have HLK := Lib.hid (show z32.length = 32 from rfl)
                      have HLM := Lib.hid (show z32.length = 32 from rfl)
                      have hv := value32_any load AL cL m 0 6 wd2 HA0.out.ld (by decide) (by rw [HL.out]; decide) (by omega)
                      rw [show ((0 : Nat) : Int) = 0 from rfl, show ((6 : Nat) : Int) = 6 from rfl] at hv
                      have HV := Lib.hid hv
                      clear hv
                      go_wp2_with fail
                      refine HV.out.mono ?_
                      rintro e _ ⟨rfl, rfl⟩
                      clear HV
                      obtain ⟨x, hx⟩ : ∃ x : Nat, x = beVal ((load.drop 0).take 6) := ⟨_, rfl⟩
                      have Hx := Lib.hid hx
                      rw [← hx]
                      clear hx
                      obtain ⟨w10, hst, hgm, hot, hbl⟩ := store_field (P := Tryd.prog) wd2 (g := m) (off := 1) (vs := [.int .i64 (x : Nat)]) (v := .int .i64 (x : Nat)) (ty := 3) rfl (by kernel_rfl) HA0.out.rec_.blk (by simp [recCells_length, HLK.out]) (fun u hu => by rw [List.mem_singleton.1 hu]; rfl) (row_seq 3 0 z32 0 z32 0 (.slice none 0 0) (x : Nat))
                      have HA1 := Lib.hid (HA0.out.stored (r' := ⟨3, (x : Nat), z32, 0, z32, 0, []⟩) ⟨rfl, rfl⟩ rfl hgm hot (hbl m wd2 (Below.refl _ _) (Nat.le_refl _)))
                      have HST := Lib.hid hst
                      clear hst hgm hot hbl
                      go_wp2_with (refine stop_at none rfl ?_)
                      refine Stop.go (wpList_store_agg rfl 3 rfl rfl rfl HST.out ?_)
                      clear HST
                      clear HA0
                      go_wp2_with fail
                      go_meet
                      case rel => exact Lib.hid (by rw [D3_yes HL.out, ← Hx.out]; exact HA1.out)
                  case rest =>
                    have HT3 := Lib.hid hcut.out
                    clear hcut HT2 HBB
                    generalize wc = wd3 at *
                    go_upto_region 21 with fail
                    go_cut [102] from 58 (fun v wx => v = .bool (decide (kn = 4 ∧ load.length = 68)) ∧ wx = wd3)
                    case first =>
                      clear HN
                      by_cases hk : kn = 4
                      · have hkb : ((kn : Int) == 4) = true := by rw [hk]; rfl
                        by_cases hl : load.length = 68
                        · have hlb : ((load.length : Int) == 68) = true := by rw [hl]; rfl
                          have HC := Lib.hid (decide_eq_true (p := kn = 4 ∧ load.length = 68) ⟨hk, hl⟩)
                          clear hk hl
                          go_wp2_with fail
                          go_meet
                          case rel => exact ⟨congrArg Value.bool HC.out.symm, rfl⟩
                        · have hlb : ((load.length : Int) == 68) = false := by simp only [beq_eq_false_iff_ne]; omega
                          have HC := Lib.hid (decide_eq_false (p := kn = 4 ∧ load.length = 68) (fun h => hl h.2))
                          clear hk hl
                          go_wp2_with fail
                          go_meet
                          case rel => exact ⟨congrArg Value.bool HC.out.symm, rfl⟩
                      · have hkb : ((kn : Int) == 4) = false := by simp only [beq_eq_false_iff_ne]; omega
                        have HC := Lib.hid (decide_eq_false (p := kn = 4 ∧ load.length = 68) (fun h => hk h.1))
                        clear hk
                        go_wp2_with fail
                        go_meet
                        case rel => exact ⟨congrArg Value.bool HC.out.symm, rfl⟩
                    case rest =>
                      obtain ⟨hv, hw⟩ := hcut
                      subst hv
                      subst wc
                      obtain ⟨b, hb⟩ : ∃ b, b = decide (kn = 4 ∧ load.length = 68) := ⟨_, rfl⟩
                      rw [← hb]
                      have HBB := Lib.hid hb
                      clear hb
                      go_upto_if 102 with fail
                      go_cut [] from 12 (fun wx => Hid (At32 w wx m AL load (D4 kn load) (.slice none 0 0)))
                      case first => as_aux_lemma =>
                        clear HN
                        cases b with
                        | false =>
                          go_wp2_with fail
                          go_meet
                          case rel => exact Lib.hid (by rw [D4_no (of_decide_eq_false HBB.out.symm)]; exact HT3.out)
                        | true =>
                          obtain ⟨rfl, hl⟩ := of_decide_eq_true HBB.out.symm
                          have HL := Lib.hid hl
                          clear hl HBB
                          have HA0 := Lib.hid (show At32 w wd3 m AL load ⟨4, 0, z32, 0, z32, 0, []⟩ (.slice none 0 0) from (by have := HT3.out; rwa [D3_at load (by decide) (by decide)] at this))
                          clear HT3
                          have HLK := Lib.hid (show z32.length = 32 from rfl)
                          have HLM := Lib.hid (show z32.length = 32 from rfl)
                          have hv := take32_any load AL cL m 0 wd3 HA0.out.ld (Nat.le_of_lt HA0.out.rec_.lt) (by rw [HL.out]; decide) (by omega)
                          rw [show ((0 : Nat) : Int) = 0 from rfl] at hv
                          have HV := Lib.hid hv
                          clear hv
                          go_wp2_with fail
                          refine HV.out.mono ?_
                          rintro e w11 ⟨rfl, hb⟩
                          have HA2 := Lib.hid (HA0.out.later hb)
                          clear HV hb
                          clear HLK
                          obtain ⟨kh, hkh⟩ : ∃ kh, kh = (load.drop 0).take 32 := ⟨_, rfl⟩
                          obtain ⟨kk, hkk⟩ : ∃ kk : Int, kk = (beVal ((load.drop (0 + 32)).take 1) : Nat) := ⟨_, rfl⟩
                          have HLK := Lib.hid (show kh.length = 32 by rw [hkh, List.length_take, List.length_drop, HL.out]; decide)
                          rw [← hkh, ← hkk]
                          have HKH := Lib.hid hkh
                          have HKK := Lib.hid hkk
                          clear hkh hkk
                          obtain ⟨w12, hst, hgm, hot, hbl⟩ := store_field (P := Tryd.prog) w11 (g := m) (off := 2) (vs := hkCells kh kk) (v := hkv kh kk) (ty := 26) (hkv_cells _ _) (key_size _ _ HLK.out) HA2.out.rec_.blk (by simp [recCells_length, hkCells_length, HLK.out, z32_len]) (hkCells_one _ _) (row_key 4 0 z32 0 z32 0 (.slice none 0 0) kh kk rfl HLK.out)
                          have HA3 := Lib.hid (HA2.out.stored (r' := ⟨4, 0, kh, kk, z32, 0, []⟩) ⟨HLK.out, rfl⟩ rfl hgm hot (hbl m w11 (Below.refl _ _) (Nat.le_refl _)))
                          have HST := Lib.hid hst
                          clear hst hgm hot hbl
                          go_wp2_with (refine stop_at none rfl ?_)
                          refine Stop.go (wpList_store_agg rfl 26 rfl rfl rfl HST.out ?_)
                          clear HST
                          clear HA2 HA0
                          clear HLM
                          go_wp2_with fail
                          go_loopw [13] (fun v12 wr => ∃ i : Nat, i ≤ 32 ∧ v12 = .int .i64 i ∧ Hid (At32 w wr m AL load ⟨4, 0, kh, kk, (load.drop 33).take i ++ List.replicate (32 - i) 0, 0, []⟩ (.slice none 0 0))) (fun v12 _ => 32 - (intOf v12).toNat)
                          case atStart => exact ⟨0, by omega, rfl, HA3.out⟩
                          case round =>
                            obtain ⟨i, hi, rfl, HI⟩ := hrel
                            by_cases hlt : i < 32
                            · have hin : 33 + i < load.length := by rw [HL.out]; omega
                              obtain ⟨ab, ao, rfl, hab, hcell⟩ := HI.out.ld.byte hin
                              have HT_ := Lib.hid (show ((load.drop 33).take i).length = i by rw [List.length_take, List.length_drop, HL.out]; omega)
                              have HS := Lib.hid (show (load.drop 33).take (i + 1) = (load.drop 33).take i ++ [load[33 + i]] by
                                rw [List.take_succ_eq_append_getElem (by rw [List.length_drop, HL.out]; omega), List.getElem_drop])
                              obtain ⟨w9, hst, hgm, hot, hbl⟩ := store_field (P := Tryd.prog) wr (g := m) (off := 35 + i) (vs := [.int .u8 (load[33 + i].toNat : Nat)]) (v := .int .u8 (load[33 + i].toNat : Nat)) (ty := 5) rfl (by kernel_rfl) HI.out.rec_.blk (by simp [recCells_length, HLK.out, HT_.out]; omega) (fun u hu => by rw [List.mem_singleton.1 hu]; rfl) (row_hash1 4 0 kh kk 0 (.slice none 0 0) _ i _ HLK.out HT_.out hlt)
                              have HT9 := Lib.hid (HI.out.stored (r' := ⟨4, 0, kh, kk, (load.drop 33).take (i + 1) ++ List.replicate (32 - (i + 1)) 0, 0, []⟩) ⟨HLK.out, by simp [List.length_take, List.length_drop, HL.out]; omega⟩ rfl (by rw [HS.out]; exact hgm) hot (hbl m wr (Below.refl _ _) (Nat.le_refl _)))
                              have HST := Lib.hid hst
                              obtain ⟨d, hd⟩ : ∃ d, d = load[33 + i].toNat := ⟨_, rfl⟩
                              rw [← hd] at hcell HST
                              obtain ⟨b, hb⟩ : ∃ b, b = 33 + i := ⟨_, rfl⟩
                              have hbi : (33 : Int) + (i : Int) = (b : Int) := by omega
                              rw [show ao + (33 + i) = ao + b by omega] at hcell
                              have hbl2 : b < load.length := by omega
                              clear hst hgm hot hbl hd hb HS hin
                              go_wp2_with (refine stop_at (some 113) rfl ?_)
                              refine Stop.go (wpList_seg 5 _ _ _ (fun Q' hQ' => ?_))
                              simp only [List.take_succ_cons, List.take_zero]
                              go_wp2_with fail
                              simp only [List.drop_succ_cons, List.drop_zero]
                              refine Stop.go (wpList_store_agg rfl 5 rfl rfl rfl HST.out ?_)
                              go_wp2_with fail
                              refine ⟨⟨i + 1, by omega, rfl, HT9⟩, ?_⟩
                              simp [intOf]; omega
                            · obtain rfl : i = 32 := by omega
                              have HT5 := Lib.hid (show At32 w wr m AL load ⟨4, 0, kh, kk, (load.drop 33).take 32, 0, []⟩ (.slice none 0 0) by have := HI.out; rwa [Nat.sub_self, List.replicate_zero, List.append_nil] at this)
                              clear HI hlt hi
                              obtain ⟨mh, hmh⟩ : ∃ mh, mh = (load.drop 33).take 32 := ⟨_, rfl⟩
                              rw [← hmh] at HT5
                              have Hmh := Lib.hid hmh
                              have HLM := Lib.hid (show mh.length = 32 by rw [hmh, List.length_take, List.length_drop, HL.out]; decide)
                              clear hmh
                              have hv := value32_any load AL cL m 65 3 wr HT5.out.ld (by decide) (by rw [HL.out]; decide) (by omega)
                              rw [show ((65 : Nat) : Int) = 65 from rfl, show ((3 : Nat) : Int) = 3 from rfl] at hv
                              have HV := Lib.hid hv
                              clear hv
                              go_wp2_with fail
                              refine HV.out.mono ?_
                              rintro e _ ⟨rfl, rfl⟩
                              clear HV
                              obtain ⟨y, hy⟩ : ∃ y : Nat, y = beVal ((load.drop 65).take 3) := ⟨_, rfl⟩
                              have Hy := Lib.hid hy
                              rw [← hy]
                              clear hy
                              obtain ⟨w14, hst, hgm, hot, hbl⟩ := store_field (P := Tryd.prog) wr (g := m) (off := 67) (vs := [.int .i64 (y : Nat)]) (v := .int .i64 (y : Nat)) (ty := 3) rfl (by kernel_rfl) HT5.out.rec_.blk (by simp [recCells_length, HLK.out, HLM.out]) (fun u hu => by rw [List.mem_singleton.1 hu]; rfl) (row_ms 4 0 kh kk 0 (.slice none 0 0) mh (y : Nat) HLK.out HLM.out)
                              have HA6 := Lib.hid (HT5.out.stored (r' := ⟨4, 0, kh, kk, mh, (y : Nat), []⟩) ⟨HLK.out, HLM.out⟩ rfl hgm hot (hbl m wr (Below.refl _ _) (Nat.le_refl _)))
                              have HST := Lib.hid hst
                              clear hst hgm hot hbl
                              go_wp2_with (refine stop_at none rfl ?_)
                              refine Stop.go (wpList_store_agg rfl 3 rfl rfl rfl HST.out ?_)
                              clear HST
                              go_wp2_with fail
                              go_meet
                              case rel => exact Lib.hid (by rw [D4_yes HL.out, ← HKH.out, ← HKK.out, ← Hmh.out, ← Hy.out]; exact HA6.out)
                      case rest =>
                        have HT4 := Lib.hid hcut.out
                        clear hcut HT3 HBB
                        generalize wc = wd4 at *
                        go_upto_region 28 with fail
                        go_cut [131] from 58 (fun v wx => v = .bool (decide ((kn = 5 ∨ kn = 6) ∧ load.length = 33)) ∧ wx = wd4)
                        case first =>
                          clear HN
                          by_cases hk : kn = 5
                          · have hkb : ((kn : Int) == 5) = true := by rw [hk]; rfl
                            by_cases hl : load.length = 33
                            · have hlb : ((load.length : Int) == 33) = true := by rw [hl]; rfl
                              have HC := Lib.hid (decide_eq_true (p := (kn = 5 ∨ kn = 6) ∧ load.length = 33) ⟨.inl hk, hl⟩)
                              clear hk hl
                              go_wp2_with fail
                              go_meet
                              case rel => exact ⟨congrArg Value.bool HC.out.symm, rfl⟩
                            · have hlb : ((load.length : Int) == 33) = false := by simp only [beq_eq_false_iff_ne]; omega
                              have HC := Lib.hid (decide_eq_false (p := (kn = 5 ∨ kn = 6) ∧ load.length = 33) (fun h => hl h.2))
                              clear hk hl
                              go_wp2_with fail
                              go_meet
                              case rel => exact ⟨congrArg Value.bool HC.out.symm, rfl⟩
                          · have hkb : ((kn : Int) == 5) = false := by simp only [beq_eq_false_iff_ne]; omega
                            have HK5 := Lib.hid hk
                            clear hk
                            by_cases hk : kn = 6
                            · have hkb6 : ((kn : Int) == 6) = true := by rw [hk]; rfl
                              by_cases hl : load.length = 33
                              · have hlb : ((load.length : Int) == 33) = true := by rw [hl]; rfl
                                have HC := Lib.hid (decide_eq_true (p := (kn = 5 ∨ kn = 6) ∧ load.length = 33) ⟨.inr hk, hl⟩)
                                clear hk hl
                                go_wp2_with fail
                                go_meet
                                case rel => exact ⟨congrArg Value.bool HC.out.symm, rfl⟩
                              · have hlb : ((load.length : Int) == 33) = false := by simp only [beq_eq_false_iff_ne]; omega
                                have HC := Lib.hid (decide_eq_false (p := (kn = 5 ∨ kn = 6) ∧ load.length = 33) (fun h => hl h.2))
                                clear hk hl
                                go_wp2_with fail
                                go_meet
                                case rel => exact ⟨congrArg Value.bool HC.out.symm, rfl⟩
                            · have hkb6 : ((kn : Int) == 6) = false := by simp only [beq_eq_false_iff_ne]; omega
                              have HC := Lib.hid (decide_eq_false (p := (kn = 5 ∨ kn = 6) ∧ load.length = 33) (fun h => h.1.elim HK5.out hk))
                              clear hk
                              go_wp2_with fail
                              go_meet
                              case rel => exact ⟨congrArg Value.bool HC.out.symm, rfl⟩
                        case rest =>
                          obtain ⟨hv, hw⟩ := hcut
                          subst hv
                          subst wc
                          obtain ⟨b, hb⟩ : ∃ b, b = decide ((kn = 5 ∨ kn = 6) ∧ load.length = 33) := ⟨_, rfl⟩
                          rw [← hb]
                          have HBB := Lib.hid hb
                          clear hb
                          go_upto_if 131 with fail
                          go_cut [] from 12 (fun wx => Hid (At32 w wx m AL load (D5 kn load) (.slice none 0 0)))
                          case first => as_aux_lemma =>
                            clear HN
                            cases b with
                            | false =>
                              go_wp2_with fail
                              go_meet
                              case rel => exact Lib.hid (by rw [D5_no (of_decide_eq_false HBB.out.symm)]; exact HT4.out)
                            | true =>
                              obtain ⟨hk56, hl⟩ := of_decide_eq_true HBB.out.symm
                              have HK56 := Lib.hid hk56
                              have HL := Lib.hid hl
                              clear hl HBB
                              have HA0 := Lib.hid (show At32 w wd4 m AL load ⟨(kn : Nat), 0, z32, 0, z32, 0, []⟩ (.slice none 0 0) from (by have := HT4.out; rwa [D4_at load (by omega) (by omega) (by omega)] at this))
                              clear HT4 hk56
                              have HLK := Lib.hid (show z32.length = 32 from rfl)
                              have HLM := Lib.hid (show z32.length = 32 from rfl)
                              have hv := take32_any load AL cL m 0 wd4 HA0.out.ld (Nat.le_of_lt HA0.out.rec_.lt) (by rw [HL.out]; decide) (by omega)
                              rw [show ((0 : Nat) : Int) = 0 from rfl] at hv
                              have HV := Lib.hid hv
                              clear hv
                              go_wp2_with fail
                              refine HV.out.mono ?_
                              rintro e w11 ⟨rfl, hb⟩
                              have HA2 := Lib.hid (HA0.out.later hb)
                              clear HV hb
                              clear HLK
                              obtain ⟨kh, hkh⟩ : ∃ kh, kh = (load.drop 0).take 32 := ⟨_, rfl⟩
                              obtain ⟨kk, hkk⟩ : ∃ kk : Int, kk = (beVal ((load.drop (0 + 32)).take 1) : Nat) := ⟨_, rfl⟩
                              have HLK := Lib.hid (show kh.length = 32 by rw [hkh, List.length_take, List.length_drop, HL.out]; decide)
                              rw [← hkh, ← hkk]
                              have HKH := Lib.hid hkh
                              have HKK := Lib.hid hkk
                              clear hkh hkk
                              obtain ⟨w12, hst, hgm, hot, hbl⟩ := store_field (P := Tryd.prog) w11 (g := m) (off := 2) (vs := hkCells kh kk) (v := hkv kh kk) (ty := 26) (hkv_cells _ _) (key_size _ _ HLK.out) HA2.out.rec_.blk (by simp [recCells_length, hkCells_length, HLK.out, z32_len]) (hkCells_one _ _) (row_key (kn : Nat) 0 z32 0 z32 0 (.slice none 0 0) kh kk rfl HLK.out)
                              have HA3 := Lib.hid (HA2.out.stored (r' := ⟨(kn : Nat), 0, kh, kk, z32, 0, []⟩) ⟨HLK.out, rfl⟩ rfl hgm hot (hbl m w11 (Below.refl _ _) (Nat.le_refl _)))
                              have HST := Lib.hid hst
                              clear hst hgm hot hbl
                              go_wp2_with (refine stop_at none rfl ?_)
                              refine Stop.go (wpList_store_agg rfl 26 rfl rfl rfl HST.out ?_)
                              clear HST
                              clear HA2 HA0
                              go_wp2_with fail
                              go_meet
                              case rel => exact Lib.hid (by rw [D5_yes HK56.out HL.out, ← HKH.out, ← HKK.out]; exact HA3.out)
                          case rest =>
                            have HT5 := Lib.hid hcut.out
                            clear hcut HT4 HBB
                            generalize wc = wd5 at *
                            go_upto_block 4 with fail
                            go_cut [] from 12 (fun wx => ∃ (A : Option Addr) (n c : Nat), Hid (At32 w wx m AL load (D7 kn load) (.slice A n c)))
                            case first => as_aux_lemma =>
                              clear HN
                              by_cases k7 : kn = 7
                              · have hkb : ((kn : Int) == 7) = true := by rw [k7]; rfl
                                have HK7 := Lib.hid k7
                                have HT0 := Lib.hid (show At32 w wd5 m AL load ⟨7, 0, z32, 0, z32, 0, []⟩ (.slice none 0 0) by have := HT5.out; rwa [k7, D5_no (by omega), D4_at load (by decide) (by decide) (by decide)] at this)
                                clear HT5 k7
                                go_wp2_with fail
                                go_loopw [14] (fun v14 wr => ∃ (a : Nat) (xs : List KeyD) (A : Option Addr) (n c : Nat), Hid (a = 33 * xs.length) ∧ a ≤ load.length ∧ v14 = .int .i64 a ∧ Hid (xs = (List.range xs.length).map fun j => keyAt load (33 * j)) ∧ Hid (At32 w wr m AL load ⟨7, 0, z32, 0, z32, 0, xs⟩ (.slice A n c))) (fun v14 _ => load.length + 33 - (intOf v14).toNat)
                                case atStart => exact ⟨0, [], none, 0, 0, Lib.hid rfl, Nat.zero_le _, rfl, Lib.hid rfl, HT0⟩
                                case round =>
                                  obtain ⟨a, xs, A7, n7, c7, hia, hal, rfl, HXS, HT⟩ := hrel
                                  by_cases hle : a + 33 ≤ load.length
                                  · have hlb : (a : Int) + 33 ≤ (load.length : Int) := by omega
                                    go_wp2_with fail
                                    refine wpI_inv [4, 5, 6] [1] [] (fun w' => w'.cell? ⟨m, 68, none⟩ = some (.slice A7 n7 c7)) HT.out.rec_.keys_ (by kernel_rfl) (by kernel_rfl) ?_
                                    refine wpI_seg 4 (by decide) (fun Q0 hQ0 => ?_)
                                    simp only [List.take_succ_cons, List.take_zero]
                                    have HC5 := Lib.hid HT.out.rec_.keys_
                                    have hc5 := HC5.out
                                    go_wp2_with fail
                                    try simp only [List.drop_succ_cons, List.drop_zero]
                                    refine wpI_one (fun Q1 hQ1 => ?_)
                                    go_wp2_with fail
                                    have HTd := Lib.hid (HT.out.later ((Below.refl _ _).drew))
                                    refine (take32_any load AL cL m a _ HTd.out.ld (Nat.le_of_lt HTd.out.rec_.lt) hle (by omega)).mono ?_
                                    rintro e w6 ⟨rfl, hb6⟩
                                    have HT6 := Lib.hid (HTd.out.later hb6)
                                    obtain ⟨kh, hkh⟩ : ∃ kh, kh = (load.drop a).take 32 := ⟨_, rfl⟩
                                    obtain ⟨kk, hkk⟩ : ∃ kk : Int, kk = (beVal ((load.drop (a + 32)).take 1) : Nat) := ⟨_, rfl⟩
                                    have hb1 := beVal_bd load (a + 32) 1 (by omega)
                                    have HLK := Lib.hid (show kh.length = 32 by rw [hkh, List.length_take, List.length_drop]; omega)
                                    have HKB := Lib.hid (show -9223372036854775808 ≤ kk ∧ kk ≤ 9223372036854775807 by rw [hkk]; simp at hb1; omega)
                                    have HXS2 := Lib.hid (show xs ++ [(kh, kk)] = (List.range (xs ++ [(kh, kk)]).length).map fun j => keyAt load (33 * j) by
                                      rw [List.length_append, List.length_singleton, List.range_succ, List.map_append, ← HXS.out, List.map_singleton, ← hia.out, hkh, hkk]
                                      rfl)
                                    have HA2 := Lib.hid (show a + 33 = 33 * (xs ++ [(kh, kk)]).length by rw [List.length_append, List.length_singleton, hia.out]; omega)
                                    rw [← hkh, ← hkk]
                                    clear hkh hkk hb6 hb1
                                    go_wp2_with fail
                                    refine ⟨HT6.out.rec_.keys_, ?_⟩
                                    refine wpI_one (fun Q2 hQ2 => ?_)
                                    refine wpList_build_one rfl 29 26 rfl rfl (vs := hkCells kh kk) Tryd.underlying29 (z := hkv z32 0) (key_info kh kk HLK.out) (hkv_cells _ _) (by rw [hkCells_length]; omega) (by rw [hkCells_length, HLK.out]; decide) ?_
                                    have hb7 : Below w6.heap.size w6 (w6.alloc (.cells (hkCells kh kk).toArray 26)) := (Below.refl _ _).alloc (Nat.le_refl _) _
                                    have HT7 := Lib.hid (HT6.out.later hb7)
                                    have HG7 := Lib.hid (Go.heap_alloc_new w6 (.cells (hkCells kh kk).toArray 26))
                                    refine wpList_nil (hQ2 _ _ ⟨HT7.out.rec_.keys_, ?_⟩)
                                    generalize hac : Act.put _ _ _ = a9
                                    simp [Act.put] at hac
                                    subst hac
                                    have HM6 := Lib.hid (HT6.out.rec_.lt)
                                    have hs7 : (w6.alloc (.cells (hkCells kh kk).toArray 26)).heap.size = w6.heap.size + 1 := Array.size_push _
                                    have hxl : xs.length ≤ load.length := by have := hia.out; omega
                                    generalize w6.alloc (.cells (hkCells kh kk).toArray 26) = w7 at *
                                    refine wpI_one (fun Q3 hQ3 => ?_)
                                    have hn7 : n7 = xs.length := HT7.out.keys.sl.n_eq
                                    subst hn7
                                    refine wpList_app key_app rfl rfl rfl rfl (show w7.ownsRow (m + 1) 26 33 (.slice A7 xs.length c7) xs.length (xs.flatMap fun x => hkCells x.1 x.2) from HT7.out.keys.1) (Rd.row (B := w7.heap.size) HG7.out (by rw [hs7]; omega)) (m := 1) (by rw [hkCells_length, HLK.out]) (hkCells_one _ _) ?h63 ?hby ?hbase ?_
                                    case h63 => simp only [maxLen]; omega
                                    case hby => omega
                                    case hbase => have := HM6.out; omega
                                    intro v8 w8 hown8 hg8 _ _
                                    have hm7 : m + 1 ≤ w7.heap.size := by have := HM6.out; omega
                                    have hb8 : Below (m + 1) w7 w8 := grown_below ((Below.refl _ _).mono hm7) hg8 HT7.out.keys.1 (Nat.le_refl _) hm7
                                    obtain ⟨A8, c8, rfl, _, _⟩ := own_form hown8
                                    have HO8 := Lib.hid hown8
                                    have hm8 : w8.heap[m]? = some (.cells (recCells 7 0 z32 0 z32 0 (.slice A7 xs.length c7)).toArray 36 (0, 0)) := (hb8.block m (Nat.lt_succ_self _)).trans HT7.out.rec_.blk
                                    have HB8 := Lib.hid hb8
                                    have hc8 : w8.cell? ⟨m, 68, none⟩ = some (.slice A7 xs.length c7) := (RecAt.mk hm8 rfl rfl).keys_
                                    refine wpList_nil (hQ3 _ _ ⟨hc8, ?_⟩)
                                    generalize hac : Act.put _ _ _ = a9
                                    simp [Act.put] at hac
                                    subst hac
                                    refine wpI_seg 2 (by decide) (fun Q4 hQ4 => ?_)
                                    simp only [List.take_succ_cons, List.take_zero]
                                    obtain ⟨w9, hst, hgm, hot, hbl⟩ := store_field (P := Tryd.prog) w8 (g := m) (off := 68) (vs := [.slice A8 (xs.length + 1) c8]) (v := .slice A8 (xs.length + 1) c8) (ty := 29) rfl (by kernel_rfl) hm8 (by simp [recCells_length, z32_len]) (fun u hu => by rw [List.mem_singleton.1 hu]; rfl) (row_keys 7 0 z32 0 z32 0 (.slice A7 xs.length c7) (.slice A8 (xs.length + 1) c8) rfl rfl)
                                    have HST9 := Lib.hid hst
                                    have HT9 := Lib.hid (HT7.out.pushed (ks := xs ++ [(kh, kk)]) HB8.out (v8 := .slice A8 (xs.length + 1) c8) ⟨by simpa using HO8.out, fun x hx => by
                                      rcases List.mem_append.1 hx with hx | hx
                                      · exact HT7.out.keys.2 x hx
                                      · rw [List.mem_singleton.1 hx]
                                        exact ⟨HLK.out, HKB.out⟩⟩ hgm hot (hbl m w8 (Below.refl _ _) (Nat.le_refl _)))
                                    clear hst hgm hot hbl
                                    go_wp2_with (refine stop_at none rfl ?_)
                                    refine Stop.go (wpList_store_agg rfl 29 rfl rfl rfl HST9.out ?_)
                                    refine wpList_nil (hQ4 _ _ ?_)
                                    generalize hac : Act.put _ _ _ = a9
                                    simp [Act.put] at hac
                                    subst hac
                                    simp only [List.drop_succ_cons, List.drop_zero]
                                    refine wpI_end ⟨by rfl, ⟨(fun _ => ⟨_, fun w' hI => load_slice Tryd.underlying29 hI⟩), trivial⟩, ?_⟩
                                    go_wp2_with fail
                                    refine ⟨⟨a + 33, xs ++ [(kh, kk)], A8, xs.length + 1, c8, HA2, hle, (by rw [Int.natCast_add]; rfl), HXS2, HT9⟩, ?_⟩
                                    simp [intOf]; omega
                                  · have hlb : ¬ ((a : Int) + 33 ≤ (load.length : Int)) := by omega
                                    have HF := Lib.hid (show D7 kn load = ⟨7, 0, z32, 0, z32, 0, xs⟩ by
                                      have h1 : xs.length = load.length / 33 := by have := hia.out; omega
                                      rw [HXS.out, h1, HK7.out]
                                      exact (if_pos rfl).trans rfl)
                                    clear hle
                                    go_wp2_with fail
                                    go_meet
                                    case rel => exact ⟨A7, n7, c7, Lib.hid (by rw [HF.out]; exact HT.out)⟩
                              · have hkb : ((kn : Int) == 7) = false := by simp only [beq_eq_false_iff_ne]; omega
                                have HF := Lib.hid (show D7 kn load = D5 kn load from if_neg k7)
                                clear k7
                                go_wp2_with fail
                                go_loopw [14] (fun v14 wr => v14 = .int .i64 0 ∧ wr = wd5) (fun _ _ => 0)
                                case atStart => exact ⟨rfl, rfl⟩
                                case round =>
                                  obtain ⟨rfl, hw⟩ := hrel
                                  subst hw
                                  go_wp2_with fail
                                  go_meet
                                  case rel => exact ⟨none, 0, 0, Lib.hid (by rw [HF.out]; exact HT5.out)⟩
                            case rest => as_aux_lemma =>
                              obtain ⟨A6, n6, c6, HT6⟩ := hcut
                              clear HT5
                              generalize wc = w6 at *
                              obtain ⟨R, hR⟩ : ∃ R, R = D7 kn load := ⟨_, rfl⟩
                              have hok := D7_ok kn load
                              have HHS := Lib.hid (show Hs R by rw [hR]; exact (D7_good kn load).1)
                              have HDEC := Lib.hid (show okT (kn : Nat) load = true → R = decR (kn : Nat) load by rw [hR]; exact D7_dec kn load)
                              rw [← hR] at HT6 hok
                              have HOK := Lib.hid hok
                              clear hR hok
                              have hn6 : n6 = R.keys.length := HT6.out.keys.sl.n_eq
                              subst hn6
                              go_wp2_with fail
                              refine wpT_grow [1, 5, 6] [0, 4, 8] [6, 8] (by kernel_rfl) (by kernel_rfl) ?_
                              refine wpT_seg 1 (by decide) (fun Q1 hQ1 => ?_)
                              simp only [List.take_succ_cons, List.take_zero]
                              refine wpList_load_agg rfl 36 rfl rfl rec32Ty_u rfl (rec32_size _ _ _ _ _ _ _ HHS.out.1 HHS.out.2) HT6.out.rec_.all_ ?_
                              refine hQ1 _ _ ?_
                              simp only [List.drop_succ_cons, List.drop_zero]
                              generalize hac : Act.put _ _ _ = a9
                              simp [Act.put] at hac
                              subst hac
                              refine wpT_one (fun Q1 hQ1 => ?_)
                              go_wp2_with fail
                              have HTd := Lib.hid (HT6.out.later ((Below.refl _ _).drew))
                              refine (refRight_any R A6 R.keys.length c6 _ _ HHS.out HTd.out.keys.sl (Nat.le_refl _)).mono ?_
                              rintro e w7 ⟨rfl, hb7⟩
                              have HD7 := Lib.hid hb7
                              have HB7 := Lib.hid (below_drew hb7)
                              have HT7 := Lib.hid (HT6.out.later HB7.out)
                              clear hb7 HTd
                              cases hrb : rightB R with
                              | false =>
                                have HNO := Lib.hid (show parseL l = none by rw [HN.out, ← HOK.out, hrb]; rfl)
                                clear hrb
                                go_wp2_with fail
                                refine ⟨HD7.out, ?_⟩
                                refine wpT_seg 2 (by decide) (fun Q2 hQ2 => ?_)
                                simp only [List.take_succ_cons, List.take_zero]
                                go_wp2_with fail
                                try simp only [List.drop_succ_cons, List.drop_zero]
                                refine wpT_skip rfl ?_
                                generalize hac : Act.put _ _ _ = a9
                                simp [Act.put] at hac
                                subst hac
                                refine wpT_skip rfl ?_
                                generalize hac : Act.put _ _ _ = a9
                                simp [Act.put] at hac
                                subst hac
                                refine wpT_skip rfl ?_
                                generalize hac : Act.put _ _ _ = a9
                                simp [Act.put] at hac
                                subst hac
                                refine wpT_skip rfl ?_
                                generalize hac : Act.put _ _ _ = a9
                                simp [Act.put] at hac
                                subst hac
                                refine wpT_skip rfl ?_
                                generalize hac : Act.put _ _ _ = a9
                                simp [Act.put] at hac
                                subst hac
                                refine wpT_skip rfl ?_
                                generalize hac : Act.put _ _ _ = a9
                                simp [Act.put] at hac
                                subst hac
                                refine wpT_seg 1 (by decide) (fun Q3 hQ3 => ?_)
                                simp only [List.take_succ_cons, List.take_zero]
                                go_wp2_with fail
                                try simp only [List.drop_succ_cons, List.drop_zero]
                                refine wpT_end ⟨by rfl, ⟨(fun _ => ⟨_, _, rfl, by simpa using HT6.out.rec_.all_ 0 _ rfl⟩), Text.no_want rfl, Text.no_want rfl, trivial⟩, ?_⟩
                                have HGX := Lib.hid HT7.out.row
                                have HBX := Lib.hid HT7.out.below
                                go_wp2_with (refine stop_at (some 165) rfl ?_)
                                refine Stop.go (wpList_build rfl 36 rfl (vs := #[]) (by rfl) (build_zero32 _) ?_)
                                refine wpList_store_agg rfl 36 rfl rfl rfl (store_row (recv_cells ..) (rec32_size _ _ _ _ _ _ _ rfl rfl) HGX.out (by rw [List.size_toArray, recCells_length, recCells_length]; rfl) (recCells_one _ _ _ _ _ _ _ _ _)) ?_
                                go_step
                                go_step
                                go_step
                                go_step
                                go_step
                                go_step
                                refine wp_ret ?_
                                repeat refine then_ret32 ?_
                                refine ret_rec32 rfl rfl rfl rfl rfl rfl (setRow_heap _ _ _ _ _ _ HGX.out) ?_
                                exact refParseTo_no HNO.out rfl (below_setRow HBX.out (Nat.le_refl _) _)
                              | true =>
                                have HRT := Lib.hid hrb
                                clear hrb
                                go_wp2_with fail
                                refine ⟨HD7.out, ?_⟩
                                refine wpT_seg 2 (by decide) (fun Q2 hQ2 => ?_)
                                simp only [List.take_succ_cons, List.take_zero]
                                go_wp2_with fail
                                try simp only [List.drop_succ_cons, List.drop_zero]
                                refine wpT_seg 1 (by decide) (fun Q2 hQ2 => ?_)
                                simp only [List.take_succ_cons, List.take_zero]
                                refine wpList_load_aggG (by rfl) 36 rfl rfl rec32Ty_u rfl (rec32_size _ _ _ _ _ _ _ HHS.out.1 HHS.out.2) HT7.out.rec_.all_ ?_
                                refine hQ2 _ _ ?_
                                simp only [List.drop_succ_cons, List.drop_zero]
                                generalize hac : Act.put _ _ _ = a9
                                simp [Act.put] at hac
                                subst hac
                                refine wpT_one (fun Q2 hQ2 => ?_)
                                go_wp2_with fail
                                refine (load32_any R A6 R.keys.length c6 _ _ HHS.out HT7.out.keys.sl (Nat.le_refl _) HRT.out).mono ?_
                                rintro e w8 ⟨v, rfl, hown, hb8⟩
                                obtain ⟨A8, c8, rfl, _, _⟩ := own_form hown
                                have HD8 := Lib.hid (HD7.out.trans (hb8.mono HD7.out.size))
                                have HB8 := Lib.hid (HB7.out.trans (hb8.mono HB7.out.size))
                                have HT8 := Lib.hid (HT6.out.later HB8.out)
                                obtain ⟨X, hX⟩ : ∃ X, X = loadL R := ⟨_, rfl⟩
                                obtain ⟨xn, hxn⟩ : ∃ xn, xn = X.length := ⟨_, rfl⟩
                                rw [← hX] at hown ⊢
                                have hHOK := HOK.out
                                rw [← hX, HRT.out] at hHOK
                                obtain ⟨sa, hsa⟩ : ∃ sa : ByteArray, sa = ⟨X.toArray⟩ := ⟨_, rfl⟩
                                obtain ⟨sb, hsb⟩ : ∃ sb : ByteArray, sb = ⟨load.toArray⟩ := ⟨_, rfl⟩
                                have hcva : (convert 22 9 (.slice A8 xn c8)).run Tryd.prog w8 = .ok (.string sa) w8 := by
                                  rw [hsa]
                                  exact conv_bytes (P := Tryd.prog) (Rd.of_own hown) Tryd.underlying22 Tryd.underlying5 Tryd.underlying9 xn hxn c8
                                have hcvb : ∀ w', Below w6.heap.size w6 w' → (convert 22 9 (.slice AL load.length cL)).run Tryd.prog w' = .ok (.string sb) w' := by
                                  intro w' hb
                                  rw [hsb]
                                  exact conv_bytes (P := Tryd.prog) (HT6.out.later hb).ld Tryd.underlying22 Tryd.underlying5 Tryd.underlying9 load.length rfl cL
                                have HCVB := Lib.hid hcvb
                                have hcvb1 := hcvb _ HB8.out
                                have hq := str_eq X load
                                rw [← hsa, ← hsb] at hq
                                rw [← hxn]
                                have HXX := Lib.hid (And.intro hX hxn)
                                clear hcvb hsa hsb hX hxn hown hb8
                                obtain ⟨q, hq2⟩ : ∃ q, q = decide (X = load) := ⟨_, rfl⟩
                                rw [← hq2] at hq hHOK
                                have HQ := Lib.hid hHOK
                                clear hHOK hq2
                                go_wp2_with fail
                                refine ⟨HD8.out, ?_⟩
                                refine wpT_one (fun Q3 hQ3 => ?_)
                                go_wp2_with fail
                                refine ⟨HD8.out, ?_⟩
                                refine wpT_seg 4 (by decide) (fun Q4 hQ4 => ?_)
                                simp only [List.take_succ_cons, List.take_zero]
                                cases q with
                                | false =>
                                  have HNO := Lib.hid (show parseL l = none by rw [HN.out, ← HQ.out]; rfl)
                                  go_wp2_with fail
                                  try simp only [List.drop_succ_cons, List.drop_zero]
                                  refine wpT_end ⟨by rfl, ⟨(fun _ => ⟨_, _, rfl, by simpa using HT6.out.rec_.all_ 0 _ rfl⟩), (fun _ => ⟨_, _, rfl, by simpa using HT6.out.rec_.all_ 0 _ rfl⟩), (fun _ => ⟨_, fun w' hb => HCVB.out w' ⟨hb.os, hb.tape, hb.output, hb.size, hb.block⟩⟩), trivial⟩, ?_⟩
                                  have HGX := Lib.hid HT8.out.row
                                  have HBX := Lib.hid HT8.out.below
                                  go_wp2_with (refine stop_at (some 165) rfl ?_)
                                  refine Stop.go (wpList_build rfl 36 rfl (vs := #[]) (by rfl) (build_zero32 _) ?_)
                                  refine wpList_store_agg rfl 36 rfl rfl rfl (store_row (recv_cells ..) (rec32_size _ _ _ _ _ _ _ rfl rfl) HGX.out (by rw [List.size_toArray, recCells_length, recCells_length]; rfl) (recCells_one _ _ _ _ _ _ _ _ _)) ?_
                                  go_step
                                  go_step
                                  go_step
                                  go_step
                                  go_step
                                  go_step
                                  refine wp_ret ?_
                                  repeat refine then_ret32 ?_
                                  refine ret_rec32 rfl rfl rfl rfl rfl rfl (setRow_heap _ _ _ _ _ _ HGX.out) ?_
                                  exact refParseTo_no HNO.out rfl (below_setRow HBX.out (Nat.le_refl _) _)
                                | true =>
                                  have HYES := Lib.hid (show parseL l = some R by rw [HN.out, ← HQ.out, HDEC.out HQ.out.symm]; rfl)
                                  go_wp2_with fail
                                  try simp only [List.drop_succ_cons, List.drop_zero]
                                  refine wpT_end ⟨by rfl, ⟨(fun _ => ⟨_, _, rfl, by simpa using HT6.out.rec_.all_ 0 _ rfl⟩), (fun _ => ⟨_, _, rfl, by simpa using HT6.out.rec_.all_ 0 _ rfl⟩), (fun _ => ⟨_, fun w' hb => HCVB.out w' ⟨hb.os, hb.tape, hb.output, hb.size, hb.block⟩⟩), trivial⟩, ?_⟩
                                  go_wp2_with (refine stop_at (some 166) rfl ?_)
                                  refine Stop.go (wpList_load_agg rfl 36 rfl rfl rec32Ty_u rfl (rec32_size _ _ _ _ _ _ _ HHS.out.1 HHS.out.2) HT8.out.rec_.all_ ?_)
                                  refine wpList_store_agg rfl 36 rfl rfl rfl (store_row (recv_cells ..) (rec32_size _ _ _ _ _ _ _ HHS.out.1 HHS.out.2) HT8.out.row (by rw [List.size_toArray, recCells_length, recCells_length, HHS.out.1, HHS.out.2]; rfl) (recCells_one _ _ _ _ _ _ _ _ _)) ?_
                                  go_step
                                  go_step
                                  go_step
                                  go_step
                                  go_step
                                  go_step
                                  refine wp_ret ?_
                                  repeat refine then_ret32 ?_
                                  refine ret_rec32 rfl HHS.out.1 HHS.out.2 rfl rfl rfl (setRow_heap _ _ _ _ _ _ HT8.out.row) ?_
                                  have HKX := HT8.out.keys.other (w' := w8.setRow w.heap.size (recCells R.kind R.seq R.kh R.kk R.mh R.ms (.slice A6 R.keys.length c6)).toArray) (Nat.lt_succ_of_lt HT8.out.m_) fun k hk => setRow_other _ _ _ _ hk
                                  exact refParseTo_yes HYES.out rfl (HKX.more (Nat.le_succ_of_le (Nat.le_of_lt HT8.out.m_))) (below_setRow HT8.out.below (Nat.le_refl _) _)
          · have HN := Lib.hid (HP.out.trans (bodyL_2 HUN.out (show frameOpen F = none by unfold frameOpen; rw [hfo]; simp only; rw [if_neg hz])))
            have hzb : ((z : Int) != (F.length : Int)) = true := by simp; omega
            clear hfo hb3 HG2 HB2 HP HUN HRF hz hrL
            go_wp2_with (refine stop_at (some 54) rfl ?_)
            refine Stop.go (wpList_build rfl 36 rfl (vs := #[]) (by rfl) (build_zero32 _) ?_)
            refine wpList_store_agg rfl 36 rfl rfl rfl (store_row (recv_cells ..) (rec32_size _ _ _ _ _ _ _ rfl rfl) HG3.out (by rw [List.size_toArray, recCells_length, recCells_length]; rfl) (recCells_one _ _ _ _ _ _ _ _ _)) ?_
            go_wp2_with fail
            refine ret_rec32 rfl rfl rfl rfl rfl rfl (setRow_heap _ _ _ _ _ _ HG3.out) ?_
            exact refParseTo_no HN.out rfl (below_setRow HB3.out (Nat.le_refl _) _)
    · have HN := Lib.hid (show parseL l = none from parseL_nofeed h0' (by
        intro he
        apply hd10
        rw [hd]
        simp only [en] at he
        rw [he]
        rfl))
      have hne : ((d : Int) != 10) = true := by simp; omega
      clear hd en h0 h0'
      rw [hn] at hl hc hnl h00 ⊢
      clear hn
      have hsub : ((n + 1 : Nat) : Int) - 1 = (n : Int) := by omega
      go_wp2_with (refine stop_at (some 27) rfl ?_)
      refine Stop.go (wpList_build rfl 36 rfl (vs := #[]) (by rfl) (build_zero32 _) ?_)
      refine wpList_store_agg rfl 36 rfl rfl rfl (store_row (recv_cells ..) (rec32_size _ _ _ _ _ _ _ rfl rfl) HG1.out (by rw [List.size_toArray, recCells_length, recCells_length]; rfl) (recCells_one _ _ _ _ _ _ _ _ _)) ?_
      go_wp2_with fail
      refine ret_rec32 rfl rfl rfl rfl rfl rfl (setRow_heap _ _ _ _ _ _ HG1.out) ?_
      exact refParseTo_no HN.out rfl (below_setRow HB1.out (Nat.le_refl _) _)
end Go.Proofs.YtplbcbamnjnhlaaDoor
