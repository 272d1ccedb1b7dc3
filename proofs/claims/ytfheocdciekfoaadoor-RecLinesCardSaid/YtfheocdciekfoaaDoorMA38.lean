/- Texts of this proof joined: LawLines, Awake32, LawWhole. -/
import Derived.Test.YtfheocdciekfoaaDoorMA37
import Derived.Test.YtfheocdciekfoaaDoorMA36
import Derived.Test.YtfheocdciekfoaaDoorMA35
/- Contract of the law's lines (32). -/
namespace Go.Proofs.YtfheocdciekfoaaDoor
open Go.RowKit

theorem int_app32 : AppTy Tryd.prog 54 3 1 8 (.int .i64 0) := appTy Tryd.underlying54 (by kernel_rfl) rfl (by omega)
def ncell (n : Nat) : Value := .int .i64 n
/-- what lines answers -/
def LinesTo (rs : List RecD) (w : World) (e : Ending) (w' : World) : Prop :=
  Below w.heap.size w w' ∧ ((∃ x y, e = .returned (.tuple #[x, y, .bool false])) ∨ ∃ va ve, e = .returned (.tuple #[va, ve, .bool true]) ∧ w'.ownsRow w.heap.size 5 1 va (rs.flatMap lineL).length (bcells (rs.flatMap lineL)) ∧
    w'.ownsRow w.heap.size 3 1 ve rs.length ((endsL rs).map ncell) ∧ ∀ r ∈ rs, GoodR r)
theorem line_le {r : RecD} (h : GoodR r) : (lineL r).length ≤ 20000 := by
  have h1 := loadL_le r h.2.1 h.2.2 h.1
  have h2 := vForm_len_le (loadL r).length (by omega)
  have h3 := sevPack_length (frameR r)
  have h4 := line_len r
  have h5 : (frameR r).length = 5 + (vForm (loadL r).length).length + (loadL r).length := frameSeal_length _ _
  omega
theorem lines_le : ∀ (rs : List RecD), (∀ r ∈ rs, GoodR r) → (rs.flatMap lineL).length ≤ 20000 * rs.length
  | [], _ => by simp
  | r :: rs, h => by
    have h1 := line_le (h r (by simp))
    have h2 := lines_le rs fun x hx => h x (by simp [hx])
    rw [List.flatMap_cons, List.length_append, List.length_cons]
    omega
/-- a record of a slice: where it lies -/
theorem rec_at {w : World} {B : Nat} {A : Option Addr} {n c : Nat} {rs : List RecD} (h : SlR eRec w B (.slice A n c) rs) {k : Nat} (hk : k < rs.length) :
    ∃ b off A2 c2, A = some ⟨b, off, none⟩ ∧ n ≤ c ∧ b < B ∧ Hs rs[k] ∧ SlR eKey w B (.slice A2 rs[k].keys.length c2) rs[k].keys ∧
      (∀ j u, (recCells rs[k].kind rs[k].seq rs[k].kh rs[k].kk rs[k].mh rs[k].ms (.slice A2 rs[k].keys.length c2))[j]? = some u → w.cell? ⟨b, off + k * 69 + j, none⟩ = some u) := by
  obtain ⟨b, off, cs, h1, h2, h3, h4, h5⟩ := h.get hk (by decide)
  obtain ⟨v, rfl, l1, l2, hs⟩ := h4
  obtain ⟨A2, c2, rfl, _, _⟩ := hs.form
  exact ⟨b, off, A2, c2, h1, h2, h3, ⟨l1, l2⟩, hs, fun j u hu => by have := h5 j u hu; rwa [show eRec.size = 69 from rfl, ← Nat.add_assoc] at this⟩
theorem keys_len32 {w : World} {B : Nat} {v : Value} {xs : List KeyD} (h : SlR eKey w B v xs) : ∀ k ∈ xs, k.1.length = 32 := by
  intro k hk
  obtain ⟨i, hi, rfl⟩ := List.getElem_of_mem hk
  obtain ⟨A, c, rfl, _, _⟩ := h.form
  obtain ⟨_, _, _, _, _, h6, _⟩ := keys_at h hi
  exact h6
theorem rec_last {k s : Int} {kh : List UInt8} {kk : Int} {mh : List UInt8} {ms : Int} {v : Value} (h1 : kh.length = 32) (h2 : mh.length = 32) : (recCells k s kh kk mh ms v)[68]? = some v := by
  rw [rec_split4]
  rw [List.getElem?_append_right (by simp [hkCells_length, bcells_length, h1, h2])]
  simp [hkCells_length, bcells_length, h1, h2]
set_option maxRecDepth 100000 in
set_option maxHeartbeats 4000000 in
theorem lines_any (rs : List RecD) (A : Option Addr) (n c B : Nat) (w : World) (h : SlR eRec w B (.slice A n c) rs) (hB : B ≤ w.heap.size) (hn : rs.length ≤ 12) :
    Calls Tryd.prog 23 #[.slice A n c] w (LinesTo rs w) := by
  have hnn := h.n_eq
  subst hnn
  have hcl := h.n_le
  have HS := Lib.hid h
  have HBW := Lib.hid hB
  clear h hB
  go_enter Tryd.func23, Tryd.ntmps23
  go_wp2_with fail
  go_loopw [5, 6, 7] (fun v5 v6 v7 wr => ∃ (i m : Nat) (M : List UInt8) (A5 : Option Addr) (c5 : Nat) (A6 : Option Addr) (c6 : Nat), i ≤ rs.length ∧ v7 = .int .i64 i ∧ v5 = .slice A5 m c5 ∧ v6 = .slice A6 i c6 ∧ m ≤ 20000 * i ∧
    Hid (M = (rs.take i).flatMap lineL ∧ m = M.length) ∧ Hid (wr.ownsRow w.heap.size 5 1 (.slice A5 m c5) m (bcells M)) ∧
    Hid (wr.ownsRow w.heap.size 3 1 (.slice A6 i c6) i ((endsL (rs.take i)).map ncell)) ∧ Hid (∀ r ∈ rs.take i, GoodR r) ∧ Hid (Below w.heap.size w wr)) (fun _ _ v7 _ => rs.length - (intOf v7).toNat)
  case atStart => exact ⟨0, 0, [], none, 0, none, 0, by omega, rfl, rfl, rfl, by omega, ⟨rfl, rfl⟩, World.ownsRow_nil _ _ _ _, World.ownsRow_nil _ _ _ _, fun r hr => by simp at hr, Below.refl _ _⟩
  case round =>
    obtain ⟨i, m, M, A5, c5, A6, c6, hi, rfl, rfl, rfl, hm20, HM, HA, HE, HG, HB⟩ := hrel
    by_cases hlt : i < rs.length
    · obtain ⟨b, off, A2, c2, rfl, _, hb, hhs, hks, hcell⟩ := rec_at (HS.out.below (HB.out.mono HBW.out)) hlt
      have HHS := Lib.hid hhs
      have HKS := Lib.hid hks
      have HCE := Lib.hid hcell
      have hkc := hks.n_le
      have hk68 := hcell 68 _ (rec_last hhs.1 hhs.2)
      have HT := Lib.hid (show rs.take (i + 1) = rs.take i ++ [rs[i]] from List.take_succ_eq_append_getElem hlt)
      obtain ⟨r, hr⟩ : ∃ r, r = rs[i] := ⟨_, rfl⟩
      rw [← hr] at HHS HKS HCE hk68 HT hkc
      clear hhs hks hcell hr
      by_cases h20 : 20 < r.keys.length
      · go_wp2_with fail
        go_ret3
        exact ⟨HB.out, Or.inl ⟨_, _, rfl⟩⟩
      · go_wp2_with (refine stop_at (some 26) rfl ?_)
        refine Stop.go (wpList_seg 1 _ _ _ (fun Q' hQ' => ?_))
        simp only [List.take_succ_cons, List.take_zero]
        go_wp2_with fail
        try simp only [List.drop_succ_cons, List.drop_zero]
        refine Stop.go (wpList_load_agg rfl 29 rfl rfl recTy_u rfl (rec_size _ _ _ _ _ _ _ HHS.out.1 HHS.out.2) HCE.out ?_)
        go_wp2_with fail
        refine (line_any r A2 r.keys.length c2 B wr HHS.out HKS.out (Nat.le_trans HBW.out HB.out.size) (keys_len32 HKS.out)).mono ?_
        rintro e w2 ⟨hlt2, hb2⟩
        have HB2 := Lib.hid (HB.out.trans (hb2.mono HB.out.size))
        have HA2 := Lib.hid (own_below HA.out hb2)
        have HE2 := Lib.hid (own_below HE.out hb2)
        have HSW := Lib.hid (show wr.heap.size ≤ w2.heap.size from hb2.size)
        clear hb2 HCE
        cases hR : rightB r
        · unfold LineTo at hlt2
          rw [hR, if_neg (by simp)] at hlt2
          subst hlt2
          clear hR
          go_wp2_with fail
          go_ret3
          exact ⟨HB2.out, Or.inl ⟨_, _, rfl⟩⟩
        · unfold LineTo at hlt2
          rw [hR, if_pos rfl] at hlt2
          obtain ⟨vL, rfl, hoL⟩ := hlt2
          have HGR := Lib.hid (show GoodR r from ⟨hR, HHS.out, keys_len32 HKS.out⟩)
          have HGT := Lib.hid (show ∀ x ∈ rs.take (i + 1), GoodR x by
            intro x hx
            rw [HT.out] at hx
            rcases List.mem_append.1 hx with hx | hx
            · exact HG.out x hx
            · rw [List.mem_singleton.1 hx]; exact HGR.out)
          have hll := line_le HGR.out
          have HFL := Lib.hid (show M ++ lineL r = (rs.take (i + 1)).flatMap lineL by rw [HT.out, List.flatMap_append, HM.out.1]; simp)
          obtain ⟨AL, cL, rfl, _, _⟩ := own_form hoL
          have HRL := Lib.hid (Rd.of_own hoL)
          have HEN := Lib.hid (endsL_snoc (rs.take i) r)
          rw [← HT.out, ← HFL.out] at HEN
          obtain ⟨L, hL⟩ : ∃ L, L = lineL r := ⟨_, rfl⟩
          rw [← hL] at hll HFL HRL HEN
          simp only [← hL]
          clear hR hL hoL HA HE
          have hbw := HB2.out.size
          obtain ⟨q, hq⟩ : ∃ q, q = L.length := ⟨_, rfl⟩
          have HQ := Lib.hid hq
          rw [← hq] at hll ⊢
          clear hq
          go_wp2_with (at_builtin; refine wpList_app u8_ty rfl rfl rfl rfl HA2.out HRL.out (by rw [bcells_length, HQ.out]; omega) (bcells_one _) ?h63 ?hby ?hbase ?_)
          case h63 => simp only [maxLen]; omega
          case hby => omega
          case hbase => exact hbw
          intro v3 w3 hown3 hg3 _ _
          have HE3 := Lib.hid (own_apart HE2.out HA2.out (by decide) hg3)
          have HB3 := Lib.hid (grown_below HB2.out hg3 HA2.out (Nat.le_refl _) hbw)
          rw [← bcells_append] at hown3
          obtain ⟨A3, c3, rfl, _, _⟩ := own_form hown3
          have HA3 := Lib.hid hown3
          clear hown3 hg3
          have hbw3 := HB3.out.size
          go_wp2_with (at_builtin; refine wpList_app int_app32 rfl rfl rfl rfl (HE3.out.alloc _) (Rd.row (B := w3.heap.size + 1) (Go.heap_alloc_new w3 _) (by omega)) rfl (by simp [Value.oneCell']) ?h63 ?hby ?hbase ?_)
          case h63 => simp only [maxLen]; omega
          case hby => omega
          case hbase => simp; omega
          intro v4 w4 hown4 hg4 _ _
          have HA4 := Lib.hid (own_apart (HA3.out.alloc _) (HE3.out.alloc _) (by decide) hg4)
          have HB4 := Lib.hid (grown_below (HB3.out.alloc hbw3 _) hg4 (HE3.out.alloc _) (Nat.le_refl _) (by simp; omega))
          obtain ⟨A4, c4, rfl, _, _⟩ := own_form hown4
          have HE4 := Lib.hid hown4
          clear hown4 hg4
          go_wp2_with fail
          have HML := Lib.hid (show m + q = (M ++ L).length by rw [List.length_append, HQ.out, HM.out.2])
          refine ⟨⟨i + 1, m + q, M ++ L, A3, c3, A4, c4, by omega, by go_num, rfl, rfl, by omega, Lib.hid ⟨HFL.out, HML.out⟩, HA4, ?_, HGT, HB4⟩, ?_⟩
          · show World.ownsRow _ _ _ _ _ _ _
            rw [HEN.out, List.map_append]
            have e : List.map ncell [(M ++ L).length] = [Value.int .i64 ((m : Int) + (q : Int))] := by rw [← HML.out]; simp [ncell]
            rw [e]
            exact HE4.out
          · simp [intOf]; omega
    · obtain rfl : i = rs.length := by omega
      have HR := Lib.hid (show M = rs.flatMap lineL ∧ m = (rs.flatMap lineL).length ∧ (∀ r ∈ rs, GoodR r) ∧ endsL (rs.take rs.length) = endsL rs by
        obtain ⟨h1, h2⟩ := HM.out
        have hg := HG.out
        rw [List.take_length] at h1 hg
        exact ⟨h1, by rw [h2, h1], hg, by rw [List.take_length]⟩)
      go_wp2_with fail
      go_ret3
      obtain ⟨h1, h2, h3, h4⟩ := HR.out
      have ha := HA.out
      have he := HE.out
      rw [h1, h2] at ha
      rw [h4] at he
      refine ⟨HB.out, Or.inr ⟨.slice A5 (rs.flatMap lineL).length c5, .slice A6 rs.length c6, ?_, ha, he, h3⟩⟩
      rw [h2]
      rfl
end Go.Proofs.YtfheocdciekfoaaDoor
/- Contract of the law's awake (32). -/
namespace Go.Proofs.YtfheocdciekfoaaDoor
open Go.RowKit

theorem build_recKS (k s : Int) (w : World) : (Instr.build 29 #[(0, .int .i64 k), (1, .int .i64 s)]).run Tryd.prog w = .ok (recv k s z32 0 z32 0 (.slice none 0 0)) w := by
  unfold Instr.build
  simp only [Sem.run_bind, zero_rec, Result.andThen_ok, recv_cells, run_underlying recTy_u, recTy, fields_rec]
  rfl
def aw1 : RecD := ⟨1, 0, z32, 0, z32, 0, []⟩
def aw3 : RecD := ⟨3, 9, z32, 0, z32, 0, []⟩
theorem aw1_good : GoodR aw1 := ⟨by decide, ⟨rfl, rfl⟩, fun _ h => nomatch h⟩
theorem aw3_good : GoodR aw3 := ⟨by decide, ⟨rfl, rfl⟩, fun _ h => nomatch h⟩
theorem aw1_len : (lineL aw1).length = 9 := by
  rw [line_len, sevPack_length]
  have : (frameR aw1).length = 7 := by
    show (frameSeal _ (loadL aw1)).length = 7
    have h1 : (loadL aw1).length = 1 := rfl
    rw [frameSeal_length, h1, vForm_lt (by omega)]
    rfl
  rw [this]
theorem aw3_len : (lineL aw3).length = 15 := by
  rw [line_len, sevPack_length]
  have : (frameR aw3).length = 12 := by
    show (frameSeal _ (loadL aw3)).length = 12
    have h1 : (loadL aw3).length = 6 := by
      show (([] : List UInt8) ++ (beBytes 6 _ ++ ([] ++ ([] ++ [])))).length = 6
      simp [beBytes_length]
    rw [frameSeal_length, h1, vForm_lt (by omega)]
    rfl
  rw [this]
theorem aw_all {rs : List RecD} {n : Nat} (h : AllTo (lineL aw1 ++ lineL aw3) rs n) : rs = [aw1, aw3] ∧ n = 24 := by
  have h0 : AllTo [] [] 0 := AllTo.nil fun n hn => by have := hn.1; simp at this
  have h1 := (h0.cons aw3_good).cons aw1_good
  rw [List.append_nil] at h1
  obtain ⟨e1, e2⟩ := all_one h h1
  rw [aw1_len, aw3_len] at e2
  exact ⟨e1, by omega⟩
set_option maxRecDepth 100000 in
set_option maxHeartbeats 4000000 in
theorem awake32_any (w : World) : Calls Tryd.prog 11 #[] w fun e w' => e = .returned (.bool true) ∧ Below w.heap.size w w' := by
  have H1 := Lib.hid (line_any aw1 none 0 0 0 w ⟨rfl, rfl⟩ SlR.nil_ (Nat.zero_le _) (fun _ h => nomatch h))
  go_enter Tryd.func11, Tryd.ntmps11
  go_wp2_with (refine stop_at (some 8) rfl ?_)
  refine Stop.go (wpList_build rfl 29 rfl (vs := #[(0, .int .i64 1)]) (by rfl) (build_recK 1 _) ?_)
  go_wp2_with fail
  refine H1.out.mono ?_
  rintro e w1 ⟨hl1, hb1⟩
  unfold LineTo at hl1
  rw [show rightB aw1 = true from aw1_good.1, if_pos rfl] at hl1
  obtain ⟨v1, rfl, ho1⟩ := hl1
  rw [aw1_len] at ho1
  obtain ⟨A1, c1, rfl, _, _⟩ := own_form ho1
  have H2 := Lib.hid (line_any aw3 none 0 0 0 w1 ⟨rfl, rfl⟩ SlR.nil_ (Nat.zero_le _) (fun _ h => nomatch h))
  have HO1 := Lib.hid ho1
  have HB1 := Lib.hid hb1
  clear ho1 hb1 H1
  go_wp2_with (refine stop_at (some 13) rfl ?_)
  refine Stop.go (wpList_build rfl 29 rfl (vs := #[(0, .int .i64 3), (1, .int .i64 9)]) (by rfl) (build_recKS 3 9 _) ?_)
  go_wp2_with fail
  refine H2.out.mono ?_
  rintro e w2 ⟨hl2, hb2⟩
  unfold LineTo at hl2
  rw [show rightB aw3 = true from aw3_good.1, if_pos rfl] at hl2
  obtain ⟨v2, rfl, ho2⟩ := hl2
  rw [aw3_len] at ho2
  obtain ⟨A2, c2, rfl, _, _⟩ := own_form ho2
  have HO12 := Lib.hid (own_below HO1.out hb2)
  have HO2 := Lib.hid ho2
  have HB2 := Lib.hid (HB1.out.trans (hb2.mono HB1.out.size))
  clear ho2 hb2 H2 HO1 HB1
  have hb3 : Below w2.heap.size w2 (w2.alloc (.cells #[] 5)) := (Below.refl _ _).alloc (Nat.le_refl _) _
  have hown0 : (w2.alloc (.cells #[] 5)).ownsRow w2.heap.size 5 1 (.slice (some ⟨w2.heap.size, 0, none⟩) 0 0) 0 [] := World.ownsRow_lit w2 #[] 0 (Nat.le_refl _) (by simp [maxLen]) rfl
  have HR1 := Lib.hid (Rd.of_own (own_below HO12.out hb3))
  go_wp2_with (refine stop_at (some 18) rfl ?_)
  refine Stop.go (wpList_seg 2 _ _ _ (fun Q' hQ' => ?_))
  simp only [List.take_succ_cons, List.take_zero]
  go_wp2_with fail
  try simp only [List.drop_succ_cons, List.drop_zero]
  refine Stop.go (wpList_app u8_ty rfl rfl rfl rfl hown0 HR1.out (m := 9) (by rw [bcells_length, aw1_len]) (bcells_one _) ?h63 ?hby ?hbase ?_)
  case h63 => simp [maxLen]
  case hby => decide
  case hbase => simp
  intro v3 w3 hown3 hg3 _ _
  have HB3 := Lib.hid (grown_below hb3 hg3 hown0 (Nat.le_refl _) (by simp))
  have HO23 := Lib.hid (Rd.of_own (own_below HO2.out HB3.out))
  have hw3 := HB3.out.size
  obtain ⟨A3, c3, rfl, _, _⟩ := own_form hown3
  generalize hac : Act.put _ _ _ = a9
  simp [Act.put] at hac
  subst hac
  refine wpList_seg 1 _ _ _ (fun Q' hQ' => ?_)
  simp only [List.take_succ_cons, List.take_zero]
  go_wp2_with fail
  try simp only [List.drop_succ_cons, List.drop_zero]
  refine Stop.go (wpList_app u8_ty rfl rfl rfl rfl hown3 HO23.out (m := 15) (by rw [bcells_length, aw3_len]) (bcells_one _) ?h63 ?hby ?hbase ?_)
  case h63 => simp [maxLen]
  case hby => decide
  case hbase => exact hw3
  intro v4 w4 hown4 hg4 _ _
  have HB4 := Lib.hid (HB2.out.trans ((grown_below HB3.out hg4 hown3 (Nat.le_refl _) hw3).mono HB2.out.size))
  obtain ⟨A4, c4, rfl, hc4, _⟩ := own_form hown4
  have hlen : (lineL aw1 ++ lineL aw3).length = 24 := by rw [List.length_append, aw1_len, aw3_len]
  have hrd4 : Rd w4 w4.heap.size A4 (bcells (lineL aw1 ++ lineL aw3)) := by rw [bcells_append]; exact Rd.of_own hown4
  have HAL := Lib.hid (all32_any (lineL aw1 ++ lineL aw3) A4 c4 w4.heap.size w4 hrd4 (Nat.le_refl _) (by rw [hlen]; decide) (by rw [hlen]; exact hc4))
  rw [hlen] at HAL
  clear hown4 hrd4 hown3 hg3 hg4 hown0 hb3 hlen
  generalize hac : Act.put _ _ _ = a9
  simp [Act.put] at hac
  subst hac
  go_wp2_with fail
  refine HAL.out.mono ?_
  rintro e w5 ⟨rs, n, v, rfl, hat, ho, hb5⟩
  obtain ⟨rfl, rfl⟩ := aw_all hat
  have HB5 := Lib.hid (HB4.out.trans (hb5.mono HB4.out.size))
  obtain ⟨A5, c5, rfl, _, _⟩ := ho.form
  obtain ⟨b, off, A6, c6, rfl, hcc, _, _, _, hcell⟩ := rec_at ho.sl (show 1 < [aw1, aw3].length by decide)
  have hs : w5.cell? ⟨b, off + 1 * 69 + 1, none⟩ = some (.int .i64 9) := hcell 1 _ rfl
  clear hat ho hb5 hcell HAL
  have hs70 : w5.cell? ⟨b, off + 70, none⟩ = some (.int .i64 9) := by rw [← hs, Nat.add_assoc]
  have hl2 : [aw1, aw3].length = 2 := rfl
  rw [hl2] at hcc ⊢
  go_wp2_with fail
  go_ret
  exact ⟨rfl, HB5.out⟩
end Go.Proofs.YtfheocdciekfoaaDoor
/- Contracts of the law's whole, of the reference's Turned (03). -/
namespace Go.Proofs.YtfheocdciekfoaaDoor
open Go.RowKit

theorem count_step (xs : List Int) (i : Nat) (h : i < xs.length) (a : Int) : (xs.take (i + 1)).countP (fun e => decide (e ≤ a)) = (xs.take i).countP (fun e => decide (e ≤ a)) + if xs[i] ≤ a then 1 else 0 := by
  rw [List.take_succ_eq_append_getElem h, List.countP_append, List.countP_singleton]
  simp
set_option maxRecDepth 100000 in
theorem whole_any32 (xs : List Int) (v : Value) (a : Int) (B : Nat) (w : World) (hv : SlR eInt w B v xs) (hn : xs.length ≤ 1000) :
    Calls Tryd.prog 24 #[v, .int .i64 a] w fun e w' => e = .returned (.int .i64 (xs.countP (fun e => decide (e ≤ a)) : Nat)) ∧ w = w' := by
  obtain ⟨A, c, rfl, hc1, hc2⟩ := hv.form
  have HV := Lib.hid hv
  clear hv
  go_enter Tryd.func24, Tryd.ntmps24
  go_wp2_with fail
  go_loop [5, 6] (fun v5 v6 => ∃ i n : Nat, i ≤ xs.length ∧ n ≤ i ∧ v6 = .int .i64 i ∧ v5 = .int .i64 n ∧ Hid (n = (xs.take i).countP (fun e => decide (e ≤ a)))) (fun _ v6 => xs.length - (intOf v6).toNat)
  case atStart => exact ⟨0, 0, by omega, by omega, rfl, rfl, rfl⟩
  case round =>
    obtain ⟨i, n, hi, hni, rfl, rfl, HN⟩ := hrel
    by_cases hlt : i < xs.length
    · obtain ⟨ab, ao, cs, rfl, _, hab, hrep, hcell⟩ := HV.out.get hlt (by decide)
      obtain ⟨rfl, hx1, hx2⟩ := hrep
      have hc0 := hcell 0 _ rfl
      clear hcell
      simp only [show eInt.size = 1 from rfl, Nat.mul_one, Nat.add_zero] at hc0
      have HS := Lib.hid (count_step xs i hlt a)
      rw [← HN.out] at HS
      by_cases hle : xs[i] ≤ a
      · have HS2 := Lib.hid (show n + 1 = (xs.take (i + 1)).countP (fun e => decide (e ≤ a)) by rw [HS.out, if_pos hle])
        go_wp2
        go_round
        case rel => exact ⟨i + 1, n + 1, by omega, by omega, by go_num, by go_num, HS2.out⟩
        case measure => simp [intOf]; omega
      · have HS2 := Lib.hid (show n = (xs.take (i + 1)).countP (fun e => decide (e ≤ a)) by rw [HS.out, if_neg hle]; rfl)
        go_wp2
        go_round
        case rel => exact ⟨i + 1, n, by omega, by omega, by go_num, rfl, HS2.out⟩
        case measure => simp [intOf]; omega
    · obtain rfl : i = xs.length := by omega
      have HF := Lib.hid (show n = xs.countP (fun e => decide (e ≤ a)) by have := HN.out; rwa [List.take_length] at this)
      go_wp2
      go_ret
      exact ⟨rt1 (vint (by rw [HF.out])), rfl⟩
end Go.Proofs.YtfheocdciekfoaaDoor
