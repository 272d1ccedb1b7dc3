/- Texts of this proof joined: RecIndex, RefSeven2, RecParse, RecAll, BookReplay. -/
import Derived.Test.YtplbcbamnjnhlaaGreatDoorMB29
import Derived.Test.YtplbcbamnjnhlaaGreatDoorMB30
import Derived.Test.YtplbcbamnjnhlaaGreatDoorMB19
import Derived.Test.YtplbcbamnjnhlaaGreatDoorMB25
import Derived.Test.YtplbcbamnjnhlaaGreatDoorMB17
import Derived.Test.YtplbcbamnjnhlaaGreatDoorMB33
import Derived.Test.YtplbcbamnjnhlaaGreatDoorMB24
namespace Go.Proofs.YtplbcbamnjnhlaaGreatDoor
open Go.RowKit

def IndexTo (l : List UInt8) (x : UInt8) (e : Ending) : Prop := (∃ n : Nat, e = .returned (.int .i64 n) ∧ l[n]? = some x ∧ ∀ j : Nat, j < n → l[j]? ≠ some x) ∨ (e = .returned (.int .i64 (-1)) ∧ ∀ j : Nat, l[j]? ≠ some x)
set_option maxRecDepth 100000 in
theorem index_any (l : List UInt8) (x : UInt8) (A : Option Addr) (c B : Nat) (w : World) (hr : Rd w B A (bcells l)) (hl : l.length ≤ 1099511627776) :
    Calls Tryz.prog 59 #[.slice A l.length c, .int .u8 (x.toNat : Nat)] w fun e w' => IndexTo l x e ∧ w = w' := by
  have HR := Lib.hid hr
  clear hr
  obtain ⟨xn, hx⟩ : ∃ xn, xn = x.toNat := ⟨_, rfl⟩
  rw [← hx]
  have HX := Lib.hid hx
  clear hx
  go_enter Tryz.func59, Tryz.ntmps59
  go_wp2_with fail
  go_loop [8] (fun v8 => ∃ k : Nat, k ≤ l.length ∧ v8 = .int .i64 k ∧ Hid (∀ j : Nat, j < k → l[j]? ≠ some x)) (fun v8 => l.length - (intOf v8).toNat)
  case atStart => exact ⟨0, by omega, rfl, fun j hj => absurd hj (by omega)⟩
  case round =>
    obtain ⟨k, hk, rfl, hh⟩ := hrel
    by_cases hlt : k < l.length
    · obtain ⟨ab, ao, rfl, hab, hcell⟩ := HR.out.byte hlt
      obtain ⟨d, hd⟩ : ∃ d, d = l[k].toNat := ⟨_, rfl⟩
      rw [← hd] at hcell
      by_cases hb : xn = d
      · have HL := Lib.hid (show l[k]? = some x by rw [List.getElem?_eq_getElem hlt]; congr 1; apply UInt8.toNat_inj.1; rw [← hd, ← hb, HX.out])
        subst hb
        clear hd
        go_wp2
        go_ret
        exact ⟨Or.inl ⟨k, rfl, HL.out, hh.out⟩, rfl⟩
      · have HL := Lib.hid (show ∀ j : Nat, j < k + 1 → l[j]? ≠ some x by
          intro j hj he
          by_cases hjk : j = k
          · subst hjk
            rw [List.getElem?_eq_getElem hlt] at he
            injection he with he
            exact hb (by rw [HX.out, hd, he])
          · exact hh.out j (by omega) he)
        have hne : ((xn : Int) == (d : Int)) = false := by simp; omega
        clear hd
        go_wp2
        go_round
        case rel => exact ⟨k + 1, by omega, by go_num, HL.out⟩
        case measure => simp [intOf]; omega
    · have HL := Lib.hid (show ∀ j : Nat, l[j]? ≠ some x by
        intro j he
        by_cases hj : j < k
        · exact hh.out j hj he
        · rw [List.getElem?_eq_none (by omega)] at he; cases he)
      go_wp2
      go_ret
      exact ⟨Or.inr ⟨rfl, HL.out⟩, rfl⟩
end Go.Proofs.YtplbcbamnjnhlaaGreatDoor
namespace Go.Proofs.YtplbcbamnjnhlaaGreatDoor
open Go.RowKit

end Go.Proofs.YtplbcbamnjnhlaaGreatDoor
namespace Go.Proofs.YtplbcbamnjnhlaaGreatDoor
open Go.RowKit

def ParseTo (l : List UInt8) (w : World) (e : Ending) (w' : World) : Prop :=
  Below w.heap.size w w' ∧ ((parseL l = none ∧ e = .returned (.tuple #[rv zeroD (.slice none 0 0), .int .i64 3])) ∨ ∃ r v, parseL l = some r ∧ e = .returned (.tuple #[rv r v, .int .i64 0]) ∧ KeysOwn w' w.heap.size v r.keys)
theorem parseTo_no {l : List UInt8} {w w' : World} {e : Ending} (h : parseL l = none) (he : e = .returned (.tuple #[rv zeroD (.slice none 0 0), .int .i64 3])) (hb : Below w.heap.size w w') : ParseTo l w e w' := ⟨hb, .inl ⟨h, he⟩⟩
theorem parseTo_yes {l : List UInt8} {w w' : World} {e : Ending} {r : RecD} {v : Value} (h : parseL l = some r) (he : e = .returned (.tuple #[rv r v, .int .i64 0])) (hs : KeysOwn w' w.heap.size v r.keys) (hb : Below w.heap.size w w') : ParseTo l w e w' := ⟨hb, .inr ⟨r, v, h, he, hs⟩⟩
theorem parseL_body {l : List UInt8} (h0 : 0 < l.length) (h : l[l.length - 1]'(by omega) = 10) : parseL l = bodyL (l.take (l.length - 1)) := by
  unfold parseL
  rw [if_pos ⟨h0, by rw [List.getD_eq_getElem?_getD, List.getElem?_eq_getElem (by omega), h]; rfl⟩]
theorem parseL_nofeed {l : List UInt8} (h0 : 0 < l.length) (h : l[l.length - 1]'(by omega) ≠ 10) : parseL l = none := by
  unfold parseL
  rw [if_neg]
  rintro ⟨_, h2⟩
  rw [List.getD_eq_getElem?_getD, List.getElem?_eq_getElem (by omega)] at h2
  exact h h2
theorem parseL_nil : parseL [] = none := by
  unfold parseL
  rw [if_neg]
  rintro ⟨h, _⟩
  exact absurd h (by simp)
theorem bodyL_1 {x : List UInt8} (h : sevUnpack x = none) : bodyL x = none := by unfold bodyL; rw [h]
theorem bodyL_2 {x b : List UInt8} (h : sevUnpack x = some b) (h2 : frameOpen b = none) : bodyL x = none := by unfold bodyL; rw [h]; simp only; rw [h2]
theorem bodyL_3 {x b load : List UInt8} {k : UInt8} (h : sevUnpack x = some b) (h2 : frameOpen b = some (k, load)) : bodyL x = if okT (k.toNat : Nat) load = true then some (decR (k.toNat : Nat) load) else none := by unfold bodyL; rw [h]; simp only; rw [h2]
set_option maxRecDepth 100000 in
set_option maxHeartbeats 2000000 in
theorem parse32_any (l : List UInt8) (A : Option Addr) (c B : Nat) (w : World) (hr : Rd w B A (bcells l)) (hB : B ≤ w.heap.size) (hl : l.length ≤ 68719476736) (hc : l.length ≤ c) :
    Calls Tryz.prog 60 #[.slice A l.length c] w (ParseTo l w) := by
  have HBW := Lib.hid hB
  have HR := Lib.hid hr
  clear hr
  go_enter Tryz.func60, Tryz.ntmps60
  go_wp2_with (refine stop_at (some 2) rfl ?_)
  refine Stop.go (wpList_alloc rfl 38 rfl zero_rec rfl ?_)
  have hb1 : Below w.heap.size w (w.alloc (.cells (recCells 0 0 z32 0 z32 0 (.slice none 0 0)).toArray 38)) := (Below.refl _ _).alloc (Nat.le_refl _) _
  have HG1 := Lib.hid (Go.heap_alloc_new w (.cells (recCells 0 0 z32 0 z32 0 (.slice none 0 0)).toArray 38))
  have HR1 := Lib.hid (HR.out.below (hb1.mono hB))
  have HB1 := Lib.hid hb1
  clear hb1 HR hB
  generalize w.alloc (.cells (recCells 0 0 z32 0 z32 0 (.slice none 0 0)).toArray 38) = w1 at *
  by_cases h0 : l.length = 0
  · have HN := Lib.hid (show parseL l = none by rw [List.length_eq_zero_iff.1 h0]; exact parseL_nil)
    have hneg : ((l.length : Int) - 1) < 0 := by omega
    go_wp2_with (refine stop_at (some 23) rfl ?_)
    refine Stop.go (wpList_build rfl 38 rfl (vs := #[]) (by rfl) (build_rec0 _) ?_)
    refine wpList_store_agg rfl 38 rfl rfl rfl (store_row (recv_cells ..) (rec_size _ _ _ _ _ _ _ rfl rfl) HG1.out (by rw [List.size_toArray, recCells_length, recCells_length]; rfl) (recCells_one _ _ _ _ _ _ _ _ _)) ?_
    go_wp2_with fail
    refine ret_rec rfl rfl rfl rfl rfl rfl (setRow_heap _ _ _ _ _ _ HG1.out) ?_
    exact parseTo_no HN.out rfl (below_setRow HB1.out (Nat.le_refl _) _)
  · have h0' : 0 < l.length := by omega
    obtain ⟨n, hn⟩ : ∃ n, l.length = n + 1 := ⟨l.length - 1, by omega⟩
    have hnl : n < l.length := by omega
    obtain ⟨ab, ao, rfl, hab, hcell⟩ := HR1.out.byte hnl
    obtain ⟨d, hd⟩ : ∃ d, d = l[n].toNat := ⟨_, rfl⟩
    rw [← hd] at hcell
    have en : l.length - 1 = n := by omega
    by_cases hd10 : d = 10
    · have HP := Lib.hid (show parseL l = bodyL (l.take n) by
        have := parseL_body h0' (by apply UInt8.toNat_inj.1; simp only [en]; rw [← hd, hd10]; rfl)
        rwa [en] at this)
      have HT := Lib.hid (show (l.take n).length = n by rw [List.length_take]; omega)
      have hXL := HT.out
      have HRT := Lib.hid (show Rd w1 B (some ⟨ab, ao, none⟩) (bcells (l.take n)) by have := HR1.out.take_ n; rwa [show (bcells l).take n = bcells (l.take n) by simp [bcells]] at this)
      subst hd10
      have hu := u8_upto (some ⟨ab, ao, none⟩) (n + 1) c n (by omega)
      clear hd en HR1 h0 h0'
      rw [hn] at hl hc hnl ⊢
      clear hn
      have hsub : ((n + 1 : Nat) : Int) - 1 = (n : Int) := by omega
      have HU := unpack_any (l.take n) (some ⟨ab, ao, none⟩) c B w1 HRT.out (Nat.le_trans HBW.out HB1.out.size) (by rw [HT.out]; omega)
      rw [HT.out] at HU
      have HUU := Lib.hid HU
      obtain ⟨X, hX⟩ : ∃ X, X = l.take n := ⟨_, rfl⟩
      rw [← hX] at HP HUU hXL
      have HXL := Lib.hid hXL
      clear HU HRT HT hX hXL
      go_wp2_with fail
      refine HUU.out.mono ?_
      rintro e w2 ⟨hb2, hcase⟩
      have HB2 := Lib.hid (HB1.out.trans (hb2.mono HB1.out.size))
      have HG2 := Lib.hid ((hb2.block _ (Array.getElem?_eq_some_iff.1 HG1.out).1).trans HG1.out)
      cases hun : sevUnpack X with
      | none =>
        rw [hun] at hcase
        obtain rfl : e = _ := hcase
        have HN := Lib.hid (HP.out.trans (bodyL_1 hun))
        clear hun hb2 HG1 HB1 HP HUU
        go_wp2_with (refine stop_at (some 33) rfl ?_)
        refine Stop.go (wpList_build rfl 38 rfl (vs := #[]) (by rfl) (build_rec0 _) ?_)
        refine wpList_store_agg rfl 38 rfl rfl rfl (store_row (recv_cells ..) (rec_size _ _ _ _ _ _ _ rfl rfl) HG2.out (by rw [List.size_toArray, recCells_length, recCells_length]; rfl) (recCells_one _ _ _ _ _ _ _ _ _)) ?_
        go_wp2_with fail
        refine ret_rec rfl rfl rfl rfl rfl rfl (setRow_heap _ _ _ _ _ _ HG2.out) ?_
        exact parseTo_no HN.out rfl (below_setRow HB2.out (Nat.le_refl _) _)
      | some F =>
        rw [hun] at hcase
        obtain ⟨vF, rfl, hoF⟩ := hcase
        have HUN := Lib.hid hun
        obtain ⟨AF, cF, rfl, hcF, _⟩ := own_form hoF
        have HRF := Lib.hid (Rd.of_own hoF)
        have hFl : F.length ≤ 68719476736 := by
          have := congrArg List.length (sevPack_unpack hun)
          have h3 := sevPack_length F
          have h4 : X.length ≤ 68719476736 := by rw [HXL.out]; omega
          omega
        clear hun hb2 HG1 HB1 HUU hoF
        go_wp2_with fail
        refine (open_any F AF cF w2.heap.size w2 HRF.out (Nat.le_refl _) hFl hcF).mono ?_
        rintro e w3 ⟨hb3, hcase⟩
        have HB3 := Lib.hid (HB2.out.trans (hb3.mono HB2.out.size))
        have HG3 := Lib.hid ((hb3.block _ (Array.getElem?_eq_some_iff.1 HG2.out).1).trans HG2.out)
        cases hfo : frameOpen F with
        | none =>
          rw [hfo] at hcase
          obtain ⟨x, hx0, hx1, hx2, rfl⟩ := hcase
          have HN := Lib.hid (HP.out.trans (bodyL_2 HUN.out hfo))
          have hxne : (x != 0) = true := by simpa using hx0
          clear hfo hb3 HG2 HB2 HP HUN HRF
          go_wp2_with (refine stop_at (some 42) rfl ?_)
          refine Stop.go (wpList_build rfl 38 rfl (vs := #[]) (by rfl) (build_rec0 _) ?_)
          refine wpList_store_agg rfl 38 rfl rfl rfl (store_row (recv_cells ..) (rec_size _ _ _ _ _ _ _ rfl rfl) HG3.out (by rw [List.size_toArray, recCells_length, recCells_length]; rfl) (recCells_one _ _ _ _ _ _ _ _ _)) ?_
          go_wp2_with fail
          refine ret_rec rfl rfl rfl rfl rfl rfl (setRow_heap _ _ _ _ _ _ HG3.out) ?_
          exact parseTo_no HN.out rfl (below_setRow HB3.out (Nat.le_refl _) _)
        | some kl =>
          obtain ⟨k, load⟩ := kl
          rw [hfo] at hcase
          obtain ⟨AL, cL, rfl, hrL⟩ := hcase
          have hLl := (frameOpen_some hfo).2
          have HN := Lib.hid (HP.out.trans (bodyL_3 HUN.out hfo))
          have HRL := Lib.hid hrL
          obtain ⟨kn, hkn⟩ : ∃ kn : Nat, kn = k.toNat := ⟨_, rfl⟩
          have hk8 : kn < 256 := by rw [hkn]; exact UInt8.toNat_lt _
          rw [← hkn] at HN ⊢
          clear hfo hb3 HG2 HB2 HP HUN HRF hrL hkn
          go_wp2_with fail
          refine (take_any (kn : Int) load AL cL w3.heap.size w3 HRL.out (Nat.le_refl _) hLl).mono ?_
          rintro e w4 ⟨r, v, rfl, hhs, hks, hdec, hb4⟩
          have HHS := Lib.hid hhs
          have HKS := Lib.hid hks
          have HDEC := Lib.hid hdec
          have HB4 := Lib.hid (HB3.out.trans (hb4.mono HB3.out.size))
          have HG4 := Lib.hid ((hb4.block _ (Array.getElem?_eq_some_iff.1 HG3.out).1).trans HG3.out)
          have HLT := Lib.hid (show w.heap.size + 1 ≤ w3.heap.size from (Array.getElem?_eq_some_iff.1 HG3.out).1)
          obtain ⟨A4, c4, rfl, _, _⟩ := own_form hks.1
          clear hb4 HG3 HB3 hhs hks hdec HRL
          have hb5 : Below w4.heap.size w4 (w4.alloc (.cells (recCells r.kind r.seq r.kh r.kk r.mh r.ms (.slice A4 r.keys.length c4)).toArray 38)) := (Below.refl _ _).alloc (Nat.le_refl _) _
          have HA5 := Lib.hid (RecAt.new (t := 38) (kind := r.kind) (seq := r.seq) (kk := r.kk) (ms := r.ms) (v := .slice A4 r.keys.length c4) w4 HHS.out.1 HHS.out.2)
          have HG5 := Lib.hid ((hb5.block _ (Array.getElem?_eq_some_iff.1 HG4.out).1).trans HG4.out)
          have HB5 := Lib.hid (HB4.out.trans (hb5.mono HB4.out.size))
          have HK5 := Lib.hid (HKS.out.later hb5)
          have HE5 := Lib.hid (show (w4.alloc (.cells (recCells r.kind r.seq r.kh r.kk r.mh r.ms (.slice A4 r.keys.length c4)).toArray 38)).heap.size = w4.heap.size + 1 from Array.size_push _)
          cases hok : okT (kn : Int) load with
          | false =>
            rw [hok] at HN
            have HN2 := Lib.hid (show parseL l = none by rw [HN.out]; rfl)
            clear hb5 hok HN HDEC
            go_wp2_with (refine stop_at (some 10) rfl ?_)
            refine Stop.go (wpList_alloc rfl 38 rfl zero_rec rfl ?_)
            refine wpList_store_agg rfl 38 rfl rfl rfl (store_new2 (g := w4.heap.size) rfl (recv_cells ..) (rec_size _ _ _ _ _ _ _ HHS.out.1 HHS.out.2) (by rw [List.size_toArray, recCells_length, recCells_length, HHS.out.1, HHS.out.2]; rfl) (recCells_one _ _ _ _ _ _ _ _ _)) ?_
            generalize w4.alloc (.cells (recCells r.kind r.seq r.kh r.kk r.mh r.ms (.slice A4 r.keys.length c4)).toArray 38) = w5 at *
            go_wp2_with (refine stop_at (some 52) rfl ?_)
            refine Stop.go (wpList_build rfl 38 rfl (vs := #[]) (by rfl) (build_rec0 _) ?_)
            refine wpList_store_agg rfl 38 rfl rfl rfl (store_row (recv_cells ..) (rec_size _ _ _ _ _ _ _ rfl rfl) HG5.out (by rw [List.size_toArray, recCells_length, recCells_length]; rfl) (recCells_one _ _ _ _ _ _ _ _ _)) ?_
            go_wp2_with fail
            refine ret_rec rfl rfl rfl rfl rfl rfl (setRow_heap _ _ _ _ _ _ HG5.out) ?_
            exact parseTo_no HN2.out rfl (below_setRow HB5.out (Nat.le_refl _) _)
          | true =>
            rw [hok] at HN
            have HN2 := Lib.hid (show parseL l = some r by rw [HN.out, HDEC.out hok]; rfl)
            clear hb5 hok HN HDEC
            go_wp2_with (refine stop_at (some 10) rfl ?_)
            refine Stop.go (wpList_alloc rfl 38 rfl zero_rec rfl ?_)
            refine wpList_store_agg rfl 38 rfl rfl rfl (store_new2 (g := w4.heap.size) rfl (recv_cells ..) (rec_size _ _ _ _ _ _ _ HHS.out.1 HHS.out.2) (by rw [List.size_toArray, recCells_length, recCells_length, HHS.out.1, HHS.out.2]; rfl) (recCells_one _ _ _ _ _ _ _ _ _)) ?_
            generalize w4.alloc (.cells (recCells r.kind r.seq r.kh r.kk r.mh r.ms (.slice A4 r.keys.length c4)).toArray 38) = w5 at *
            go_wp2_with (refine stop_at (some 53) rfl ?_)
            refine Stop.go (wpList_load_agg rfl 38 rfl rfl recTy_u rfl (rec_size _ _ _ _ _ _ _ HHS.out.1 HHS.out.2) HA5.out.all_ ?_)
            refine wpList_store_agg rfl 38 rfl rfl rfl (store_row (recv_cells ..) (rec_size _ _ _ _ _ _ _ HHS.out.1 HHS.out.2) HG5.out (by rw [List.size_toArray, recCells_length, recCells_length, HHS.out.1, HHS.out.2]; rfl) (recCells_one _ _ _ _ _ _ _ _ _)) ?_
            go_wp2_with fail
            refine ret_rec rfl HHS.out.1 HHS.out.2 rfl rfl rfl (setRow_heap _ _ _ _ _ _ HG5.out) ?_
            have HKX := (HK5.out.more (show w.heap.size + 1 ≤ w3.heap.size + 1 by have := HLT.out; omega)).other (w' := w5.setRow w.heap.size (recCells r.kind r.seq r.kh r.kk r.mh r.ms (.slice A4 r.keys.length c4)).toArray) (Nat.lt_succ_self _) fun k hk => setRow_other _ _ _ _ hk
            exact parseTo_yes HN2.out rfl (HKX.more (Nat.le_succ _)) (below_setRow HB5.out (Nat.le_refl _) _)
    · have HN := Lib.hid (show parseL l = none from parseL_nofeed h0' (by
        intro he
        apply hd10
        rw [hd]
        simp only [en] at he
        rw [he]
        rfl))
      have hne : ((d : Int) != 10) = true := by simp; omega
      clear hd en h0 h0'
      rw [hn] at hl hc hnl ⊢
      clear hn
      have hsub : ((n + 1 : Nat) : Int) - 1 = (n : Int) := by omega
      go_wp2_with (refine stop_at (some 23) rfl ?_)
      refine Stop.go (wpList_build rfl 38 rfl (vs := #[]) (by rfl) (build_rec0 _) ?_)
      refine wpList_store_agg rfl 38 rfl rfl rfl (store_row (recv_cells ..) (rec_size _ _ _ _ _ _ _ rfl rfl) HG1.out (by rw [List.size_toArray, recCells_length, recCells_length]; rfl) (recCells_one _ _ _ _ _ _ _ _ _)) ?_
      go_wp2_with fail
      refine ret_rec rfl rfl rfl rfl rfl rfl (setRow_heap _ _ _ _ _ _ HG1.out) ?_
      exact parseTo_no HN.out rfl (below_setRow HB1.out (Nat.le_refl _) _)
end Go.Proofs.YtplbcbamnjnhlaaGreatDoor
namespace Go.Proofs.YtplbcbamnjnhlaaGreatDoor
open Go.RowKit

theorem rec_app : AppTy Tryz.prog 22 38 69 120 (recv 0 0 z32 0 z32 0 (.slice none 0 0)) := appTy Tryz.underlying22 (by kernel_rfl) rfl (by omega)
theorem rec_info (k s : Int) (kh : List UInt8) (kk : Int) (mh : List UInt8) (ms : Int) (v : Value) (h1 : kh.length = 32) (h2 : mh.length = 32) : (Tryz.prog.info? 38).map (fun i => (i.zero, i.size)) = some (some (recv 0 0 z32 0 z32 0 (.slice none 0 0)), (recCells k s kh kk mh ms v).length) := by rw [recCells_length, h1, h2]; kernel_rfl
theorem eRec_away {w w' : World} {base : Nat} {r : RecD} {v : Value} {g : Option Nat} (hs : Hs r) (h : KeysOwn w base v r.keys) (hg : ∀ k, g = some k → k < base) (ha : Away w w' w.heap.size g) : eRec.rep w' w.heap.size (recCells r.kind r.seq r.kh r.kk r.mh r.ms v) r := by
  refine ⟨v, rfl, hs.1, hs.2, ?_⟩
  obtain ⟨A, c, rfl, h1, h2⟩ := own_form h.1
  have hsl := h.sl
  obtain ⟨A2, c2, css, e, h3, h4, h5, h6, h7⟩ := hsl
  injection e with e1 e2 e3
  subst e1 e3
  refine ⟨A, c, css, rfl, h3, h4, h5, fun hn => ?_, fun i cs x hc hx => h7 i cs x hc hx⟩
  · obtain ⟨b, off, e, hb, hc⟩ := h6 hn
    refine ⟨b, off, e, hb, fun j u hu => (ha ⟨b, off + j, none⟩ hb fun he => ?_).trans (hc j u hu)⟩
    have hlt := hg b he.symm
    subst e
    have := (h.1.lt b rfl).1
    omega
def RecAllTo (l : List UInt8) (w : World) (e : Ending) (w' : World) : Prop :=
  ∃ rs n v, e = .returned (.tuple #[v, .int .i64 (n : Nat)]) ∧ AllTo l rs n ∧ OwnL eRec w' w.heap.size 38 v rs ∧ Below w.heap.size w w'
theorem all_len {l : List UInt8} {n : Nat} {rs : List RecD} (h : l.take n = rs.flatMap lineL) : rs.length ≤ l.length := by
  have h1 := congrArg List.length h
  rw [List.length_take] at h1
  have : ∀ rs : List RecD, rs.length ≤ (rs.flatMap lineL).length := by
    intro rs
    induction rs with
    | nil => simp
    | cons r rs ih =>
      have := line_len r
      rw [List.flatMap_cons, List.length_append, List.length_cons]
      omega
  have := this rs
  omega
set_option maxRecDepth 100000 in
set_option maxHeartbeats 4000000 in
theorem all32_any (l : List UInt8) (A : Option Addr) (c B : Nat) (w : World) (hr : Rd w B A (bcells l)) (hB : B ≤ w.heap.size) (hl : l.length ≤ 68719476736) (hc : l.length ≤ c) :
    Calls Tryz.prog 37 #[.slice A l.length c] w (RecAllTo l w) := by
  have HBW := Lib.hid hB
  have HR := Lib.hid hr
  clear hr hB
  go_enter Tryz.func37, Tryz.ntmps37
  go_wp2_with fail
  go_loopw [4, 5] (fun v4 v5 wr => ∃ (n : Nat) (rs : List RecD) (A4 : Option Addr) (c4 : Nat), n ≤ l.length ∧ v5 = .int .i64 n ∧ v4 = .slice A4 rs.length c4 ∧ Hid (OwnL eRec wr w.heap.size 38 (.slice A4 rs.length c4) rs) ∧
    Hid (l.take n = rs.flatMap lineL ∧ ∀ r ∈ rs, GoodR r) ∧ Hid (Below w.heap.size w wr)) (fun _ v5 _ => l.length - (intOf v5).toNat)
  case atStart => exact ⟨0, [], none, 0, by omega, rfl, rfl, OwnL.nil _ _ _, ⟨rfl, fun r hr => nomatch hr⟩, Below.refl _ _⟩
  case round =>
    obtain ⟨n, rs, A4, c4, hn, rfl, rfl, HO, HL, HB⟩ := hrel
    have hu1 := u8_from A l.length c n hn
    have HRn := Lib.hid ((HR.out.below (HB.out.mono HBW.out)).cut n c hc)
    have hdl : (l.drop n).length = l.length - n := by rw [List.length_drop]
    have HIX := Lib.hid (index_any (l.drop n) 10 (cutA A c n) (c - n) B wr HRn.out (by omega))
    rw [hdl] at HIX
    go_wp2_with fail
    refine HIX.out.mono ?_
    rintro e w2 ⟨hix, rfl⟩
    rcases hix with ⟨k, rfl, hk1, hk2⟩ | ⟨rfl, hk2⟩
    · obtain ⟨q, hq⟩ : ∃ q, q = n + k + 1 := ⟨_, rfl⟩
      have hqi : (n : Int) + (k : Int) + 1 = (q : Int) := by omega
      have hkl : k < l.length - n := by
        have := (List.getElem?_eq_some_iff.1 hk1).1
        rwa [hdl] at this
      have hql : q ≤ l.length := by omega
      have hnq : n ≤ q := by omega
      have hu2 := u8_mid A l.length c n q hnq (by omega)
      have HTL := Lib.hid (show ((l.drop n).take (k + 1)).length = q - n by rw [List.length_take, hdl]; omega)
      have HP := Lib.hid (parse32_any ((l.drop n).take (k + 1)) (cutA A c n) (c - n) B wr (HRn.out.upto (k + 1)) (Nat.le_trans HBW.out HB.out.size) (by rw [HTL.out]; omega) (by rw [HTL.out]; omega))
      rw [HTL.out] at HP
      have HFD := Lib.hid (show FeedAt (l.drop n) k from ⟨hk1, hk2⟩)
      have HQ := Lib.hid hq
      clear hk1 hk2 hq HIX hdl
      go_wp2_with fail
      refine HP.out.mono ?_
      rintro e w2 ⟨hb2, hcase⟩
      have HO2 := Lib.hid (HO.out.later hb2)
      have HLT := Lib.hid (show ∀ g, (Value.slice A4 rs.length c4).ownBlock = some g → g < wr.heap.size by
        obtain ⟨css, h1, _⟩ := HO.out
        exact fun g hg => (h1.lt g hg).2)
      have HB2 := Lib.hid (HB.out.trans (hb2.mono HB.out.size))
      rcases hcase with ⟨hnone, rfl⟩ | ⟨r, v, hsome, rfl, hks⟩
      · have HA := Lib.hid (show AllTo l rs n from ⟨hn, HL.out.1, HL.out.2, fun j hj => by rw [hj.one HFD.out]; exact hnone⟩)
        clear hnone hb2 HO HB
        have hb3 : Below w2.heap.size w2 (w2.alloc (.cells (recCells zeroD.kind zeroD.seq zeroD.kh zeroD.kk zeroD.mh zeroD.ms (.slice none 0 0)).toArray 38)) := (Below.refl _ _).alloc (Nat.le_refl _) _
        have HO3 := Lib.hid (HO2.out.later hb3)
        have HB3 := Lib.hid (HB2.out.trans (hb3.mono HB2.out.size))
        clear hb3
        go_wp2_with (refine stop_at (some 7) rfl ?_)
        refine Stop.go (wpList_alloc rfl 38 rfl zero_rec rfl ?_)
        refine wpList_store_agg rfl 38 rfl rfl rfl (store_new2 (g := w2.heap.size) rfl (recv_cells ..) (rec_size _ _ _ _ _ _ _ rfl rfl) (by rw [List.size_toArray, recCells_length, recCells_length]; rfl) (recCells_one _ _ _ _ _ _ _ _ _)) ?_
        generalize w2.alloc (.cells (recCells zeroD.kind zeroD.seq zeroD.kh zeroD.kk zeroD.mh zeroD.ms (.slice none 0 0)).toArray 38) = w3 at *
        go_wp2_with fail
        go_ret2
        exact ⟨rs, n, _, rfl, HA.out, HO3.out, HB3.out⟩
      · obtain ⟨hgr, hline⟩ := parseL_some hsome
        have HGR := Lib.hid hgr
        have HLN := Lib.hid (show l.take q = (rs ++ [r]).flatMap lineL by
          rw [HQ.out, Nat.add_assoc, List.take_add, HL.out.1, hline, List.flatMap_append]
          simp)
        have HG2 := Lib.hid (show ∀ x ∈ rs ++ [r], GoodR x from fun x hx => by
          rcases List.mem_append.1 hx with hx | hx
          · exact HL.out.2 x hx
          · rw [List.mem_singleton.1 hx]; exact HGR.out)
        obtain ⟨AK, cK, rfl, _, _⟩ := own_form hks.1
        have hsz := all_len HL.out.1
        have hb3 : Below w2.heap.size w2 (w2.alloc (.cells (recCells r.kind r.seq r.kh r.kk r.mh r.ms (.slice AK r.keys.length cK)).toArray 38)) := (Below.refl _ _).alloc (Nat.le_refl _) _
        have HO3 := Lib.hid (HO2.out.later hb3)
        have HB3 := Lib.hid (HB2.out.trans (hb3.mono HB2.out.size))
        have HK3 := Lib.hid (hks.later hb3)
        have HA3 := Lib.hid (RecAt.new (t := 38) (kind := r.kind) (seq := r.seq) (kk := r.kk) (ms := r.ms) (v := .slice AK r.keys.length cK) w2 hgr.2.1.1 hgr.2.1.2)
        have HHS := Lib.hid hgr.2.1
        clear hb3 hb2 hks hline hsome hgr HO HO2 HB HB2 HP HL
        go_wp2_with (refine stop_at (some 7) rfl ?_)
        refine Stop.go (wpList_alloc rfl 38 rfl zero_rec rfl ?_)
        refine wpList_store_agg rfl 38 rfl rfl rfl (store_new2 (g := w2.heap.size) rfl (recv_cells ..) (rec_size _ _ _ _ _ _ _ HHS.out.1 HHS.out.2) (by rw [List.size_toArray, recCells_length, recCells_length, HHS.out.1, HHS.out.2]; rfl) (recCells_one _ _ _ _ _ _ _ _ _)) ?_
        generalize w2.alloc (.cells (recCells r.kind r.seq r.kh r.kk r.mh r.ms (.slice AK r.keys.length cK)).toArray 38) = w3 at *
        go_wp2_with (refine stop_at (some 33) rfl ?_)
        refine Stop.go (wpList_load_agg rfl 38 rfl rfl recTy_u rfl (rec_size _ _ _ _ _ _ _ HHS.out.1 HHS.out.2) HA3.out.all_ ?_)
        refine wpList_build_one rfl 22 38 rfl rfl Tryz.underlying22 (rec_info r.kind r.seq r.kh r.kk r.mh r.ms (.slice AK r.keys.length cK) HHS.out.1 HHS.out.2) (recv_cells ..) (by rw [recCells_length]; omega) (by rw [recCells_length, HHS.out.1, HHS.out.2]; decide) ?_
        have hb4 : Below w3.heap.size w3 (w3.alloc (.cells (recCells r.kind r.seq r.kh r.kk r.mh r.ms (.slice AK r.keys.length cK)).toArray 38)) := (Below.refl _ _).alloc (Nat.le_refl _) _
        have HO4 := Lib.hid (HO3.out.later hb4)
        have HB4 := Lib.hid (HB3.out.trans (hb4.mono HB3.out.size))
        have HK4 := Lib.hid (HK3.out.later hb4)
        have HG4 := Lib.hid (Go.heap_alloc_new w3 (.cells (recCells r.kind r.seq r.kh r.kk r.mh r.ms (.slice AK r.keys.length cK)).toArray 38))
        have HS4 := Lib.hid (show (w3.alloc (.cells (recCells r.kind r.seq r.kh r.kk r.mh r.ms (.slice AK r.keys.length cK)).toArray 38)).heap.size = w3.heap.size + 1 from Array.size_push _)
        generalize w3.alloc (.cells (recCells r.kind r.seq r.kh r.kk r.mh r.ms (.slice AK r.keys.length cK)).toArray 38) = w4 at *
        clear hb4 HO3 HB3 HK3
        obtain ⟨css, hcs1, hcs2, hcs3⟩ := HO4.out
        have HC3 := Lib.hid hcs3
        have hbw4 := HB4.out.size
        refine wpList_app rec_app rfl rfl rfl rfl hcs1 (Rd.row (B := w4.heap.size) HG4.out (by rw [HS4.out]; omega)) (m := 1) (by rw [recCells_length, HHS.out.1, HHS.out.2]) (recCells_one _ _ _ _ _ _ _ _ _) ?h63 ?hby ?hbase ?_
        case h63 => simp only [maxLen]; omega
        case hby => omega
        case hbase => exact hbw4
        intro v5 w5 hown5 hg5 hor5 _
        have HO5 := Lib.hid (OwnL.snoc hcs2 HC3.out (x := r) (fun w' ha => eRec_away HHS.out HK4.out HLT.out ha) hown5 hg5 hor5)
        have HB5 := Lib.hid (grown_below HB4.out hg5 hcs1 (Nat.le_refl _) hbw4)
        obtain ⟨A5, c5, rfl, _, _⟩ := own_form hown5
        clear hown5 hg5 hor5 hcs1 hcs3 HC3 hcs2
        generalize hac : Act.put _ _ _ = a9
        simp [Act.put] at hac
        subst hac
        go_wp2_with fail
        refine ⟨⟨q, rs ++ [r], A5, c5, hql, by go_num, ?_, ?_, Lib.hid ⟨HLN.out, HG2.out⟩, HB5⟩, ?_⟩
        · rw [List.length_append]; rfl
        · rw [List.length_append]; exact HO5
        · simp [intOf]; omega
    · have HA := Lib.hid (show AllTo l rs n from ⟨hn, HL.out.1, HL.out.2, fun j hj => absurd hj.1 (hk2 j)⟩)
      clear hk2 HIX
      go_wp2_with fail
      go_ret2
      exact ⟨rs, n, _, rfl, HA.out, HO.out, HB.out⟩
end Go.Proofs.YtplbcbamnjnhlaaGreatDoor
namespace Go.Proofs.YtplbcbamnjnhlaaGreatDoor
open Go.RowKit

def ReplayTo (l : List UInt8) (w : World) (e : Ending) (w' : World) : Prop :=
  ∃ g rs n0, AllTo l rs n0 ∧ e = .returned (.tuple #[bptr g, .int .i64 (replayD book0 rs).2]) ∧ BookAt w' g (replayD book0 rs).1 ∧ w.heap.size ≤ g ∧ Below w.heap.size w w'
theorem take_lines_le {l : List UInt8} {rs : List RecD} {n0 : Nat} (h : AllTo l rs n0) (i : Nat) : ((rs.take i).flatMap lineL).length ≤ l.length := by
  have h1 := congrArg List.length h.lines
  rw [List.length_take] at h1
  have h2 : rs.flatMap lineL = (rs.take i).flatMap lineL ++ (rs.drop i).flatMap lineL := by rw [← List.flatMap_append, List.take_append_drop]
  rw [h2, List.length_append] at h1
  omega
set_option maxRecDepth 100000 in
set_option maxHeartbeats 8000000 in
theorem replay33_any (l : List UInt8) (A : Option Addr) (c B : Nat) (w : World) (hr : Rd w B A (bcells l)) (hB : B ≤ w.heap.size) (hl : l.length ≤ 68719476736) (hc : l.length ≤ c) :
    Calls Tryz.prog 13 #[.slice A l.length c] w (ReplayTo l w) := by
  have HAL := Lib.hid (all32_any l A c B w hr hB hl hc)
  clear hr hB
  go_enter Tryz.func13, Tryz.ntmps13
  go_wp2_with fail
  refine HAL.out.mono ?_
  rintro e w1 ⟨rs, n0, v, rfl, hat, ho, hb1⟩
  have HAT := Lib.hid hat
  have HB1 := Lib.hid hb1
  obtain ⟨A1, c1, rfl, hc1, _⟩ := ho.form
  have HSL := Lib.hid ho.sl
  clear hat ho hb1 HAL
  obtain ⟨n, hn⟩ : ∃ n, n = rs.length := ⟨_, rfl⟩
  rw [← hn] at HSL hc1
  rw [← hn]
  have HN := Lib.hid hn
  clear hn
  have hc9 := (HSL.out.n_le).2
  go_wp2_with fail
  refine (new_any w1).mono ?_
  rintro e w2 ⟨rfl, hbk, hb2, hs2⟩
  have HBK := Lib.hid hbk
  have HB2 := Lib.hid hb2
  clear hbk hb2 hs2
  obtain ⟨g, hg⟩ : ∃ g, g = w1.heap.size := ⟨_, rfl⟩
  rw [← hg] at HBK HSL HB2
  rw [← hg]
  have HGG := Lib.hid hg
  clear hg
  go_wp2_with fail
  go_loopw [20, 7] (fun v20 v7 wr => ∃ (i : Nat) (b : BookD), i ≤ n ∧ v20 = .int .i64 i ∧ v7 = .int .i64 ((rs.take i).flatMap lineL).length ∧ Hid (BookAt wr g b) ∧ Hid (Good b) ∧ Hid (Below g w1 wr) ∧
    Hid (replayD book0 rs = ((replayD b (rs.drop i)).1, ((rs.take i).flatMap lineL).length + (replayD b (rs.drop i)).2))) (fun v20 _ _ => n - (intOf v20).toNat)
  case atStart => exact ⟨0, book0, Nat.zero_le _, rfl, rfl, HBK.out, good0, HB2.out, (show replayD book0 rs = ((replayD book0 (rs.drop 0)).1, ((rs.take 0).flatMap lineL).length + (replayD book0 (rs.drop 0)).2) by simp)⟩
  case round =>
    obtain ⟨i, b, hi, rfl, rfl, HK, HGD, HB, HRP⟩ := hrel
    obtain ⟨k, hk⟩ : ∃ k, k = ((rs.take i).flatMap lineL).length := ⟨_, rfl⟩
    have hkl := take_lines_le HAT.out i
    rw [← hk] at hkl HRP
    rw [← hk]
    have HKE := Lib.hid hk
    clear hk
    by_cases hlt : i < n
    · have hlt2 : i < rs.length := by rw [← HN.out]; exact hlt
      obtain ⟨b1, o1, A2, c2, rfl, _, hb1g, hhs, hks, hcell⟩ := rec_at (HSL.out.below HB.out) hlt2
      obtain ⟨r, hr⟩ : ∃ r, r = rs[i] := ⟨_, rfl⟩
      rw [← hr] at hhs hks hcell
      have HRI := Lib.hid hr
      have HHS := Lib.hid hhs
      have HKS := Lib.hid hks
      have HC := Lib.hid hcell
      have HGR := Lib.hid (show GoodR r from HAT.out.good r (by rw [hr]; exact List.getElem_mem _))
      have HRP2 := Lib.hid (show replayD book0 rs = ((replayD b (r :: rs.drop (i + 1))).1, k + (replayD b (r :: rs.drop (i + 1))).2) by
        have := HRP.out
        rwa [List.drop_eq_getElem_cons hlt2, ← hr] at this)
      clear hr hhs hks hcell HRP
      go_wp2_with (refine stop_at (some 23) rfl ?_)
      refine Stop.go (wpList_load_agg rfl 38 rfl rfl recTy_u rfl (rec_size _ _ _ _ _ _ _ HHS.out.1 HHS.out.2) HC.out ?_)
      refine wpList_alloc rfl 38 rfl zero_rec rfl ?_
      refine wpList_store_agg rfl 38 rfl rfl rfl (store_new2 (g := wr.heap.size) rfl (recv_cells ..) (rec_size _ _ _ _ _ _ _ HHS.out.1 HHS.out.2) (by rw [List.size_toArray, recCells_length, recCells_length, HHS.out.1, HHS.out.2]; rfl) (recCells_one _ _ _ _ _ _ _ _ _)) ?_
      have hglt := HK.out.lt
      have hb4 : Below wr.heap.size wr (wr.alloc (.cells (recCells r.kind r.seq r.kh r.kk r.mh r.ms (.slice A2 r.keys.length c2)).toArray 38)) := (Below.refl _ _).alloc (Nat.le_refl _) _
      have HG4 := Lib.hid (Go.heap_alloc_new wr (.cells (recCells r.kind r.seq r.kh r.kk r.mh r.ms (.slice A2 r.keys.length c2)).toArray 38))
      have HS4 := Lib.hid (World.size_alloc wr (.cells (recCells r.kind r.seq r.kh r.kk r.mh r.ms (.slice A2 r.keys.length c2)).toArray 38))
      have HK4 := Lib.hid (HK.out.below hb4 hglt)
      have HKS4 := Lib.hid (HKS.out.below (hb4.mono (by omega)))
      have HB4 := Lib.hid (HB.out.trans (hb4.mono (by omega)))
      clear hb4
      generalize wr.alloc (.cells (recCells r.kind r.seq r.kh r.kk r.mh r.ms (.slice A2 r.keys.length c2)).toArray 38) = w4 at *
      generalize hac : Act.put _ _ _ = a9
      simp [Act.put] at hac
      subst hac
      go_wp2_with (refine stop_at (some 25) rfl ?_)
      refine Stop.go (wpList_load_agg rfl 38 rfl rfl recTy_u rfl (rec_size _ _ _ _ _ _ _ HHS.out.1 HHS.out.2) (row_cells HG4.out) ?_)
      generalize hac : Act.put _ _ _ = a9
      simp [Act.put] at hac
      subst hac
      go_wp2_with fail
      refine (write33_any g b r A2 r.keys.length c2 g w4 HK4.out HGD.out HHS.out HKS4.out (by have := HK4.out.lt; omega)).mono ?_
      rintro e w5 ⟨rfl, hk5, hbs5⟩
      have hb5 : Below g w4 w5 := hbs5.below (Nat.le_refl _) (by have := HK4.out.lt; omega)
      have HB5 := Lib.hid (HB4.out.trans hb5)
      have HK5 := Lib.hid hk5
      have HKS5 := Lib.hid (HKS4.out.below hb5)
      have HG5 := Lib.hid ((hbs5.block wr.heap.size (by rw [HS4.out]; omega) (Or.inr (by omega))).trans HG4.out)
      have HS5 := Lib.hid (show wr.heap.size < w5.heap.size from Nat.lt_of_lt_of_le (by rw [HS4.out]; omega) hbs5.size)
      clear hbs5 hb5 hk5 HK4 HKS4 HG4 HS4 HB4
      rcases Bool.eq_false_or_eq_true (mayD b r) with hm | hm
      rotate_left
      · have HRE := Lib.hid (show replayD book0 rs = (b, k) by
          rw [HRP2.out]
          unfold replayD
          rw [hm, if_neg (by simp)]
          simp)
        have hap : applyD b r = b := by unfold applyD; rw [hm, if_neg (by simp)]
        rw [hap] at HK5
        rw [hm]
        clear hm hap
        have HP := Lib.hid (show ReplayTo l w (.returned (.tuple #[bptr g, .int .i64 k])) w5 from
          ⟨g, rs, n0, HAT.out, by rw [HRE.out], by rw [HRE.out]; exact HK5.out, by rw [HGG.out]; exact HB1.out.size, HB1.out.trans (HB5.out.mono (by rw [HGG.out]; exact HB1.out.size))⟩)
        go_wp2_with fail
        go_ret2
        exact HP.out
      · have hap : applyD b r = writeD b r := by unfold applyD; rw [hm, if_pos rfl]
        rw [hap] at HK5
        have HM := Lib.hid hm
        rw [hm]
        clear hm hap
        go_wp2_with (refine stop_at (some 29) rfl ?_)
        refine Stop.go (wpList_load_agg rfl 38 rfl rfl recTy_u rfl (rec_size _ _ _ _ _ _ _ HHS.out.1 HHS.out.2) (row_cells HG5.out) ?_)
        generalize hac : Act.put _ _ _ = a9
        simp [Act.put] at hac
        subst hac
        go_wp2_with fail
        refine (line_any r A2 r.keys.length c2 g w5 HHS.out HKS5.out (by have := HK5.out.lt; omega) HGR.out.2.2).mono ?_
        rintro e w6 ⟨hl6, hb6⟩
        unfold LineTo at hl6
        rw [if_pos HGR.out.1] at hl6
        obtain ⟨v6, rfl, ho6⟩ := hl6
        obtain ⟨A6, c6, rfl, _, _⟩ := own_form ho6
        have HK6 := Lib.hid (HK5.out.below hb6 HK5.out.lt)
        have HB6 := Lib.hid (HB5.out.trans (hb6.mono (by have := HK5.out.lt; omega)))
        have hkl2 := take_lines_le HAT.out (i + 1)
        have HTK := Lib.hid (show ((rs.take (i + 1)).flatMap lineL).length = k + (lineL r).length by
          rw [List.take_succ_eq_append_getElem hlt2, List.flatMap_append, List.length_append, HKE.out, HRI.out]
          simp)
        rw [HTK.out] at hkl2
        clear ho6 hb6
        go_wp2_with fail
        go_roundw
        case rel =>
          refine ⟨i + 1, writeD b r, by omega, by go_num, ?_, HK6.out, writeD_good HGD.out HHS.out HM.out, HB6.out, ?_⟩
          · rw [HTK.out]
            go_num
          · have e : replayD b (r :: rs.drop (i + 1)) = ((replayD (writeD b r) (rs.drop (i + 1))).1, (lineL r).length + (replayD (writeD b r) (rs.drop (i + 1))).2) := by
              rw [replayD, HM.out, if_pos rfl]
            rw [HTK.out, Nat.add_assoc]
            have := HRP2.out
            rw [e] at this
            exact this
        case measure => simp [intOf]; omega
    · have hin : i = n := by omega
      subst hin
      have HRE := Lib.hid (show replayD book0 rs = (b, k) by
        rw [HRP.out, HN.out, List.drop_length]
        rfl)
      have HP := Lib.hid (show ReplayTo l w (.returned (.tuple #[bptr g, .int .i64 k])) wr from
        ⟨g, rs, n0, HAT.out, by rw [HRE.out], by rw [HRE.out]; exact HK.out, by rw [HGG.out]; exact HB1.out.size, HB1.out.trans (HB.out.mono (by rw [HGG.out]; exact HB1.out.size))⟩)
      go_wp2_with fail
      go_ret2
      exact HP.out
end Go.Proofs.YtplbcbamnjnhlaaGreatDoor
