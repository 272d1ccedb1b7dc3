/- Texts of this proof joined: RecParse, OwnL, RecAll, RefPlain. -/
import Derived.Test.YtplbcbamnjnhlaaDoorMP23
import Derived.Test.YtplbcbamnjnhlaaDoorMP24
import Derived.Test.YtplbcbamnjnhlaaDoorMP05
import Derived.Test.YtplbcbamnjnhlaaDoorMP21
/- Contract of rec.Parse. -/
namespace Go.Proofs.YtplbcbamnjnhlaaDoor
open Go.RowKit

/-- what Parse answers -/
def ParseTo (l : List UInt8) (w : World) (e : Ending) (w' : World) : Prop :=
  Below w.heap.size w w' ∧ ((parseL l = none ∧ e = .returned (.tuple #[rv zeroD (.slice none 0 0), .int .i64 3])) ∨ ∃ r v, parseL l = some r ∧ e = .returned (.tuple #[rv r v, .int .i64 0]) ∧ KeysOwn w' w.heap.size v r.keys)
theorem parseTo_no {l : List UInt8} {w w' : World} {e : Ending} (h : parseL l = none) (he : e = .returned (.tuple #[rv zeroD (.slice none 0 0), .int .i64 3])) (hb : Below w.heap.size w w') : ParseTo l w e w' := ⟨hb, .inl ⟨h, he⟩⟩
theorem parseTo_yes {l : List UInt8} {w w' : World} {e : Ending} {r : RecD} {v : Value} (h : parseL l = some r) (he : e = .returned (.tuple #[rv r v, .int .i64 0])) (hs : KeysOwn w' w.heap.size v r.keys) (hb : Below w.heap.size w w') : ParseTo l w e w' := ⟨hb, .inr ⟨r, v, h, he, hs⟩⟩
theorem parseL_body {l : List UInt8} (h0 : 0 < l.length) (h : l[l.length - 1]'(by omega) = 10) : parseL l = bodyL (l.take (l.length - 1)) := by
  unfold parseL
  rw [if_pos ⟨h0, by rw [List.getD_eq_getElem?_getD, List.getElem?_eq_getElem (by omega), h]; rfl⟩]
theorem parseL_nofeed {l : List UInt8} (h0 : 0 < l.length) (h : l[l.length - 1]'(by omega) ≠ 10) : parseL l = none := by
  unfold parseL
  rw [if_neg]
  rintro ⟨_, h2⟩
  rw [List.getD_eq_getElem?_getD, List.getElem?_eq_getElem (by omega)] at h2
  exact h h2
theorem parseL_nil : parseL [] = none := by
  unfold parseL
  rw [if_neg]
  rintro ⟨h, _⟩
  exact absurd h (by simp)
/-- the ways of a body -/
theorem bodyL_1 {x : List UInt8} (h : sevUnpack x = none) : bodyL x = none := by unfold bodyL; rw [h]
theorem bodyL_2 {x b : List UInt8} (h : sevUnpack x = some b) (h2 : frameOpen b = none) : bodyL x = none := by unfold bodyL; rw [h]; simp only; rw [h2]
theorem bodyL_3 {x b load : List UInt8} {k : UInt8} (h : sevUnpack x = some b) (h2 : frameOpen b = some (k, load)) : bodyL x = if okT (k.toNat : Nat) load = true then some (decR (k.toNat : Nat) load) else none := by unfold bodyL; rw [h]; simp only; rw [h2]
set_option maxRecDepth 100000 in
set_option maxHeartbeats 2000000 in
theorem parse32_any (l : List UInt8) (A : Option Addr) (c B : Nat) (w : World) (hr : Rd w B A (bcells l)) (hB : B ≤ w.heap.size) (hl : l.length ≤ 68719476736) (hc : l.length ≤ c) :
    Calls Tryd.prog 5 #[.slice A l.length c] w (ParseTo l w) := by
  have HBW := Lib.hid hB
  have HR := Lib.hid hr
  clear hr
  go_enter Tryd.func5, Tryd.ntmps5
  go_wp2_with (refine stop_at (some 2) rfl ?_)
  refine Stop.go (wpList_alloc rfl 31 rfl zero_rec rfl ?_)
  have hb1 : Below w.heap.size w (w.alloc (.cells (recCells 0 0 z32 0 z32 0 (.slice none 0 0)).toArray 31)) := (Below.refl _ _).alloc (Nat.le_refl _) _
  have HG1 := Lib.hid (Go.heap_alloc_new w (.cells (recCells 0 0 z32 0 z32 0 (.slice none 0 0)).toArray 31))
  have HR1 := Lib.hid (HR.out.below (hb1.mono hB))
  have HB1 := Lib.hid hb1
  clear hb1 HR hB
  generalize w.alloc (.cells (recCells 0 0 z32 0 z32 0 (.slice none 0 0)).toArray 31) = w1 at *
  by_cases h0 : l.length = 0
  · have HN := Lib.hid (show parseL l = none by rw [List.length_eq_zero_iff.1 h0]; exact parseL_nil)
    have hneg : ((l.length : Int) - 1) < 0 := by omega
    go_wp2_with (refine stop_at (some 23) rfl ?_)
    refine Stop.go (wpList_build rfl 31 rfl (vs := #[]) (by rfl) (build_rec0 _) ?_)
    refine wpList_store_agg rfl 31 rfl rfl rfl (store_row (recv_cells ..) (rec_size _ _ _ _ _ _ _ rfl rfl) HG1.out (by rw [List.size_toArray, recCells_length, recCells_length]; rfl) (recCells_one _ _ _ _ _ _ _ _ _)) ?_
    go_wp2_with fail
    refine ret_rec rfl rfl rfl rfl rfl rfl (setRow_heap _ _ _ _ _ _ HG1.out) ?_
    exact parseTo_no HN.out rfl (below_setRow HB1.out (Nat.le_refl _) _)
  · have h0' : 0 < l.length := by omega
    obtain ⟨n, hn⟩ : ∃ n, l.length = n + 1 := ⟨l.length - 1, by omega⟩
    have hnl : n < l.length := by omega
    obtain ⟨ab, ao, rfl, hab, hcell⟩ := HR1.out.byte hnl
    obtain ⟨d, hd⟩ : ∃ d, d = l[n].toNat := ⟨_, rfl⟩
    rw [← hd] at hcell
    have en : l.length - 1 = n := by omega
    by_cases hd10 : d = 10
    · have HP := Lib.hid (show parseL l = bodyL (l.take n) by
        have := parseL_body h0' (by apply UInt8.toNat_inj.1; simp only [en]; rw [← hd, hd10]; rfl)
        rwa [en] at this)
      have HT := Lib.hid (show (l.take n).length = n by rw [List.length_take]; omega)
      have hXL := HT.out
      have HRT := Lib.hid (show Rd w1 B (some ⟨ab, ao, none⟩) (bcells (l.take n)) by have := HR1.out.take_ n; rwa [show (bcells l).take n = bcells (l.take n) by simp [bcells]] at this)
      subst hd10
      have hu := u8_upto (some ⟨ab, ao, none⟩) (n + 1) c n (by omega)
      clear hd en HR1 h0 h0'
      rw [hn] at hl hc hnl ⊢
      clear hn
      have hsub : ((n + 1 : Nat) : Int) - 1 = (n : Int) := by omega
      have HU := unpack_any (l.take n) (some ⟨ab, ao, none⟩) c B w1 HRT.out (Nat.le_trans HBW.out HB1.out.size) (by rw [HT.out]; omega)
      rw [HT.out] at HU
      have HUU := Lib.hid HU
      obtain ⟨X, hX⟩ : ∃ X, X = l.take n := ⟨_, rfl⟩
      rw [← hX] at HP HUU hXL
      have HXL := Lib.hid hXL
      clear HU HRT HT hX hXL
      go_wp2_with fail
      refine HUU.out.mono ?_
      rintro e w2 ⟨hb2, hcase⟩
      have HB2 := Lib.hid (HB1.out.trans (hb2.mono HB1.out.size))
      have HG2 := Lib.hid ((hb2.block _ (Array.getElem?_eq_some_iff.1 HG1.out).1).trans HG1.out)
      cases hun : sevUnpack X with
      | none =>
        rw [hun] at hcase
        obtain rfl : e = _ := hcase
        have HN := Lib.hid (HP.out.trans (bodyL_1 hun))
        clear hun hb2 HG1 HB1 HP HUU
        go_wp2_with (refine stop_at (some 33) rfl ?_)
        refine Stop.go (wpList_build rfl 31 rfl (vs := #[]) (by rfl) (build_rec0 _) ?_)
        refine wpList_store_agg rfl 31 rfl rfl rfl (store_row (recv_cells ..) (rec_size _ _ _ _ _ _ _ rfl rfl) HG2.out (by rw [List.size_toArray, recCells_length, recCells_length]; rfl) (recCells_one _ _ _ _ _ _ _ _ _)) ?_
        go_wp2_with fail
        refine ret_rec rfl rfl rfl rfl rfl rfl (setRow_heap _ _ _ _ _ _ HG2.out) ?_
        exact parseTo_no HN.out rfl (below_setRow HB2.out (Nat.le_refl _) _)
      | some F =>
        rw [hun] at hcase
        obtain ⟨vF, rfl, hoF⟩ := hcase
        have HUN := Lib.hid hun
        obtain ⟨AF, cF, rfl, hcF, _⟩ := own_form hoF
        have HRF := Lib.hid (Rd.of_own hoF)
        have hFl : F.length ≤ 68719476736 := by
          have := congrArg List.length (sevPack_unpack hun)
          have h3 := sevPack_length F
          have h4 : X.length ≤ 68719476736 := by rw [HXL.out]; omega
          omega
        clear hun hb2 HG1 HB1 HUU hoF
        go_wp2_with fail
        refine (open_any F AF cF w2.heap.size w2 HRF.out (Nat.le_refl _) hFl hcF).mono ?_
        rintro e w3 ⟨hb3, hcase⟩
        have HB3 := Lib.hid (HB2.out.trans (hb3.mono HB2.out.size))
        have HG3 := Lib.hid ((hb3.block _ (Array.getElem?_eq_some_iff.1 HG2.out).1).trans HG2.out)
        cases hfo : frameOpen F with
        | none =>
          rw [hfo] at hcase
          obtain ⟨x, hx0, hx1, hx2, rfl⟩ := hcase
          have HN := Lib.hid (HP.out.trans (bodyL_2 HUN.out hfo))
          have hxne : (x != 0) = true := by simpa using hx0
          clear hfo hb3 HG2 HB2 HP HUN HRF
          go_wp2_with (refine stop_at (some 42) rfl ?_)
          refine Stop.go (wpList_build rfl 31 rfl (vs := #[]) (by rfl) (build_rec0 _) ?_)
          refine wpList_store_agg rfl 31 rfl rfl rfl (store_row (recv_cells ..) (rec_size _ _ _ _ _ _ _ rfl rfl) HG3.out (by rw [List.size_toArray, recCells_length, recCells_length]; rfl) (recCells_one _ _ _ _ _ _ _ _ _)) ?_
          go_wp2_with fail
          refine ret_rec rfl rfl rfl rfl rfl rfl (setRow_heap _ _ _ _ _ _ HG3.out) ?_
          exact parseTo_no HN.out rfl (below_setRow HB3.out (Nat.le_refl _) _)
        | some kl =>
          obtain ⟨k, load⟩ := kl
          rw [hfo] at hcase
          obtain ⟨AL, cL, rfl, hrL⟩ := hcase
          have hLl := (frameOpen_some hfo).2
          have HN := Lib.hid (HP.out.trans (bodyL_3 HUN.out hfo))
          have HRL := Lib.hid hrL
          obtain ⟨kn, hkn⟩ : ∃ kn : Nat, kn = k.toNat := ⟨_, rfl⟩
          have hk8 : kn < 256 := by rw [hkn]; exact UInt8.toNat_lt _
          rw [← hkn] at HN ⊢
          clear hfo hb3 HG2 HB2 HP HUN HRF hrL hkn
          go_wp2_with fail
          refine (take_any (kn : Int) load AL cL w3.heap.size w3 HRL.out (Nat.le_refl _) hLl).mono ?_
          rintro e w4 ⟨r, v, rfl, hhs, hks, hdec, hb4⟩
          have HHS := Lib.hid hhs
          have HKS := Lib.hid hks
          have HDEC := Lib.hid hdec
          have HB4 := Lib.hid (HB3.out.trans (hb4.mono HB3.out.size))
          have HG4 := Lib.hid ((hb4.block _ (Array.getElem?_eq_some_iff.1 HG3.out).1).trans HG3.out)
          have HLT := Lib.hid (show w.heap.size + 1 ≤ w3.heap.size from (Array.getElem?_eq_some_iff.1 HG3.out).1)
          obtain ⟨A4, c4, rfl, _, _⟩ := own_form hks.1
          clear hb4 HG3 HB3 hhs hks hdec HRL
          have hb5 : Below w4.heap.size w4 (w4.alloc (.cells (recCells r.kind r.seq r.kh r.kk r.mh r.ms (.slice A4 r.keys.length c4)).toArray 31)) := (Below.refl _ _).alloc (Nat.le_refl _) _
          have HA5 := Lib.hid (RecAt.new (t := 31) (kind := r.kind) (seq := r.seq) (kk := r.kk) (ms := r.ms) (v := .slice A4 r.keys.length c4) w4 HHS.out.1 HHS.out.2)
          have HG5 := Lib.hid ((hb5.block _ (Array.getElem?_eq_some_iff.1 HG4.out).1).trans HG4.out)
          have HB5 := Lib.hid (HB4.out.trans (hb5.mono HB4.out.size))
          have HK5 := Lib.hid (HKS.out.later hb5)
          have HE5 := Lib.hid (show (w4.alloc (.cells (recCells r.kind r.seq r.kh r.kk r.mh r.ms (.slice A4 r.keys.length c4)).toArray 31)).heap.size = w4.heap.size + 1 from Array.size_push _)
          cases hok : okT (kn : Int) load with
          | false =>
            rw [hok] at HN
            have HN2 := Lib.hid (show parseL l = none by rw [HN.out]; rfl)
            clear hb5 hok HN HDEC
            go_wp2_with (refine stop_at (some 10) rfl ?_)
            refine Stop.go (wpList_alloc rfl 31 rfl zero_rec rfl ?_)
            refine wpList_store_agg rfl 31 rfl rfl rfl (store_new2 (g := w4.heap.size) rfl (recv_cells ..) (rec_size _ _ _ _ _ _ _ HHS.out.1 HHS.out.2) (by rw [List.size_toArray, recCells_length, recCells_length, HHS.out.1, HHS.out.2]; rfl) (recCells_one _ _ _ _ _ _ _ _ _)) ?_
            generalize w4.alloc (.cells (recCells r.kind r.seq r.kh r.kk r.mh r.ms (.slice A4 r.keys.length c4)).toArray 31) = w5 at *
            go_wp2_with (refine stop_at (some 52) rfl ?_)
            refine Stop.go (wpList_build rfl 31 rfl (vs := #[]) (by rfl) (build_rec0 _) ?_)
            refine wpList_store_agg rfl 31 rfl rfl rfl (store_row (recv_cells ..) (rec_size _ _ _ _ _ _ _ rfl rfl) HG5.out (by rw [List.size_toArray, recCells_length, recCells_length]; rfl) (recCells_one _ _ _ _ _ _ _ _ _)) ?_
            go_wp2_with fail
            refine ret_rec rfl rfl rfl rfl rfl rfl (setRow_heap _ _ _ _ _ _ HG5.out) ?_
            exact parseTo_no HN2.out rfl (below_setRow HB5.out (Nat.le_refl _) _)
          | true =>
            rw [hok] at HN
            have HN2 := Lib.hid (show parseL l = some r by rw [HN.out, HDEC.out hok]; rfl)
            clear hb5 hok HN HDEC
            go_wp2_with (refine stop_at (some 10) rfl ?_)
            refine Stop.go (wpList_alloc rfl 31 rfl zero_rec rfl ?_)
            refine wpList_store_agg rfl 31 rfl rfl rfl (store_new2 (g := w4.heap.size) rfl (recv_cells ..) (rec_size _ _ _ _ _ _ _ HHS.out.1 HHS.out.2) (by rw [List.size_toArray, recCells_length, recCells_length, HHS.out.1, HHS.out.2]; rfl) (recCells_one _ _ _ _ _ _ _ _ _)) ?_
            generalize w4.alloc (.cells (recCells r.kind r.seq r.kh r.kk r.mh r.ms (.slice A4 r.keys.length c4)).toArray 31) = w5 at *
            go_wp2_with (refine stop_at (some 53) rfl ?_)
            refine Stop.go (wpList_load_agg rfl 31 rfl rfl recTy_u rfl (rec_size _ _ _ _ _ _ _ HHS.out.1 HHS.out.2) HA5.out.all_ ?_)
            refine wpList_store_agg rfl 31 rfl rfl rfl (store_row (recv_cells ..) (rec_size _ _ _ _ _ _ _ HHS.out.1 HHS.out.2) HG5.out (by rw [List.size_toArray, recCells_length, recCells_length, HHS.out.1, HHS.out.2]; rfl) (recCells_one _ _ _ _ _ _ _ _ _)) ?_
            go_wp2_with fail
            refine ret_rec rfl HHS.out.1 HHS.out.2 rfl rfl rfl (setRow_heap _ _ _ _ _ _ HG5.out) ?_
            have HKX := (HK5.out.more (show w.heap.size + 1 ≤ w3.heap.size + 1 by have := HLT.out; omega)).other (w' := w5.setRow w.heap.size (recCells r.kind r.seq r.kh r.kk r.mh r.ms (.slice A4 r.keys.length c4)).toArray) (Nat.lt_succ_self _) fun k hk => setRow_other _ _ _ _ hk
            exact parseTo_yes HN2.out rfl (HKX.more (Nat.le_succ _)) (below_setRow HB5.out (Nat.le_refl _) _)
    · have HN := Lib.hid (show parseL l = none from parseL_nofeed h0' (by
        intro he
        apply hd10
        rw [hd]
        simp only [en] at he
        rw [he]
        rfl))
      have hne : ((d : Int) != 10) = true := by simp; omega
      clear hd en h0 h0'
      rw [hn] at hl hc hnl ⊢
      clear hn
      have hsub : ((n + 1 : Nat) : Int) - 1 = (n : Int) := by omega
      go_wp2_with (refine stop_at (some 23) rfl ?_)
      refine Stop.go (wpList_build rfl 31 rfl (vs := #[]) (by rfl) (build_rec0 _) ?_)
      refine wpList_store_agg rfl 31 rfl rfl rfl (store_row (recv_cells ..) (rec_size _ _ _ _ _ _ _ rfl rfl) HG1.out (by rw [List.size_toArray, recCells_length, recCells_length]; rfl) (recCells_one _ _ _ _ _ _ _ _ _)) ?_
      go_wp2_with fail
      refine ret_rec rfl rfl rfl rfl rfl rfl (setRow_heap _ _ _ _ _ _ HG1.out) ?_
      exact parseTo_no HN.out rfl (below_setRow HB1.out (Nat.le_refl _) _)
end Go.Proofs.YtplbcbamnjnhlaaDoor
/- Slices of the call's own whose elements read as data and may point into other blocks. No program is named here. -/
namespace Go.Proofs.YtplbcbamnjnhlaaDoor
open Go.RowKit

/-- two worlds read alike below block B, but for one block -/
def Away (w w' : World) (B : Nat) (r : Option Nat) : Prop := ∀ p : Addr, p.block < B → some p.block ≠ r → w'.cell? p = w.cell? p
theorem Away.refl (w : World) (B : Nat) (r : Option Nat) : Away w w B r := fun _ _ _ => rfl
def OwnL {α : Type} (E : Elt α) (w : World) (base : Nat) (t : TypeId) (v : Value) (xs : List α) : Prop :=
  ∃ css : List (List Value), w.ownsRow base t E.size v xs.length css.flatten ∧ css.length = xs.length ∧ ∀ (i : Nat) (cs : List Value) (x : α), css[i]? = some cs → xs[i]? = some x → ∀ w', Away w w' w.heap.size v.ownBlock → E.rep w' w.heap.size cs x
section
variable {α : Type} {E : Elt α} {w w' w1 : World} {base : Nat} {t : TypeId} {v v1 : Value} {xs : List α}
theorem OwnL.nil (w : World) (base : Nat) (t : TypeId) : OwnL E w base t (.slice none 0 0) [] := ⟨[], World.ownsRow_nil _ _ _ _, rfl, fun i cs x h => by simp at h⟩
theorem OwnL.form (h : OwnL E w base t v xs) : ∃ A c, v = .slice A xs.length c ∧ xs.length ≤ c ∧ c ≤ maxLen := by
  obtain ⟨css, h1, _⟩ := h
  exact own_form h1
theorem OwnL.sl (h : OwnL E w base t v xs) : SlR E w w.heap.size v xs := by
  obtain ⟨css, h1, h2, h3⟩ := h
  obtain ⟨A, c, rfl, ha, hb⟩ := own_form h1
  exact ⟨A, c, css, rfl, ha, hb, h2, Rd.of_own h1, fun i cs x hc hx => h3 i cs x hc hx w (Away.refl _ _ _)⟩
theorem OwnL.later (h : OwnL E w base t v xs) (hb : Below w.heap.size w w1) : OwnL E w1 base t v xs := by
  obtain ⟨css, h1, h2, h3⟩ := h
  refine ⟨css, own_below h1 hb, h2, fun i cs x hc hx w' ha => E.more (h3 i cs x hc hx w' fun p hp hn => ?_) hb.size⟩
  rw [ha p (Nat.lt_of_lt_of_le hp hb.size) hn, hb.cell hp]
/-- an append of one element -/
theorem OwnL.snoc {css : List (List Value)} {cs : List Value} {x : α} (h2 : css.length = xs.length) (h3 : ∀ (i : Nat) (cs : List Value) (x : α), css[i]? = some cs → xs[i]? = some x → ∀ w', Away w w' w.heap.size v.ownBlock → E.rep w' w.heap.size cs x)
    (hx : ∀ w', Away w w' w.heap.size v.ownBlock → E.rep w' w.heap.size cs x) (ho : w1.ownsRow base t E.size v1 (xs.length + 1) (css.flatten ++ cs)) (hg : w.grownBy w1 v.ownBlock) (hv : v1.ownBlock = v.ownBlock ∨ v1.ownBlock = some w.heap.size) :
    OwnL E w1 base t v1 (xs ++ [x]) := by
  have key : ∀ w', Away w1 w' w1.heap.size v1.ownBlock → Away w w' w.heap.size v.ownBlock := fun w' ha p hp hn => by
    rw [ha p (Nat.lt_of_lt_of_le hp hg.size) ?_]
    · have hb := hg.block p.block hp hn
      exact World.cell?_of_block (w := w) hb
    · rcases hv with e | e
      · rw [e]; exact hn
      · rw [e]
        intro e2
        injection e2 with e2
        omega
  refine ⟨css ++ [cs], ?_, by simp [h2], fun i cs' x' hc hx' w' ha => ?_⟩
  · rw [List.flatten_append, List.length_append]
    simpa using ho
  · by_cases hi : i < xs.length
    · rw [List.getElem?_append_left (by omega)] at hc hx'
      exact E.more (h3 i cs' x' hc hx' w' (key w' ha)) hg.size
    · have hil : i = xs.length := by
        have h4 := (List.getElem?_eq_some_iff.1 hx').1
        rw [List.length_append, List.length_singleton] at h4
        omega
      subst hil
      rw [← h2, List.getElem?_append_right (Nat.le_refl _), Nat.sub_self] at hc
      rw [List.getElem?_append_right (Nat.le_refl _), Nat.sub_self] at hx'
      injection hc with hc
      injection hx' with hx'
      subst hc hx'
      exact E.more (hx w' (key w' ha)) hg.size
end
/-- an owned row stays where a row of another type grows -/
theorem own_apart {w w' : World} {base base2 : Nat} {e e2 : TypeId} {size size2 : Nat} {v v2 : Value} {n n2 : Nat} {xs ys : List Value} (h : w.ownsRow base e size v n xs) (h2 : w.ownsRow base2 e2 size2 v2 n2 ys) (hne : e ≠ e2) (hg : w.grownBy w' v2.ownBlock) : w'.ownsRow base e size v n xs := by
  refine ⟨h.1, ?_⟩
  rcases h.2 with h' | ⟨g, cap, cur, rfl, hb, hh, r⟩
  · exact .inl h'
  · exact .inr ⟨g, cap, cur, rfl, hb, grown_other h2 hg hh hne, r⟩
theorem own_not2 {w : World} {base : Nat} {e e' : TypeId} {size n : Nat} {v : Value} {xs : List Value} {g : Nat} {cs : Array Value} {fr : Nat × Nat} (h : w.ownsRow base e size v n xs) (hg : w.heap[g]? = some (.cells cs e' fr)) (hne : e' ≠ e) : v.ownBlock ≠ some g := by
  rcases h.2 with ⟨rfl, _⟩ | ⟨g', cap, cur, rfl, _, hh, _⟩
  · simp [Value.ownBlock]
  · intro he
    have : g' = g := by simpa [Value.ownBlock] using he
    subst this
    rw [hg] at hh
    injection hh with hh
    injection hh with _ h2
    exact hne h2
/-- a shorter part of an own row -/
theorem own_take2 {w : World} {base : Nat} {e : TypeId} {g cap n : Nat} {xs : List Value} (h : w.ownsRow base e 1 (.slice (some ⟨g, 0, none⟩) n cap) n xs) {m : Nat} (hm : m ≤ n) : w.ownsRow base e 1 (.slice (some ⟨g, 0, none⟩) m cap) m (xs.take m) := by
  have hl := h.1
  refine ⟨by rw [List.length_take]; omega, .inr ?_⟩
  rcases h.2 with ⟨h0, _⟩ | ⟨g', cap', cur, hv, h1, h2, h3, h4, h5, h6⟩
  · cases h0
  · injection hv with e1 e2 e3
    injection e1 with e1
    injection e1 with e1
    subst e1 e3
    refine ⟨g, cap, cur, rfl, h1, h2, by omega, h4, h5, ?_⟩
    rw [← h6, List.take_take]
    congr 1
    omega
theorem own_some2 {w : World} {base : Nat} {e : TypeId} {size : Nat} {v : Value} {n : Nat} {xs : List Value} (h : w.ownsRow base e size v n xs) (hn : 0 < n) : ∃ g cap, v = .slice (some ⟨g, 0, none⟩) n cap := by
  rcases h.2 with ⟨_, h0⟩ | ⟨g, cap, cur, hv, _⟩
  · omega
  · exact ⟨g, cap, hv⟩
theorem own_blk2 {w : World} {base : Nat} {e : TypeId} {size n c g : Nat} {xs : List Value} (h : w.ownsRow base e size (.slice (some ⟨g, 0, none⟩) n c) n xs) : ∃ cur, w.heap[g]? = some (.cells cur e (0, 0)) := by
  rcases h.2 with ⟨h', _⟩ | ⟨g', cap', cur, h', _, hg, _⟩
  · simp at h'
  · simp only [Value.slice.injEq, Option.some.injEq, Addr.mk.injEq, and_true, true_and] at h'
    obtain ⟨rfl, rfl⟩ := h'
    exact ⟨cur, hg⟩
theorem own_takeA {w : World} {base : Nat} {e : TypeId} {A : Option Addr} {cap n : Nat} {xs : List Value} (h : w.ownsRow base e 1 (.slice A n cap) n xs) {m : Nat} (hm : m ≤ n) : w.ownsRow base e 1 (.slice A m cap) m (xs.take m) := by
  rcases h.2 with ⟨h0, _⟩ | ⟨g', cap', cur, hv, _⟩
  · injection h0 with e1 e2 e3
    subst e1 e2 e3
    have hm0 : m = 0 := by omega
    subst hm0
    exact World.ownsRow_nil _ _ _ _
  · injection hv with e1 e2 e3
    subst e1
    exact own_take2 h hm
/-- a row stays where a cell of a row of another type is set -/
theorem own_set_apart {w : World} {base base2 : Nat} {e e2 : TypeId} {size size2 : Nat} {v : Value} {n n2 c2 g j : Nat} {xs ys : List Value} (h : w.ownsRow base e size v n xs) (h2 : w.ownsRow base2 e2 size2 (.slice (some ⟨g, 0, none⟩) n2 c2) n2 ys) (hne : e ≠ e2) (u : Value) : (w.setCell ⟨g, j, none⟩ u).ownsRow base e size v n xs := by
  obtain ⟨cur2, hg2⟩ := own_blk2 h2
  refine ⟨h.1, ?_⟩
  rcases h.2 with h' | ⟨g', cap, cur, rfl, hb, hh, r⟩
  · exact .inl h'
  · refine .inr ⟨g', cap, cur, rfl, hb, ?_, r⟩
    rw [heap_setCell_other _ _ _ _ ?_]
    · exact hh
    · rintro rfl
      rw [hg2] at hh
      injection hh with hh
      injection hh with _ h3
      exact hne h3.symm
end Go.Proofs.YtplbcbamnjnhlaaDoor
/- Contract of rec.All. -/
namespace Go.Proofs.YtplbcbamnjnhlaaDoor
open Go.RowKit

theorem rec_app : AppTy Tryd.prog 41 31 69 120 (recv 0 0 z32 0 z32 0 (.slice none 0 0)) := appTy Tryd.underlying41 (by kernel_rfl) rfl (by omega)
theorem rec_info (k s : Int) (kh : List UInt8) (kk : Int) (mh : List UInt8) (ms : Int) (v : Value) (h1 : kh.length = 32) (h2 : mh.length = 32) : (Tryd.prog.info? 31).map (fun i => (i.zero, i.size)) = some (some (recv 0 0 z32 0 z32 0 (.slice none 0 0)), (recCells k s kh kk mh ms v).length) := by rw [recCells_length, h1, h2]; kernel_rfl
/-- a record whose keys' row is not block g's reads the same wherever all but g stands as it was -/
theorem eRec_away {w w' : World} {base : Nat} {r : RecD} {v : Value} {g : Option Nat} (hs : Hs r) (h : KeysOwn w base v r.keys) (hg : ∀ k, g = some k → k < base) (ha : Away w w' w.heap.size g) : eRec.rep w' w.heap.size (recCells r.kind r.seq r.kh r.kk r.mh r.ms v) r := by
  refine ⟨v, rfl, hs.1, hs.2, ?_⟩
  obtain ⟨A, c, rfl, h1, h2⟩ := own_form h.1
  have hsl := h.sl
  obtain ⟨A2, c2, css, e, h3, h4, h5, h6, h7⟩ := hsl
  injection e with e1 e2 e3
  subst e1 e3
  refine ⟨A, c, css, rfl, h3, h4, h5, fun hn => ?_, fun i cs x hc hx => h7 i cs x hc hx⟩
  · obtain ⟨b, off, e, hb, hc⟩ := h6 hn
    refine ⟨b, off, e, hb, fun j u hu => (ha ⟨b, off + j, none⟩ hb fun he => ?_).trans (hc j u hu)⟩
    have hlt := hg b he.symm
    subst e
    have := (h.1.lt b rfl).1
    omega
/-- what All answers -/
def RecAllTo (l : List UInt8) (w : World) (e : Ending) (w' : World) : Prop :=
  ∃ rs n v, e = .returned (.tuple #[v, .int .i64 (n : Nat)]) ∧ AllTo l rs n ∧ OwnL eRec w' w.heap.size 31 v rs ∧ Below w.heap.size w w'
theorem all_len {l : List UInt8} {n : Nat} {rs : List RecD} (h : l.take n = rs.flatMap lineL) : rs.length ≤ l.length := by
  have h1 := congrArg List.length h
  rw [List.length_take] at h1
  have : ∀ rs : List RecD, rs.length ≤ (rs.flatMap lineL).length := by
    intro rs
    induction rs with
    | nil => simp
    | cons r rs ih =>
      have := line_len r
      rw [List.flatMap_cons, List.length_append, List.length_cons]
      omega
  have := this rs
  omega
set_option maxRecDepth 100000 in
set_option maxHeartbeats 4000000 in
theorem all32_any (l : List UInt8) (A : Option Addr) (c B : Nat) (w : World) (hr : Rd w B A (bcells l)) (hB : B ≤ w.heap.size) (hl : l.length ≤ 68719476736) (hc : l.length ≤ c) :
    Calls Tryd.prog 9 #[.slice A l.length c] w (RecAllTo l w) := by
  have HBW := Lib.hid hB
  have HR := Lib.hid hr
  clear hr hB
  go_enter Tryd.func9, Tryd.ntmps9
  go_wp2_with fail
  go_loopw [4, 5] (fun v4 v5 wr => ∃ (n : Nat) (rs : List RecD) (A4 : Option Addr) (c4 : Nat), n ≤ l.length ∧ v5 = .int .i64 n ∧ v4 = .slice A4 rs.length c4 ∧ Hid (OwnL eRec wr w.heap.size 31 (.slice A4 rs.length c4) rs) ∧
    Hid (l.take n = rs.flatMap lineL ∧ ∀ r ∈ rs, GoodR r) ∧ Hid (Below w.heap.size w wr)) (fun _ v5 _ => l.length - (intOf v5).toNat)
  case atStart => exact ⟨0, [], none, 0, by omega, rfl, rfl, OwnL.nil _ _ _, ⟨rfl, fun r hr => nomatch hr⟩, Below.refl _ _⟩
  case round =>
    obtain ⟨n, rs, A4, c4, hn, rfl, rfl, HO, HL, HB⟩ := hrel
    have hu1 := u8_from A l.length c n hn
    have HRn := Lib.hid ((HR.out.below (HB.out.mono HBW.out)).cut n c hc)
    have hdl : (l.drop n).length = l.length - n := by rw [List.length_drop]
    have HIX := Lib.hid (index_any (l.drop n) 10 (cutA A c n) (c - n) B wr HRn.out (by omega))
    rw [hdl] at HIX
    go_wp2_with fail
    refine HIX.out.mono ?_
    rintro e w2 ⟨hix, rfl⟩
    rcases hix with ⟨k, rfl, hk1, hk2⟩ | ⟨rfl, hk2⟩
    · obtain ⟨q, hq⟩ : ∃ q, q = n + k + 1 := ⟨_, rfl⟩
      have hqi : (n : Int) + (k : Int) + 1 = (q : Int) := by omega
      have hkl : k < l.length - n := by
        have := (List.getElem?_eq_some_iff.1 hk1).1
        rwa [hdl] at this
      have hql : q ≤ l.length := by omega
      have hnq : n ≤ q := by omega
      have hu2 := u8_mid A l.length c n q hnq (by omega)
      have HTL := Lib.hid (show ((l.drop n).take (k + 1)).length = q - n by rw [List.length_take, hdl]; omega)
      have HP := Lib.hid (parse32_any ((l.drop n).take (k + 1)) (cutA A c n) (c - n) B wr (HRn.out.upto (k + 1)) (Nat.le_trans HBW.out HB.out.size) (by rw [HTL.out]; omega) (by rw [HTL.out]; omega))
      rw [HTL.out] at HP
      have HFD := Lib.hid (show FeedAt (l.drop n) k from ⟨hk1, hk2⟩)
      have HQ := Lib.hid hq
      clear hk1 hk2 hq HIX hdl
      go_wp2_with fail
      refine HP.out.mono ?_
      rintro e w2 ⟨hb2, hcase⟩
      have HO2 := Lib.hid (HO.out.later hb2)
      have HLT := Lib.hid (show ∀ g, (Value.slice A4 rs.length c4).ownBlock = some g → g < wr.heap.size by
        obtain ⟨css, h1, _⟩ := HO.out
        exact fun g hg => (h1.lt g hg).2)
      have HB2 := Lib.hid (HB.out.trans (hb2.mono HB.out.size))
      rcases hcase with ⟨hnone, rfl⟩ | ⟨r, v, hsome, rfl, hks⟩
      · have HA := Lib.hid (show AllTo l rs n from ⟨hn, HL.out.1, HL.out.2, fun j hj => by rw [hj.one HFD.out]; exact hnone⟩)
        clear hnone hb2 HO HB
        have hb3 : Below w2.heap.size w2 (w2.alloc (.cells (recCells zeroD.kind zeroD.seq zeroD.kh zeroD.kk zeroD.mh zeroD.ms (.slice none 0 0)).toArray 31)) := (Below.refl _ _).alloc (Nat.le_refl _) _
        have HO3 := Lib.hid (HO2.out.later hb3)
        have HB3 := Lib.hid (HB2.out.trans (hb3.mono HB2.out.size))
        clear hb3
        go_wp2_with (refine stop_at (some 7) rfl ?_)
        refine Stop.go (wpList_alloc rfl 31 rfl zero_rec rfl ?_)
        refine wpList_store_agg rfl 31 rfl rfl rfl (store_new2 (g := w2.heap.size) rfl (recv_cells ..) (rec_size _ _ _ _ _ _ _ rfl rfl) (by rw [List.size_toArray, recCells_length, recCells_length]; rfl) (recCells_one _ _ _ _ _ _ _ _ _)) ?_
        generalize w2.alloc (.cells (recCells zeroD.kind zeroD.seq zeroD.kh zeroD.kk zeroD.mh zeroD.ms (.slice none 0 0)).toArray 31) = w3 at *
        go_wp2_with fail
        go_ret2
        exact ⟨rs, n, _, rfl, HA.out, HO3.out, HB3.out⟩
      · obtain ⟨hgr, hline⟩ := parseL_some hsome
        have HGR := Lib.hid hgr
        have HLN := Lib.hid (show l.take q = (rs ++ [r]).flatMap lineL by
          rw [HQ.out, Nat.add_assoc, List.take_add, HL.out.1, hline, List.flatMap_append]
          simp)
        have HG2 := Lib.hid (show ∀ x ∈ rs ++ [r], GoodR x from fun x hx => by
          rcases List.mem_append.1 hx with hx | hx
          · exact HL.out.2 x hx
          · rw [List.mem_singleton.1 hx]; exact HGR.out)
        obtain ⟨AK, cK, rfl, _, _⟩ := own_form hks.1
        have hsz := all_len HL.out.1
        have hb3 : Below w2.heap.size w2 (w2.alloc (.cells (recCells r.kind r.seq r.kh r.kk r.mh r.ms (.slice AK r.keys.length cK)).toArray 31)) := (Below.refl _ _).alloc (Nat.le_refl _) _
        have HO3 := Lib.hid (HO2.out.later hb3)
        have HB3 := Lib.hid (HB2.out.trans (hb3.mono HB2.out.size))
        have HK3 := Lib.hid (hks.later hb3)
        have HA3 := Lib.hid (RecAt.new (t := 31) (kind := r.kind) (seq := r.seq) (kk := r.kk) (ms := r.ms) (v := .slice AK r.keys.length cK) w2 hgr.2.1.1 hgr.2.1.2)
        have HHS := Lib.hid hgr.2.1
        clear hb3 hb2 hks hline hsome hgr HO HO2 HB HB2 HP HL
        go_wp2_with (refine stop_at (some 7) rfl ?_)
        refine Stop.go (wpList_alloc rfl 31 rfl zero_rec rfl ?_)
        refine wpList_store_agg rfl 31 rfl rfl rfl (store_new2 (g := w2.heap.size) rfl (recv_cells ..) (rec_size _ _ _ _ _ _ _ HHS.out.1 HHS.out.2) (by rw [List.size_toArray, recCells_length, recCells_length, HHS.out.1, HHS.out.2]; rfl) (recCells_one _ _ _ _ _ _ _ _ _)) ?_
        generalize w2.alloc (.cells (recCells r.kind r.seq r.kh r.kk r.mh r.ms (.slice AK r.keys.length cK)).toArray 31) = w3 at *
        go_wp2_with (refine stop_at (some 33) rfl ?_)
        refine Stop.go (wpList_load_agg rfl 31 rfl rfl recTy_u rfl (rec_size _ _ _ _ _ _ _ HHS.out.1 HHS.out.2) HA3.out.all_ ?_)
        refine wpList_build_one rfl 41 31 rfl rfl Tryd.underlying41 (rec_info r.kind r.seq r.kh r.kk r.mh r.ms (.slice AK r.keys.length cK) HHS.out.1 HHS.out.2) (recv_cells ..) (by rw [recCells_length]; omega) (by rw [recCells_length, HHS.out.1, HHS.out.2]; decide) ?_
        have hb4 : Below w3.heap.size w3 (w3.alloc (.cells (recCells r.kind r.seq r.kh r.kk r.mh r.ms (.slice AK r.keys.length cK)).toArray 31)) := (Below.refl _ _).alloc (Nat.le_refl _) _
        have HO4 := Lib.hid (HO3.out.later hb4)
        have HB4 := Lib.hid (HB3.out.trans (hb4.mono HB3.out.size))
        have HK4 := Lib.hid (HK3.out.later hb4)
        have HG4 := Lib.hid (Go.heap_alloc_new w3 (.cells (recCells r.kind r.seq r.kh r.kk r.mh r.ms (.slice AK r.keys.length cK)).toArray 31))
        have HS4 := Lib.hid (show (w3.alloc (.cells (recCells r.kind r.seq r.kh r.kk r.mh r.ms (.slice AK r.keys.length cK)).toArray 31)).heap.size = w3.heap.size + 1 from Array.size_push _)
        generalize w3.alloc (.cells (recCells r.kind r.seq r.kh r.kk r.mh r.ms (.slice AK r.keys.length cK)).toArray 31) = w4 at *
        clear hb4 HO3 HB3 HK3
        obtain ⟨css, hcs1, hcs2, hcs3⟩ := HO4.out
        have HC3 := Lib.hid hcs3
        have hbw4 := HB4.out.size
        refine wpList_app rec_app rfl rfl rfl rfl hcs1 (Rd.row (B := w4.heap.size) HG4.out (by rw [HS4.out]; omega)) (m := 1) (by rw [recCells_length, HHS.out.1, HHS.out.2]) (recCells_one _ _ _ _ _ _ _ _ _) ?h63 ?hby ?hbase ?_
        case h63 => simp only [maxLen]; omega
        case hby => omega
        case hbase => exact hbw4
        intro v5 w5 hown5 hg5 hor5 _
        have HO5 := Lib.hid (OwnL.snoc hcs2 HC3.out (x := r) (fun w' ha => eRec_away HHS.out HK4.out HLT.out ha) hown5 hg5 hor5)
        have HB5 := Lib.hid (grown_below HB4.out hg5 hcs1 (Nat.le_refl _) hbw4)
        obtain ⟨A5, c5, rfl, _, _⟩ := own_form hown5
        clear hown5 hg5 hor5 hcs1 hcs3 HC3 hcs2
        generalize hac : Act.put _ _ _ = a9
        simp [Act.put] at hac
        subst hac
        go_wp2_with fail
        refine ⟨⟨q, rs ++ [r], A5, c5, hql, by go_num, ?_, ?_, Lib.hid ⟨HLN.out, HG2.out⟩, HB5⟩, ?_⟩
        · rw [List.length_append]; rfl
        · rw [List.length_append]; exact HO5
        · simp [intOf]; omega
    · have HA := Lib.hid (show AllTo l rs n from ⟨hn, HL.out.1, HL.out.2, fun j hj => absurd hj.1 (hk2 j)⟩)
      clear hk2 HIX
      go_wp2_with fail
      go_ret2
      exact ⟨rs, n, _, rfl, HA.out, HO.out, HB.out⟩
end Go.Proofs.YtplbcbamnjnhlaaDoor
/- The plain law of the reference's Parse (32): what it reads of a load. -/
namespace Go.Proofs.YtplbcbamnjnhlaaDoor
open Go.RowKit

def D1 (k : Nat) : RecD := ⟨k, 0, z32, 0, z32, 0, []⟩
def D2 (k : Nat) (l : List UInt8) : RecD := if k = 2 ∧ l.length = 74 then decR 2 l else D1 k
def D3 (k : Nat) (l : List UInt8) : RecD := if k = 3 ∧ l.length = 6 then decR 3 l else D2 k l
def D4 (k : Nat) (l : List UInt8) : RecD := if k = 4 ∧ l.length = 68 then decR 4 l else D3 k l
def D5 (k : Nat) (l : List UInt8) : RecD := if (k = 5 ∨ k = 6) ∧ l.length = 33 then decR (k : Nat) l else D4 k l
def D7 (k : Nat) (l : List UInt8) : RecD := if k = 7 then decR 7 l else D5 k l
theorem keyAt_len2 {l : List UInt8} {n : Nat} (h : n ≤ l.length / 33) : ∀ x ∈ (List.range n).map (fun i => keyAt l (33 * i)), x.1.length = 32 := by
  intro x hx
  obtain ⟨i, hi, rfl⟩ := List.mem_map.1 hx
  have := List.mem_range.1 hi
  exact keyAt_len l _ (by omega)
theorem D5_good (k : Nat) (l : List UInt8) : Hs (D5 k l) ∧ (D5 k l).keys = [] ∧ (D5 k l).kind = k := by
  unfold D5
  split
  · rename_i h
    obtain ⟨hk, hl⟩ := h
    rcases hk with rfl | rfl
    · exact ⟨⟨keyAt_len l 0 (by omega), rfl⟩, rfl, rfl⟩
    · exact ⟨⟨keyAt_len l 0 (by omega), rfl⟩, rfl, rfl⟩
  · unfold D4
    split
    · rename_i h
      obtain ⟨rfl, hl⟩ := h
      exact ⟨⟨keyAt_len l 0 (by omega), by show ((l.drop 33).take 32).length = 32; rw [List.length_take, List.length_drop]; omega⟩, rfl, rfl⟩
    · unfold D3
      split
      · rename_i h
        obtain ⟨rfl, hl⟩ := h
        exact ⟨⟨rfl, rfl⟩, rfl, rfl⟩
      · unfold D2
        split
        · rename_i h
          obtain ⟨rfl, hl⟩ := h
          exact ⟨⟨keyAt_len l 6 (by omega), by show ((l.drop 39).take 32).length = 32; rw [List.length_take, List.length_drop]; omega⟩, rfl, rfl⟩
        · exact ⟨⟨rfl, rfl⟩, rfl, rfl⟩
theorem D7_good (k : Nat) (l : List UInt8) : Hs (D7 k l) ∧ (∀ x ∈ (D7 k l).keys, x.1.length = 32) ∧ (D7 k l).kind = k := by
  unfold D7
  split
  · rename_i h
    subst h
    exact ⟨⟨rfl, rfl⟩, keyAt_len2 (Nat.le_refl _), rfl⟩
  · obtain ⟨h1, h2, h3⟩ := D5_good k l
    refine ⟨h1, ?_, h3⟩
    rw [h2]
    exact fun x hx => absurd hx (List.not_mem_nil)
theorem D7_dec (k : Nat) (l : List UInt8) (h : okT (k : Nat) l = true) : D7 k l = decR (k : Nat) l := by
  obtain ⟨hg, _, hk⟩ := dec_load h
  have hkd := right_kind hg.1
  rw [hk] at hkd
  unfold okT at h
  rw [Bool.and_eq_true] at h
  have hL := h.1
  have hk7 : k = 1 ∨ k = 2 ∨ k = 3 ∨ k = 4 ∨ k = 5 ∨ k = 6 ∨ k = 7 := by omega
  clear h hkd hk hg
  rcases hk7 with rfl | rfl | rfl | rfl | rfl | rfl | rfl
  · rfl
  · have hl : l.length = 74 := by simpa [lenT] using hL
    unfold D7 D5 D4 D3 D2
    rw [if_neg (by omega), if_neg (by omega), if_neg (by omega), if_neg (by omega), if_pos ⟨rfl, hl⟩]
    rfl
  · have hl : l.length = 6 := by simpa [lenT] using hL
    unfold D7 D5 D4 D3
    rw [if_neg (by omega), if_neg (by omega), if_neg (by omega), if_pos ⟨rfl, hl⟩]
    rfl
  · have hl : l.length = 68 := by simpa [lenT] using hL
    unfold D7 D5 D4
    rw [if_neg (by omega), if_neg (by omega), if_pos ⟨rfl, hl⟩]
    rfl
  · have hl : l.length = 33 := by simpa [lenT] using hL
    unfold D7 D5
    rw [if_neg (by omega), if_pos ⟨.inl rfl, hl⟩]
  · have hl : l.length = 33 := by simpa [lenT] using hL
    unfold D7 D5
    rw [if_neg (by omega), if_pos ⟨.inr rfl, hl⟩]
  · rfl
/-- what the reference takes is what the program takes -/
theorem D7_ok (k : Nat) (l : List UInt8) : (rightB (D7 k l) && decide (loadL (D7 k l) = l)) = okT (k : Nat) l := by
  cases h : okT (k : Nat) l with
  | true =>
    obtain ⟨hg, hl, _⟩ := dec_load h
    rw [D7_dec k l h, hg.1, hl, decide_eq_true rfl]
    rfl
  | false =>
    cases hR : rightB (D7 k l) with
    | false => rfl
    | true =>
      rw [Bool.true_and, decide_eq_false_iff_not]
      intro hl
      obtain ⟨h1, h2, h3⟩ := D7_good k l
      have := (load_dec (r := D7 k l) ⟨hR, h1, h2⟩).1
      rw [h3, hl, h] at this
      cases this
end Go.Proofs.YtplbcbamnjnhlaaDoor
