/- Texts of this proof joined: RecAll, LostLaw, Ref32a. -/
import Derived.Test.YtfheocdciekfoaaDoorMA36
import Derived.Test.YtfheocdciekfoaaDoorMA31
import Derived.Test.YtfheocdciekfoaaDoorMA34
import Derived.Test.YtfheocdciekfoaaDoorMA19
import Derived.Test.YtfheocdciekfoaaDoorMA10
import Derived.Test.YtfheocdciekfoaaDoorMA21
/- Contract of rec.All. -/
namespace Go.Proofs.YtfheocdciekfoaaDoor
open Go.RowKit

theorem rec_app : AppTy Tryd.prog 47 29 69 120 (recv 0 0 z32 0 z32 0 (.slice none 0 0)) := appTy Tryd.underlying47 (by kernel_rfl) rfl (by omega)
theorem rec_info (k s : Int) (kh : List UInt8) (kk : Int) (mh : List UInt8) (ms : Int) (v : Value) (h1 : kh.length = 32) (h2 : mh.length = 32) : (Tryd.prog.info? 29).map (fun i => (i.zero, i.size)) = some (some (recv 0 0 z32 0 z32 0 (.slice none 0 0)), (recCells k s kh kk mh ms v).length) := by rw [recCells_length, h1, h2]; kernel_rfl
/-- a record whose keys' row is not block g's reads the same wherever all but g stands as it was -/
theorem eRec_away {w w' : World} {base : Nat} {r : RecD} {v : Value} {g : Option Nat} (hs : Hs r) (h : KeysOwn w base v r.keys) (hg : ∀ k, g = some k → k < base) (ha : Away w w' w.heap.size g) : eRec.rep w' w.heap.size (recCells r.kind r.seq r.kh r.kk r.mh r.ms v) r := by
  refine ⟨v, rfl, hs.1, hs.2, ?_⟩
  obtain ⟨A, c, rfl, h1, h2⟩ := own_form h.1
  have hsl := h.sl
  obtain ⟨A2, c2, css, e, h3, h4, h5, h6, h7⟩ := hsl
  injection e with e1 e2 e3
  subst e1 e3
  refine ⟨A, c, css, rfl, h3, h4, h5, fun hn => ?_, fun i cs x hc hx => h7 i cs x hc hx⟩
  · obtain ⟨b, off, e, hb, hc⟩ := h6 hn
    refine ⟨b, off, e, hb, fun j u hu => (ha ⟨b, off + j, none⟩ hb fun he => ?_).trans (hc j u hu)⟩
    have hlt := hg b he.symm
    subst e
    have := (h.1.lt b rfl).1
    omega
/-- what All answers -/
def RecAllTo (l : List UInt8) (w : World) (e : Ending) (w' : World) : Prop :=
  ∃ rs n v, e = .returned (.tuple #[v, .int .i64 (n : Nat)]) ∧ AllTo l rs n ∧ OwnL eRec w' w.heap.size 29 v rs ∧ Below w.heap.size w w'
theorem all_len {l : List UInt8} {n : Nat} {rs : List RecD} (h : l.take n = rs.flatMap lineL) : rs.length ≤ l.length := by
  have h1 := congrArg List.length h
  rw [List.length_take] at h1
  have : ∀ rs : List RecD, rs.length ≤ (rs.flatMap lineL).length := by
    intro rs
    induction rs with
    | nil => simp
    | cons r rs ih =>
      have := line_len r
      rw [List.flatMap_cons, List.length_append, List.length_cons]
      omega
  have := this rs
  omega
set_option maxRecDepth 100000 in
set_option maxHeartbeats 4000000 in
theorem all32_any (l : List UInt8) (A : Option Addr) (c B : Nat) (w : World) (hr : Rd w B A (bcells l)) (hB : B ≤ w.heap.size) (hl : l.length ≤ 68719476736) (hc : l.length ≤ c) :
    Calls Tryd.prog 21 #[.slice A l.length c] w (RecAllTo l w) := by
  have HBW := Lib.hid hB
  have HR := Lib.hid hr
  clear hr hB
  go_enter Tryd.func21, Tryd.ntmps21
  go_wp2_with fail
  go_loopw [4, 5] (fun v4 v5 wr => ∃ (n : Nat) (rs : List RecD) (A4 : Option Addr) (c4 : Nat), n ≤ l.length ∧ v5 = .int .i64 n ∧ v4 = .slice A4 rs.length c4 ∧ Hid (OwnL eRec wr w.heap.size 29 (.slice A4 rs.length c4) rs) ∧
    Hid (l.take n = rs.flatMap lineL ∧ ∀ r ∈ rs, GoodR r) ∧ Hid (Below w.heap.size w wr)) (fun _ v5 _ => l.length - (intOf v5).toNat)
  case atStart => exact ⟨0, [], none, 0, by omega, rfl, rfl, OwnL.nil _ _ _, ⟨rfl, fun r hr => nomatch hr⟩, Below.refl _ _⟩
  case round =>
    obtain ⟨n, rs, A4, c4, hn, rfl, rfl, HO, HL, HB⟩ := hrel
    have hu1 := u8_from A l.length c n hn
    have HRn := Lib.hid ((HR.out.below (HB.out.mono HBW.out)).cut n c hc)
    have hdl : (l.drop n).length = l.length - n := by rw [List.length_drop]
    have HIX := Lib.hid (index_any (l.drop n) 10 (cutA A c n) (c - n) B wr HRn.out (by omega))
    rw [hdl] at HIX
    go_wp2_with fail
    refine HIX.out.mono ?_
    rintro e w2 ⟨hix, rfl⟩
    rcases hix with ⟨k, rfl, hk1, hk2⟩ | ⟨rfl, hk2⟩
    · obtain ⟨q, hq⟩ : ∃ q, q = n + k + 1 := ⟨_, rfl⟩
      have hqi : (n : Int) + (k : Int) + 1 = (q : Int) := by omega
      have hkl : k < l.length - n := by
        have := (List.getElem?_eq_some_iff.1 hk1).1
        rwa [hdl] at this
      have hql : q ≤ l.length := by omega
      have hnq : n ≤ q := by omega
      have hu2 := u8_mid A l.length c n q hnq (by omega)
      have HTL := Lib.hid (show ((l.drop n).take (k + 1)).length = q - n by rw [List.length_take, hdl]; omega)
      have HP := Lib.hid (parse32_any ((l.drop n).take (k + 1)) (cutA A c n) (c - n) B wr (HRn.out.upto (k + 1)) (Nat.le_trans HBW.out HB.out.size) (by rw [HTL.out]; omega) (by rw [HTL.out]; omega))
      rw [HTL.out] at HP
      have HFD := Lib.hid (show FeedAt (l.drop n) k from ⟨hk1, hk2⟩)
      have HQ := Lib.hid hq
      clear hk1 hk2 hq HIX hdl
      go_wp2_with fail
      refine HP.out.mono ?_
      rintro e w2 ⟨hb2, hcase⟩
      have HO2 := Lib.hid (HO.out.later hb2)
      have HLT := Lib.hid (show ∀ g, (Value.slice A4 rs.length c4).ownBlock = some g → g < wr.heap.size by
        obtain ⟨css, h1, _⟩ := HO.out
        exact fun g hg => (h1.lt g hg).2)
      have HB2 := Lib.hid (HB.out.trans (hb2.mono HB.out.size))
      rcases hcase with ⟨hnone, rfl⟩ | ⟨r, v, hsome, rfl, hks⟩
      · have HA := Lib.hid (show AllTo l rs n from ⟨hn, HL.out.1, HL.out.2, fun j hj => by rw [hj.one HFD.out]; exact hnone⟩)
        clear hnone hb2 HO HB
        have hb3 : Below w2.heap.size w2 (w2.alloc (.cells (recCells zeroD.kind zeroD.seq zeroD.kh zeroD.kk zeroD.mh zeroD.ms (.slice none 0 0)).toArray 29)) := (Below.refl _ _).alloc (Nat.le_refl _) _
        have HO3 := Lib.hid (HO2.out.later hb3)
        have HB3 := Lib.hid (HB2.out.trans (hb3.mono HB2.out.size))
        clear hb3
        go_wp2_with (refine stop_at (some 7) rfl ?_)
        refine Stop.go (wpList_alloc rfl 29 rfl zero_rec rfl ?_)
        refine wpList_store_agg rfl 29 rfl rfl rfl (store_new2 (g := w2.heap.size) rfl (recv_cells ..) (rec_size _ _ _ _ _ _ _ rfl rfl) (by rw [List.size_toArray, recCells_length, recCells_length]; rfl) (recCells_one _ _ _ _ _ _ _ _ _)) ?_
        generalize w2.alloc (.cells (recCells zeroD.kind zeroD.seq zeroD.kh zeroD.kk zeroD.mh zeroD.ms (.slice none 0 0)).toArray 29) = w3 at *
        go_wp2_with fail
        go_ret2
        exact ⟨rs, n, _, rfl, HA.out, HO3.out, HB3.out⟩
      · obtain ⟨hgr, hline⟩ := parseL_some hsome
        have HGR := Lib.hid hgr
        have HLN := Lib.hid (show l.take q = (rs ++ [r]).flatMap lineL by
          rw [HQ.out, Nat.add_assoc, List.take_add, HL.out.1, hline, List.flatMap_append]
          simp)
        have HG2 := Lib.hid (show ∀ x ∈ rs ++ [r], GoodR x from fun x hx => by
          rcases List.mem_append.1 hx with hx | hx
          · exact HL.out.2 x hx
          · rw [List.mem_singleton.1 hx]; exact HGR.out)
        obtain ⟨AK, cK, rfl, _, _⟩ := own_form hks.1
        have hsz := all_len HL.out.1
        have hb3 : Below w2.heap.size w2 (w2.alloc (.cells (recCells r.kind r.seq r.kh r.kk r.mh r.ms (.slice AK r.keys.length cK)).toArray 29)) := (Below.refl _ _).alloc (Nat.le_refl _) _
        have HO3 := Lib.hid (HO2.out.later hb3)
        have HB3 := Lib.hid (HB2.out.trans (hb3.mono HB2.out.size))
        have HK3 := Lib.hid (hks.later hb3)
        have HA3 := Lib.hid (RecAt.new (t := 29) (kind := r.kind) (seq := r.seq) (kk := r.kk) (ms := r.ms) (v := .slice AK r.keys.length cK) w2 hgr.2.1.1 hgr.2.1.2)
        have HHS := Lib.hid hgr.2.1
        clear hb3 hb2 hks hline hsome hgr HO HO2 HB HB2 HP HL
        go_wp2_with (refine stop_at (some 7) rfl ?_)
        refine Stop.go (wpList_alloc rfl 29 rfl zero_rec rfl ?_)
        refine wpList_store_agg rfl 29 rfl rfl rfl (store_new2 (g := w2.heap.size) rfl (recv_cells ..) (rec_size _ _ _ _ _ _ _ HHS.out.1 HHS.out.2) (by rw [List.size_toArray, recCells_length, recCells_length, HHS.out.1, HHS.out.2]; rfl) (recCells_one _ _ _ _ _ _ _ _ _)) ?_
        generalize w2.alloc (.cells (recCells r.kind r.seq r.kh r.kk r.mh r.ms (.slice AK r.keys.length cK)).toArray 29) = w3 at *
        go_wp2_with (refine stop_at (some 33) rfl ?_)
        refine Stop.go (wpList_load_agg rfl 29 rfl rfl recTy_u rfl (rec_size _ _ _ _ _ _ _ HHS.out.1 HHS.out.2) HA3.out.all_ ?_)
        refine wpList_build_one rfl 47 29 rfl rfl Tryd.underlying47 (rec_info r.kind r.seq r.kh r.kk r.mh r.ms (.slice AK r.keys.length cK) HHS.out.1 HHS.out.2) (recv_cells ..) (by rw [recCells_length]; omega) (by rw [recCells_length, HHS.out.1, HHS.out.2]; decide) ?_
        have hb4 : Below w3.heap.size w3 (w3.alloc (.cells (recCells r.kind r.seq r.kh r.kk r.mh r.ms (.slice AK r.keys.length cK)).toArray 29)) := (Below.refl _ _).alloc (Nat.le_refl _) _
        have HO4 := Lib.hid (HO3.out.later hb4)
        have HB4 := Lib.hid (HB3.out.trans (hb4.mono HB3.out.size))
        have HK4 := Lib.hid (HK3.out.later hb4)
        have HG4 := Lib.hid (Go.heap_alloc_new w3 (.cells (recCells r.kind r.seq r.kh r.kk r.mh r.ms (.slice AK r.keys.length cK)).toArray 29))
        have HS4 := Lib.hid (show (w3.alloc (.cells (recCells r.kind r.seq r.kh r.kk r.mh r.ms (.slice AK r.keys.length cK)).toArray 29)).heap.size = w3.heap.size + 1 from Array.size_push _)
        generalize w3.alloc (.cells (recCells r.kind r.seq r.kh r.kk r.mh r.ms (.slice AK r.keys.length cK)).toArray 29) = w4 at *
        clear hb4 HO3 HB3 HK3
        obtain ⟨css, hcs1, hcs2, hcs3⟩ := HO4.out
        have HC3 := Lib.hid hcs3
        have hbw4 := HB4.out.size
        refine wpList_app rec_app rfl rfl rfl rfl hcs1 (Rd.row (B := w4.heap.size) HG4.out (by rw [HS4.out]; omega)) (m := 1) (by rw [recCells_length, HHS.out.1, HHS.out.2]) (recCells_one _ _ _ _ _ _ _ _ _) ?h63 ?hby ?hbase ?_
        case h63 => simp only [maxLen]; omega
        case hby => omega
        case hbase => exact hbw4
        intro v5 w5 hown5 hg5 hor5 _
        have HO5 := Lib.hid (OwnL.snoc hcs2 HC3.out (x := r) (fun w' ha => eRec_away HHS.out HK4.out HLT.out ha) hown5 hg5 hor5)
        have HB5 := Lib.hid (grown_below HB4.out hg5 hcs1 (Nat.le_refl _) hbw4)
        obtain ⟨A5, c5, rfl, _, _⟩ := own_form hown5
        clear hown5 hg5 hor5 hcs1 hcs3 HC3 hcs2
        generalize hac : Act.put _ _ _ = a9
        simp [Act.put] at hac
        subst hac
        go_wp2_with fail
        refine ⟨⟨q, rs ++ [r], A5, c5, hql, by go_num, ?_, ?_, Lib.hid ⟨HLN.out, HG2.out⟩, HB5⟩, ?_⟩
        · rw [List.length_append]; rfl
        · rw [List.length_append]; exact HO5
        · simp [intOf]; omega
    · have HA := Lib.hid (show AllTo l rs n from ⟨hn, HL.out.1, HL.out.2, fun j hj => absurd hj.1 (hk2 j)⟩)
      clear hk2 HIX
      go_wp2_with fail
      go_ret2
      exact ⟨rs, n, _, rfl, HA.out, HO.out, HB.out⟩
end Go.Proofs.YtfheocdciekfoaaDoor
/- The plain law of lines of which something is lost: the whole lines ahead of it are told. -/
namespace Go.Proofs.YtfheocdciekfoaaDoor
open Go.RowKit

theorem AllTo.cons {r : RecD} {c : List UInt8} {rs : List RecD} {n : Nat} (h : AllTo c rs n) (hr : GoodR r) : AllTo (lineL r ++ c) (r :: rs) ((lineL r).length + n) := by
  refine ⟨?_, ?_, ?_, ?_⟩
  · have := h.le
    rw [List.length_append]; omega
  · rw [List.take_length_add_append, h.lines, List.flatMap_cons]
  · intro x hx
    rcases List.mem_cons.1 hx with rfl | hx
    · exact hr
    · exact h.good x hx
  · rw [List.drop_length_add_append]
    exact h.stuck
theorem AllTo.nil {c : List UInt8} (h : Stuck c) : AllTo c [] 0 := ⟨Nat.zero_le _, rfl, (fun _ h => nomatch h), h⟩
/-- how many lines end at a place, or ahead of it -/
def wholeN : List RecD → Nat → Nat
  | [], _ => 0
  | r :: rs, a => if (lineL r).length ≤ a then 1 + wholeN rs (a - (lineL r).length) else 0
theorem wholeN_le : ∀ (rs : List RecD) (a : Nat), wholeN rs a ≤ rs.length
  | [], _ => Nat.le_refl _
  | r :: rs, a => by
    have := wholeN_le rs (a - (lineL r).length)
    unfold wholeN
    split <;> simp <;> omega
/-- where each line ends -/
def endsL : List RecD → List Nat
  | [] => []
  | r :: rs => (lineL r).length :: (endsL rs).map ((lineL r).length + ·)
theorem endsL_length : ∀ rs : List RecD, (endsL rs).length = rs.length
  | [] => rfl
  | r :: rs => by simp [endsL, endsL_length rs]
theorem endsL_get : ∀ (rs : List RecD) (i : Nat) (h : i < (endsL rs).length), (endsL rs)[i] = ((rs.take (i + 1)).flatMap lineL).length
  | [], i, h => by simp [endsL] at h
  | r :: rs, 0, h => by simp [endsL]
  | r :: rs, i + 1, h => by
    have := endsL_get rs i (by simpa [endsL] using h)
    simp only [endsL, List.getElem_cons_succ, List.getElem_map, this, List.take_succ_cons, List.flatMap_cons, List.length_append]
theorem endsL_snoc (rs : List RecD) (r : RecD) : endsL (rs ++ [r]) = endsL rs ++ [((rs ++ [r]).flatMap lineL).length] := by
  induction rs with
  | nil => simp [endsL]
  | cons x rs ih => simp [endsL, ih]
theorem countP_ends : ∀ (rs : List RecD) (a : Nat), (endsL rs).countP (fun e => decide (e ≤ a)) = wholeN rs a
  | [], _ => rfl
  | r :: rs, a => by
    unfold endsL wholeN
    rw [List.countP_cons, List.countP_map]
    by_cases h : (lineL r).length ≤ a
    · rw [if_pos h]
      have ih := countP_ends rs (a - (lineL r).length)
      rw [← ih]
      have e : ((fun e => decide (e ≤ a)) ∘ fun x => (lineL r).length + x) = fun e => decide (e ≤ a - (lineL r).length) := by
        funext x
        show decide ((lineL r).length + x ≤ a) = _
        rw [decide_eq_decide]
        omega
      rw [e]
      simp [h]
      omega
    · rw [if_neg h]
      have e : ((fun e => decide (e ≤ a)) ∘ fun x => (lineL r).length + x) = fun _ => false := by
        funext x
        show decide ((lineL r).length + x ≤ a) = _
        rw [decide_eq_false_iff_not]
        omega
      rw [e]
      simp [h]
/-- bytes of which something is lost, from place F on -/
structure Lost (b m : List UInt8) (F : Nat) : Prop where
  le : F ≤ m.length
  len : m.length ≤ b.length
  same : m.take F = b.take F
  zero : F < m.length → m[F]? = some 0
theorem lost_stuck {r : RecD} {c m : List UInt8} {F : Nat} (h : Lost (lineL r ++ c) m F) (hF : F < (lineL r).length) : Stuck m := by
  have hl := line_len r
  have hpre : ∀ j, j < F → m[j]? = (lineL r)[j]? := fun j hj => by
    have h1 : (m.take F)[j]? = m[j]? := by rw [List.getElem?_take, if_pos hj]
    rw [← h1, h.same, List.getElem?_take, if_pos hj, List.getElem?_append_left (by omega)]
  intro n hn
  cases hp : parseL (m.take (n + 1)) with
  | none => rfl
  | some r' =>
    exfalso
    have hnl : n < m.length := by
      by_cases hlt : n < m.length
      · exact hlt
      · have := hn.1
        rw [List.getElem?_eq_none (by omega)] at this
        cases this
    by_cases h1 : n < F
    · have h2 := hpre n h1
      rw [hn.1, List.getElem?_eq_getElem (by omega)] at h2
      injection h2 with h2
      have h3 := line_get (r := r) (j := n) (by omega) (by omega)
      rw [← h2] at h3
      exact absurd h3 (by decide)
    · have hz := h.zero (by omega)
      by_cases h2 : n = F
      · subst h2
        have := hn.1
        rw [hz] at this
        exact absurd this (by decide)
      · obtain ⟨_, he⟩ := parseL_some hp
        have hl' := line_len r'
        have h5 := congrArg List.length he
        rw [List.length_take, Nat.min_eq_left (by omega)] at h5
        have h3 : (m.take (n + 1))[F]? = some 0 := by rw [List.getElem?_take, if_pos (by omega), hz]
        rw [he, List.getElem?_eq_getElem (by omega)] at h3
        injection h3 with h3
        have h4 := line_get (r := r') (j := F) (by omega) (by omega)
        rw [h3] at h4
        exact absurd h4 (by decide)
theorem lost_all : ∀ (rs : List RecD) (m : List UInt8) (F : Nat), (∀ r ∈ rs, GoodR r) → Lost (rs.flatMap lineL) m F → AllTo m (rs.take (wholeN rs F)) ((rs.take (wholeN rs F)).flatMap lineL).length
  | [], m, F, _, h => by
    have hm : m = [] := by have := h.len; exact List.length_eq_zero_iff.1 (by simpa using this)
    subst hm
    exact AllTo.nil fun n hn => by have := hn.1; simp at this
  | r :: rs, m, F, hg, h => by
    unfold wholeN
    by_cases hF : (lineL r).length ≤ F
    · rw [if_pos hF, Nat.add_comm 1, List.take_succ_cons, List.flatMap_cons, List.length_append]
      have hle := h.le
      have e : m = lineL r ++ m.drop (lineL r).length := by
        have h1 : m.take (lineL r).length = lineL r := by
          have h2 := congrArg (List.take (lineL r).length) h.same
          rw [List.take_take, List.take_take, Nat.min_eq_left hF, List.flatMap_cons, List.take_left] at h2
          exact h2
        conv => lhs; rw [← List.take_append_drop (lineL r).length m, h1]
      have ih := lost_all rs (m.drop (lineL r).length) (F - (lineL r).length) (fun x hx => hg x (by simp [hx])) (by
        refine ⟨?_, ?_, ?_, ?_⟩
        · rw [List.length_drop]; omega
        · have := h.len
          rw [List.flatMap_cons, List.length_append] at this
          rw [List.length_drop]; omega
        · have h2 := congrArg (List.drop (lineL r).length) h.same
          rw [List.drop_take, List.drop_take, List.flatMap_cons, List.drop_left] at h2
          exact h2
        · intro h3
          rw [List.length_drop] at h3
          rw [List.getElem?_drop, show (lineL r).length + (F - (lineL r).length) = F by omega]
          exact h.zero (by omega))
      have hc := ih.cons (hg r (by simp))
      rwa [← e] at hc
    · rw [if_neg hF, List.take_zero]
      exact AllTo.nil (lost_stuck (by rwa [List.flatMap_cons] at h) (by omega))
end Go.Proofs.YtfheocdciekfoaaDoor
/- Contracts of the reference's value, num (32). -/
namespace Go.Proofs.YtfheocdciekfoaaDoor
open Go.RowKit

theorem beVal_step (l : List UInt8) (a k : Nat) (h : a + k < l.length) : beVal ((l.drop a).take (k + 1)) = beVal ((l.drop a).take k) * 256 + l[a + k].toNat := by
  have hd : k < (l.drop a).length := by rw [List.length_drop]; omega
  rw [List.take_succ_eq_append_getElem hd, beVal_snoc, List.getElem_drop]
theorem beVal_bd (l : List UInt8) (a k : Nat) (h : a + k ≤ l.length) : beVal ((l.drop a).take k) < 256 ^ k := by
  have := beVal_lt ((l.drop a).take k)
  rwa [List.length_take, List.length_drop, Nat.min_eq_left (by omega)] at this
set_option maxRecDepth 100000 in
theorem value32_any (l : List UInt8) (A : Option Addr) (c B a n : Nat) (w : World) (hr : Rd w B A (bcells l)) (hn : n ≤ 6) (hl : a + n ≤ l.length) (hl2 : l.length ≤ 1099511627776) :
    Calls Tryd.prog 52 #[.slice A l.length c, .int .i64 a, .int .i64 n] w fun e w' => e = .returned (.int .i64 (beVal ((l.drop a).take n) : Nat)) ∧ w = w' := by
  have HR := Lib.hid hr
  clear hr
  go_enter Tryd.func52, Tryd.ntmps52
  go_wp2_with fail
  go_loop [7, 8] (fun v7 v8 => ∃ b v : Nat, a ≤ b ∧ b ≤ a + n ∧ v8 = .int .i64 b ∧ v7 = .int .i64 v ∧ Hid (v = beVal ((l.drop a).take (b - a)))) (fun _ v8 => a + n - (intOf v8).toNat)
  case atStart => exact ⟨a, 0, by omega, by omega, rfl, rfl, (by show _ = _; simp [beVal])⟩
  case round =>
    obtain ⟨b, v, hab1, hk, rfl, rfl, hh⟩ := hrel
    by_cases hlt : b < a + n
    · have hin : b < l.length := by omega
      obtain ⟨ab, ao, rfl, hab, hcell⟩ := HR.out.byte hin
      have hv := beVal_bd l a (b - a) (by omega)
      have hp : 256 ^ (b - a) ≤ 256 ^ 5 := Nat.pow_le_pow_right (by omega) (by omega)
      have hv5 : v < 1099511627776 := by rw [hh.out]; exact Nat.lt_of_lt_of_le hv hp
      have HL := Lib.hid (show beVal ((l.drop a).take (b + 1 - a)) = v * 256 + l[b].toNat by
        have := beVal_step l a (b - a) (by omega)
        rw [hh.out, show b + 1 - a = b - a + 1 by omega, this]
        simp only [show a + (b - a) = b by omega])
      obtain ⟨d, hd⟩ : ∃ d, d = l[b].toNat := ⟨_, rfl⟩
      rw [← hd] at hcell HL
      have hd8 : d < 256 := by rw [hd]; exact UInt8.toNat_lt _
      clear hd hv hp
      go_wp2
      go_round
      case rel => exact ⟨b + 1, v * 256 + d, by omega, by omega, by go_num, vint (by simp), HL.out.symm⟩
      case measure => simp [intOf]; omega
    · obtain rfl : b = a + n := by omega
      have HF := Lib.hid (show v = beVal ((l.drop a).take n) by rw [hh.out]; congr 2; omega)
      go_wp2
      go_ret
      exact ⟨rt1 (vint (by rw [HF.out])), rfl⟩
/-- the lower part of a number's bytes, ahead of which zeros stand -/
theorem be_row (n x k : Nat) (h : k < n) : List.replicate k (0 : UInt8) ++ [UInt8.ofNat (x / 256 ^ (n - (k + 1)) % 256)] ++ (beBytes n x).drop (k + 1) = List.replicate k (0 : UInt8) ++ (beBytes n x).drop k := by
  have hl : k < (beBytes n x).length := by rw [beBytes_length]; exact h
  rw [List.drop_eq_getElem_cons hl]
  have : (beBytes n x)[k] = UInt8.ofNat (x / 256 ^ (n - (k + 1)) % 256) := by
    simp only [beBytes, List.getElem_reverse, bytesOfNat, List.getElem_map, digs_get, List.length_map, digs_length]
    rw [show n - 1 - k = n - (k + 1) by omega]
  rw [this]
  simp
set_option maxRecDepth 100000 in
theorem num32_any (n x : Nat) (w : World) (hn : n ≤ 8) (hx : x < 9223372036854775808) :
    Calls Tryd.prog 87 #[.int .i64 n, .int .i64 x] w fun e w' => e = .returned (.slice (some ⟨w.heap.size, 0, none⟩) n n) ∧ w'.heap[w.heap.size]? = some (.cells (bcells (beBytes n x)).toArray 5 (0, 0)) ∧ Below w.heap.size w w' := by
  have hmk := u8_make n (by omega)
  go_enter Tryd.func87, Tryd.ntmps87
  go_wp2_with fail
  have HG := Lib.hid (Go.heap_alloc_new w (.cells (madeCells #[.int .u8 0] n) 5))
  have HB := Lib.hid ((Below.refl _ _).alloc (Nat.le_refl _) (.cells (madeCells #[.int .u8 0] n) 5) : Below w.heap.size w _)
  go_loopw [1, 6] (fun v1 v6 wr => ∃ k : Nat, k ≤ n ∧ v6 = .int .i64 ((k : Int) - 1) ∧ v1 = .int .i64 (x / 256 ^ (n - k) : Nat) ∧ Hid (wr.heap[w.heap.size]? = some (.cells (bcells (List.replicate k 0 ++ (beBytes n x).drop k)).toArray 5 (0, 0))) ∧ Hid (Below w.heap.size w wr)) (fun _ v6 _ => (intOf v6 + 1).toNat)
  case atStart =>
    refine ⟨n, by omega, rfl, by simp, ?_, HB.out⟩
    have e1 : (beBytes n x).drop n = [] := List.drop_eq_nil_of_le (by rw [beBytes_length]; omega)
    have e2 : (bcells (List.replicate n 0 ++ (beBytes n x).drop n)).toArray = madeCells #[.int .u8 0] n := by
      apply Array.ext'
      rw [toList_madeCells_one, e1]
      simp [bcells, bcell]
    show _ = _
    rw [e2]
    exact HG.out
  case round =>
    obtain ⟨k, hk, rfl, rfl, hh, hb⟩ := hrel
    cases k with
    | zero =>
      go_wp2_with fail
      go_ret
      refine ⟨rfl, ?_, hb.out⟩
      have := hh.out
      simpa using this
    | succ k =>
      obtain ⟨q, hq⟩ : ∃ q, q = x / 256 ^ (n - (k + 1)) := ⟨_, rfl⟩
      have HQ := Lib.hid (show q / 256 = x / 256 ^ (n - k) by rw [hq, Nat.div_div_eq_div_mul, ← Nat.pow_succ]; congr 2; omega)
      have hqx : q < 9223372036854775808 := by rw [hq]; exact Nat.lt_of_le_of_lt (Nat.div_le_self _ _) hx
      have HQ0 := Lib.hid hq
      rw [← hq]
      clear hq
      have hks : (((k + 1 : Nat) : Int) - 1) = (k : Int) := by omega
      rw [hks]
      have hst : (Instr.storeAt 5 (.pointer (some ⟨w.heap.size, k, none⟩)) (.int .u8 ((q : Int) % 256))).run Tryd.prog wr = .ok () (wr.setRow w.heap.size (bcells (List.replicate k 0 ++ (beBytes n x).drop k)).toArray) := by
        rw [store_agg (vs := [.int .u8 ((q : Int) % 256)]) rfl (by kernel_rfl) hh.out (by simp [bcells_length, beBytes_length]) (fun u hu => by rw [List.mem_singleton.1 hu]; rfl)]
        refine congrArg (fun r => Result.ok () (wr.setRow w.heap.size r)) ?_
        have e0 : (bcells (List.replicate (k + 1) 0 ++ (beBytes n x).drop (k + 1))) = bcells (List.replicate k 0) ++ ([bcell 0] ++ bcells ((beBytes n x).drop (k + 1))) := by
          rw [List.replicate_succ']
          simp [bcells]
        have hl : (bcells (List.replicate k (0 : UInt8))).length = k := by simp [bcells_length]
        have e1 := be_row n x k (by omega)
        rw [← HQ0.out] at e1
        have e2 : Value.int .u8 ((q : Int) % 256) = bcell (UInt8.ofNat (q % 256)) := by
          unfold bcell
          rw [UInt8.toNat_ofNat', Nat.mod_eq_of_lt (show q % 256 < 2 ^ 8 by omega)]
          rfl
        rw [← e1, e2]
        apply Array.ext'
        simp only [e0]
        rw [List.take_append_of_le_length (by omega), List.take_of_length_le (by omega), List.drop_append, List.drop_eq_nil_of_le (by simp only [List.length_cons, List.length_nil]; omega), hl]
        simp [bcells]
      have HST := Lib.hid hst
      clear hst
      go_wp2_with (refine stop_at (some 18) rfl ?_)
      refine Stop.go (wpList_seg 3 _ _ _ (fun Q' hQ' => ?_))
      simp only [List.take_succ_cons, List.take_zero]
      go_wp2_with fail
      simp only [List.drop_succ_cons, List.drop_zero]
      refine Stop.go (wpList_store_agg rfl 5 rfl rfl rfl HST.out ?_)
      have HG2 := Lib.hid (setRow_heap wr w.heap.size _ (bcells (List.replicate k 0 ++ (beBytes n x).drop k)).toArray _ _ hh.out)
      have HB2 := Lib.hid (below_setRow hb.out (Nat.le_refl _) (bcells (List.replicate k 0 ++ (beBytes n x).drop k)).toArray : Below w.heap.size w (wr.setRow w.heap.size _))
      generalize wr.setRow w.heap.size _ = w9 at HG2 HB2 ⊢
      go_wp2_with fail
      refine ⟨⟨k, by omega, rfl, vint ?_, HG2, HB2⟩, ?_⟩
      · rw [← HQ.out]; rfl
      · simp [intOf]
end Go.Proofs.YtfheocdciekfoaaDoor
