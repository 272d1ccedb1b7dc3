/- Walks of gram.distinct[string], gram.Valid. -/
import Derived.Test.YtkgmdoiadhafeaaGram2
namespace Go.Proofs.Ytkgmdoiadhafeaa
open Go.RowKit

theorem not_mem_any {ns : List ByteArray} {s : ByteArray} (h : (ns.any fun x => decide (x = s)) = false) : s ∉ ns := by
  intro hm
  rw [← Bool.not_eq_true, List.any_eq_true] at h
  exact h ⟨s, hm, by simp⟩
set_option maxHeartbeats 1000000 in
theorem distinct_any (F : FuncId) (may : List UInt8 → Bool) (v : Value) (ns : List ByteArray) (w : World) (hv : SlR eStr w w.heap.size v ns)
    (hF : ∀ (args : Array Value) (w : World), (callFunc F args).run Try.prog w = .ok (.enter F args) w)
    (hp : ∀ (s : ByteArray) (w : World), s.size ≤ maxLen → Calls Try.prog F #[.string s] w fun e w' => e = .returned (.bool (may s.data.toList)) ∧ w = w') :
    Calls Try.prog 25 #[v, .func (.func F) #[] #[]] w fun e w' => e = .returned (.bool (distinctB may ns)) ∧ Below w.heap.size w w' := by
  have hmm := @run_makeMap Try.prog
  have HP := Lib.hid hp
  clear hp
  obtain ⟨A, c, rfl, hc1, hc2⟩ := hv.form
  unfold maxLen at hc2
  go_enter Try.func25, Try.ntmps25
  go_wp2_with fail
  go_loopw [11] (fun v11 wr => ∃ k : Nat, k ≤ ns.length ∧ v11 = .int .i64 k ∧ Hid ((∀ s ∈ ns.take k, may s.data.toList = true) ∧ (ns.take k).Nodup) ∧ MapR Value.string wr w.heap.size (onesOf (ns.take k)) ∧ Below w.heap.size w wr) (fun v11 _ => ns.length - (intOf v11).toNat)
  case atStart => exact ⟨0, by omega, rfl, by simp [Hid], MapR.made w, by go_grown⟩
  case round =>
    obtain ⟨k, hk, rfl, hno, hmp, hbr⟩ := hrel
    by_cases hlt : k < ns.length
    · obtain ⟨ab, ao, cs, rfl, _, hab, hrep, hcell⟩ := (hv.below hbr).get hlt (by decide)
      obtain ⟨rfl, hx1⟩ := hrep
      have hc0 := hcell 0 _ rfl
      clear hcell
      simp only [show eStr.size = 1 from rfl, Nat.mul_one, Nat.add_zero] at hc0
      have HX := Lib.hid hx1
      have hsn := Lib.hid (nodup_snoc ns k hlt)
      have hon := Lib.hid (onesOf_snoc ns k hlt)
      have hlk := hmp.lookup strInt_keys zero_int ns[k]
      rw [assoc_ones] at hlk
      rcases Bool.eq_false_or_eq_true (may ns[k].data.toList) with hm | hm
      · have HM := Lib.hid hm
        clear hm
        rcases Bool.eq_false_or_eq_true ((ns.take k).any fun x => decide (x = ns[k])) with hany | hany
        · rw [hany, if_pos rfl] at hlk
          have HA := Lib.hid hany
          clear hany
          simp only [Option.getD_some] at hlk
          go_wp2_with fail
          refine (HP.out ns[k] wr HX.out).mono ?_
          rintro e w1 ⟨rfl, rfl⟩
          rw [HM.out]
          go_wp2_with fail
          go_ret
          refine ⟨rt1 (vbool ?_), hbr⟩
          rw [eq_comm, distinctB, Bool.and_eq_false_iff]
          right
          rw [decide_eq_false_iff_not]
          intro hnd
          have h3 := hsn.out.1 (hnd.sublist (List.take_sublist _ _))
          rw [HA.out] at h3
          cases h3.2
        · rw [hany, if_neg (by decide)] at hlk
          have HA := Lib.hid hany
          clear hany
          simp only [Option.getD_none] at hlk
          go_wp2_with fail
          refine (HP.out ns[k] wr HX.out).mono ?_
          rintro e w1 ⟨rfl, rfl⟩
          rw [HM.out]
          go_wp2_with (at_mapUpdate; refine wpList_update strInt_keys rfl rfl rfl rfl rfl hmp ?_; intro w2 hmp2 hg2 hs2)
          have hmp3 : MapR Value.string w2 w.heap.size (onesOf (ns.take (k + 1))) := by rw [hon.out, ← assocSet_ones _ _ _ (not_mem_any HA.out)]; exact hmp2
          go_wp2
          go_roundw
          case rel =>
            refine ⟨k + 1, by omega, by go_num, ⟨fun s hs => ?_, hsn.out.2 ⟨hno.out.2, HA.out⟩⟩, hmp3, hbr.grown hg2 hbr.size (fun j hj => by cases hj; exact Nat.le_refl _)⟩
            rw [List.take_succ_eq_append_getElem hlt, List.mem_append, List.mem_singleton] at hs
            rcases hs with hs | rfl
            · exact hno.out.1 s hs
            · exact HM.out
          case measure => simp [intOf]; omega
      · have HM := Lib.hid hm
        clear hm
        go_wp2_with fail
        refine (HP.out ns[k] wr HX.out).mono ?_
        rintro e w1 ⟨rfl, rfl⟩
        rw [HM.out]
        go_wp2
        go_ret
        refine ⟨rt1 (vbool ?_), hbr⟩
        rw [eq_comm, distinctB, Bool.and_eq_false_iff]
        left
        rw [← Bool.not_eq_true, List.all_eq_true]
        intro h
        have := h _ (List.getElem_mem hlt)
        rw [HM.out] at this
        cases this
    · go_wp2
      go_ret
      refine ⟨rt1 (vbool ?_), hbr⟩
      have h := hno.out
      rw [List.take_of_length_le (by omega)] at h
      rw [eq_comm, distinctB, Bool.and_eq_true, List.all_eq_true, decide_eq_true_eq]
      exact h

theorem isTermSym_any (s : Int) (w : World) : Calls Try.prog 20 #[.int .i64 s] w fun e w' => e = .returned (.bool (decide (s < 0))) ∧ w = w' := by
  go_enter Try.func20, Try.ntmps20
  go_wp2
  go_ret
  exact ⟨rfl, rfl⟩

abbrev Gram := List ByteArray × List ByteArray × List (Int × List Int)
/-- a grammar may be -/
def gramB (g : Gram) : Bool := decide (g.1.length ≠ 0) && decide (g.1.length + g.2.1.length ≤ 256) && decide (g.2.2.length ≤ 4096) && distinctB isNameB g.1 && distinctB isTermB g.2.1 &&
  g.2.2.all (fitsB g.1.length g.2.1.length) && (List.range g.1.length).all (fun i => decide ((ofTo g.2.2 i g.2.2.length).length ≠ 0)) && decide g.2.2.Nodup
set_option maxHeartbeats 2000000 in
theorem gramValid_any (v1 v2 v3 : Value) (ns ts : List ByteArray) (rs : List (Int × List Int)) (w : World) (hsz : ns.length + ts.length ≤ 4611686018427387904) (h1 : SlR eStr w w.heap.size v1 ns) (h2 : SlR eStr w w.heap.size v2 ts) (h3 : SlR eRule w w.heap.size v3 rs) :
    Calls Try.prog 16 #[.agg #[v1, v2, v3]] w fun e w' => e = .returned (.bool (gramB (ns, ts, rs))) ∧ Below w.heap.size w w' := by
  obtain ⟨A1, c1, rfl, hc1, hc1'⟩ := h1.form
  obtain ⟨A2, c2, rfl, hc2, hc2'⟩ := h2.form
  obtain ⟨A3, c3, rfl, hc3, hc3'⟩ := h3.form
  unfold maxLen at hc1' hc2' hc3'
  have hcase : ns.length = 0 ∨ (0 < ns.length ∧ 256 < ns.length + ts.length) ∨ (0 < ns.length ∧ ns.length + ts.length ≤ 256 ∧ 4096 < rs.length) ∨ (0 < ns.length ∧ ns.length + ts.length ≤ 256 ∧ rs.length ≤ 4096) := by omega
  by_cases hgood : 0 < ns.length ∧ ns.length + ts.length ≤ 256 ∧ rs.length ≤ 4096
  case neg =>
    have HF : Hid (gramB (ns, ts, rs) = false) := by
      show _ = _
      rw [← Bool.not_eq_true]
      intro h
      simp only [gramB, Bool.and_eq_true, decide_eq_true_eq] at h
      obtain ⟨⟨⟨⟨⟨⟨⟨a1, a2⟩, a3⟩, _⟩, _⟩, _⟩, _⟩, _⟩ := h
      exact hgood ⟨by omega, a2, a3⟩
    rcases hcase with h | ⟨h0, h⟩ | ⟨h0, h0', h⟩ | h
    case inr.inr.inr => exact absurd h hgood
    all_goals
      first
        | (have hz : ((ns.length : Int) == 0) = true := by simp; exact List.eq_nil_of_length_eq_zero h)
        | (have hz : ((ns.length : Int) == 0) = false := by simp; intro e; subst e; simp at h0)
      go_enter Try.func16, Try.ntmps16
      go_wp2_with fail
      all_goals first
        | (exfalso; omega)
        | (go_ret; exact ⟨rt1 (vbool HF.out.symm), by go_grown⟩)
        | (exfalso; simp at *; omega)
  clear hcase
  obtain ⟨g1, g2, g3⟩ := hgood
  have hz : ((ns.length : Int) == 0) = false := by simp; intro e; subst e; simp at g1
  have HDEF : Hid (gramB (ns, ts, rs) = (distinctB isNameB ns && distinctB isTermB ts && rs.all (fitsB ns.length ts.length) && (List.range ns.length).all (fun i => decide ((ofTo rs i rs.length).length ≠ 0)) && decide rs.Nodup)) := by
    show _ = _
    unfold gramB
    simp only [show decide (ns.length + ts.length ≤ 256) = true by simpa using g2, show decide (rs.length ≤ 4096) = true by simpa using g3, show decide (ns.length ≠ 0) = true from decide_eq_true (by omega), Bool.true_and]
  have hsum : ((ns.length : Int) + ts.length) ≤ 256 := by omega
  have hrl : ((rs.length : Int)) ≤ 4096 := by omega
  go_enter Try.func16, Try.ntmps16
  go_wp2_with fail
  have HW : Hid (Below w.heap.size w (w.alloc (Obj.cells #[Value.slice A1 ns.length c1, Value.slice A2 ts.length c2, Value.slice A3 rs.length c3] 29))) := (Below.refl _ _).alloc (Nat.le_refl _) _
  have HS : Hid ((w.alloc (Obj.cells #[Value.slice A1 ns.length c1, Value.slice A2 ts.length c2, Value.slice A3 rs.length c3] 29)).heap.size = w.heap.size + 1) := by show _ = _; simp
  have k0 : (w.alloc (Obj.cells #[Value.slice A1 ns.length c1, Value.slice A2 ts.length c2, Value.slice A3 rs.length c3] 29)).cell? ⟨w.heap.size, 0, none⟩ = some (Value.slice A1 ns.length c1) := by simp
  have k1 : (w.alloc (Obj.cells #[Value.slice A1 ns.length c1, Value.slice A2 ts.length c2, Value.slice A3 rs.length c3] 29)).cell? ⟨w.heap.size, 1, none⟩ = some (Value.slice A2 ts.length c2) := by simp
  have k2 : (w.alloc (Obj.cells #[Value.slice A1 ns.length c1, Value.slice A2 ts.length c2, Value.slice A3 rs.length c3] 29)).cell? ⟨w.heap.size, 2, none⟩ = some (Value.slice A3 rs.length c3) := by simp
  generalize w.alloc (Obj.cells #[Value.slice A1 ns.length c1, Value.slice A2 ts.length c2, Value.slice A3 rs.length c3] 29) = W at HW HS k0 k1 k2 ⊢
  have h1W := h1.next HW.out (B' := W.heap.size) (by rw [HS.out]; omega)
  refine (distinct_any 26 isNameB _ ns W h1W (fun _ _ => by kernel_rfl) (fun s w hs => isName_any s w hs)).mono ?_
  rintro e w1 ⟨rfl, hb1⟩
  have hws := HS.out
  have hW1 : Below (w.heap.size + 1) W w1 := hb1.mono (by omega)
  rcases Bool.eq_false_or_eq_true (distinctB isNameB ns) with hd1 | hd1
  case inr =>
    have HD := Lib.hid hd1
    rw [hd1]
    go_wp2
    go_ret
    exact ⟨rt1 (vbool (by rw [HDEF.out, HD.out]; rfl)), HW.out.trans (hb1.mono (by omega))⟩
  have HD1 := Lib.hid hd1
  rw [hd1]
  clear hd1
  have k1' := (hW1.cell (p := ⟨w.heap.size, 1, none⟩) (Nat.lt_succ_self _)).trans k1
  go_wp2_with fail
  have hs1 := hb1.size
  refine (distinct_any 27 isTermB _ ts w1 (h2.next (HW.out.trans (hb1.mono (by omega))) (by omega)) (fun _ _ => by kernel_rfl) (fun s w hs => isTerm_any s w hs)).mono ?_
  rintro e w2 ⟨rfl, hb2⟩
  have hW2 : Below (w.heap.size + 1) W w2 := hW1.trans (hb2.mono (by omega))
  rcases Bool.eq_false_or_eq_true (distinctB isTermB ts) with hd2 | hd2
  case inr =>
    have HD := Lib.hid hd2
    rw [hd2]
    go_wp2
    go_ret
    exact ⟨rt1 (vbool (by rw [HDEF.out, HD.out]; simp)), HW.out.trans (hW2.mono (by omega))⟩
  have HD2 := Lib.hid hd2
  rw [hd2]
  clear hd2
  have k2' := (hW2.cell (p := ⟨w.heap.size, 2, none⟩) (Nat.lt_succ_self _)).trans k2
  go_wp2_with fail
  go_loopw [39] (fun v39 wr => ∃ k : Nat, k ≤ rs.length ∧ v39 = .int .i64 k ∧ Hid ((rs.take k).all (fitsB ns.length ts.length) = true) ∧ Below (w.heap.size + 1) W wr) (fun v39 _ => rs.length - (intOf v39).toNat)
  case atStart => exact ⟨0, by omega, rfl, by simp [Hid], hW2⟩
  case round =>
    obtain ⟨k, hk, rfl, hno, hbr⟩ := hrel
    have hbr0 := HW.out.trans (hbr.mono (Nat.le_succ _))
    have r0 := (hbr.cell (p := ⟨w.heap.size, 0, none⟩) (Nat.lt_succ_self _)).trans k0
    have r1 := (hbr.cell (p := ⟨w.heap.size, 1, none⟩) (Nat.lt_succ_self _)).trans k1
    have r2 := (hbr.cell (p := ⟨w.heap.size, 2, none⟩) (Nat.lt_succ_self _)).trans k2
    by_cases hlt : k < rs.length
    · obtain ⟨ab, ao, cs, rfl, _, hab, hrep, hcell⟩ := (h3.below hbr0).get hlt (by decide)
      obtain ⟨u, rfl, hu, hz1, hz2⟩ := eRule_open hrep
      obtain ⟨A4, e4, rfl, _, _⟩ := hu.form
      have hc0 := hcell 0 _ rfl
      have hc1' := hcell 1 _ rfl
      clear hcell
      simp only [show eRule.size = 2 from rfl, Nat.add_zero, ← Nat.add_assoc] at hc0 hc1'
      have hsz1 := hbr.size
      have hg1 : w.heap.size < wr.heap.size := by omega
      have HSN := Lib.hid (List.take_succ_eq_append_getElem hlt)
      rcases Bool.eq_false_or_eq_true (fitsB ns.length ts.length (rs[k].1, rs[k].2)) with hq | hq
      · have HQ := Lib.hid hq
        clear hq
        go_wp2_with fail
        have hb3 : Below wr.heap.size wr (wr.alloc (Obj.cells #[Value.int IntKind.i64 rs[k].fst, Value.slice A4 rs[k].snd.length e4] 26)) := (Below.refl _ _).alloc (Nat.le_refl _) _
        refine (fits_any A1 A2 _ _ ns.length ts.length c1 c2 rs[k].1 rs[k].2 _ (by omega) (hu.fut hb3 (by omega) (by simp; omega))).mono ?_
        rintro e w3 ⟨rfl, hb4⟩
        rw [HQ.out]
        go_wp2
        go_roundw
        case rel => exact ⟨k + 1, by omega, by go_num, by show _ = _; rw [HSN.out, List.all_append, hno.out]; simpa using HQ.out, hbr.trans ((hb3.mono (by omega : w.heap.size + 1 ≤ wr.heap.size)).trans (hb4.mono (by simp; omega)))⟩
        case measure => simp [intOf]; omega
      · have HQ := Lib.hid hq
        clear hq
        go_wp2_with fail
        have hb3 : Below wr.heap.size wr (wr.alloc (Obj.cells #[Value.int IntKind.i64 rs[k].fst, Value.slice A4 rs[k].snd.length e4] 26)) := (Below.refl _ _).alloc (Nat.le_refl _) _
        refine (fits_any A1 A2 _ _ ns.length ts.length c1 c2 rs[k].1 rs[k].2 _ (by omega) (hu.fut hb3 (by omega) (by simp; omega))).mono ?_
        rintro e w3 ⟨rfl, hb4⟩
        rw [HQ.out]
        go_wp2
        go_ret
        refine ⟨rt1 (vbool ?_), hbr0.trans ((hb3.mono (by omega)).trans (hb4.mono (by simp; omega)))⟩
        have hf : rs.all (fitsB ns.length ts.length) = false := by
          rw [← Bool.not_eq_true, List.all_eq_true]
          intro h
          have h' := HQ.out
          rw [h _ (List.getElem_mem hlt)] at h'
          cases h'
        rw [HDEF.out, hf]
        simp
    have HALL : Hid (rs.all (fitsB ns.length ts.length) = true) := by
      show _ = _
      have := hno.out
      rwa [List.take_of_length_le (by omega)] at this
    have hkr : k = rs.length := by omega
    subst hkr
    go_wp2_with fail
    go_loopw [51] (fun v51 wt => ∃ k : Nat, k ≤ ns.length ∧ v51 = .int .i64 k ∧ Hid (∀ i : Nat, i < k → (ofTo rs i rs.length).length ≠ 0) ∧ Below (w.heap.size + 1) W wt) (fun v51 _ => ns.length - (intOf v51).toNat)
    case atStart => exact ⟨0, by omega, rfl, fun i hi => absurd hi (by omega), hbr⟩
    case round =>
      clear hbr0 r0 r1 r2 hbr hno
      obtain ⟨k, hk', rfl, hno, hbr⟩ := hrel
      have hbr0 := HW.out.trans (hbr.mono (Nat.le_succ _))
      have r0 := (hbr.cell (p := ⟨w.heap.size, 0, none⟩) (Nat.lt_succ_self _)).trans k0
      have r1 := (hbr.cell (p := ⟨w.heap.size, 1, none⟩) (Nat.lt_succ_self _)).trans k1
      have r2 := (hbr.cell (p := ⟨w.heap.size, 2, none⟩) (Nat.lt_succ_self _)).trans k2
      have hsz1 := hbr.size
      by_cases hlt : k < ns.length
      · by_cases hq : (ofTo rs k rs.length).length = 0
        · have hqb : (((ofTo rs k rs.length).length : Int) == 0) = true := by simp only [hq]; rfl
          have HQ := Lib.hid hq
          clear hq
          go_wp2_with fail
          refine (gram_of A1 A2 _ ns.length ts.length c1 c2 k rs wr (h3.next hbr0 (by omega)) (by omega)).mono ?_
          rintro e w3 ⟨v, rfl, hown, hb4⟩
          obtain ⟨A5, c5, rfl, _, _⟩ := own_form hown
          go_wp2
          go_ret
          refine ⟨rt1 (vbool ?_), hbr0.trans (hb4.mono (by omega))⟩
          have hf : (List.range ns.length).all (fun i => decide ((ofTo rs i rs.length).length ≠ 0)) = false := by
            rw [← Bool.not_eq_true, List.all_eq_true]
            intro h
            exact absurd HQ.out (of_decide_eq_true (h k (List.mem_range.2 hlt)))
          rw [HDEF.out, hf]
          simp
        · have hqb : (((ofTo rs k rs.length).length : Int) == 0) = false := by rw [beq_eq_false_iff_ne]; omega
          have HQ := Lib.hid hq
          clear hq
          go_wp2_with fail
          refine (gram_of A1 A2 _ ns.length ts.length c1 c2 k rs wr (h3.next hbr0 (by omega)) (by omega)).mono ?_
          rintro e w3 ⟨v, rfl, hown, hb4⟩
          obtain ⟨A5, c5, rfl, _, _⟩ := own_form hown
          go_wp2
          go_roundw
          case rel => exact ⟨k + 1, by omega, by go_num, fun i hi => by by_cases e : i = k; (subst e; exact HQ.out); exact hno.out i (by omega), hbr.trans (hb4.mono (by omega))⟩
          case measure => simp [intOf]; omega
      · have hf : Hid ((List.range ns.length).all (fun i => decide ((ofTo rs i rs.length).length ≠ 0)) = true) := by
          show _ = _
          rw [List.all_eq_true]
          intro i hi
          have := List.mem_range.1 hi
          exact decide_eq_true (hno.out i (by omega))
        go_wp2_with fail
        refine (twice_any _ rs wr (h3.next hbr0 (by omega))).mono ?_
        rintro e w3 ⟨rfl, hb4⟩
        go_wp2
        go_ret
        refine ⟨rt1 (vbool ?_), hbr0.trans (hb4.mono (by omega))⟩
        rw [HDEF.out, HD1.out, HD2.out, HALL.out, hf.out]
        simp
end Go.Proofs.Ytkgmdoiadhafeaa
