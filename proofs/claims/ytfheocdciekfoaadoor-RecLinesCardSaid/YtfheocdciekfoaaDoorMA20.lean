/- Texts of this proof joined: KeyParse, KeyLaw, HexPure, AtoiDec. -/
import Derived.Test.YtfheocdciekfoaaDoorMA16
import Derived.Test.YtfheocdciekfoaaDoorMA19
import Derived.Laws.ResultCell
import Derived.Lib.AtoiTie
import Derived.Lib.ItoaNum
import Derived.Lib.ItoaMem
import Derived.Lib.ItoaLen
/- Contract of key.Parse, for any text, every world. -/
namespace Go.Proofs.YtfheocdciekfoaaDoor
open Go.RowKit

theorem wpList_copy_hash {w : World} {ops : Array Oper} {rest : List Oper} {o : Oper} {a : Act} {Q : Exit → Act → World → Prop} (hgd : o.guard = none) (d s : Operand)
    (ho : o.op = .call { callee := .builtin .copy, args := #[d, s], argTypes := #[34, 34] })
    {A : Option Addr} {g c c1 n : Nat} {h0 b : List UInt8} {k : Int} (hd : a.eval d = .slice (some ⟨g, 0, none⟩) 32 c) (hs : a.eval s = .slice A n c1) (hn : n = 32) (h0l : h0.length = 32) (hbl : b.length = 32) {t : TypeId}
    (hg : w.heap[g]? = some (.cells (hkCells h0 k).toArray t (0, 0))) {B : Nat} (hr : Rd w B A (bcells b)) {B0 : Nat} {w0 : World} (hb : Below B0 w0 w) (hBg : B0 ≤ g)
    (h : ∀ w', Hid (w'.heap[g]? = some (.cells (hkCells b k).toArray t (0, 0))) → Below B0 w0 w' → w'.heap.size = w.heap.size → wpList Tryd.prog ops Q rest (a.put o.dst (goInt 32)) w') :
    wpList Tryd.prog ops Q (o :: rest) a w := by
  subst hn
  have hlb : (bcells b).length = 32 := by rw [bcells_length, hbl]
  obtain ⟨ab, ao, rfl, hab, hcells⟩ := hr (by intro e; have := congrArg List.length e; rw [hlb] at this; simp at this)
  refine wpList_copy_own hgd d s 34 34 ho 5 Tryd.underlying34 (by kernel_rfl) g 0 32 c ⟨ab, ao, none⟩ 32 c1 hd hs (hkCells h0 k).toArray t hg (bcells b) (by rw [hlb]; rfl)
    (fun j v hv => by rw [Addr.add_lit]; exact hcells j v hv) (by rw [hlb]; simp [hkCells_length, h0l]) (bcells_one _) ?_
  rw [hlb]
  refine h _ ?_ (below_setRow hb hBg _) (by simp)
  show _ = _
  rw [setRow_heap w g (hkCells h0 k).toArray _ t _ hg]
  congr 2
  simp only [List.take_zero, List.nil_append, Nat.zero_add]
  unfold hkCells
  rw [List.drop_append_of_le_length (by rw [bcells_length, h0l]; exact Nat.le_refl _), List.drop_eq_nil_of_le (by rw [bcells_length, h0l]; exact Nat.le_refl _)]
  simp
noncomputable def keyTyD : TypeDesc := .struct (Tryd.prog.fieldsOf 24)
theorem keyTy_u : Tryd.prog.underlying 24 = some keyTyD := by kernel_rfl
theorem build_key0 (w : World) : (Instr.build 24 #[]).run Tryd.prog w = .ok (hkv z32 0) w := by
  unfold Instr.build
  simp only [Sem.run_bind, zero_key, Result.andThen_ok, hkv_cells, run_underlying keyTy_u, keyTyD, fields_key]
  rfl
theorem build_keyK (k : Int) (w : World) : (Instr.build 24 #[(1, .int .i64 k)]).run Tryd.prog w = .ok (hkv z32 k) w := by
  unfold Instr.build
  simp only [Sem.run_bind, zero_key, Result.andThen_ok, hkv_cells, run_underlying keyTy_u, keyTyD, fields_key]
  rfl
theorem store_row {P : Program} {w : World} {g : Nat} {ty : TypeId} {vs : List Value} {v : Value} (hv : v.cells = vs.toArray) (hi : (P.info? ty).map (·.size) = some vs.length) {cur : Array Value} {t : TypeId} (hg : w.heap[g]? = some (.cells cur t (0, 0)))
    (hl : vs.length = cur.size) (h1 : ∀ u ∈ vs, u.oneCell' = true) : (Instr.storeAt ty (.pointer (some ⟨g, 0, none⟩)) v).run P w = .ok () (w.setRow g vs.toArray) := by
  rw [store_agg hv hi hg (by omega) h1]
  congr 2
  simp [List.drop_eq_nil_of_le (show cur.toList.length ≤ vs.length by simp; omega)]
theorem ret_key {fn : Func} {p u : Tmp} {r : Value} {Q : Ending → World → Prop} (h : fn.results = #[.cell p 24, .tmp u]) {a : Act} {w : World} {g : Nat} {hh : List UInt8} {k : Int} {fr : Nat × Nat} {t : TypeId} (hl : hh.length = 32) (hd : a.defers = [])
    (hp : a.tmps.getD p undef = .pointer (some ⟨g, 0, none⟩)) (hu : a.tmps.getD u undef = r) (hg : w.heap[g]? = some (.cells (hkCells hh k).toArray t fr)) (hq : Q (.returned (.tuple #[hkv hh k, r])) w) : bodyPost Tryd.prog fn Q .ret a w := by
  refine bodyPost_ret (v := .tuple #[hkv hh k, r]) ?_ hd hq
  rw [results_cell_tmp h, hp, hu]
  simp [asAddr, Result.andThen, run_loadVar_row w g t 24 (hkCells hh k).toArray fr _ hg keyTy_u rfl (key_size hh k hl)]
/-- the key of a text, as the program reads it -/
def keyOf (l : List UInt8) : Option (List UInt8 × Int) :=
  match unhex (cutL l 45).1 with
  | none => none
  | some b => if (cutL l 45).2.2 = true ∧ b.length = 32 ∧ (cutL l 45).2.1.length = 1 ∧ kOk (((cutL l 45).2.1.getD 0 0).toNat - 48) = true then some (b, ((cutL l 45).2.1.getD 0 0).toNat - 48) else none
def KeyTo (w : World) (r : Option (List UInt8 × Int)) : Ending → World → Prop := fun e w' =>
  (match r with
    | none => e = .returned (.tuple #[hkv z32 0, .bool false])
    | some (b, k) => b.length = 32 ∧ e = .returned (.tuple #[hkv b k, .bool true])) ∧ Below w.heap.size w w'
theorem KeyTo.no {w w' : World} {r : Option (List UInt8 × Int)} (hr : r = none) (hb : Below w.heap.size w w') : KeyTo w r (.returned (.tuple #[hkv z32 0, .bool false])) w' := by subst hr; exact ⟨rfl, hb⟩
theorem KeyTo.yes {w w' : World} {r : Option (List UInt8 × Int)} {b : List UInt8} {k : Int} (hr : r = some (b, k)) (hl : b.length = 32) (hb : Below w.heap.size w w') : KeyTo w r (.returned (.tuple #[hkv b k, .bool true])) w' := by subst hr; exact ⟨⟨hl, rfl⟩, hb⟩
theorem cutL_len (l : List UInt8) (c : UInt8) : (cutL l c).1.length ≤ l.length ∧ (cutL l c).2.1.length ≤ l.length := by
  unfold cutL
  split
  · simp
  · simp only [List.length_take, List.length_drop]; omega
set_option maxRecDepth 100000 in
set_option maxHeartbeats 1000000 in
theorem keyParse_any (l : List UInt8) (w : World) (hl : l.length ≤ 1099511627776) :
    Calls Tryd.prog 27 #[.string ⟨l.toArray⟩] w (KeyTo w (keyOf l)) := by
  have hcl := cutL_len l 45
  obtain ⟨c1, c2, c3, hc⟩ : ∃ c1 c2 c3, cutL l 45 = (c1, c2, c3) := ⟨_, _, _, rfl⟩
  rw [hc] at hcl
  obtain ⟨l1, l2⟩ := hcl
  simp only at l1 l2
  obtain ⟨y, hy⟩ : ∃ y, y = c2.getD 0 0 := ⟨_, rfl⟩
  have HK := Lib.hid (show keyOf l = match unhex c1 with | none => none | some b => if c3 = true ∧ b.length = 32 ∧ c2.length = 1 ∧ kOk (y.toNat - 48) = true then some (b, (y.toNat - 48 : Int)) else none by unfold keyOf; rw [hc, hy])
  have HY := Lib.hid hy
  clear hy
  obtain ⟨s1, hs1⟩ : ∃ s1 : ByteArray, s1 = ⟨c1.toArray⟩ := ⟨_, rfl⟩
  obtain ⟨s2, hs2⟩ : ∃ s2 : ByteArray, s2 = ⟨c2.toArray⟩ := ⟨_, rfl⟩
  have z1 : s1.size ≤ 1099511627776 := by rw [hs1]; exact Nat.le_trans l1 hl
  have z2 : s2.size = c2.length := by rw [hs2]; rfl
  have HC := Lib.hid hc
  have HS1 := Lib.hid hs1
  have HS2 := Lib.hid hs2
  clear hc hs1 hs2 l1
  go_enter Tryd.func27, Tryd.ntmps27
  go_wp2_with (refine stop_at (some 2) rfl ?_)
  refine Stop.go (wpList_alloc rfl _ rfl zero_key rfl ?_)
  go_wp2_with fail
  refine (cut_str l 45 _ hl).mono ?_
  rintro e w1 ⟨rfl, hb1⟩
  rw [HC.out]
  simp only
  rw [← HS1.out, ← HS2.out]
  have HB1 := Lib.hid hb1
  clear hb1
  go_wp2_with fail
  refine (hex_parse s1 _ z1).mono ?_
  intro e w2 hp
  rw [show s1.data.toList = c1 by rw [HS1.out]] at hp
  cases hu : unhex c1 with
  | none =>
    rw [hu] at hp
    obtain ⟨rfl, hb2⟩ := hp
    have HB2 := Lib.hid ((((Below.refl _ _).alloc (Nat.le_refl _) _).trans (HB1.out.mono (Nat.le_of_lt (by show _ < (Array.push _ _).size; rw [Array.size_push]; exact Nat.lt_succ_self _)))).trans (hb2.mono (Nat.le_trans (Nat.le_of_lt (by show _ < (Array.push _ _).size; rw [Array.size_push]; exact Nat.lt_succ_self _)) HB1.out.size)) : Below w.heap.size w w2)
    have HG2 := Lib.hid ((hb2.block _ (Nat.lt_of_lt_of_le (by show _ < (Array.push _ _).size; rw [Array.size_push]; exact Nat.lt_succ_self _) HB1.out.size)).trans ((HB1.out.block _ (by show _ < (Array.push _ _).size; rw [Array.size_push]; exact Nat.lt_succ_self _)).trans (Go.heap_alloc_new w _)) : w2.heap[w.heap.size]? = some (.cells (hkCells z32 0).toArray 24 (0, 0)))
    have HN := Lib.hid (show keyOf l = none by rw [HK.out, hu])
    clear hu hb2
    cases c3
    all_goals
      go_wp2_with (refine stop_at (some 45) rfl ?_)
      refine Stop.go (wpList_build rfl 24 rfl (vs := #[]) (by rfl) (build_key0 _) ?_)
      refine wpList_store_agg rfl 24 rfl rfl rfl (store_row (hkv_cells _ _) (key_size _ _ z32_len) HG2.out (by simp [hkCells_length]) (hkCells_one _ _)) ?_
      go_wp2_with fail
      refine ret_key rfl z32_len rfl rfl rfl (setRow_heap _ _ _ _ _ _ HG2.out) ?_
      exact KeyTo.no HN.out (below_setRow HB2.out (Nat.le_refl _) _)
  | some b =>
    rw [hu] at hp
    obtain ⟨v, rfl, hown, hb2⟩ := hp
    obtain ⟨A, cc, rfl, q1, q2⟩ := own_form hown
    have HB2 := Lib.hid ((((Below.refl _ _).alloc (Nat.le_refl _) _).trans (HB1.out.mono (Nat.le_of_lt (by show _ < (Array.push _ _).size; rw [Array.size_push]; exact Nat.lt_succ_self _)))).trans (hb2.mono (Nat.le_trans (Nat.le_of_lt (by show _ < (Array.push _ _).size; rw [Array.size_push]; exact Nat.lt_succ_self _)) HB1.out.size)) : Below w.heap.size w w2)
    have HG2 := Lib.hid ((hb2.block _ (Nat.lt_of_lt_of_le (by show _ < (Array.push _ _).size; rw [Array.size_push]; exact Nat.lt_succ_self _) HB1.out.size)).trans ((HB1.out.block _ (by show _ < (Array.push _ _).size; rw [Array.size_push]; exact Nat.lt_succ_self _)).trans (Go.heap_alloc_new w _)) : w2.heap[w.heap.size]? = some (.cells (hkCells z32 0).toArray 24 (0, 0)))
    have HR := Lib.hid (Rd.of_own hown)
    have HU := Lib.hid hu
    clear hu hb2 hown
    by_cases h3 : c3 = true
    · subst h3
      by_cases hbl : b.length = 32
      · by_cases hc1 : c2.length = 1
        · have z3 : s2.size = 1 := by omega
          have hp0 : 0 < s2.size := by omega
          have HS0 := Lib.hid (show s2[0] = y by
            have h2 : 0 < c2.length := by omega
            rw [HY.out, List.getD_eq_getElem?_getD, List.getElem?_eq_getElem h2]
            have := HS2.out
            subst this
            rfl)
          have hy8 : s2[0].toNat < 256 := UInt8.toNat_lt _
          clear z2
          cases hko : kOk (y.toNat - 48)
          · have HN := Lib.hid (show keyOf l = none by rw [HK.out, HU.out]; simp [hko])
            have HKO := Lib.hid (show kOk (s2[0].toNat - 48) = false by rw [HS0.out]; exact hko)
            rw [hbl]
            clear hko hc1
            go_wp2_with (first | (go_at_call 57; refine (right_any _ _).mono ?_; rintro e w3 ⟨rfl, rfl⟩; rw [HKO.out]) | refine stop_at (some 45) rfl ?_)
            refine Stop.go (wpList_build rfl 24 rfl (vs := #[]) (by rfl) (build_key0 _) ?_)
            refine wpList_store_agg rfl 24 rfl rfl rfl (store_row (hkv_cells _ _) (key_size _ _ z32_len) HG2.out (by simp [hkCells_length]) (hkCells_one _ _)) ?_
            go_wp2_with fail
            refine ret_key rfl z32_len rfl rfl rfl (setRow_heap _ _ _ _ _ _ HG2.out) ?_
            exact KeyTo.no HN.out (below_setRow HB2.out (Nat.le_refl _) _)
          · have HN := Lib.hid (show keyOf l = some (b, (y.toNat : Int) - 48) by rw [HK.out, HU.out]; simp [hko, hbl, hc1])
            have HKO := Lib.hid (show kOk (s2[0].toNat - 48) = true by rw [HS0.out]; exact hko)
            have HBL := Lib.hid hbl
            rw [hbl]
            clear hko hc1 hbl q1
            go_wp2_with (first | (go_at_call 57; refine (right_any _ _).mono ?_; rintro e w3 ⟨rfl, rfl⟩; rw [HKO.out]) | refine stop_at (some 47) rfl ?_)
            refine Stop.go (wpList_seg 3 _ _ _ (fun Q' hQ' => ?_))
            simp only [List.take_succ_cons, List.take_zero]
            go_wp2_with fail
            simp only [List.drop_succ_cons, List.drop_zero]
            refine Stop.go (wpList_build rfl 24 rfl (vs := #[(1, .int .i64 (s2[0].toNat - 48))]) (by rfl) (build_keyK _ _) ?_)
            refine wpList_alloc rfl 24 rfl zero_key rfl ?_
            refine wpList_store_agg rfl 24 rfl rfl rfl (store_new2 (g := w2.heap.size) rfl (hkv_cells _ _) (key_size _ _ z32_len) (by simp [hkCells_length]) (hkCells_one _ _)) ?_
            go_wp2_with (refine stop_at (some 51) rfl ?_)
            refine Stop.go (wpList_seg 3 _ _ _ (fun Q' hQ' => ?_))
            simp only [List.take_succ_cons, List.take_zero]
            go_wp2_with fail
            simp only [List.drop_succ_cons, List.drop_zero]
            have hnew : (w2.alloc (.cells (hkCells z32 ((s2[0].toNat : Int) - 48)).toArray 24)).heap[w2.heap.size]? = some (.cells (hkCells z32 ((s2[0].toNat : Int) - 48)).toArray 24 (0, 0)) := Go.heap_alloc_new w2 _
            have hbn : Below w2.heap.size w2 (w2.alloc (.cells (hkCells z32 ((s2[0].toNat : Int) - 48)).toArray 24)) := (Below.refl _ _).alloc (Nat.le_refl _) _
            refine Stop.go (wpList_copy_hash rfl _ _ rfl rfl rfl rfl z32_len HBL.out hnew (HR.out.below hbn) hbn (Nat.le_refl _) ?_)
            intro w4 hg4 hb4 hs4
            have HB4 := Lib.hid hb4
            clear hb4 hs4 hnew hbn
            go_wp2_with (refine stop_at (some 55) rfl ?_)
            refine Stop.go (wpList_load_agg rfl 24 rfl rfl keyTy.ut rfl (key_size b _ HBL.out) (row_cells hg4.out) ?_)
            have HG4 := Lib.hid ((HB4.out.block _ (Array.getElem?_eq_some_iff.1 HG2.out).1).trans HG2.out)
            have HB5 := Lib.hid (HB2.out.trans (HB4.out.mono HB2.out.size))
            refine wpList_store_agg rfl 24 rfl rfl rfl (store_row (hkv_cells _ _) (key_size _ _ HBL.out) HG4.out (by simp [hkCells_length, HBL.out, z32_len]) (hkCells_one _ _)) ?_
            go_wp2_with fail
            refine ret_key rfl HBL.out rfl rfl rfl (setRow_heap _ _ _ _ _ _ HG4.out) ?_
            rw [HS0.out]
            exact KeyTo.yes HN.out HBL.out (below_setRow HB5.out (Nat.le_refl _) _)
        · have HN := Lib.hid (show keyOf l = none by rw [HK.out, HU.out]; simp [hc1])
          have hc2 : ((c2.length : Int) != 1) = true := by simp; omega
          rw [hbl]
          go_wp2_with (refine stop_at (some 45) rfl ?_)
          refine Stop.go (wpList_build rfl 24 rfl (vs := #[]) (by rfl) (build_key0 _) ?_)
          refine wpList_store_agg rfl 24 rfl rfl rfl (store_row (hkv_cells _ _) (key_size _ _ z32_len) HG2.out (by simp [hkCells_length]) (hkCells_one _ _)) ?_
          go_wp2_with fail
          refine ret_key rfl z32_len rfl rfl rfl (setRow_heap _ _ _ _ _ _ HG2.out) ?_
          exact KeyTo.no HN.out (below_setRow HB2.out (Nat.le_refl _) _)
      · have HN := Lib.hid (show keyOf l = none by rw [HK.out, HU.out]; simp [hbl])
        have hb2 : ((b.length : Int) != 32) = true := by simp; omega
        go_wp2_with (refine stop_at (some 45) rfl ?_)
        refine Stop.go (wpList_build rfl 24 rfl (vs := #[]) (by rfl) (build_key0 _) ?_)
        refine wpList_store_agg rfl 24 rfl rfl rfl (store_row (hkv_cells _ _) (key_size _ _ z32_len) HG2.out (by simp [hkCells_length]) (hkCells_one _ _)) ?_
        go_wp2_with fail
        refine ret_key rfl z32_len rfl rfl rfl (setRow_heap _ _ _ _ _ _ HG2.out) ?_
        exact KeyTo.no HN.out (below_setRow HB2.out (Nat.le_refl _) _)
    · have HN := Lib.hid (show keyOf l = none by rw [HK.out, HU.out]; simp [h3])
      obtain rfl : c3 = false := by simpa using h3
      clear h3
      go_wp2_with (refine stop_at (some 45) rfl ?_)
      refine Stop.go (wpList_build rfl 24 rfl (vs := #[]) (by rfl) (build_key0 _) ?_)
      refine wpList_store_agg rfl 24 rfl rfl rfl (store_row (hkv_cells _ _) (key_size _ _ z32_len) HG2.out (by simp [hkCells_length]) (hkCells_one _ _)) ?_
      go_wp2_with fail
      refine ret_key rfl z32_len rfl rfl rfl (setRow_heap _ _ _ _ _ _ HG2.out) ?_
      exact KeyTo.no HN.out (below_setRow HB2.out (Nat.le_refl _) _)
end Go.Proofs.YtfheocdciekfoaaDoor
/- The plain law: key.Parse and the reference read the same keys. -/
namespace Go.Proofs.YtfheocdciekfoaaDoor
open Go.RowKit

/-- the key of a text, as the reference reads it -/
def parse17 (l : List UInt8) : Option (List UInt8 × Int) :=
  if l.length = 66 ∧ l.getD 64 0 = 45 ∧ 49 ≤ (l.getD 65 0).toNat ∧ (l.getD 65 0).toNat ≤ 52 then (unhex (l.take 64)).map fun b => (b, ((l.getD 65 0).toNat : Int) - 48) else none
theorem unhex_digs : ∀ (l t : List UInt8), unhex l = some t → l.length = 2 * t.length ∧ ∀ b ∈ l, dB b = true
  | [], t, h => by
    simp only [unhex, Option.some.injEq] at h
    subst h
    simp
  | [_], t, h => by simp [unhex] at h
  | a :: b :: r, t, h => by
    rw [unhex] at h
    split at h
    · rename_i hd
      rw [Option.map_eq_some_iff] at h
      obtain ⟨t', h1, rfl⟩ := h
      obtain ⟨h2, h3⟩ := unhex_digs r t' h1
      rw [Bool.and_eq_true] at hd
      refine ⟨by simp; omega, fun x hx => ?_⟩
      rcases List.mem_cons.1 hx with rfl | hx
      · exact hd.1
      · rcases List.mem_cons.1 hx with rfl | hx
        · exact hd.2
        · exact h3 x hx
    · cases h
theorem dB_dash : dB 45 = false := by decide
theorem keyOf_eq (l : List UInt8) : keyOf l = parse17 l := by
  have hd : ∀ (i : Nat) (t : List UInt8), unhex (l.take i) = some t → ∀ k, k < i → l[k]? ≠ some 45 := by
    intro i t h k hk he
    have hm : (45 : UInt8) ∈ l.take i := by
      rw [List.mem_iff_getElem?]
      exact ⟨k, by rw [List.getElem?_take, if_pos hk]; exact he⟩
    have := (unhex_digs _ _ h).2 45 hm
    rw [dB_dash] at this
    cases this
  have hge := Lib.indexByte_ge l 45
  by_cases hm : Lib.indexByte l 45 = -1
  · have hc : cutL l 45 = (l, [], false) := by unfold cutL; rw [if_pos hm]
    have h1 : keyOf l = none := by
      unfold keyOf
      rw [hc]
      cases unhex l <;> simp
    rw [h1]
    unfold parse17
    rw [if_neg]
    rintro ⟨h2, h3, _⟩
    refine Lib.indexByte_none hm 64 ?_
    rw [List.getElem?_eq_getElem (by omega)]
    rw [List.getD_eq_getElem?_getD, List.getElem?_eq_getElem (by omega)] at h3
    simpa using h3
  · obtain ⟨i, hi⟩ : ∃ i : Nat, Lib.indexByte l 45 = i := ⟨(Lib.indexByte l 45).toNat, by omega⟩
    obtain ⟨hat, hbefore⟩ := Lib.indexByte_some hi
    have hil : i < l.length := (List.getElem?_eq_some_iff.1 hat).1
    have hc : cutL l 45 = (l.take i, l.drop (i + 1), true) := by unfold cutL; rw [if_neg hm, hi]; rfl
    unfold keyOf
    rw [hc]
    simp only [true_and]
    by_cases h64 : i = 64
    · subst h64
      unfold parse17
      have h45 : l.getD 64 0 = 45 := by rw [List.getD_eq_getElem?_getD, hat]; rfl
      have hdl : (l.drop 65).getD 0 0 = l.getD 65 0 := by simp [List.getD_eq_getElem?_getD]
      rw [hdl, List.length_drop]
      cases hu : unhex (l.take 64) with
      | none => simp
      | some b =>
        have h32 := (unhex_digs _ _ hu).1
        rw [List.length_take] at h32
        have hb : b.length = 32 := by omega
        simp only [hb, h45, Option.map_some, true_and]
        have hk : ∀ n : Nat, (kOk ((n : Int) - 48) = true ↔ 49 ≤ n ∧ n ≤ 52) := fun n => by unfold kOk; simp; omega
        by_cases h66 : l.length = 66
        · have : l.length - 65 = 1 := by omega
          simp only [h66, true_and, hk]
        · have : ¬ (l.length - 65 = 1) := by omega
          simp only [h66, this, false_and, if_false]
    · have h1 : parse17 l = none := by
        unfold parse17
        split
        · rename_i hh
          obtain ⟨h2, h3, _⟩ := hh
          cases hu : unhex (l.take 64) with
          | none => rfl
          | some b =>
            exfalso
            have h4 : l[64]? = some 45 := by
              rw [List.getElem?_eq_getElem (by omega)]
              rw [List.getD_eq_getElem?_getD, List.getElem?_eq_getElem (by omega)] at h3
              simpa using h3
            rcases Nat.lt_or_ge i 64 with h5 | h5
            · exact hd 64 b hu i h5 hat
            · exact hbefore 64 (by omega) h4
        · rfl
      rw [h1]
      cases hu : unhex (l.take i) with
      | none => rfl
      | some b =>
        have h32 := (unhex_digs _ _ hu).1
        rw [List.length_take] at h32
        simp only
        rw [if_neg]
        rintro ⟨h5, _⟩
        omega
end Go.Proofs.YtfheocdciekfoaaDoor
/- Plain: hexadecimal digits of bytes and back. -/
namespace Go.Proofs.YtfheocdciekfoaaDoor
open Go.RowKit

def hexDig (k : Nat) : UInt8 := (digAt k).toNat.toUInt8
theorem dig_back (k : Nat) (h : k < 16) : dB (hexDig k) = true ∧ dN (hexDig k) = k := by
  have h2 : ∀ j : Fin 16, dB (hexDig j.val) = true ∧ dN (hexDig j.val) = j.val := by decide +kernel
  exact h2 ⟨k, h⟩
theorem unhex_hexOf : ∀ (l : List UInt8), unhex (hexOf l) = some l
  | [] => rfl
  | b :: l => by
    have hb := b.toNat_lt
    have h1 := dig_back (b.toNat / 16) (by omega)
    have h2 := dig_back (b.toNat % 16) (by omega)
    show unhex (hexDig (b.toNat / 16) :: hexDig (b.toNat % 16) :: hexOf l) = _
    rw [unhex, h1.1, h2.1, h1.2, h2.2, unhex_hexOf l]
    have : 16 * (b.toNat / 16) + b.toNat % 16 = b.toNat := by omega
    rw [this]
    simp
theorem hex_back (a b : UInt8) (ha : dB a = true) (hb : dB b = true) : hex2 (UInt8.ofNat (16 * dN a + dN b)) = [a, b] := by
  have h1 : ∀ a : Fin 256, dB (UInt8.ofNat a.val) = true → dN (UInt8.ofNat a.val) < 16 ∧ (digAt (dN (UInt8.ofNat a.val))).toNat.toUInt8 = UInt8.ofNat a.val := by decide +kernel
  have e : ∀ a : UInt8, UInt8.ofNat a.toNat = a := fun a => by simp
  have ga := h1 ⟨a.toNat, a.toNat_lt⟩
  have gb := h1 ⟨b.toNat, b.toNat_lt⟩
  simp only [e] at ga gb
  obtain ⟨a1, a2⟩ := ga ha
  obtain ⟨b1, b2⟩ := gb hb
  unfold hex2
  rw [UInt8.toNat_ofNat', Nat.mod_eq_of_lt (by omega), show (16 * dN a + dN b) / 16 = dN a by omega, show (16 * dN a + dN b) % 16 = dN b by omega, a2, b2]
theorem unhex_text : ∀ (l t : List UInt8), unhex l = some t → hexOf t = l ∧ 2 * t.length = l.length
  | [], t, h => by simp [unhex] at h; subst h; exact ⟨rfl, rfl⟩
  | [_], t, h => by simp [unhex] at h
  | a :: b :: r, t, h => by
    rw [unhex] at h
    split at h
    · rename_i hd
      rw [Bool.and_eq_true] at hd
      rw [Option.map_eq_some_iff] at h
      obtain ⟨t', ht, rfl⟩ := h
      obtain ⟨h1, h2⟩ := unhex_text r t' ht
      refine ⟨?_, by simp; omega⟩
      rw [show hexOf (UInt8.ofNat (16 * dN a + dN b) :: t') = hex2 (UInt8.ofNat (16 * dN a + dN b)) ++ hexOf t' by simp [hexOf], hex_back a b hd.1 hd.2, h1]
      rfl
    · cases h

end Go.Proofs.YtfheocdciekfoaaDoor
/- Plain: reading a decimal numeral gives its number. No program is named here. -/
namespace Go.Proofs.YtfheocdciekfoaaDoor

theorem decFrom_cons (acc : Nat) (b : UInt8) (r : List UInt8) : Lib.decFrom acc (b :: r) = (Lib.digitVal b).bind fun d => Lib.decFrom (acc * 10 + d) r := by
  rw [Lib.decFrom]
  cases Lib.digitVal b <;> rfl
theorem decFrom_append (x y : List UInt8) : ∀ (acc : Nat), Lib.decFrom acc (x ++ y) = (Lib.decFrom acc x).bind fun m => Lib.decFrom m y := by
  induction x with
  | nil => intro acc; rfl
  | cons a x ih =>
    intro acc
    rw [List.cons_append, decFrom_cons, decFrom_cons]
    cases Lib.digitVal a with
    | none => rfl
    | some d => exact ih _
theorem digitVal_ofNat (d : Nat) (h : d < 10) : Lib.digitVal (UInt8.ofNat (48 + d)) = some d := by
  have h1 : (UInt8.ofNat (48 + d)).toNat = 48 + d := by
    rw [UInt8.toNat_ofNat']
    omega
  unfold Lib.digitVal
  rw [h1, if_pos (by omega)]
  congr 1
  omega
theorem decFrom_digits (u : Nat) : Lib.decFrom 0 (Lib.decDigits u) = some u := by
  induction u using Nat.strongRecOn with
  | _ u ih =>
    rw [Lib.decDigits]
    split
    · rename_i h
      rw [decFrom_cons, digitVal_ofNat u h, Option.bind_some, Lib.decFrom, Nat.zero_mul, Nat.zero_add]
    · rename_i h
      rw [decFrom_append, ih (u / 10) (by omega), Option.bind_some, decFrom_cons, digitVal_ofNat (u % 10) (by omega), Option.bind_some, Lib.decFrom]
      congr 1
      omega
theorem decDigits_ne (u : Nat) : Lib.decDigits u ≠ [] := fun h => by
  have h1 := Lib.decDigits_length u
  have h2 := Lib.nDigits_pos u
  rw [h] at h1
  simp at h1
  omega
theorem decDigits_dig (u : Nat) : ∀ b ∈ Lib.decDigits u, 48 ≤ b.toNat ∧ b.toNat ≤ 57 := fun b hb => by
  obtain ⟨k, hk⟩ := List.mem_iff_getElem?.1 hb
  obtain ⟨d, hd⟩ := Lib.digit_of_decFrom _ 0 u (decFrom_digits u) k b hk
  unfold Lib.digitVal at hd
  split at hd
  · assumption
  · cases hd
theorem atoi_digits (u : Nat) : Lib.atoi (Lib.decDigits u) = some (u : Int) := by
  have hd := decFrom_digits u
  have hb := decDigits_dig u
  cases hl : Lib.decDigits u with
  | nil => exact absurd hl (decDigits_ne u)
  | cons a r =>
    rw [hl] at hd hb
    have h1 := hb a (List.mem_cons_self ..)
    unfold Lib.atoi
    have n1 : (a == 45) = false := by
      rw [beq_eq_false_iff_ne]
      rintro rfl
      exact absurd h1.1 (by decide)
    have n2 : (a == 43) = false := by
      rw [beq_eq_false_iff_ne]
      rintro rfl
      exact absurd h1.1 (by decide)
    simp only [n1, n2, Bool.false_eq_true, if_false]
    unfold Lib.decNat
    simp only [List.isEmpty_cons, Bool.false_eq_true, if_false, hd, Option.map_some]
theorem nDigits_le10 (u : Nat) (h : u ≤ 1000000000) : Lib.nDigits u ≤ 10 := by
  rcases Nat.lt_or_ge 10 (Lib.nDigits u) with h1 | h1
  · exfalso
    have : ∀ k v, v < 10 ^ (k + 1) → Lib.nDigits v ≤ k + 1 := by
      intro k
      induction k with
      | zero => intro v hv; rw [Lib.nDigits_small (by simpa using hv)]; exact Nat.le_refl _
      | succ k ih =>
        intro v hv
        by_cases h10 : v < 10
        · rw [Lib.nDigits_small h10]; omega
        · rw [Lib.nDigits_big h10]
          have := ih (v / 10) (by rw [Nat.pow_succ] at hv; omega)
          omega
    have := this 9 u (by have : (10 : Nat) ^ (9 + 1) = 10000000000 := by decide
                         omega)
    omega
  · exact h1
theorem atoiAll_digits (u : Nat) (h : u ≤ 1000000000) : Lib.atoiAll (Lib.decDigits u) = .ok (u : Int) := by
  rw [Lib.atoiAll_short _ (by rw [Lib.decDigits_length]; have := nDigits_le10 u h; omega), atoi_digits]
  rfl
/-- the number that strconv.Atoi hands back, whatever the error -/
def atoiV (l : List UInt8) : Int := match Lib.atoiAll l with
  | .ok v => v
  | .range => Lib.atoiSat l
  | _ => 0
theorem atoiV_itoa (n : Int) (h0 : 0 ≤ n) (h1 : n ≤ 1000000000) : atoiV (Lib.itoa n) = n := by
  obtain ⟨u, rfl⟩ : ∃ u : Nat, n = u := ⟨n.toNat, by omega⟩
  rw [Lib.itoa_nonneg]
  unfold atoiV
  rw [atoiAll_digits u (by omega)]
end Go.Proofs.YtfheocdciekfoaaDoor
