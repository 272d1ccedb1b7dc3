/- Texts of this proof joined: RecSame, HexVal, HexParse, Cut, KeyParse, KeyLaw, HexPure, AtoiDec, Names, Seg2, Rising. -/
import Derived.Test.YtplbcbamnjnhlaaGreatDoorMB10
import Derived.Test.YtplbcbamnjnhlaaGreatDoorMB05
import Derived.Test.YtplbcbamnjnhlaaGreatDoorChecked
import Derived.Test.YtplbcbamnjnhlaaGreatDoorMB04
import Derived.Test.YtplbcbamnjnhlaaGreatDoorMB03
import Derived.Lib.Bytealg
import Derived.Lib.IndexLaws
import Derived.Deep.QuietTactic
import Derived.BigQuiet
import Derived.Test.YtplbcbamnjnhlaaGreatDoorMB08
import Derived.Test.YtplbcbamnjnhlaaGreatDoorMB09
import Derived.Laws.ResultCell
import Derived.Lib.AtoiTie
import Derived.Lib.ItoaNum
import Derived.Lib.ItoaMem
import Derived.Lib.ItoaLen
import Derived.Lib.Strings
namespace Go.Proofs.YtplbcbamnjnhlaaGreatDoor
open Go.RowKit

def sameD (a b : RecD) : Bool := decide (a.kind = b.kind) && decide (a.seq = b.seq) && (decide (a.kh = b.kh) && decide (a.kk = b.kk)) && (decide (a.mh = b.mh) && decide (a.ms = b.ms)) && decide (a.keys = b.keys)
abbrev rv (r : RecD) (v : Value) : Value := recv r.kind r.seq r.kh r.kk r.mh r.ms v
def Hs (r : RecD) : Prop := r.kh.length = 32 ∧ r.mh.length = 32
set_option maxRecDepth 100000 in
set_option maxHeartbeats 1000000 in
theorem same_any (a b : RecD) (A1 A2 : Option Addr) (n1 c1 n2 c2 B1 B2 : Nat) (w : World) (ha : Hs a) (hb : Hs b) (h1 : SlR eKey w B1 (.slice A1 n1 c1) a.keys) (h2 : SlR eKey w B2 (.slice A2 n2 c2) b.keys) (hB1 : B1 ≤ w.heap.size) (hB2 : B2 ≤ w.heap.size) :
    Calls Tryz.prog 75 #[rv a (.slice A1 n1 c1), rv b (.slice A2 n2 c2)] w fun e w' => e = .returned (.bool (sameD a b)) ∧ Below w.heap.size w w' := by
  obtain ⟨a0, a1, a2, a3, a4, a5, a6⟩ := a
  obtain ⟨b0, b1, b2, b3, b4, b5, b6⟩ := b
  obtain ⟨ha1, ha2⟩ := ha
  obtain ⟨hb1, hb2⟩ := hb
  simp only at ha1 ha2 hb1 hb2 h1 h2
  have hbw : Below w.heap.size w ((w.alloc (.cells (recCells a0 a1 a2 a3 a4 a5 (.slice A1 n1 c1)).toArray 38)).alloc (.cells (recCells b0 b1 b2 b3 b4 b5 (.slice A2 n2 c2)).toArray 38)) :=
    ((Below.refl _ _).alloc (Nat.le_refl _) _).alloc (Nat.le_of_lt (by show _ < (Array.push _ _).size; rw [Array.size_push]; exact Nat.lt_succ_self _)) _
  have hr1 : RecAt ((w.alloc (.cells (recCells a0 a1 a2 a3 a4 a5 (.slice A1 n1 c1)).toArray 38)).alloc (.cells (recCells b0 b1 b2 b3 b4 b5 (.slice A2 n2 c2)).toArray 38)) w.heap.size 38 a0 a1 a2 a3 a4 a5 (.slice A1 n1 c1) :=
    (RecAt.new w ha1 ha2).later ((Below.refl _ _).alloc (Nat.le_refl _) _)
  have hr2 := RecAt.new (t := 38) (kind := b0) (seq := b1) (kk := b3) (ms := b5) (v := .slice A2 n2 c2) (w.alloc (.cells (recCells a0 a1 a2 a3 a4 a5 (.slice A1 n1 c1)).toArray 38)) hb1 hb2
  have H1 := Lib.hid (h1.fut hbw hB1 (Nat.le_refl B1))
  have H2 := Lib.hid (h2.fut hbw hB2 (Nat.le_refl B2))
  have HBW := Lib.hid hbw
  clear h1 h2 hbw
  go_enter Tryz.func75, Tryz.ntmps75
  go_wp2_with (refine stop_at (some 2) rfl ?_)
  refine Stop.go (wpList_box rfl _ rfl rfl rfl (wpList_box rfl _ rfl rfl rfl ?_))
  rw [show (w.alloc (.cells (recCells a0 a1 a2 a3 a4 a5 (.slice A1 n1 c1)).toArray 38)).heap.size = w.heap.size + 1 from Array.size_push _] at hr2 ⊢
  generalize (w.alloc (.cells (recCells a0 a1 a2 a3 a4 a5 (.slice A1 n1 c1)).toArray 38)).alloc (.cells (recCells b0 b1 b2 b3 b4 b5 (.slice A2 n2 c2)).toArray 38) = w1 at *
  have c0 := hr1.kind_
  have c1' := hr1.seq_
  have c2' := hr1.keys_
  have d0 := hr2.kind_
  have d1 := hr2.seq_
  have d2 := hr2.keys_
  have HR1 := Lib.hid hr1
  have HR2 := Lib.hid hr2
  clear hr1 hr2
  by_cases e0 : a0 = b0
  · by_cases e1 : a1 = b1
    · subst e0 e1
      go_wp2_with (refine stop_at (some 5) rfl ?_)
      refine Stop.go (wpList_seg 14 _ _ _ (fun Q' hQ' => ?_))
      simp only [List.take_succ_cons, List.take_zero]
      go_wp2_with fail
      try simp only [List.drop_succ_cons, List.drop_zero]
      refine Stop.go (wpList_load_aggG (by rfl) 34 rfl rfl keyTy.ut rfl (key_size _ _ ha1) HR1.out.key_ ?_)
      refine wpList_seg 1 _ _ _ (fun Q' hQ' => ?_)
      simp only [List.take_succ_cons, List.take_zero]
      go_wp2_with fail
      try simp only [List.drop_succ_cons, List.drop_zero]
      refine Stop.go (wpList_load_aggG (by rfl) 34 rfl rfl keyTy.ut rfl (key_size _ _ hb1) HR2.out.key_ ?_)
      refine wpList_binG (by rfl) .eql 34 rfl rfl rfl (hkv_guard keyTy.gd ..) (hkv_eql keyTy ha1 hb1) ?_
      cases ek : (decide (a2 = b2) && decide (a3 = b3))
      · have HF := Lib.hid (show sameD ⟨a0, a1, a2, a3, a4, a5, a6⟩ ⟨a0, a1, b2, b3, b4, b5, b6⟩ = false by unfold sameD; simp only [ek]; simp)
        go_wp2_with fail
        go_ret
        exact ⟨rt1 (vbool HF.out.symm), HBW.out⟩
      · refine wpList_seg 3 _ _ _ (fun Q' hQ' => ?_)
        simp only [List.take_succ_cons, List.take_zero]
        go_wp2_with fail
        try simp only [List.drop_succ_cons, List.drop_zero]
        refine Stop.go (wpList_load_aggG (by rfl) 36 rfl rfl markTy.ut rfl (mark_size _ _ ha2) HR1.out.mark_ ?_)
        refine wpList_seg 1 _ _ _ (fun Q' hQ' => ?_)
        simp only [List.take_succ_cons, List.take_zero]
        go_wp2_with fail
        try simp only [List.drop_succ_cons, List.drop_zero]
        refine Stop.go (wpList_load_aggG (by rfl) 36 rfl rfl markTy.ut rfl (mark_size _ _ hb2) HR2.out.mark_ ?_)
        refine wpList_binG (by rfl) .eql 36 rfl rfl rfl (hkv_guard markTy.gd ..) (hkv_eql markTy ha2 hb2) ?_
        cases em : (decide (a4 = b4) && decide (a5 = b5))
        · have HF := Lib.hid (show sameD ⟨a0, a1, a2, a3, a4, a5, a6⟩ ⟨a0, a1, b2, b3, b4, b5, b6⟩ = false by unfold sameD; simp only [ek, em]; simp)
          go_wp2_with fail
          go_ret
          exact ⟨rt1 (vbool HF.out.symm), HBW.out⟩
        · have HF := Lib.hid (show sameD ⟨a0, a1, a2, a3, a4, a5, a6⟩ ⟨a0, a1, b2, b3, b4, b5, b6⟩ = decide (a6 = b6) by unfold sameD; simp only [ek, em]; simp)
          go_wp2_with (go_at_call 108; refine (keysEq_any A1 A2 c1 c2 B1 B2 n1 n2 a6 b6 _ H1.out H2.out).mono ?_; rintro e w3 ⟨rfl, hb3⟩)
          go_ret
          exact ⟨rt1 (vbool HF.out.symm), HBW.out.trans (hb3.mono HBW.out.size)⟩
    · have HF := Lib.hid (show sameD ⟨a0, a1, a2, a3, a4, a5, a6⟩ ⟨b0, b1, b2, b3, b4, b5, b6⟩ = false by unfold sameD; simp [e1])
      have e1' : (a1 == b1) = false := by rw [beq_eq_false_iff_ne]; exact e1
      subst e0
      clear e1
      go_wp2_with fail
      go_ret
      exact ⟨rt1 (vbool HF.out.symm), HBW.out⟩
  · have HF := Lib.hid (show sameD ⟨a0, a1, a2, a3, a4, a5, a6⟩ ⟨b0, b1, b2, b3, b4, b5, b6⟩ = false by unfold sameD; simp [e0])
    have e0' : (a0 == b0) = false := by rw [beq_eq_false_iff_ne]; exact e0
    clear e0
    go_wp2_with fail
    go_ret
    exact ⟨rt1 (vbool HF.out.symm), HBW.out⟩
end Go.Proofs.YtplbcbamnjnhlaaGreatDoor
namespace Go.Proofs.YtplbcbamnjnhlaaGreatDoor
open Go.RowKit

def digValB (c : Int) : Bool := decide (48 ≤ c ∧ c ≤ 57) || decide (97 ≤ c ∧ c ≤ 102)
def digValN (c : Int) : Int := if 48 ≤ c ∧ c ≤ 57 then c - 48 else if 97 ≤ c ∧ c ≤ 102 then c - 87 else 0

end Go.Proofs.YtplbcbamnjnhlaaGreatDoor
namespace Go.Proofs.YtplbcbamnjnhlaaGreatDoor
open Go.RowKit

def dB (b : UInt8) : Bool := digValB b.toNat
def dN (b : UInt8) : Nat := (digValN b.toNat).toNat
def unhex : List UInt8 → Option (List UInt8)
  | [] => some []
  | [_] => none
  | a :: b :: r => if dB a && dB b then (unhex r).map (fun t => UInt8.ofNat (16 * dN a + dN b) :: t) else none

end Go.Proofs.YtplbcbamnjnhlaaGreatDoor
namespace Go.Proofs.YtplbcbamnjnhlaaGreatDoor
open Go.RowKit

def cutL (l : List UInt8) (c : UInt8) : List UInt8 × List UInt8 × Bool :=
  if Lib.indexByte l c = -1 then (l, [], false) else (l.take (Lib.indexByte l c).toNat, l.drop ((Lib.indexByte l c).toNat + 1), true)
end Go.Proofs.YtplbcbamnjnhlaaGreatDoor
namespace Go.Proofs.YtplbcbamnjnhlaaGreatDoor
open Go.RowKit

theorem wpList_copy_hash {w : World} {ops : Array Oper} {rest : List Oper} {o : Oper} {a : Act} {Q : Exit → Act → World → Prop} (hgd : o.guard = none) (d s : Operand)
    (ho : o.op = .call { callee := .builtin .copy, args := #[d, s], argTypes := #[44, 44] })
    {A : Option Addr} {g c c1 n : Nat} {h0 b : List UInt8} {k : Int} (hd : a.eval d = .slice (some ⟨g, 0, none⟩) 32 c) (hs : a.eval s = .slice A n c1) (hn : n = 32) (h0l : h0.length = 32) (hbl : b.length = 32) {t : TypeId}
    (hg : w.heap[g]? = some (.cells (hkCells h0 k).toArray t (0, 0))) {B : Nat} (hr : Rd w B A (bcells b)) {B0 : Nat} {w0 : World} (hb : Below B0 w0 w) (hBg : B0 ≤ g)
    (h : ∀ w', Hid (w'.heap[g]? = some (.cells (hkCells b k).toArray t (0, 0))) → Below B0 w0 w' → w'.heap.size = w.heap.size → wpList Tryz.prog ops Q rest (a.put o.dst (goInt 32)) w') :
    wpList Tryz.prog ops Q (o :: rest) a w := by
  subst hn
  have hlb : (bcells b).length = 32 := by rw [bcells_length, hbl]
  obtain ⟨ab, ao, rfl, hab, hcells⟩ := hr (by intro e; have := congrArg List.length e; rw [hlb] at this; simp at this)
  refine wpList_copy_own hgd d s 44 44 ho 5 Tryz.underlying44 (by kernel_rfl) g 0 32 c ⟨ab, ao, none⟩ 32 c1 hd hs (hkCells h0 k).toArray t hg (bcells b) (by rw [hlb]; rfl)
    (fun j v hv => by rw [Addr.add_lit]; exact hcells j v hv) (by rw [hlb]; simp [hkCells_length, h0l]) (bcells_one _) ?_
  rw [hlb]
  refine h _ ?_ (below_setRow hb hBg _) (by simp)
  show _ = _
  rw [setRow_heap w g (hkCells h0 k).toArray _ t _ hg]
  congr 2
  simp only [List.take_zero, List.nil_append, Nat.zero_add]
  unfold hkCells
  rw [List.drop_append_of_le_length (by rw [bcells_length, h0l]; exact Nat.le_refl _), List.drop_eq_nil_of_le (by rw [bcells_length, h0l]; exact Nat.le_refl _)]
  simp
noncomputable def keyTyD : TypeDesc := .struct (Tryz.prog.fieldsOf 34)
theorem keyTy_u : Tryz.prog.underlying 34 = some keyTyD := by kernel_rfl
theorem build_key0 (w : World) : (Instr.build 34 #[]).run Tryz.prog w = .ok (hkv z32 0) w := by
  unfold Instr.build
  simp only [Sem.run_bind, zero_key, Result.andThen_ok, hkv_cells, run_underlying keyTy_u, keyTyD, fields_key]
  rfl
theorem build_keyK (k : Int) (w : World) : (Instr.build 34 #[(1, .int .i64 k)]).run Tryz.prog w = .ok (hkv z32 k) w := by
  unfold Instr.build
  simp only [Sem.run_bind, zero_key, Result.andThen_ok, hkv_cells, run_underlying keyTy_u, keyTyD, fields_key]
  rfl
theorem store_row {P : Program} {w : World} {g : Nat} {ty : TypeId} {vs : List Value} {v : Value} (hv : v.cells = vs.toArray) (hi : (P.info? ty).map (·.size) = some vs.length) {cur : Array Value} {t : TypeId} (hg : w.heap[g]? = some (.cells cur t (0, 0)))
    (hl : vs.length = cur.size) (h1 : ∀ u ∈ vs, u.oneCell' = true) : (Instr.storeAt ty (.pointer (some ⟨g, 0, none⟩)) v).run P w = .ok () (w.setRow g vs.toArray) := by
  rw [store_agg hv hi hg (by omega) h1]
  congr 2
  simp [List.drop_eq_nil_of_le (show cur.toList.length ≤ vs.length by simp; omega)]
def keyOf (l : List UInt8) : Option (List UInt8 × Int) :=
  match unhex (cutL l 45).1 with
  | none => none
  | some b => if (cutL l 45).2.2 = true ∧ b.length = 32 ∧ (cutL l 45).2.1.length = 1 ∧ kOk (((cutL l 45).2.1.getD 0 0).toNat - 48) = true then some (b, ((cutL l 45).2.1.getD 0 0).toNat - 48) else none
def KeyTo (w : World) (r : Option (List UInt8 × Int)) : Ending → World → Prop := fun e w' =>
  (match r with
    | none => e = .returned (.tuple #[hkv z32 0, .bool false])
    | some (b, k) => b.length = 32 ∧ e = .returned (.tuple #[hkv b k, .bool true])) ∧ Below w.heap.size w w'
theorem KeyTo.no {w w' : World} {r : Option (List UInt8 × Int)} (hr : r = none) (hb : Below w.heap.size w w') : KeyTo w r (.returned (.tuple #[hkv z32 0, .bool false])) w' := by subst hr; exact ⟨rfl, hb⟩
end Go.Proofs.YtplbcbamnjnhlaaGreatDoor
namespace Go.Proofs.YtplbcbamnjnhlaaGreatDoor
open Go.RowKit

def parse17 (l : List UInt8) : Option (List UInt8 × Int) :=
  if l.length = 66 ∧ l.getD 64 0 = 45 ∧ 49 ≤ (l.getD 65 0).toNat ∧ (l.getD 65 0).toNat ≤ 52 then (unhex (l.take 64)).map fun b => (b, ((l.getD 65 0).toNat : Int) - 48) else none
theorem unhex_digs : ∀ (l t : List UInt8), unhex l = some t → l.length = 2 * t.length ∧ ∀ b ∈ l, dB b = true
  | [], t, h => by
    simp only [unhex, Option.some.injEq] at h
    subst h
    simp
  | [_], t, h => by simp [unhex] at h
  | a :: b :: r, t, h => by
    rw [unhex] at h
    split at h
    · rename_i hd
      rw [Option.map_eq_some_iff] at h
      obtain ⟨t', h1, rfl⟩ := h
      obtain ⟨h2, h3⟩ := unhex_digs r t' h1
      rw [Bool.and_eq_true] at hd
      refine ⟨by simp; omega, fun x hx => ?_⟩
      rcases List.mem_cons.1 hx with rfl | hx
      · exact hd.1
      · rcases List.mem_cons.1 hx with rfl | hx
        · exact hd.2
        · exact h3 x hx
    · cases h
theorem dB_dash : dB 45 = false := by decide
theorem keyOf_eq (l : List UInt8) : keyOf l = parse17 l := by
  have hd : ∀ (i : Nat) (t : List UInt8), unhex (l.take i) = some t → ∀ k, k < i → l[k]? ≠ some 45 := by
    intro i t h k hk he
    have hm : (45 : UInt8) ∈ l.take i := by
      rw [List.mem_iff_getElem?]
      exact ⟨k, by rw [List.getElem?_take, if_pos hk]; exact he⟩
    have := (unhex_digs _ _ h).2 45 hm
    rw [dB_dash] at this
    cases this
  have hge := Lib.indexByte_ge l 45
  by_cases hm : Lib.indexByte l 45 = -1
  · have hc : cutL l 45 = (l, [], false) := by unfold cutL; rw [if_pos hm]
    have h1 : keyOf l = none := by
      unfold keyOf
      rw [hc]
      cases unhex l <;> simp
    rw [h1]
    unfold parse17
    rw [if_neg]
    rintro ⟨h2, h3, _⟩
    refine Lib.indexByte_none hm 64 ?_
    rw [List.getElem?_eq_getElem (by omega)]
    rw [List.getD_eq_getElem?_getD, List.getElem?_eq_getElem (by omega)] at h3
    simpa using h3
  · obtain ⟨i, hi⟩ : ∃ i : Nat, Lib.indexByte l 45 = i := ⟨(Lib.indexByte l 45).toNat, by omega⟩
    obtain ⟨hat, hbefore⟩ := Lib.indexByte_some hi
    have hil : i < l.length := (List.getElem?_eq_some_iff.1 hat).1
    have hc : cutL l 45 = (l.take i, l.drop (i + 1), true) := by unfold cutL; rw [if_neg hm, hi]; rfl
    unfold keyOf
    rw [hc]
    simp only [true_and]
    by_cases h64 : i = 64
    · subst h64
      unfold parse17
      have h45 : l.getD 64 0 = 45 := by rw [List.getD_eq_getElem?_getD, hat]; rfl
      have hdl : (l.drop 65).getD 0 0 = l.getD 65 0 := by simp [List.getD_eq_getElem?_getD]
      rw [hdl, List.length_drop]
      cases hu : unhex (l.take 64) with
      | none => simp
      | some b =>
        have h32 := (unhex_digs _ _ hu).1
        rw [List.length_take] at h32
        have hb : b.length = 32 := by omega
        simp only [hb, h45, Option.map_some, true_and]
        have hk : ∀ n : Nat, (kOk ((n : Int) - 48) = true ↔ 49 ≤ n ∧ n ≤ 52) := fun n => by unfold kOk; simp; omega
        by_cases h66 : l.length = 66
        · have : l.length - 65 = 1 := by omega
          simp only [h66, true_and, hk]
        · have : ¬ (l.length - 65 = 1) := by omega
          simp only [h66, this, false_and, if_false]
    · have h1 : parse17 l = none := by
        unfold parse17
        split
        · rename_i hh
          obtain ⟨h2, h3, _⟩ := hh
          cases hu : unhex (l.take 64) with
          | none => rfl
          | some b =>
            exfalso
            have h4 : l[64]? = some 45 := by
              rw [List.getElem?_eq_getElem (by omega)]
              rw [List.getD_eq_getElem?_getD, List.getElem?_eq_getElem (by omega)] at h3
              simpa using h3
            rcases Nat.lt_or_ge i 64 with h5 | h5
            · exact hd 64 b hu i h5 hat
            · exact hbefore 64 (by omega) h4
        · rfl
      rw [h1]
      cases hu : unhex (l.take i) with
      | none => rfl
      | some b =>
        have h32 := (unhex_digs _ _ hu).1
        rw [List.length_take] at h32
        simp only
        rw [if_neg]
        rintro ⟨h5, _⟩
        omega
end Go.Proofs.YtplbcbamnjnhlaaGreatDoor
namespace Go.Proofs.YtplbcbamnjnhlaaGreatDoor
open Go.RowKit

def hexDig (k : Nat) : UInt8 := (digAt k).toNat.toUInt8
theorem dig_back (k : Nat) (h : k < 16) : dB (hexDig k) = true ∧ dN (hexDig k) = k := by
  have h2 : ∀ j : Fin 16, dB (hexDig j.val) = true ∧ dN (hexDig j.val) = j.val := by decide +kernel
  exact h2 ⟨k, h⟩
theorem unhex_hexOf : ∀ (l : List UInt8), unhex (hexOf l) = some l
  | [] => rfl
  | b :: l => by
    have hb := b.toNat_lt
    have h1 := dig_back (b.toNat / 16) (by omega)
    have h2 := dig_back (b.toNat % 16) (by omega)
    show unhex (hexDig (b.toNat / 16) :: hexDig (b.toNat % 16) :: hexOf l) = _
    rw [unhex, h1.1, h2.1, h1.2, h2.2, unhex_hexOf l]
    have : 16 * (b.toNat / 16) + b.toNat % 16 = b.toNat := by omega
    rw [this]
    simp
end Go.Proofs.YtplbcbamnjnhlaaGreatDoor
namespace Go.Proofs.YtplbcbamnjnhlaaGreatDoor

end Go.Proofs.YtplbcbamnjnhlaaGreatDoor
namespace Go.Proofs.YtplbcbamnjnhlaaGreatDoor
open Go.RowKit

theorem keyText_len (h : List UInt8) (k : Int) (hh : h.length = 32) (hk : kOk k = true) : (keyText h k).length = 66 := by
  unfold keyText
  rw [if_pos hk, List.length_append, hexOf_length, hh]
  rfl
theorem keyText_ne (h : List UInt8) (k : Int) : keyText h k = [] ↔ kOk k = false := by
  unfold keyText
  cases kOk k <;> simp
theorem keyOf_text (h : List UInt8) (k : Int) (hh : h.length = 32) : keyOf (keyText h k) = if kOk k then some (h, k) else none := by
  rw [keyOf_eq]
  cases hk : kOk k
  · rw [(keyText_ne h k).2 hk]
    rfl
  · have hl : (hexOf h).length = 64 := by rw [hexOf_length, hh]
    have hb : 1 ≤ k ∧ k ≤ 4 := by unfold kOk at hk; simpa using hk
    have ht : keyText h k = hexOf h ++ [45, UInt8.ofNat (48 + k.toNat)] := by unfold keyText; rw [if_pos hk]
    have h64 : (keyText h k).getD 64 0 = 45 := by
      rw [ht, List.getD_eq_getElem?_getD, List.getElem?_append_right (by omega), hl]
      rfl
    have h65 : (keyText h k).getD 65 0 = UInt8.ofNat (48 + k.toNat) := by
      rw [ht, List.getD_eq_getElem?_getD, List.getElem?_append_right (by omega), hl]
      rfl
    have hn : (UInt8.ofNat (48 + k.toNat)).toNat = 48 + k.toNat := by rw [UInt8.toNat_ofNat']; omega
    have htk : (keyText h k).take 64 = hexOf h := by rw [ht, List.take_append_of_le_length (by omega), List.take_of_length_le (by omega)]
    unfold parse17
    rw [h64, h65, htk, hn, unhex_hexOf, keyText_len h k hh hk, if_pos ⟨rfl, rfl, by omega, by omega⟩, if_pos rfl]
    simp only [Option.map_some]
    congr 2
    omega
end Go.Proofs.YtplbcbamnjnhlaaGreatDoor
namespace Go.Proofs.YtplbcbamnjnhlaaGreatDoor
open Go.RowKit

section
variable {P : Program} {ops : Array Oper} {Q : Exit → Act → World → Prop} {a : Act} {w : World} {rest : List Oper} {o : Oper}
theorem wpList_gd {b : Bool} {v : Value} (hw : Region.wanted o (yielded ops a.tmps) = b) (hrun : b = true → (execOp a.eval o).run P w = .ok (.value v) w) (h : wpList P ops Q rest (a.put o.dst (if b then v else undef)) w) :
    wpList P ops Q (o :: rest) a w := by
  cases b
  · exact wpList_skip hw (by simpa using h)
  · refine wpList_want hw fun K hK => ?_
    unfold Oper.wp
    rw [hrun rfl]
    exact hK _ _ (by simpa using h)
theorem wpList_nil (h : Q .normal a w) : wpList P ops Q [] a w := by simpa [wpList] using h
theorem wpList_valG (hw : Region.wanted o (yielded ops a.tmps) = true) {v : Value} (hrun : (execOp a.eval o).run P w = .ok (.value v) w) (h : wpList P ops Q rest (a.put o.dst v) w) : wpList P ops Q (o :: rest) a w := by
  refine wpList_want hw fun K hK => ?_
  unfold Oper.wp
  rw [hrun]
  exact hK _ _ h
theorem load_int {ty : TypeId} {k : IntKind} {p : Addr} {z : Int} (hu : P.underlying ty = some (.int k)) (hc : w.cell? p = some (.int k z)) : (Instr.loadAt ty (.pointer (some p))).run P w = .ok (.int k z) w := by
  have hagg : (isAgg ty).run P w = .ok false w := by
    unfold isAgg
    rw [Sem.run_bind, run_underlying hu w]
    rfl
  simp [Instr.loadAt, Instr.sureAddr, loadVar, Sem.run_bind, hagg, hc]
theorem exec_load {ty : TypeId} {x : Operand} {v p : Value} (ho : o.op = .load ty x) (hx : a.eval x = p) (h : (Instr.loadAt ty p).run P w = .ok v w) : (execOp a.eval o).run P w = .ok (.value v) w := by
  unfold execOp
  simp only [ho, hx, Sem.run_bind, h, Result.andThen_ok, Sem.run_pure]
end
section
variable {P : Program} {ops : Array Oper} {w0 : World} {G : List Nat}
theorem wpT_seg {Q : Act → World → Prop} (n : Nat) {k : Nat} {l : List Oper} {a : Act} {w : World} (hG : (List.range' k n).all (fun i => !G.contains i) = true)
    (h : ∀ Q' : Exit → Act → World → Prop, (∀ a w, Stop (Text.wpS P ops w0 G Q (k + n) (l.drop n) a w) → Q' .normal a w) → wpList P ops Q' (l.take n) a w) : Stop (Text.wpS P ops w0 G Q k l a w) :=
  ⟨Text.wpS_seg n k l a w hG fun Q' hQ' => h Q' fun a w hh => hQ' a w hh.out⟩
theorem wpT_one {Q : Act → World → Prop} {k : Nat} {o : Oper} {r : List Oper} {a : Act} {w : World}
    (h : ∀ Q' : Exit → Act → World → Prop, (∀ a' w', Below w0.heap.size w0 w' ∧ Stop (Text.wpS P ops w0 G Q (k + 1) r a' w') → Q' .normal a' w') → wpList P ops Q' [o] a w) : Stop (Text.wpS P ops w0 G Q k (o :: r) a w) :=
  ⟨Text.wpS_one fun Q' hQ' => h Q' fun a w hh => hQ' a w ⟨hh.1, hh.2.out⟩⟩
theorem wpT_skip {Q : Act → World → Prop} {k : Nat} {o : Oper} {r : List Oper} {a : Act} {w : World} (hg : Region.wanted o (yielded ops a.tmps) = false) (h : Stop (Text.wpS P ops w0 G Q (k + 1) r (a.put o.dst undef) w)) : Stop (Text.wpS P ops w0 G Q k (o :: r) a w) :=
  ⟨Text.wpS_skip hg h.out⟩
theorem wpT_end {Q : Act → World → Prop} {k : Nat} {a : Act} {w : World} (h : Q a w) : Stop (Text.wpS P ops w0 G Q k [] a w) := ⟨h⟩
theorem wpT_grow {id : Nat} {Q : Exit → Act → World → Prop} {a : Act} {w : World} {l : List Oper} (G LD ex : List Nat) (hm : P.follows .mixedOrders = true) (hB : Text.growB P l.toArray G LD ex = true)
    (h : Stop (Text.wpS P l.toArray w.drew G (fun a' w' => Text.chk l.toArray ex a' = true ∧ Text.oldAll P l.toArray w.drew a' LD ∧ Q .normal a' w') 0 l a w.drew)) : (Code.region id l.toArray true).wp P Q a w :=
  Text.wp_grow G LD ex hm hB h.out
end
end Go.Proofs.YtplbcbamnjnhlaaGreatDoor
namespace Go.Proofs.YtplbcbamnjnhlaaGreatDoor
open Go.RowKit

set_option maxRecDepth 100000 in
theorem keyed_any (h : List UInt8) (k : Int) (w : World) (hh : h.length = 32) :
    Calls Tryz.prog 106 #[hkv h k] w fun e w' => e = .returned (.bool (kOk k)) ∧ Below w.heap.size w w' := by
  have HH := Lib.hid hh
  clear hh
  obtain ⟨S, hS⟩ : ∃ S : ByteArray, S = ⟨(keyText h k).toArray⟩ := ⟨_, rfl⟩
  have hz : S.toList.isEmpty = !kOk k := by
    rw [hS]
    have := keyText_ne h k
    cases hk : kOk k <;> rw [hk] at this <;> simpa using this
  have HS := Lib.hid hS
  clear hS
  have HB := Lib.hid ((Below.refl _ _).alloc (Nat.le_refl _) (.cells (hkCells h k).toArray 34) : Below w.heap.size w _)
  have HG := Lib.hid (Go.heap_alloc_new w (.cells (hkCells h k).toArray 34))
  go_enter Tryz.func106, Tryz.ntmps106
  go_wp2_with (refine stop_at (some 1) rfl ?_)
  refine Stop.go (wpList_box rfl _ rfl rfl (hkv_cells h k) ?_)
  generalize w.alloc (.cells (hkCells h k).toArray 34) = w1 at *
  go_wp2_with (refine stop_at (some 3) rfl ?_)
  refine Stop.go (wpList_load_agg rfl 34 rfl rfl keyTy.ut rfl (key_size h k HH.out) (row_cells HG.out) ?_)
  go_wp2_with (go_at_call 105; refine (text_any h k _ HH.out).mono ?_; rw [← HS.out]; rintro e w2 ⟨rfl, hb2⟩)
  go_ret
  exact ⟨rt1 (vbool (by simp)), HB.out.trans (hb2.mono HB.out.size)⟩
def stepOk (xs : List KeyD) (i : Nat) : Bool := kOk (xs.getD i (z32, 0)).2 && (i == 0 || keyLess (xs.getD (i - 1) (z32, 0)).1 (xs.getD (i - 1) (z32, 0)).2 (xs.getD i (z32, 0)).1 (xs.getD i (z32, 0)).2)
def stepsOk (xs : List KeyD) (i : Nat) : Bool := (List.range i).all (stepOk xs)
def risingB (xs : List KeyD) : Bool := stepsOk xs xs.length && decide (1 ≤ xs.length ∧ xs.length ≤ 256)
theorem stepsOk_succ (xs : List KeyD) (i : Nat) : stepsOk xs (i + 1) = (stepsOk xs i && stepOk xs i) := by
  unfold stepsOk
  rw [List.range_succ, List.all_append]
  simp
theorem stepsOk_no (xs : List KeyD) (i n : Nat) (hi : i < n) (h : stepOk xs i = false) : stepsOk xs n = false := by
  unfold stepsOk
  rw [List.all_eq_false]
  exact ⟨i, List.mem_range.2 hi, by simp [h]⟩
theorem getD_at (xs : List KeyD) (i : Nat) (h : i < xs.length) : xs.getD i (z32, 0) = xs[i] := by rw [List.getD_eq_getElem?_getD, List.getElem?_eq_getElem h]; rfl
theorem stepOk_at (xs : List KeyD) (i : Nat) (h : i < xs.length) : stepOk xs i = (kOk xs[i].2 && (i == 0 || keyLess xs[i - 1].1 xs[i - 1].2 xs[i].1 xs[i].2)) := by
  unfold stepOk
  rw [getD_at xs i h, getD_at xs (i - 1) (by omega)]
set_option maxRecDepth 100000 in
set_option maxHeartbeats 1000000 in
theorem rising_any (A : Option Addr) (c B n : Nat) (xs : List KeyD) (w : World) (h1 : SlR eKey w B (.slice A n c) xs) (hB : B ≤ w.heap.size) :
    Calls Tryz.prog 107 #[.slice A n c] w fun e w' => e = .returned (.bool (risingB xs)) ∧ Below w.heap.size w w' := by
  have N1 := Lib.hid h1.n_eq
  have hc1 := h1.n_le
  have H1 := Lib.hid h1
  have HBW := Lib.hid hB
  clear h1 hB
  go_enter Tryz.func107, Tryz.ntmps107
  go_wp2_with fail
  go_loopw [7] (fun v7 wr => ∃ i : Nat, i ≤ n ∧ v7 = .int .i64 i ∧ Hid (stepsOk xs i = true) ∧ Hid (Below w.heap.size w wr)) (fun v7 _ => n - (intOf v7).toNat)
  case atStart => exact ⟨0, by omega, rfl, rfl, Below.refl _ _⟩
  case round =>
    obtain ⟨i, hi, rfl, HP, HB⟩ := hrel
    by_cases hlt : i < n
    · have hlt1 : i < xs.length := by have := N1.out; omega
      have HR := Lib.hid (H1.out.below (HB.out.mono HBW.out))
      obtain ⟨b1, o1, rfl, _, hb1, l1, e1⟩ := keys_at HR.out hlt1
      obtain ⟨x1, x2, hx⟩ : ∃ x1 x2, xs[i] = (x1, x2) := ⟨_, _, rfl⟩
      rw [hx] at l1 e1
      simp only at l1 e1
      have HX := Lib.hid hx
      have E1 := Lib.hid e1
      have L1 := Lib.hid l1
      clear e1 hx l1
      go_wp2_with (refine stop_at (some 10) rfl ?_)
      refine Stop.go (wpList_seg 1 _ _ _ (fun Q' hQ' => ?_))
      simp only [List.take_succ_cons, List.take_zero]
      go_wp2_with fail
      try simp only [List.drop_succ_cons, List.drop_zero]
      refine Stop.go (wpList_load_agg rfl 34 rfl rfl keyTy.ut rfl (key_size x1 x2 L1.out) E1.out ?_)
      refine wpList_alloc rfl 34 rfl zero_key rfl ?_
      refine wpList_seg 1 _ _ _ (fun Q' hQ' => ?_)
      simp only [List.take_succ_cons, List.take_zero]
      go_wp2_with fail
      try simp only [List.drop_succ_cons, List.drop_zero]
      refine Stop.go (wpList_store_agg rfl 34 rfl rfl rfl (store_new2 (g := wr.heap.size) rfl (hkv_cells _ _) (key_size _ _ L1.out) (by rw [List.size_toArray, hkCells_length, hkCells_length, L1.out]; rfl) (hkCells_one _ _)) ?_)
      have hb2 : Below wr.heap.size wr (wr.alloc (.cells (hkCells x1 x2).toArray 34)) := (Below.refl _ _).alloc (Nat.le_refl _) _
      have HG := Lib.hid (Go.heap_alloc_new wr (.cells (hkCells x1 x2).toArray 34))
      have HB2 := Lib.hid (HB.out.trans (hb2.mono HB.out.size))
      have HR2 := Lib.hid (H1.out.below (HB2.out.mono HBW.out))
      have HLT := Lib.hid (Nat.lt_of_lt_of_le hb1 (Nat.le_trans HBW.out HB.out.size))
      clear hb2 E1 HR hb1
      generalize wr.alloc (.cells (hkCells x1 x2).toArray 34) = w2 at *
      generalize wr.heap.size = m2 at *
      go_wp2_with fail
      refine wpT_grow [1, 13] [0, 11, 12] [] (by kernel_rfl) (by kernel_rfl) ?_
      refine wpT_seg 1 (by decide) (fun Q' hQ' => ?_)
      simp only [List.take_succ_cons, List.take_zero]
      refine wpList_load_agg rfl 34 rfl rfl keyTy.ut rfl (key_size x1 x2 L1.out) (row_cells HG.out) ?_
      refine hQ' _ _ ?_
      simp only [List.drop_succ_cons, List.drop_zero]
      generalize hac : Act.put _ _ _ = a9
      simp [Act.put] at hac
      subst hac
      refine wpT_one (fun Q1 hQ1 => ?_)
      go_wp2_with fail
      refine (keyed_any x1 x2 _ L1.out).mono ?_
      rintro e w3 ⟨rfl, hb3⟩
      have HB3 := Lib.hid hb3
      clear hb3
      cases hk : kOk x2
      · have HF := Lib.hid (show risingB xs = false by unfold risingB; rw [stepsOk_no xs i xs.length hlt1 (by rw [stepOk_at xs i hlt1, HX.out]; simp [hk])]; rfl)
        clear hk
        go_wp2_with fail
        refine ⟨HB3.out, ?_⟩
        refine wpT_seg 11 (by decide) (fun Q2 hQ2 => ?_)
        simp only [List.take_succ_cons, List.take_zero]
        go_wp2_with fail
        try simp only [List.drop_succ_cons, List.drop_zero]
        refine wpT_one (fun Q3 hQ3 => ?_)
        go_wp2_with fail
        refine ⟨HB3.out, ?_⟩
        refine wpT_seg 3 (by decide) (fun Q2 hQ2 => ?_)
        simp only [List.take_succ_cons, List.take_zero]
        go_wp2_with fail
        try simp only [List.drop_succ_cons, List.drop_zero]
        refine wpT_end ⟨by rfl, ⟨(fun _ => ⟨_, _, rfl, row_cells HG.out 0 _ (List.getElem?_eq_getElem (by rw [hkCells_length]; omega))⟩), Text.no_want rfl, Text.no_want rfl, trivial⟩, ?_⟩
        go_wp2_with fail
        go_ret
        exact ⟨rt1 (vbool HF.out.symm), HB2.out.trans ((below_drew HB3.out).mono HB2.out.size)⟩
      · have HRT := Lib.hid (HR2.out.below (show Below B w2 w3 from (below_drew HB3.out).mono (Nat.le_trans HBW.out HB2.out.size)))
        have HBT := Lib.hid (HB2.out.trans ((below_drew HB3.out).mono HB2.out.size))
        by_cases hi0 : i = 0
        · subst hi0
          have HS1 := Lib.hid (show stepsOk xs (0 + 1) = true by rw [stepsOk_succ, HP.out, stepOk_at xs 0 hlt1, HX.out]; simp [hk])
          clear hk
          go_wp2_with fail
          refine ⟨HB3.out, ?_⟩
          refine wpT_seg 11 (by decide) (fun Q2 hQ2 => ?_)
          simp only [List.take_succ_cons, List.take_zero]
          go_wp2_with fail
          try simp only [List.drop_succ_cons, List.drop_zero]
          refine wpT_one (fun Q3 hQ3 => ?_)
          go_wp2_with fail
          refine ⟨HB3.out, ?_⟩
          refine wpT_seg 3 (by decide) (fun Q2 hQ2 => ?_)
          simp only [List.take_succ_cons, List.take_zero]
          go_wp2_with fail
          try simp only [List.drop_succ_cons, List.drop_zero]
          refine wpT_end ⟨by rfl, ⟨(fun _ => ⟨_, _, rfl, row_cells HG.out 0 _ (List.getElem?_eq_getElem (by rw [hkCells_length]; omega))⟩), Text.no_want rfl, Text.no_want rfl, trivial⟩, ?_⟩
          go_wp2_with fail
          refine ⟨⟨1, by omega, rfl, HS1, HBT⟩, ?_⟩
          simp [intOf]; omega
        · obtain ⟨j, rfl⟩ : ∃ j, i = j + 1 := ⟨i - 1, by omega⟩
          have hj : j < xs.length := by omega
          obtain ⟨b2, o2, hA2, _, hb2, l2, e2⟩ := keys_at HR2.out hj
          injection hA2 with hA2
          injection hA2 with hA2 hA3
          subst hA2 hA3
          obtain ⟨y1, y2, hy⟩ : ∃ y1 y2, xs[j] = (y1, y2) := ⟨_, _, rfl⟩
          rw [hy] at l2 e2
          simp only at l2 e2
          have HY := Lib.hid hy
          have E2 := Lib.hid e2
          have L2 := Lib.hid l2
          have E3 := Lib.hid (fun (q : Nat) (u : Value) (hu : (hkCells y1 y2)[q]? = some u) => ((below_drew HB3.out).cell (p := ⟨b1, o1 + j * 33 + q, none⟩) (Nat.lt_of_lt_of_le hb2 (Nat.le_trans HBW.out HB2.out.size))).trans (e2 q u hu))
          have HG3 := Lib.hid (((below_drew HB3.out).block _ (Array.getElem?_eq_some_iff.1 HG.out).1).trans HG.out)
          clear e2 hy l2 hi0
          have HST := Lib.hid (show stepsOk xs (j + 1 + 1) = keyLess y1 y2 x1 x2 by rw [stepsOk_succ, HP.out, stepOk_at xs (j + 1) hlt1, HX.out]; simp only [Nat.add_sub_cancel, HY.out, hk]; simp)
          have HNO := Lib.hid (show keyLess y1 y2 x1 x2 = false → risingB xs = false from fun hL => by unfold risingB; rw [stepsOk_no xs (j + 1) xs.length hlt1 (by rw [stepOk_at xs (j + 1) hlt1, HX.out]; simp only [Nat.add_sub_cancel, HY.out, hL]; simp)]; rfl)
          clear hk
          obtain ⟨Lb, hLb⟩ : ∃ Lb, Lb = keyLess y1 y2 x1 x2 := ⟨_, rfl⟩
          rw [← hLb] at HST HNO
          have HLB := Lib.hid hLb
          clear hLb
          go_wp2_with fail
          refine ⟨HB3.out, ?_⟩
          refine wpT_seg 9 (by decide) (fun Q2 hQ2 => ?_)
          simp only [List.take_succ_cons, List.take_zero]
          go_wp2_with fail
          try simp only [List.drop_succ_cons, List.drop_zero]
          refine wpT_seg 2 (by decide) (fun Q2 hQ2 => ?_)
          simp only [List.take_succ_cons, List.take_zero]
          refine wpList_load_aggG (by rfl) 34 rfl rfl keyTy.ut rfl (key_size y1 y2 L2.out) E3.out ?_
          refine wpList_load_aggG (by rfl) 34 rfl rfl keyTy.ut rfl (key_size x1 x2 L1.out) (row_cells HG3.out) ?_
          refine hQ2 _ _ ?_
          simp only [List.drop_succ_cons, List.drop_zero]
          generalize hac : Act.put _ _ _ = a9
          simp [Act.put] at hac
          subst hac
          refine wpT_one (fun Q3 hQ3 => ?_)
          go_wp2_with fail
          refine (keyLess_any y1 x1 y2 x2 _ L2.out L1.out).mono ?_
          rw [← HLB.out]
          rintro e w4 ⟨rfl, hb4⟩
          have HB4 := Lib.hid (HB3.out.trans (hb4.mono HB3.out.size))
          clear hb4
          cases Lb
          · have HF := Lib.hid (HNO.out rfl)
            go_wp2_with fail
            refine ⟨HB4.out, ?_⟩
            refine wpT_seg 3 (by decide) (fun Q2 hQ2 => ?_)
            simp only [List.take_succ_cons, List.take_zero]
            go_wp2_with fail
            try simp only [List.drop_succ_cons, List.drop_zero]
            refine wpT_end ⟨by rfl, ⟨(fun _ => ⟨_, _, rfl, row_cells HG.out 0 _ (List.getElem?_eq_getElem (by rw [hkCells_length]; omega))⟩), (fun _ => ⟨_, _, rfl, E2.out 0 _ (List.getElem?_eq_getElem (by rw [hkCells_length]; omega))⟩), (fun _ => ⟨_, _, rfl, row_cells HG.out 0 _ (List.getElem?_eq_getElem (by rw [hkCells_length]; omega))⟩), trivial⟩, ?_⟩
            go_wp2_with fail
            go_ret
            exact ⟨rt1 (vbool HF.out.symm), HB2.out.trans ((below_drew HB4.out).mono HB2.out.size)⟩
          · have HBT4 := Lib.hid (HB2.out.trans ((below_drew HB4.out).mono HB2.out.size))
            go_wp2_with fail
            refine ⟨HB4.out, ?_⟩
            refine wpT_seg 3 (by decide) (fun Q2 hQ2 => ?_)
            simp only [List.take_succ_cons, List.take_zero]
            go_wp2_with fail
            try simp only [List.drop_succ_cons, List.drop_zero]
            refine wpT_end ⟨by rfl, ⟨(fun _ => ⟨_, _, rfl, row_cells HG.out 0 _ (List.getElem?_eq_getElem (by rw [hkCells_length]; omega))⟩), (fun _ => ⟨_, _, rfl, E2.out 0 _ (List.getElem?_eq_getElem (by rw [hkCells_length]; omega))⟩), (fun _ => ⟨_, _, rfl, row_cells HG.out 0 _ (List.getElem?_eq_getElem (by rw [hkCells_length]; omega))⟩), trivial⟩, ?_⟩
            go_wp2_with fail
            refine ⟨⟨j + 1 + 1, by omega, by simp, HST, HBT4⟩, ?_⟩
            simp [intOf]; omega
    · obtain rfl : i = n := by omega
      have HS := Lib.hid (show stepsOk xs xs.length = true by have := HP.out; rwa [N1.out] at this)
      have HZ := Lib.hid (show risingB xs = decide (1 ≤ i ∧ i ≤ 256) by unfold risingB; rw [HS.out, N1.out]; simp)
      by_cases h1 : 1 ≤ i
      · by_cases h2 : i ≤ 256
        · have HF := Lib.hid (show risingB xs = true by rw [HZ.out]; exact decide_eq_true ⟨h1, h2⟩)
          go_wp2_with fail
          go_ret
          exact ⟨rt1 (vbool (by rw [HF.out]; exact decide_eq_true (by omega))), HB.out⟩
        · have HF := Lib.hid (show risingB xs = false by rw [HZ.out]; exact decide_eq_false (fun h => h2 h.2))
          go_wp2_with fail
          go_ret
          exact ⟨rt1 (vbool (by rw [HF.out]; exact decide_eq_false (by omega))), HB.out⟩
      · have HF := Lib.hid (show risingB xs = false by rw [HZ.out]; exact decide_eq_false (fun h => h1 h.1))
        go_wp2_with fail
        go_ret
        exact ⟨rt1 (vbool HF.out.symm), HB.out⟩
end Go.Proofs.YtplbcbamnjnhlaaGreatDoor
