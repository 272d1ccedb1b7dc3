/- Texts of this proof joined: RecD, RecSame, HexVal, HexParse, Cut, KeyParse, KeyLaw, HexPure, AtoiDec. -/
import Derived.Test.YtplbcbamnjnhlaaDoorMP11
import Derived.Test.YtplbcbamnjnhlaaDoorMP12
import Derived.Test.YtplbcbamnjnhlaaDoorMP13
import Derived.Test.YtplbcbamnjnhlaaDoorMP06
import Derived.Test.YtplbcbamnjnhlaaDoorChecked
import Derived.Test.YtplbcbamnjnhlaaDoorMP04
import Derived.Test.YtplbcbamnjnhlaaDoorMP05
import Derived.Lib.Bytealg
import Derived.Lib.IndexLaws
import Derived.Deep.QuietTactic
import Derived.BigQuiet
import Derived.Laws.ResultCell
import Derived.Lib.AtoiTie
import Derived.Lib.ItoaNum
import Derived.Lib.ItoaMem
import Derived.Lib.ItoaLen
/- Records as data; keys' slices; slices.Equal at keys. -/
namespace Go.Proofs.YtplbcbamnjnhlaaDoor
open Go.RowKit

abbrev KeyD := List UInt8 × Int
theorem eKey_size : eKey.size = 33 := rfl
/-- a record -/
structure RecD where
  kind : Int
  seq : Int
  kh : List UInt8
  kk : Int
  mh : List UInt8
  ms : Int
  keys : List KeyD
def eRec : Elt RecD where
  size := 69
  rep := fun w B cs r => ∃ v, cs = recCells r.kind r.seq r.kh r.kk r.mh r.ms v ∧ r.kh.length = 32 ∧ r.mh.length = 32 ∧ SlR eKey w B v r.keys
  len := fun ⟨v, h, h1, h2, _⟩ => by rw [h, recCells_length, h1, h2]
  keep := fun ⟨v, h, h1, h2, h3⟩ hk => ⟨v, h, h1, h2, h3.keep hk⟩
  more := fun ⟨v, h, h1, h2, h3⟩ hB => ⟨v, h, h1, h2, h3.more hB⟩
  one := fun ⟨v, h, h1, h2, h3⟩ u hu => by
    obtain ⟨A, c, rfl, _⟩ := h3.form
    rw [h] at hu
    exact recCells_one _ _ _ _ _ _ _ _ _ u hu
/-- key k of a slice of keys: where it lies -/
theorem keys_at {w : World} {B : Nat} {A : Option Addr} {n c : Nat} {xs : List KeyD} (h : SlR eKey w B (.slice A n c) xs) {k : Nat} (hk : k < xs.length) :
    ∃ b off, A = some ⟨b, off, none⟩ ∧ n ≤ c ∧ b < B ∧ xs[k].1.length = 32 ∧ ∀ j u, (hkCells xs[k].1 xs[k].2)[j]? = some u → w.cell? ⟨b, off + k * 33 + j, none⟩ = some u := by
  obtain ⟨b, off, cs, h1, h2, h3, h4, h5⟩ := h.get hk (by rw [eKey_size]; omega)
  obtain ⟨rfl, h6, _, _⟩ := eKey_rep h4
  exact ⟨b, off, h1, h2, h3, h6, fun j u hu => by have := h5 j u hu; rwa [eKey_size, ← Nat.add_assoc] at this⟩
theorem take_eq_succ {α : Type} {xs ys : List α} {i : Nat} (h : xs.take i = ys.take i) (hx : i < xs.length) (hy : i < ys.length) (he : xs[i] = ys[i]) : xs.take (i + 1) = ys.take (i + 1) := by
  rw [List.take_succ_eq_append_getElem hx, List.take_succ_eq_append_getElem hy, h, he]
set_option maxRecDepth 100000 in
set_option maxHeartbeats 1000000 in
theorem keysEq_any (A1 A2 : Option Addr) (c1 c2 B1 B2 n1 n2 : Nat) (xs ys : List KeyD) (w : World) (h1 : SlR eKey w B1 (.slice A1 n1 c1) xs) (h2 : SlR eKey w B2 (.slice A2 n2 c2) ys) :
    Calls Tryd.prog 60 #[.slice A1 n1 c1, .slice A2 n2 c2] w fun e w' => e = .returned (.bool (decide (xs = ys))) ∧ Below w.heap.size w w' := by
  have N1 := Lib.hid h1.n_eq
  have N2 := Lib.hid h2.n_eq
  have hc1 := h1.n_le
  have hc2 := h2.n_le
  have H1 := Lib.hid h1
  have H2 := Lib.hid h2
  clear h1 h2
  by_cases hl : n1 = n2
  · subst hl
    go_enter Tryd.func60, Tryd.ntmps60
    go_wp2_with fail
    go_loopw [13] (fun v13 wr => ∃ i : Nat, i ≤ n1 ∧ v13 = .int .i64 i ∧ Hid (xs.take i = ys.take i ∧ ∀ p : Addr, wr.cell? p = w.cell? p) ∧ Hid (Below w.heap.size w wr)) (fun v13 _ => n1 - (intOf v13).toNat)
    case atStart => exact ⟨0, by omega, rfl, ⟨by simp, fun _ => rfl⟩, Below.refl _ _⟩
    case round =>
      obtain ⟨i, hi, rfl, HR, HB⟩ := hrel
      by_cases hlt : i < n1
      · have hlt1 : i < xs.length := by have := N1.out; omega
        have hlt2 : i < ys.length := by have := N2.out; omega
        obtain ⟨b1, o1, rfl, _, _, l1, e1⟩ := keys_at H1.out hlt1
        obtain ⟨b2, o2, rfl, _, _, l2, e2⟩ := keys_at H2.out hlt2
        obtain ⟨hpre, hcell⟩ := HR.out
        have HC := Lib.hid hcell
        have HP := Lib.hid hpre
        clear hpre hcell HR
        have E1 := Lib.hid e1
        have E2 := Lib.hid e2
        clear e1 e2
        go_wp2_with fail
        refine Text.wp_text [8] (by kernel_rfl) (by kernel_rfl) (fun Q' hQ' => ?_)
        refine wpList_seg 3 _ _ _ (fun Q' hQ' => ?_)
        simp only [List.take_succ_cons, List.take_zero]
        go_wp2_with fail
        try simp only [List.drop_succ_cons, List.drop_zero]
        refine Stop.go (wpList_load_agg rfl 26 rfl rfl keyTy.ut rfl (key_size _ _ l1) (fun j u hu => (HC.out _).trans (E1.out j u hu)) ?_)
        refine wpList_seg 3 _ _ _ (fun Q' hQ' => ?_)
        simp only [List.take_succ_cons, List.take_zero]
        go_wp2_with fail
        try simp only [List.drop_succ_cons, List.drop_zero]
        refine Stop.go (wpList_load_agg rfl 26 rfl rfl keyTy.ut rfl (key_size _ _ l2) (fun j u hu => (HC.out _).trans (E2.out j u hu)) ?_)
        refine wpList_bin rfl .neq 26 rfl rfl rfl (hkv_guard keyTy.gd ..) (hkv_neq keyTy l1 l2) ?_
        by_cases he : xs[i] = ys[i]
        · rw [show (!(decide (xs[i].1 = ys[i].1) && decide (xs[i].2 = ys[i].2))) = false by rw [he]; simp]
          refine hQ' _ _ ⟨by rfl, ?_⟩
          go_wp2_with fail
          have HP2 := Lib.hid (And.intro (take_eq_succ HP.out hlt1 hlt2 he) (fun p => HC.out p : ∀ p : Addr, wr.drew.cell? p = w.cell? p))
          refine ⟨⟨i + 1, by omega, by simp, HP2, HB.out.drew⟩, ?_⟩
          simp [intOf]; omega
        · rw [show (!(decide (xs[i].1 = ys[i].1) && decide (xs[i].2 = ys[i].2))) = true by
            have : ¬ (xs[i].1 = ys[i].1 ∧ xs[i].2 = ys[i].2) := fun h => he (Prod.ext h.1 h.2)
            by_cases h1 : xs[i].1 = ys[i].1 <;> simp_all]
          refine hQ' _ _ ⟨by rfl, ?_⟩
          go_wp2_with fail
          go_ret
          refine ⟨rt1 (vbool ?_), HB.out.drew⟩
          rw [eq_comm, decide_eq_false_iff_not]
          exact fun h => he (by subst h; rfl)
      · obtain rfl : i = n1 := by omega
        obtain ⟨hpre, hcell⟩ := HR.out
        have HF := Lib.hid (show decide (xs = ys) = true by rw [decide_eq_true_iff]; rwa [List.take_of_length_le (by have := N1.out; omega), List.take_of_length_le (by have := N2.out; omega)] at hpre)
        clear hpre hcell HR
        go_wp2_with fail
        go_ret
        exact ⟨rt1 (vbool HF.out.symm), HB.out⟩
  · have HF := Lib.hid (show decide (xs = ys) = false by rw [decide_eq_false_iff_not]; intro h; exact hl (by rw [N1.out, N2.out, h]))
    go_enter Tryd.func60, Tryd.ntmps60
    go_wp2_with fail
    go_ret
    exact ⟨rt1 (vbool HF.out.symm), Below.refl _ _⟩
end Go.Proofs.YtplbcbamnjnhlaaDoor
/- Contract of rec.Same. -/
namespace Go.Proofs.YtplbcbamnjnhlaaDoor
open Go.RowKit

/-- two records are the same -/
def sameD (a b : RecD) : Bool := decide (a.kind = b.kind) && decide (a.seq = b.seq) && (decide (a.kh = b.kh) && decide (a.kk = b.kk)) && (decide (a.mh = b.mh) && decide (a.ms = b.ms)) && decide (a.keys = b.keys)
abbrev rv (r : RecD) (v : Value) : Value := recv r.kind r.seq r.kh r.kk r.mh r.ms v
/-- a record's hashes have 32 bytes -/
def Hs (r : RecD) : Prop := r.kh.length = 32 ∧ r.mh.length = 32
set_option maxRecDepth 100000 in
set_option maxHeartbeats 1000000 in
theorem same_any (a b : RecD) (A1 A2 : Option Addr) (n1 c1 n2 c2 B1 B2 : Nat) (w : World) (ha : Hs a) (hb : Hs b) (h1 : SlR eKey w B1 (.slice A1 n1 c1) a.keys) (h2 : SlR eKey w B2 (.slice A2 n2 c2) b.keys) (hB1 : B1 ≤ w.heap.size) (hB2 : B2 ≤ w.heap.size) :
    Calls Tryd.prog 41 #[rv a (.slice A1 n1 c1), rv b (.slice A2 n2 c2)] w fun e w' => e = .returned (.bool (sameD a b)) ∧ Below w.heap.size w w' := by
  obtain ⟨a0, a1, a2, a3, a4, a5, a6⟩ := a
  obtain ⟨b0, b1, b2, b3, b4, b5, b6⟩ := b
  obtain ⟨ha1, ha2⟩ := ha
  obtain ⟨hb1, hb2⟩ := hb
  simp only at ha1 ha2 hb1 hb2 h1 h2
  have hbw : Below w.heap.size w ((w.alloc (.cells (recCells a0 a1 a2 a3 a4 a5 (.slice A1 n1 c1)).toArray 31)).alloc (.cells (recCells b0 b1 b2 b3 b4 b5 (.slice A2 n2 c2)).toArray 31)) :=
    ((Below.refl _ _).alloc (Nat.le_refl _) _).alloc (Nat.le_of_lt (by show _ < (Array.push _ _).size; rw [Array.size_push]; exact Nat.lt_succ_self _)) _
  have hr1 : RecAt ((w.alloc (.cells (recCells a0 a1 a2 a3 a4 a5 (.slice A1 n1 c1)).toArray 31)).alloc (.cells (recCells b0 b1 b2 b3 b4 b5 (.slice A2 n2 c2)).toArray 31)) w.heap.size 31 a0 a1 a2 a3 a4 a5 (.slice A1 n1 c1) :=
    (RecAt.new w ha1 ha2).later ((Below.refl _ _).alloc (Nat.le_refl _) _)
  have hr2 := RecAt.new (t := 31) (kind := b0) (seq := b1) (kk := b3) (ms := b5) (v := .slice A2 n2 c2) (w.alloc (.cells (recCells a0 a1 a2 a3 a4 a5 (.slice A1 n1 c1)).toArray 31)) hb1 hb2
  have H1 := Lib.hid (h1.fut hbw hB1 (Nat.le_refl B1))
  have H2 := Lib.hid (h2.fut hbw hB2 (Nat.le_refl B2))
  have HBW := Lib.hid hbw
  clear h1 h2 hbw
  go_enter Tryd.func41, Tryd.ntmps41
  go_wp2_with (refine stop_at (some 2) rfl ?_)
  refine Stop.go (wpList_box rfl _ rfl rfl rfl (wpList_box rfl _ rfl rfl rfl ?_))
  rw [show (w.alloc (.cells (recCells a0 a1 a2 a3 a4 a5 (.slice A1 n1 c1)).toArray 31)).heap.size = w.heap.size + 1 from Array.size_push _] at hr2 ⊢
  generalize (w.alloc (.cells (recCells a0 a1 a2 a3 a4 a5 (.slice A1 n1 c1)).toArray 31)).alloc (.cells (recCells b0 b1 b2 b3 b4 b5 (.slice A2 n2 c2)).toArray 31) = w1 at *
  have c0 := hr1.kind_
  have c1' := hr1.seq_
  have c2' := hr1.keys_
  have d0 := hr2.kind_
  have d1 := hr2.seq_
  have d2 := hr2.keys_
  have HR1 := Lib.hid hr1
  have HR2 := Lib.hid hr2
  clear hr1 hr2
  by_cases e0 : a0 = b0
  · by_cases e1 : a1 = b1
    · subst e0 e1
      go_wp2_with (refine stop_at (some 5) rfl ?_)
      refine Stop.go (wpList_seg 14 _ _ _ (fun Q' hQ' => ?_))
      simp only [List.take_succ_cons, List.take_zero]
      go_wp2_with fail
      try simp only [List.drop_succ_cons, List.drop_zero]
      refine Stop.go (wpList_load_aggG (by rfl) 26 rfl rfl keyTy.ut rfl (key_size _ _ ha1) HR1.out.key_ ?_)
      refine wpList_seg 1 _ _ _ (fun Q' hQ' => ?_)
      simp only [List.take_succ_cons, List.take_zero]
      go_wp2_with fail
      try simp only [List.drop_succ_cons, List.drop_zero]
      refine Stop.go (wpList_load_aggG (by rfl) 26 rfl rfl keyTy.ut rfl (key_size _ _ hb1) HR2.out.key_ ?_)
      refine wpList_binG (by rfl) .eql 26 rfl rfl rfl (hkv_guard keyTy.gd ..) (hkv_eql keyTy ha1 hb1) ?_
      cases ek : (decide (a2 = b2) && decide (a3 = b3))
      · have HF := Lib.hid (show sameD ⟨a0, a1, a2, a3, a4, a5, a6⟩ ⟨a0, a1, b2, b3, b4, b5, b6⟩ = false by unfold sameD; simp only [ek]; simp)
        go_wp2_with fail
        go_ret
        exact ⟨rt1 (vbool HF.out.symm), HBW.out⟩
      · refine wpList_seg 3 _ _ _ (fun Q' hQ' => ?_)
        simp only [List.take_succ_cons, List.take_zero]
        go_wp2_with fail
        try simp only [List.drop_succ_cons, List.drop_zero]
        refine Stop.go (wpList_load_aggG (by rfl) 28 rfl rfl markTy.ut rfl (mark_size _ _ ha2) HR1.out.mark_ ?_)
        refine wpList_seg 1 _ _ _ (fun Q' hQ' => ?_)
        simp only [List.take_succ_cons, List.take_zero]
        go_wp2_with fail
        try simp only [List.drop_succ_cons, List.drop_zero]
        refine Stop.go (wpList_load_aggG (by rfl) 28 rfl rfl markTy.ut rfl (mark_size _ _ hb2) HR2.out.mark_ ?_)
        refine wpList_binG (by rfl) .eql 28 rfl rfl rfl (hkv_guard markTy.gd ..) (hkv_eql markTy ha2 hb2) ?_
        cases em : (decide (a4 = b4) && decide (a5 = b5))
        · have HF := Lib.hid (show sameD ⟨a0, a1, a2, a3, a4, a5, a6⟩ ⟨a0, a1, b2, b3, b4, b5, b6⟩ = false by unfold sameD; simp only [ek, em]; simp)
          go_wp2_with fail
          go_ret
          exact ⟨rt1 (vbool HF.out.symm), HBW.out⟩
        · have HF := Lib.hid (show sameD ⟨a0, a1, a2, a3, a4, a5, a6⟩ ⟨a0, a1, b2, b3, b4, b5, b6⟩ = decide (a6 = b6) by unfold sameD; simp only [ek, em]; simp)
          go_wp2_with (go_at_call 60; refine (keysEq_any A1 A2 c1 c2 B1 B2 n1 n2 a6 b6 _ H1.out H2.out).mono ?_; rintro e w3 ⟨rfl, hb3⟩)
          go_ret
          exact ⟨rt1 (vbool HF.out.symm), HBW.out.trans (hb3.mono HBW.out.size)⟩
    · have HF := Lib.hid (show sameD ⟨a0, a1, a2, a3, a4, a5, a6⟩ ⟨b0, b1, b2, b3, b4, b5, b6⟩ = false by unfold sameD; simp [e1])
      have e1' : (a1 == b1) = false := by rw [beq_eq_false_iff_ne]; exact e1
      subst e0
      clear e1
      go_wp2_with fail
      go_ret
      exact ⟨rt1 (vbool HF.out.symm), HBW.out⟩
  · have HF := Lib.hid (show sameD ⟨a0, a1, a2, a3, a4, a5, a6⟩ ⟨b0, b1, b2, b3, b4, b5, b6⟩ = false by unfold sameD; simp [e0])
    have e0' : (a0 == b0) = false := by rw [beq_eq_false_iff_ne]; exact e0
    clear e0
    go_wp2_with fail
    go_ret
    exact ⟨rt1 (vbool HF.out.symm), HBW.out⟩
end Go.Proofs.YtplbcbamnjnhlaaDoor
/- Contract of hex.value, for every byte and every world. -/
namespace Go.Proofs.YtplbcbamnjnhlaaDoor
open Go.RowKit

def digValB (c : Int) : Bool := decide (48 ≤ c ∧ c ≤ 57) || decide (97 ≤ c ∧ c ≤ 102)
def digValN (c : Int) : Int := if 48 ≤ c ∧ c ≤ 57 then c - 48 else if 97 ≤ c ∧ c ≤ 102 then c - 87 else 0

theorem digVal_hit (k : Nat) (hk : k < 16) : digValB (digAt k) = true ∧ digValN (digAt k) = k := by
  unfold digValB digValN digAt
  split
  · exact ⟨by simp; omega, by rw [if_pos (by omega)]; omega⟩
  · exact ⟨by simp; omega, by rw [if_neg (by omega), if_pos (by omega)]; omega⟩
theorem digVal_miss (c : Int) (h : ∀ k : Nat, k < 16 → digAt k ≠ c) : digValB c = false ∧ digValN c = 0 := by
  have h1 : ¬ (48 ≤ c ∧ c ≤ 57) := fun hc => h (c - 48).toNat (by omega) (by unfold digAt; split <;> omega)
  have h2 : ¬ (97 ≤ c ∧ c ≤ 102) := fun hc => h (c - 87).toNat (by omega) (by unfold digAt; split <;> omega)
  unfold digValB digValN
  rw [if_neg h1, if_neg h2]
  simp [h1, h2]

end Go.Proofs.YtplbcbamnjnhlaaDoor
/- Contracts of hex.Parse and hex.Is, for any string and every world. -/
namespace Go.Proofs.YtplbcbamnjnhlaaDoor
open Go.RowKit

def dB (b : UInt8) : Bool := digValB b.toNat
def dN (b : UInt8) : Nat := (digValN b.toNat).toNat
/-- the bytes whose digits a text is -/
def unhex : List UInt8 → Option (List UInt8)
  | [] => some []
  | [_] => none
  | a :: b :: r => if dB a && dB b then (unhex r).map (fun t => UInt8.ofNat (16 * dN a + dN b) :: t) else none

theorem digValN_bd (c : Int) : 0 ≤ digValN c ∧ digValN c < 16 := by unfold digValN; split; omega; split <;> omega
theorem or_nibble (a b : Int) (ha : 0 ≤ a ∧ a < 16) (hb : 0 ≤ b ∧ b < 16) : bits .or .u8 ((a * 16)) b = 16 * a + b := by
  obtain ⟨x, rfl⟩ := Int.eq_ofNat_of_zero_le ha.1
  obtain ⟨y, rfl⟩ := Int.eq_ofNat_of_zero_le hb.1
  have hx : x < 16 := by omega
  have hy : y < 16 := by omega
  have h : ∀ (u v : Fin 16), bits .or .u8 (((u.val : Int) * 16)) (v.val : Int) = 16 * (u.val : Int) + v.val := by decide +kernel
  exact h ⟨x, hx⟩ ⟨y, hy⟩
theorem unhex_step (l : List UInt8) (k : Nat) (h : 2 * k + 1 < l.length) :
    unhex (l.drop (2 * k)) = if dB (l[2 * k]) && dB (l[2 * k + 1]) then (unhex (l.drop (2 * (k + 1)))).map (fun t => UInt8.ofNat (16 * dN l[2 * k] + dN l[2 * k + 1]) :: t) else none := by
  rw [List.drop_eq_getElem_cons (by omega), List.drop_eq_getElem_cons (i := 2 * k + 1) (by omega), unhex]
  rfl
theorem unhex_odd : ∀ (l : List UInt8), l.length % 2 ≠ 0 → unhex l = none
  | [], h => absurd rfl h
  | [_], _ => rfl
  | a :: b :: r, h => by
    have : unhex r = none := unhex_odd r (by simp at h; omega)
    rw [unhex, this]
    simp

def ParseRes (w : World) (r : Option (List UInt8)) (e : Ending) (w' : World) : Prop :=
  match r with
  | none => e = .returned (.tuple #[.slice none 0 0, .bool false]) ∧ Below w.heap.size w w'
  | some t => ∃ v, e = .returned (.tuple #[v, .bool true]) ∧ w'.ownsRow w.heap.size 5 1 v t.length (bcells t) ∧ Below w.heap.size w w'

end Go.Proofs.YtplbcbamnjnhlaaDoor
/- Contract of strings.Cut at one byte, every world. -/
namespace Go.Proofs.YtplbcbamnjnhlaaDoor
open Go.RowKit

def cutL (l : List UInt8) (c : UInt8) : List UInt8 × List UInt8 × Bool :=
  if Lib.indexByte l c = -1 then (l, [], false) else (l.take (Lib.indexByte l c).toNat, l.drop ((Lib.indexByte l c).toNat + 1), true)
end Go.Proofs.YtplbcbamnjnhlaaDoor
/- Contract of key.Parse, for any text, every world. -/
namespace Go.Proofs.YtplbcbamnjnhlaaDoor
open Go.RowKit

theorem wpList_copy_hash {w : World} {ops : Array Oper} {rest : List Oper} {o : Oper} {a : Act} {Q : Exit → Act → World → Prop} (hgd : o.guard = none) (d s : Operand)
    (ho : o.op = .call { callee := .builtin .copy, args := #[d, s], argTypes := #[22, 22] })
    {A : Option Addr} {g c c1 n : Nat} {h0 b : List UInt8} {k : Int} (hd : a.eval d = .slice (some ⟨g, 0, none⟩) 32 c) (hs : a.eval s = .slice A n c1) (hn : n = 32) (h0l : h0.length = 32) (hbl : b.length = 32) {t : TypeId}
    (hg : w.heap[g]? = some (.cells (hkCells h0 k).toArray t (0, 0))) {B : Nat} (hr : Rd w B A (bcells b)) {B0 : Nat} {w0 : World} (hb : Below B0 w0 w) (hBg : B0 ≤ g)
    (h : ∀ w', Hid (w'.heap[g]? = some (.cells (hkCells b k).toArray t (0, 0))) → Below B0 w0 w' → w'.heap.size = w.heap.size → wpList Tryd.prog ops Q rest (a.put o.dst (goInt 32)) w') :
    wpList Tryd.prog ops Q (o :: rest) a w := by
  subst hn
  have hlb : (bcells b).length = 32 := by rw [bcells_length, hbl]
  obtain ⟨ab, ao, rfl, hab, hcells⟩ := hr (by intro e; have := congrArg List.length e; rw [hlb] at this; simp at this)
  refine wpList_copy_own hgd d s 22 22 ho 5 Tryd.underlying22 (by kernel_rfl) g 0 32 c ⟨ab, ao, none⟩ 32 c1 hd hs (hkCells h0 k).toArray t hg (bcells b) (by rw [hlb]; rfl)
    (fun j v hv => by rw [Addr.add_lit]; exact hcells j v hv) (by rw [hlb]; simp [hkCells_length, h0l]) (bcells_one _) ?_
  rw [hlb]
  refine h _ ?_ (below_setRow hb hBg _) (by simp)
  show _ = _
  rw [setRow_heap w g (hkCells h0 k).toArray _ t _ hg]
  congr 2
  simp only [List.take_zero, List.nil_append, Nat.zero_add]
  unfold hkCells
  rw [List.drop_append_of_le_length (by rw [bcells_length, h0l]; exact Nat.le_refl _), List.drop_eq_nil_of_le (by rw [bcells_length, h0l]; exact Nat.le_refl _)]
  simp
noncomputable def keyTyD : TypeDesc := .struct (Tryd.prog.fieldsOf 26)
theorem keyTy_u : Tryd.prog.underlying 26 = some keyTyD := by kernel_rfl
theorem build_key0 (w : World) : (Instr.build 26 #[]).run Tryd.prog w = .ok (hkv z32 0) w := by
  unfold Instr.build
  simp only [Sem.run_bind, zero_key, Result.andThen_ok, hkv_cells, run_underlying keyTy_u, keyTyD, fields_key]
  rfl
theorem build_keyK (k : Int) (w : World) : (Instr.build 26 #[(1, .int .i64 k)]).run Tryd.prog w = .ok (hkv z32 k) w := by
  unfold Instr.build
  simp only [Sem.run_bind, zero_key, Result.andThen_ok, hkv_cells, run_underlying keyTy_u, keyTyD, fields_key]
  rfl
theorem store_row {P : Program} {w : World} {g : Nat} {ty : TypeId} {vs : List Value} {v : Value} (hv : v.cells = vs.toArray) (hi : (P.info? ty).map (·.size) = some vs.length) {cur : Array Value} {t : TypeId} (hg : w.heap[g]? = some (.cells cur t (0, 0)))
    (hl : vs.length = cur.size) (h1 : ∀ u ∈ vs, u.oneCell' = true) : (Instr.storeAt ty (.pointer (some ⟨g, 0, none⟩)) v).run P w = .ok () (w.setRow g vs.toArray) := by
  rw [store_agg hv hi hg (by omega) h1]
  congr 2
  simp [List.drop_eq_nil_of_le (show cur.toList.length ≤ vs.length by simp; omega)]
theorem ret_key {fn : Func} {p u : Tmp} {r : Value} {Q : Ending → World → Prop} (h : fn.results = #[.cell p 26, .tmp u]) {a : Act} {w : World} {g : Nat} {hh : List UInt8} {k : Int} {fr : Nat × Nat} {t : TypeId} (hl : hh.length = 32) (hd : a.defers = [])
    (hp : a.tmps.getD p undef = .pointer (some ⟨g, 0, none⟩)) (hu : a.tmps.getD u undef = r) (hg : w.heap[g]? = some (.cells (hkCells hh k).toArray t fr)) (hq : Q (.returned (.tuple #[hkv hh k, r])) w) : bodyPost Tryd.prog fn Q .ret a w := by
  refine bodyPost_ret (v := .tuple #[hkv hh k, r]) ?_ hd hq
  rw [results_cell_tmp h, hp, hu]
  simp [asAddr, Result.andThen, run_loadVar_row w g t 26 (hkCells hh k).toArray fr _ hg keyTy_u rfl (key_size hh k hl)]
/-- the key of a text, as the program reads it -/
def keyOf (l : List UInt8) : Option (List UInt8 × Int) :=
  match unhex (cutL l 45).1 with
  | none => none
  | some b => if (cutL l 45).2.2 = true ∧ b.length = 32 ∧ (cutL l 45).2.1.length = 1 ∧ kOk (((cutL l 45).2.1.getD 0 0).toNat - 48) = true then some (b, ((cutL l 45).2.1.getD 0 0).toNat - 48) else none
def KeyTo (w : World) (r : Option (List UInt8 × Int)) : Ending → World → Prop := fun e w' =>
  (match r with
    | none => e = .returned (.tuple #[hkv z32 0, .bool false])
    | some (b, k) => b.length = 32 ∧ e = .returned (.tuple #[hkv b k, .bool true])) ∧ Below w.heap.size w w'
theorem KeyTo.no {w w' : World} {r : Option (List UInt8 × Int)} (hr : r = none) (hb : Below w.heap.size w w') : KeyTo w r (.returned (.tuple #[hkv z32 0, .bool false])) w' := by subst hr; exact ⟨rfl, hb⟩
theorem KeyTo.yes {w w' : World} {r : Option (List UInt8 × Int)} {b : List UInt8} {k : Int} (hr : r = some (b, k)) (hl : b.length = 32) (hb : Below w.heap.size w w') : KeyTo w r (.returned (.tuple #[hkv b k, .bool true])) w' := by subst hr; exact ⟨⟨hl, rfl⟩, hb⟩
theorem cutL_len (l : List UInt8) (c : UInt8) : (cutL l c).1.length ≤ l.length ∧ (cutL l c).2.1.length ≤ l.length := by
  unfold cutL
  split
  · simp
  · simp only [List.length_take, List.length_drop]; omega
end Go.Proofs.YtplbcbamnjnhlaaDoor
/- The plain law: key.Parse and the reference read the same keys. -/
namespace Go.Proofs.YtplbcbamnjnhlaaDoor
open Go.RowKit

/-- the key of a text, as the reference reads it -/
def parse17 (l : List UInt8) : Option (List UInt8 × Int) :=
  if l.length = 66 ∧ l.getD 64 0 = 45 ∧ 49 ≤ (l.getD 65 0).toNat ∧ (l.getD 65 0).toNat ≤ 52 then (unhex (l.take 64)).map fun b => (b, ((l.getD 65 0).toNat : Int) - 48) else none
theorem unhex_digs : ∀ (l t : List UInt8), unhex l = some t → l.length = 2 * t.length ∧ ∀ b ∈ l, dB b = true
  | [], t, h => by
    simp only [unhex, Option.some.injEq] at h
    subst h
    simp
  | [_], t, h => by simp [unhex] at h
  | a :: b :: r, t, h => by
    rw [unhex] at h
    split at h
    · rename_i hd
      rw [Option.map_eq_some_iff] at h
      obtain ⟨t', h1, rfl⟩ := h
      obtain ⟨h2, h3⟩ := unhex_digs r t' h1
      rw [Bool.and_eq_true] at hd
      refine ⟨by simp; omega, fun x hx => ?_⟩
      rcases List.mem_cons.1 hx with rfl | hx
      · exact hd.1
      · rcases List.mem_cons.1 hx with rfl | hx
        · exact hd.2
        · exact h3 x hx
    · cases h
theorem dB_dash : dB 45 = false := by decide
theorem keyOf_eq (l : List UInt8) : keyOf l = parse17 l := by
  have hd : ∀ (i : Nat) (t : List UInt8), unhex (l.take i) = some t → ∀ k, k < i → l[k]? ≠ some 45 := by
    intro i t h k hk he
    have hm : (45 : UInt8) ∈ l.take i := by
      rw [List.mem_iff_getElem?]
      exact ⟨k, by rw [List.getElem?_take, if_pos hk]; exact he⟩
    have := (unhex_digs _ _ h).2 45 hm
    rw [dB_dash] at this
    cases this
  have hge := Lib.indexByte_ge l 45
  by_cases hm : Lib.indexByte l 45 = -1
  · have hc : cutL l 45 = (l, [], false) := by unfold cutL; rw [if_pos hm]
    have h1 : keyOf l = none := by
      unfold keyOf
      rw [hc]
      cases unhex l <;> simp
    rw [h1]
    unfold parse17
    rw [if_neg]
    rintro ⟨h2, h3, _⟩
    refine Lib.indexByte_none hm 64 ?_
    rw [List.getElem?_eq_getElem (by omega)]
    rw [List.getD_eq_getElem?_getD, List.getElem?_eq_getElem (by omega)] at h3
    simpa using h3
  · obtain ⟨i, hi⟩ : ∃ i : Nat, Lib.indexByte l 45 = i := ⟨(Lib.indexByte l 45).toNat, by omega⟩
    obtain ⟨hat, hbefore⟩ := Lib.indexByte_some hi
    have hil : i < l.length := (List.getElem?_eq_some_iff.1 hat).1
    have hc : cutL l 45 = (l.take i, l.drop (i + 1), true) := by unfold cutL; rw [if_neg hm, hi]; rfl
    unfold keyOf
    rw [hc]
    simp only [true_and]
    by_cases h64 : i = 64
    · subst h64
      unfold parse17
      have h45 : l.getD 64 0 = 45 := by rw [List.getD_eq_getElem?_getD, hat]; rfl
      have hdl : (l.drop 65).getD 0 0 = l.getD 65 0 := by simp [List.getD_eq_getElem?_getD]
      rw [hdl, List.length_drop]
      cases hu : unhex (l.take 64) with
      | none => simp
      | some b =>
        have h32 := (unhex_digs _ _ hu).1
        rw [List.length_take] at h32
        have hb : b.length = 32 := by omega
        simp only [hb, h45, Option.map_some, true_and]
        have hk : ∀ n : Nat, (kOk ((n : Int) - 48) = true ↔ 49 ≤ n ∧ n ≤ 52) := fun n => by unfold kOk; simp; omega
        by_cases h66 : l.length = 66
        · have : l.length - 65 = 1 := by omega
          simp only [h66, true_and, hk]
        · have : ¬ (l.length - 65 = 1) := by omega
          simp only [h66, this, false_and, if_false]
    · have h1 : parse17 l = none := by
        unfold parse17
        split
        · rename_i hh
          obtain ⟨h2, h3, _⟩ := hh
          cases hu : unhex (l.take 64) with
          | none => rfl
          | some b =>
            exfalso
            have h4 : l[64]? = some 45 := by
              rw [List.getElem?_eq_getElem (by omega)]
              rw [List.getD_eq_getElem?_getD, List.getElem?_eq_getElem (by omega)] at h3
              simpa using h3
            rcases Nat.lt_or_ge i 64 with h5 | h5
            · exact hd 64 b hu i h5 hat
            · exact hbefore 64 (by omega) h4
        · rfl
      rw [h1]
      cases hu : unhex (l.take i) with
      | none => rfl
      | some b =>
        have h32 := (unhex_digs _ _ hu).1
        rw [List.length_take] at h32
        simp only
        rw [if_neg]
        rintro ⟨h5, _⟩
        omega
end Go.Proofs.YtplbcbamnjnhlaaDoor
/- Plain: hexadecimal digits of bytes and back. -/
namespace Go.Proofs.YtplbcbamnjnhlaaDoor
open Go.RowKit

def hexDig (k : Nat) : UInt8 := (digAt k).toNat.toUInt8
theorem dig_back (k : Nat) (h : k < 16) : dB (hexDig k) = true ∧ dN (hexDig k) = k := by
  have h2 : ∀ j : Fin 16, dB (hexDig j.val) = true ∧ dN (hexDig j.val) = j.val := by decide +kernel
  exact h2 ⟨k, h⟩
theorem unhex_hexOf : ∀ (l : List UInt8), unhex (hexOf l) = some l
  | [] => rfl
  | b :: l => by
    have hb := b.toNat_lt
    have h1 := dig_back (b.toNat / 16) (by omega)
    have h2 := dig_back (b.toNat % 16) (by omega)
    show unhex (hexDig (b.toNat / 16) :: hexDig (b.toNat % 16) :: hexOf l) = _
    rw [unhex, h1.1, h2.1, h1.2, h2.2, unhex_hexOf l]
    have : 16 * (b.toNat / 16) + b.toNat % 16 = b.toNat := by omega
    rw [this]
    simp
theorem hex_back (a b : UInt8) (ha : dB a = true) (hb : dB b = true) : hex2 (UInt8.ofNat (16 * dN a + dN b)) = [a, b] := by
  have h1 : ∀ a : Fin 256, dB (UInt8.ofNat a.val) = true → dN (UInt8.ofNat a.val) < 16 ∧ (digAt (dN (UInt8.ofNat a.val))).toNat.toUInt8 = UInt8.ofNat a.val := by decide +kernel
  have e : ∀ a : UInt8, UInt8.ofNat a.toNat = a := fun a => by simp
  have ga := h1 ⟨a.toNat, a.toNat_lt⟩
  have gb := h1 ⟨b.toNat, b.toNat_lt⟩
  simp only [e] at ga gb
  obtain ⟨a1, a2⟩ := ga ha
  obtain ⟨b1, b2⟩ := gb hb
  unfold hex2
  rw [UInt8.toNat_ofNat', Nat.mod_eq_of_lt (by omega), show (16 * dN a + dN b) / 16 = dN a by omega, show (16 * dN a + dN b) % 16 = dN b by omega, a2, b2]
theorem unhex_text : ∀ (l t : List UInt8), unhex l = some t → hexOf t = l ∧ 2 * t.length = l.length
  | [], t, h => by simp [unhex] at h; subst h; exact ⟨rfl, rfl⟩
  | [_], t, h => by simp [unhex] at h
  | a :: b :: r, t, h => by
    rw [unhex] at h
    split at h
    · rename_i hd
      rw [Bool.and_eq_true] at hd
      rw [Option.map_eq_some_iff] at h
      obtain ⟨t', ht, rfl⟩ := h
      obtain ⟨h1, h2⟩ := unhex_text r t' ht
      refine ⟨?_, by simp; omega⟩
      rw [show hexOf (UInt8.ofNat (16 * dN a + dN b) :: t') = hex2 (UInt8.ofNat (16 * dN a + dN b)) ++ hexOf t' by simp [hexOf], hex_back a b hd.1 hd.2, h1]
      rfl
    · cases h

end Go.Proofs.YtplbcbamnjnhlaaDoor
/- Plain: reading a decimal numeral gives its number. No program is named here. -/
namespace Go.Proofs.YtplbcbamnjnhlaaDoor

theorem decFrom_cons (acc : Nat) (b : UInt8) (r : List UInt8) : Lib.decFrom acc (b :: r) = (Lib.digitVal b).bind fun d => Lib.decFrom (acc * 10 + d) r := by
  rw [Lib.decFrom]
  cases Lib.digitVal b <;> rfl
theorem decFrom_append (x y : List UInt8) : ∀ (acc : Nat), Lib.decFrom acc (x ++ y) = (Lib.decFrom acc x).bind fun m => Lib.decFrom m y := by
  induction x with
  | nil => intro acc; rfl
  | cons a x ih =>
    intro acc
    rw [List.cons_append, decFrom_cons, decFrom_cons]
    cases Lib.digitVal a with
    | none => rfl
    | some d => exact ih _
theorem digitVal_ofNat (d : Nat) (h : d < 10) : Lib.digitVal (UInt8.ofNat (48 + d)) = some d := by
  have h1 : (UInt8.ofNat (48 + d)).toNat = 48 + d := by
    rw [UInt8.toNat_ofNat']
    omega
  unfold Lib.digitVal
  rw [h1, if_pos (by omega)]
  congr 1
  omega
theorem decFrom_digits (u : Nat) : Lib.decFrom 0 (Lib.decDigits u) = some u := by
  induction u using Nat.strongRecOn with
  | _ u ih =>
    rw [Lib.decDigits]
    split
    · rename_i h
      rw [decFrom_cons, digitVal_ofNat u h, Option.bind_some, Lib.decFrom, Nat.zero_mul, Nat.zero_add]
    · rename_i h
      rw [decFrom_append, ih (u / 10) (by omega), Option.bind_some, decFrom_cons, digitVal_ofNat (u % 10) (by omega), Option.bind_some, Lib.decFrom]
      congr 1
      omega
theorem decDigits_ne (u : Nat) : Lib.decDigits u ≠ [] := fun h => by
  have h1 := Lib.decDigits_length u
  have h2 := Lib.nDigits_pos u
  rw [h] at h1
  simp at h1
  omega
theorem decDigits_dig (u : Nat) : ∀ b ∈ Lib.decDigits u, 48 ≤ b.toNat ∧ b.toNat ≤ 57 := fun b hb => by
  obtain ⟨k, hk⟩ := List.mem_iff_getElem?.1 hb
  obtain ⟨d, hd⟩ := Lib.digit_of_decFrom _ 0 u (decFrom_digits u) k b hk
  unfold Lib.digitVal at hd
  split at hd
  · assumption
  · cases hd
theorem atoi_digits (u : Nat) : Lib.atoi (Lib.decDigits u) = some (u : Int) := by
  have hd := decFrom_digits u
  have hb := decDigits_dig u
  cases hl : Lib.decDigits u with
  | nil => exact absurd hl (decDigits_ne u)
  | cons a r =>
    rw [hl] at hd hb
    have h1 := hb a (List.mem_cons_self ..)
    unfold Lib.atoi
    have n1 : (a == 45) = false := by
      rw [beq_eq_false_iff_ne]
      rintro rfl
      exact absurd h1.1 (by decide)
    have n2 : (a == 43) = false := by
      rw [beq_eq_false_iff_ne]
      rintro rfl
      exact absurd h1.1 (by decide)
    simp only [n1, n2, Bool.false_eq_true, if_false]
    unfold Lib.decNat
    simp only [List.isEmpty_cons, Bool.false_eq_true, if_false, hd, Option.map_some]
theorem nDigits_le10 (u : Nat) (h : u ≤ 1000000000) : Lib.nDigits u ≤ 10 := by
  rcases Nat.lt_or_ge 10 (Lib.nDigits u) with h1 | h1
  · exfalso
    have : ∀ k v, v < 10 ^ (k + 1) → Lib.nDigits v ≤ k + 1 := by
      intro k
      induction k with
      | zero => intro v hv; rw [Lib.nDigits_small (by simpa using hv)]; exact Nat.le_refl _
      | succ k ih =>
        intro v hv
        by_cases h10 : v < 10
        · rw [Lib.nDigits_small h10]; omega
        · rw [Lib.nDigits_big h10]
          have := ih (v / 10) (by rw [Nat.pow_succ] at hv; omega)
          omega
    have := this 9 u (by have : (10 : Nat) ^ (9 + 1) = 10000000000 := by decide
                         omega)
    omega
  · exact h1
theorem atoiAll_digits (u : Nat) (h : u ≤ 1000000000) : Lib.atoiAll (Lib.decDigits u) = .ok (u : Int) := by
  rw [Lib.atoiAll_short _ (by rw [Lib.decDigits_length]; have := nDigits_le10 u h; omega), atoi_digits]
  rfl
/-- the number that strconv.Atoi hands back, whatever the error -/
def atoiV (l : List UInt8) : Int := match Lib.atoiAll l with
  | .ok v => v
  | .range => Lib.atoiSat l
  | _ => 0
theorem atoiV_itoa (n : Int) (h0 : 0 ≤ n) (h1 : n ≤ 1000000000) : atoiV (Lib.itoa n) = n := by
  obtain ⟨u, rfl⟩ : ∃ u : Nat, n = u := ⟨n.toNat, by omega⟩
  rw [Lib.itoa_nonneg]
  unfold atoiV
  rw [atoiAll_digits u (by omega)]
end Go.Proofs.YtplbcbamnjnhlaaDoor
