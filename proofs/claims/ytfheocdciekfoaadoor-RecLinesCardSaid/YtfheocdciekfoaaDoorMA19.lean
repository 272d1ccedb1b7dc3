/- Texts of this proof joined: RecD, RecSame, HexVal, HexParse, Cut. -/
import Derived.Test.YtfheocdciekfoaaDoorMA16
import Derived.Test.YtfheocdciekfoaaDoorMA17
import Derived.Test.YtfheocdciekfoaaDoorMA18
import Derived.Test.YtfheocdciekfoaaDoorMA08
import Derived.Test.YtfheocdciekfoaaDoorChecked
import Derived.Test.YtfheocdciekfoaaDoorMA06
import Derived.Test.YtfheocdciekfoaaDoorMA05
import Derived.Lib.Bytealg
import Derived.Lib.IndexLaws
import Derived.Deep.QuietTactic
import Derived.BigQuiet
/- Records as data; keys' slices; slices.Equal at keys. -/
namespace Go.Proofs.YtfheocdciekfoaaDoor
open Go.RowKit

abbrev KeyD := List UInt8 × Int
theorem eKey_size : eKey.size = 33 := rfl
/-- a record -/
structure RecD where
  kind : Int
  seq : Int
  kh : List UInt8
  kk : Int
  mh : List UInt8
  ms : Int
  keys : List KeyD
def eRec : Elt RecD where
  size := 69
  rep := fun w B cs r => ∃ v, cs = recCells r.kind r.seq r.kh r.kk r.mh r.ms v ∧ r.kh.length = 32 ∧ r.mh.length = 32 ∧ SlR eKey w B v r.keys
  len := fun ⟨v, h, h1, h2, _⟩ => by rw [h, recCells_length, h1, h2]
  keep := fun ⟨v, h, h1, h2, h3⟩ hk => ⟨v, h, h1, h2, h3.keep hk⟩
  more := fun ⟨v, h, h1, h2, h3⟩ hB => ⟨v, h, h1, h2, h3.more hB⟩
  one := fun ⟨v, h, h1, h2, h3⟩ u hu => by
    obtain ⟨A, c, rfl, _⟩ := h3.form
    rw [h] at hu
    exact recCells_one _ _ _ _ _ _ _ _ _ u hu
/-- key k of a slice of keys: where it lies -/
theorem keys_at {w : World} {B : Nat} {A : Option Addr} {n c : Nat} {xs : List KeyD} (h : SlR eKey w B (.slice A n c) xs) {k : Nat} (hk : k < xs.length) :
    ∃ b off, A = some ⟨b, off, none⟩ ∧ n ≤ c ∧ b < B ∧ xs[k].1.length = 32 ∧ ∀ j u, (hkCells xs[k].1 xs[k].2)[j]? = some u → w.cell? ⟨b, off + k * 33 + j, none⟩ = some u := by
  obtain ⟨b, off, cs, h1, h2, h3, h4, h5⟩ := h.get hk (by rw [eKey_size]; omega)
  obtain ⟨rfl, h6, _, _⟩ := eKey_rep h4
  exact ⟨b, off, h1, h2, h3, h6, fun j u hu => by have := h5 j u hu; rwa [eKey_size, ← Nat.add_assoc] at this⟩
theorem take_eq_succ {α : Type} {xs ys : List α} {i : Nat} (h : xs.take i = ys.take i) (hx : i < xs.length) (hy : i < ys.length) (he : xs[i] = ys[i]) : xs.take (i + 1) = ys.take (i + 1) := by
  rw [List.take_succ_eq_append_getElem hx, List.take_succ_eq_append_getElem hy, h, he]
set_option maxRecDepth 100000 in
set_option maxHeartbeats 1000000 in
theorem keysEq_any (A1 A2 : Option Addr) (c1 c2 B1 B2 n1 n2 : Nat) (xs ys : List KeyD) (w : World) (h1 : SlR eKey w B1 (.slice A1 n1 c1) xs) (h2 : SlR eKey w B2 (.slice A2 n2 c2) ys) :
    Calls Tryd.prog 43 #[.slice A1 n1 c1, .slice A2 n2 c2] w fun e w' => e = .returned (.bool (decide (xs = ys))) ∧ Below w.heap.size w w' := by
  have N1 := Lib.hid h1.n_eq
  have N2 := Lib.hid h2.n_eq
  have hc1 := h1.n_le
  have hc2 := h2.n_le
  have H1 := Lib.hid h1
  have H2 := Lib.hid h2
  clear h1 h2
  by_cases hl : n1 = n2
  · subst hl
    go_enter Tryd.func43, Tryd.ntmps43
    go_wp2_with fail
    go_loopw [13] (fun v13 wr => ∃ i : Nat, i ≤ n1 ∧ v13 = .int .i64 i ∧ Hid (xs.take i = ys.take i ∧ ∀ p : Addr, wr.cell? p = w.cell? p) ∧ Hid (Below w.heap.size w wr)) (fun v13 _ => n1 - (intOf v13).toNat)
    case atStart => exact ⟨0, by omega, rfl, ⟨by simp, fun _ => rfl⟩, Below.refl _ _⟩
    case round =>
      obtain ⟨i, hi, rfl, HR, HB⟩ := hrel
      by_cases hlt : i < n1
      · have hlt1 : i < xs.length := by have := N1.out; omega
        have hlt2 : i < ys.length := by have := N2.out; omega
        obtain ⟨b1, o1, rfl, _, _, l1, e1⟩ := keys_at H1.out hlt1
        obtain ⟨b2, o2, rfl, _, _, l2, e2⟩ := keys_at H2.out hlt2
        obtain ⟨hpre, hcell⟩ := HR.out
        have HC := Lib.hid hcell
        have HP := Lib.hid hpre
        clear hpre hcell HR
        have E1 := Lib.hid e1
        have E2 := Lib.hid e2
        clear e1 e2
        go_wp2_with fail
        refine Text.wp_text [8] (by kernel_rfl) (by kernel_rfl) (fun Q' hQ' => ?_)
        refine wpList_seg 3 _ _ _ (fun Q' hQ' => ?_)
        simp only [List.take_succ_cons, List.take_zero]
        go_wp2_with fail
        try simp only [List.drop_succ_cons, List.drop_zero]
        refine Stop.go (wpList_load_agg rfl 24 rfl rfl keyTy.ut rfl (key_size _ _ l1) (fun j u hu => (HC.out _).trans (E1.out j u hu)) ?_)
        refine wpList_seg 3 _ _ _ (fun Q' hQ' => ?_)
        simp only [List.take_succ_cons, List.take_zero]
        go_wp2_with fail
        try simp only [List.drop_succ_cons, List.drop_zero]
        refine Stop.go (wpList_load_agg rfl 24 rfl rfl keyTy.ut rfl (key_size _ _ l2) (fun j u hu => (HC.out _).trans (E2.out j u hu)) ?_)
        refine wpList_bin rfl .neq 24 rfl rfl rfl (hkv_guard keyTy.gd ..) (hkv_neq keyTy l1 l2) ?_
        by_cases he : xs[i] = ys[i]
        · rw [show (!(decide (xs[i].1 = ys[i].1) && decide (xs[i].2 = ys[i].2))) = false by rw [he]; simp]
          refine hQ' _ _ ⟨by rfl, ?_⟩
          go_wp2_with fail
          have HP2 := Lib.hid (And.intro (take_eq_succ HP.out hlt1 hlt2 he) (fun p => HC.out p : ∀ p : Addr, wr.drew.cell? p = w.cell? p))
          refine ⟨⟨i + 1, by omega, by simp, HP2, HB.out.drew⟩, ?_⟩
          simp [intOf]; omega
        · rw [show (!(decide (xs[i].1 = ys[i].1) && decide (xs[i].2 = ys[i].2))) = true by
            have : ¬ (xs[i].1 = ys[i].1 ∧ xs[i].2 = ys[i].2) := fun h => he (Prod.ext h.1 h.2)
            by_cases h1 : xs[i].1 = ys[i].1 <;> simp_all]
          refine hQ' _ _ ⟨by rfl, ?_⟩
          go_wp2_with fail
          go_ret
          refine ⟨rt1 (vbool ?_), HB.out.drew⟩
          rw [eq_comm, decide_eq_false_iff_not]
          exact fun h => he (by subst h; rfl)
      · obtain rfl : i = n1 := by omega
        obtain ⟨hpre, hcell⟩ := HR.out
        have HF := Lib.hid (show decide (xs = ys) = true by rw [decide_eq_true_iff]; rwa [List.take_of_length_le (by have := N1.out; omega), List.take_of_length_le (by have := N2.out; omega)] at hpre)
        clear hpre hcell HR
        go_wp2_with fail
        go_ret
        exact ⟨rt1 (vbool HF.out.symm), HB.out⟩
  · have HF := Lib.hid (show decide (xs = ys) = false by rw [decide_eq_false_iff_not]; intro h; exact hl (by rw [N1.out, N2.out, h]))
    go_enter Tryd.func43, Tryd.ntmps43
    go_wp2_with fail
    go_ret
    exact ⟨rt1 (vbool HF.out.symm), Below.refl _ _⟩
end Go.Proofs.YtfheocdciekfoaaDoor
/- Contract of rec.Same. -/
namespace Go.Proofs.YtfheocdciekfoaaDoor
open Go.RowKit

/-- two records are the same -/
def sameD (a b : RecD) : Bool := decide (a.kind = b.kind) && decide (a.seq = b.seq) && (decide (a.kh = b.kh) && decide (a.kk = b.kk)) && (decide (a.mh = b.mh) && decide (a.ms = b.ms)) && decide (a.keys = b.keys)
abbrev rv (r : RecD) (v : Value) : Value := recv r.kind r.seq r.kh r.kk r.mh r.ms v
/-- a record's hashes have 32 bytes -/
def Hs (r : RecD) : Prop := r.kh.length = 32 ∧ r.mh.length = 32
set_option maxRecDepth 100000 in
set_option maxHeartbeats 1000000 in
theorem same_any (a b : RecD) (A1 A2 : Option Addr) (n1 c1 n2 c2 B1 B2 : Nat) (w : World) (ha : Hs a) (hb : Hs b) (h1 : SlR eKey w B1 (.slice A1 n1 c1) a.keys) (h2 : SlR eKey w B2 (.slice A2 n2 c2) b.keys) (hB1 : B1 ≤ w.heap.size) (hB2 : B2 ≤ w.heap.size) :
    Calls Tryd.prog 16 #[rv a (.slice A1 n1 c1), rv b (.slice A2 n2 c2)] w fun e w' => e = .returned (.bool (sameD a b)) ∧ Below w.heap.size w w' := by
  obtain ⟨a0, a1, a2, a3, a4, a5, a6⟩ := a
  obtain ⟨b0, b1, b2, b3, b4, b5, b6⟩ := b
  obtain ⟨ha1, ha2⟩ := ha
  obtain ⟨hb1, hb2⟩ := hb
  simp only at ha1 ha2 hb1 hb2 h1 h2
  have hbw : Below w.heap.size w ((w.alloc (.cells (recCells a0 a1 a2 a3 a4 a5 (.slice A1 n1 c1)).toArray 29)).alloc (.cells (recCells b0 b1 b2 b3 b4 b5 (.slice A2 n2 c2)).toArray 29)) :=
    ((Below.refl _ _).alloc (Nat.le_refl _) _).alloc (Nat.le_of_lt (by show _ < (Array.push _ _).size; rw [Array.size_push]; exact Nat.lt_succ_self _)) _
  have hr1 : RecAt ((w.alloc (.cells (recCells a0 a1 a2 a3 a4 a5 (.slice A1 n1 c1)).toArray 29)).alloc (.cells (recCells b0 b1 b2 b3 b4 b5 (.slice A2 n2 c2)).toArray 29)) w.heap.size 29 a0 a1 a2 a3 a4 a5 (.slice A1 n1 c1) :=
    (RecAt.new w ha1 ha2).later ((Below.refl _ _).alloc (Nat.le_refl _) _)
  have hr2 := RecAt.new (t := 29) (kind := b0) (seq := b1) (kk := b3) (ms := b5) (v := .slice A2 n2 c2) (w.alloc (.cells (recCells a0 a1 a2 a3 a4 a5 (.slice A1 n1 c1)).toArray 29)) hb1 hb2
  have H1 := Lib.hid (h1.fut hbw hB1 (Nat.le_refl B1))
  have H2 := Lib.hid (h2.fut hbw hB2 (Nat.le_refl B2))
  have HBW := Lib.hid hbw
  clear h1 h2 hbw
  go_enter Tryd.func16, Tryd.ntmps16
  go_wp2_with (refine stop_at (some 2) rfl ?_)
  refine Stop.go (wpList_box rfl _ rfl rfl rfl (wpList_box rfl _ rfl rfl rfl ?_))
  rw [show (w.alloc (.cells (recCells a0 a1 a2 a3 a4 a5 (.slice A1 n1 c1)).toArray 29)).heap.size = w.heap.size + 1 from Array.size_push _] at hr2 ⊢
  generalize (w.alloc (.cells (recCells a0 a1 a2 a3 a4 a5 (.slice A1 n1 c1)).toArray 29)).alloc (.cells (recCells b0 b1 b2 b3 b4 b5 (.slice A2 n2 c2)).toArray 29) = w1 at *
  have c0 := hr1.kind_
  have c1' := hr1.seq_
  have c2' := hr1.keys_
  have d0 := hr2.kind_
  have d1 := hr2.seq_
  have d2 := hr2.keys_
  have HR1 := Lib.hid hr1
  have HR2 := Lib.hid hr2
  clear hr1 hr2
  by_cases e0 : a0 = b0
  · by_cases e1 : a1 = b1
    · subst e0 e1
      go_wp2_with (refine stop_at (some 5) rfl ?_)
      refine Stop.go (wpList_seg 14 _ _ _ (fun Q' hQ' => ?_))
      simp only [List.take_succ_cons, List.take_zero]
      go_wp2_with fail
      try simp only [List.drop_succ_cons, List.drop_zero]
      refine Stop.go (wpList_load_aggG (by rfl) 24 rfl rfl keyTy.ut rfl (key_size _ _ ha1) HR1.out.key_ ?_)
      refine wpList_seg 1 _ _ _ (fun Q' hQ' => ?_)
      simp only [List.take_succ_cons, List.take_zero]
      go_wp2_with fail
      try simp only [List.drop_succ_cons, List.drop_zero]
      refine Stop.go (wpList_load_aggG (by rfl) 24 rfl rfl keyTy.ut rfl (key_size _ _ hb1) HR2.out.key_ ?_)
      refine wpList_binG (by rfl) .eql 24 rfl rfl rfl (hkv_guard keyTy.gd ..) (hkv_eql keyTy ha1 hb1) ?_
      cases ek : (decide (a2 = b2) && decide (a3 = b3))
      · have HF := Lib.hid (show sameD ⟨a0, a1, a2, a3, a4, a5, a6⟩ ⟨a0, a1, b2, b3, b4, b5, b6⟩ = false by unfold sameD; simp only [ek]; simp)
        go_wp2_with fail
        go_ret
        exact ⟨rt1 (vbool HF.out.symm), HBW.out⟩
      · refine wpList_seg 3 _ _ _ (fun Q' hQ' => ?_)
        simp only [List.take_succ_cons, List.take_zero]
        go_wp2_with fail
        try simp only [List.drop_succ_cons, List.drop_zero]
        refine Stop.go (wpList_load_aggG (by rfl) 26 rfl rfl markTy.ut rfl (mark_size _ _ ha2) HR1.out.mark_ ?_)
        refine wpList_seg 1 _ _ _ (fun Q' hQ' => ?_)
        simp only [List.take_succ_cons, List.take_zero]
        go_wp2_with fail
        try simp only [List.drop_succ_cons, List.drop_zero]
        refine Stop.go (wpList_load_aggG (by rfl) 26 rfl rfl markTy.ut rfl (mark_size _ _ hb2) HR2.out.mark_ ?_)
        refine wpList_binG (by rfl) .eql 26 rfl rfl rfl (hkv_guard markTy.gd ..) (hkv_eql markTy ha2 hb2) ?_
        cases em : (decide (a4 = b4) && decide (a5 = b5))
        · have HF := Lib.hid (show sameD ⟨a0, a1, a2, a3, a4, a5, a6⟩ ⟨a0, a1, b2, b3, b4, b5, b6⟩ = false by unfold sameD; simp only [ek, em]; simp)
          go_wp2_with fail
          go_ret
          exact ⟨rt1 (vbool HF.out.symm), HBW.out⟩
        · have HF := Lib.hid (show sameD ⟨a0, a1, a2, a3, a4, a5, a6⟩ ⟨a0, a1, b2, b3, b4, b5, b6⟩ = decide (a6 = b6) by unfold sameD; simp only [ek, em]; simp)
          go_wp2_with (go_at_call 43; refine (keysEq_any A1 A2 c1 c2 B1 B2 n1 n2 a6 b6 _ H1.out H2.out).mono ?_; rintro e w3 ⟨rfl, hb3⟩)
          go_ret
          exact ⟨rt1 (vbool HF.out.symm), HBW.out.trans (hb3.mono HBW.out.size)⟩
    · have HF := Lib.hid (show sameD ⟨a0, a1, a2, a3, a4, a5, a6⟩ ⟨b0, b1, b2, b3, b4, b5, b6⟩ = false by unfold sameD; simp [e1])
      have e1' : (a1 == b1) = false := by rw [beq_eq_false_iff_ne]; exact e1
      subst e0
      clear e1
      go_wp2_with fail
      go_ret
      exact ⟨rt1 (vbool HF.out.symm), HBW.out⟩
  · have HF := Lib.hid (show sameD ⟨a0, a1, a2, a3, a4, a5, a6⟩ ⟨b0, b1, b2, b3, b4, b5, b6⟩ = false by unfold sameD; simp [e0])
    have e0' : (a0 == b0) = false := by rw [beq_eq_false_iff_ne]; exact e0
    clear e0
    go_wp2_with fail
    go_ret
    exact ⟨rt1 (vbool HF.out.symm), HBW.out⟩
end Go.Proofs.YtfheocdciekfoaaDoor
/- Contract of hex.value, for every byte and every world. -/
namespace Go.Proofs.YtfheocdciekfoaaDoor
open Go.RowKit

def digValB (c : Int) : Bool := decide (48 ≤ c ∧ c ≤ 57) || decide (97 ≤ c ∧ c ≤ 102)
def digValN (c : Int) : Int := if 48 ≤ c ∧ c ≤ 57 then c - 48 else if 97 ≤ c ∧ c ≤ 102 then c - 87 else 0

theorem digVal_hit (k : Nat) (hk : k < 16) : digValB (digAt k) = true ∧ digValN (digAt k) = k := by
  unfold digValB digValN digAt
  split
  · exact ⟨by simp; omega, by rw [if_pos (by omega)]; omega⟩
  · exact ⟨by simp; omega, by rw [if_neg (by omega), if_pos (by omega)]; omega⟩
theorem digVal_miss (c : Int) (h : ∀ k : Nat, k < 16 → digAt k ≠ c) : digValB c = false ∧ digValN c = 0 := by
  have h1 : ¬ (48 ≤ c ∧ c ≤ 57) := fun hc => h (c - 48).toNat (by omega) (by unfold digAt; split <;> omega)
  have h2 : ¬ (97 ≤ c ∧ c ≤ 102) := fun hc => h (c - 87).toNat (by omega) (by unfold digAt; split <;> omega)
  unfold digValB digValN
  rw [if_neg h1, if_neg h2]
  simp [h1, h2]

set_option maxHeartbeats 400000 in
theorem hex_value (c : Int) (w : World) :
    Calls Tryd.prog 91 #[.int .u8 c] w fun e w' => e = .returned (.tuple #[.int .u8 (digValN c), .bool (digValB c)]) ∧ Below w.heap.size w w' := by
  go_enter Tryd.func91, Tryd.ntmps91
  go_wp2_with (go_call hex_digits _ as e w1 ⟨rfl, hb⟩)
  go_loop [7] (fun i => ∃ k : Nat, k ≤ 16 ∧ i = .int .i64 k ∧ Hid (∀ j : Nat, j < k → digAt j ≠ c)) (fun i => 16 - (intOf i).toNat)
  case atStart => exact ⟨0, by omega, rfl, fun j hj => by omega⟩
  case round =>
    obtain ⟨k, hk, rfl, hm⟩ := hrel
    by_cases hlt : k < 16
    · have hix := fun w => dig_index k hlt w
      by_cases heq : digAt k = c
      · have hv := Lib.hid (digVal_hit k hlt)
        subst heq
        go_wp2
        go_ret2
        exact ⟨rt2 (vint (by rw [hv.out.2])) (vbool hv.out.1.symm), hb⟩
      · have hne : (digAt k == c) = false := by simpa using heq
        go_wp2
        go_round
        case rel => exact ⟨k + 1, by omega, by go_num, fun j hj => by by_cases e : j = k; (subst e; exact heq); exact hm.out j (by omega)⟩
        case measure => simp [intOf]; omega
    · go_wp2
      go_ret2
      have hv := digVal_miss c (fun j hj => hm.out j (by omega))
      exact ⟨rt2 (vint hv.2.symm) (vbool hv.1.symm), hb⟩

end Go.Proofs.YtfheocdciekfoaaDoor
/- Contracts of hex.Parse and hex.Is, for any string and every world. -/
namespace Go.Proofs.YtfheocdciekfoaaDoor
open Go.RowKit

def dB (b : UInt8) : Bool := digValB b.toNat
def dN (b : UInt8) : Nat := (digValN b.toNat).toNat
/-- the bytes whose digits a text is -/
def unhex : List UInt8 → Option (List UInt8)
  | [] => some []
  | [_] => none
  | a :: b :: r => if dB a && dB b then (unhex r).map (fun t => UInt8.ofNat (16 * dN a + dN b) :: t) else none

theorem digValN_bd (c : Int) : 0 ≤ digValN c ∧ digValN c < 16 := by unfold digValN; split; omega; split <;> omega
theorem or_nibble (a b : Int) (ha : 0 ≤ a ∧ a < 16) (hb : 0 ≤ b ∧ b < 16) : bits .or .u8 ((a * 16)) b = 16 * a + b := by
  obtain ⟨x, rfl⟩ := Int.eq_ofNat_of_zero_le ha.1
  obtain ⟨y, rfl⟩ := Int.eq_ofNat_of_zero_le hb.1
  have hx : x < 16 := by omega
  have hy : y < 16 := by omega
  have h : ∀ (u v : Fin 16), bits .or .u8 (((u.val : Int) * 16)) (v.val : Int) = 16 * (u.val : Int) + v.val := by decide +kernel
  exact h ⟨x, hx⟩ ⟨y, hy⟩
theorem unhex_step (l : List UInt8) (k : Nat) (h : 2 * k + 1 < l.length) :
    unhex (l.drop (2 * k)) = if dB (l[2 * k]) && dB (l[2 * k + 1]) then (unhex (l.drop (2 * (k + 1)))).map (fun t => UInt8.ofNat (16 * dN l[2 * k] + dN l[2 * k + 1]) :: t) else none := by
  rw [List.drop_eq_getElem_cons (by omega), List.drop_eq_getElem_cons (i := 2 * k + 1) (by omega), unhex]
  rfl
theorem unhex_odd : ∀ (l : List UInt8), l.length % 2 ≠ 0 → unhex l = none
  | [], h => absurd rfl h
  | [_], _ => rfl
  | a :: b :: r, h => by
    have : unhex r = none := unhex_odd r (by simp at h; omega)
    rw [unhex, this]
    simp

def ParseRes (w : World) (r : Option (List UInt8)) (e : Ending) (w' : World) : Prop :=
  match r with
  | none => e = .returned (.tuple #[.slice none 0 0, .bool false]) ∧ Below w.heap.size w w'
  | some t => ∃ v, e = .returned (.tuple #[v, .bool true]) ∧ w'.ownsRow w.heap.size 5 1 v t.length (bcells t) ∧ Below w.heap.size w w'

set_option maxHeartbeats 800000 in
theorem hex_parse (s : ByteArray) (w : World) (hl : s.size ≤ 1099511627776) :
    Calls Tryd.prog 56 #[.string s] w (ParseRes w (unhex s.data.toList)) := by
  have hbt := bat_get s
  by_cases hodd : s.size % 2 = 0
  · have hodd2 : ((s.size : Int) % 2 != 0) = false := by simp; omega
    go_enter Tryd.func56, Tryd.ntmps56
    go_wp2
    go_loopw [4, 5, 6, 7, 8, 9] (fun v4 v5 v6 v7 v8 v9 wr => ∃ (k : Nat) (t : List UInt8), 2 * k ≤ s.size ∧ v5 = .int .i64 (2 * k : Nat) ∧ t.length = k ∧ Hid (unhex s.data.toList = (unhex (s.data.toList.drop (2 * k))).map (t ++ ·)) ∧
        wr.ownsRow w.heap.size 5 1 v4 k (bcells t) ∧ Below w.heap.size w wr) (fun _ v5 _ _ _ _ _ => s.size - (intOf v5).toNat)
    case atStart => exact ⟨0, [], by omega, rfl, rfl, by simp [Hid], World.ownsRow_nil _ _ _ _, Below.refl _ _⟩
    case round =>
      obtain ⟨k, t, hk, rfl, ht, hu, hown, hbr⟩ := hrel
      by_cases hlt : 2 * k < s.size
      · have hlen : s.data.toList.length = s.size := by simp
        have hl1 : 2 * k + 1 < s.data.toList.length := by omega
        have hus := Lib.hid (unhex_step s.data.toList k hl1)
        have e1 := bat_list s (2 * k) (by omega)
        have e2 := bat_list s (2 * k + 1) (by omega)
        have hus2 := Lib.hid (show unhex (s.data.toList.drop (2 * k)) = if digValB (bat s (2 * k)) && digValB (bat s (2 * k + 1)) then (unhex (s.data.toList.drop (2 * (k + 1)))).map (fun t => UInt8.ofNat (16 * (digValN (bat s (2 * k))).toNat + (digValN (bat s (2 * k + 1))).toNat) :: t) else none by rw [hus.out, e1, e2]; rfl)
        clear e1 e2 hus
        have d1 := digValN_bd (bat s (2 * k))
        have d2 := digValN_bd (bat s (2 * k + 1))
        have hor := Lib.hid (or_nibble _ _ d1 d2)
        rcases Bool.eq_false_or_eq_true (digValB (bat s (2 * k))) with g1 | g1 <;> rcases Bool.eq_false_or_eq_true (digValB (bat s (2 * k + 1))) with g2 | g2
        all_goals
          have G1 := Lib.hid g1
          have G2 := Lib.hid g2
          go_wp2_with fail
          go_call hex_value _ _ as e w1 ⟨rfl, hc1⟩
          go_wp2_with fail
          go_call hex_value _ _ as e w2 ⟨rfl, hc2⟩
          have hbw : Below w.heap.size w w2 := (hbr.trans (hc1.mono hbr.size)).trans (hc2.mono (Nat.le_trans hbr.size hc1.size))
          have hown2 := own_below (own_below hown hc1) hc2
        · go_wp2_with (at_builtin; refine wpList_app u8_app rfl rfl rfl rfl (hown2.alloc _) (Rd.row (B := w2.heap.size + 1) (Go.heap_alloc_new w2 _) (by omega)) rfl (by simp [Value.oneCell']) ?h63 ?hby ?hbase ?_)
          case h63 => simp only [maxLen]; omega
          case hby => omega
          case hbase => have := hbw.size; simp; omega
          intro v1 w3 hown3 hg3 _ _
          go_wp2
          go_roundw
          case rel =>
            refine ⟨k + 1, t ++ [UInt8.ofNat (16 * (digValN (bat s (2 * k))).toNat + (digValN (bat s (2 * k + 1))).toNat)], by omega, by go_num, by simp [ht], ?_, ?_, ?_⟩
            · show unhex s.data.toList = _
              rw [hu.out, hus2.out, G1.out, G2.out]
              simp [Option.map_map, Function.comp_def]
            · rw [bcells_append]
              refine (?_ : bcells [UInt8.ofNat (16 * (digValN (bat s (2 * k))).toNat + (digValN (bat s (2 * k + 1))).toNat)] = [Value.int .u8 (bits .or .u8 (digValN (bat s (2 * k)) * 16) (digValN (bat s (2 * k + 1))))]) ▸ hown3
              rw [hor.out]
              simp only [bcells, List.map_cons, List.map_nil, bcell, UInt8.toNat_ofNat']
              congr 2
              omega
            · exact grown_below (hbw.alloc hbw.size _) hg3 (hown2.alloc _) (Nat.le_refl _) (by have := hbw.size; simp; omega)
          case measure => simp [intOf]; omega
        all_goals
          go_wp2
          go_ret2
          have hnone : unhex s.data.toList = none := by rw [hu.out, hus2.out, G1.out, G2.out]; rfl
          rw [hnone]
          exact ⟨rfl, hbw⟩
      · have hk2 : s.data.toList.drop (2 * k) = [] := List.drop_eq_nil_of_le (by simp; omega)
        have hfin := Lib.hid (show unhex s.data.toList = some t by rw [hu.out, hk2]; simp [unhex])
        clear hk2
        go_wp2
        go_ret2
        rw [hfin.out]
        subst ht
        exact ⟨_, rfl, hown, hbr⟩
  · have hodd2 : ((s.size : Int) % 2 != 0) = true := by simp; omega
    go_enter Tryd.func56, Tryd.ntmps56
    go_wp2
    go_ret2
    rw [unhex_odd s.data.toList (by simpa using hodd)]
    exact ⟨rfl, Below.refl _ _⟩

end Go.Proofs.YtfheocdciekfoaaDoor
/- Contract of strings.Cut at one byte, every world. -/
namespace Go.Proofs.YtfheocdciekfoaaDoor
open Go.RowKit

set_option maxRecDepth 100000 in
theorem indexByte_any (s : ByteArray) (c : Int) (w : World) :
    Calls Tryd.prog 118 #[.string s, .int .u8 c] w fun e w' => e = .returned (.int .i64 (Lib.indexByte s.data.toList c.toNat.toUInt8)) ∧ w' = w := by
  go_enter Tryd.func118, Tryd.ntmps118
  go_wp2
  rw [run_callFunc_extern Tryd.func129 (by kernel_rfl) (by kernel_rfl) (by kernel_rfl) (e := Extern.BytealgIndexByte.indexByte) (by kernel_rfl), Lib.run_indexByteString]
  simp only [Result.andThen]
  rw [Oper.upon_value]
  go_wp2
  go_ret
  exact ⟨rfl, rfl⟩
theorem index1_any (s : ByteArray) (c : UInt8) (w : World) :
    Calls Tryd.prog 107 #[.string s, .string ⟨#[c]⟩] w fun e w' => e = .returned (.int .i64 (Lib.indexByte s.data.toList c)) ∧ Below w.heap.size w w' := by
  obtain ⟨sp, hsp⟩ : ∃ sp : ByteArray, sp = ⟨#[c]⟩ := ⟨_, rfl⟩
  have hss : sp.size = 1 := by rw [hsp]; rfl
  rw [← hsp]
  have HSP := Lib.hid hsp
  clear hsp
  go_enter Tryd.func107, Tryd.ntmps107
  go_wp2_with fail
  · rename_i heq
    have he : sp.toList = s.toList := by simpa using heq
    rw [Lib.toList_data, Lib.toList_data, HSP.out] at he
    go_ret
    refine ⟨rt1 ?_, Below.refl _ _⟩
    rw [← he]
    simp [Lib.indexByte]
  · have hc : sp[0].toNat = c.toNat := by
      have := HSP.out
      subst this
      rfl
    rw [hc]
    refine (indexByte_any s _ w).mono ?_
    rintro e w' ⟨rfl, rfl⟩
    go_wp2_with fail
    go_ret
    refine ⟨rt1 ?_, Below.refl _ _⟩
    simp
def cutL (l : List UInt8) (c : UInt8) : List UInt8 × List UInt8 × Bool :=
  if Lib.indexByte l c = -1 then (l, [], false) else (l.take (Lib.indexByte l c).toNat, l.drop ((Lib.indexByte l c).toNat + 1), true)
set_option maxRecDepth 100000 in
theorem cut0_any (l : List UInt8) (c : UInt8) (w : World) (hl : l.length ≤ 1099511627776) :
    Calls Tryd.prog 90 #[.string ⟨l.toArray⟩, .string ⟨#[c]⟩] w fun e w' =>
      e = .returned (.tuple #[.string ⟨(cutL l c).1.toArray⟩, .string ⟨(cutL l c).2.1.toArray⟩, .bool (cutL l c).2.2]) ∧ Below w.heap.size w w' := by
  obtain ⟨s, hs⟩ : ∃ s : ByteArray, s = ⟨l.toArray⟩ := ⟨_, rfl⟩
  obtain ⟨sp, hsp⟩ : ∃ sp : ByteArray, sp = ⟨#[c]⟩ := ⟨_, rfl⟩
  have hss : sp.size = 1 := by rw [hsp]; rfl
  have hsz : s.size = l.length := by rw [hs]; rfl
  rw [← hsp, ← hs]
  have HSP := Lib.hid hsp
  have HS := Lib.hid hs
  have HIX := Lib.hid (show Lib.indexByte s.data.toList c = Lib.indexByte l c by rw [hs])
  clear hsp hs
  have hge := Lib.indexByte_ge l c
  by_cases hm : Lib.indexByte l c = -1
  · have HC := Lib.hid (show cutL l c = (l, [], false) by unfold cutL; rw [if_pos hm])
    have HM := Lib.hid hm
    clear hm hge
    go_enter Tryd.func90, Tryd.ntmps90
    go_wp2_with (go_at_call 107; rw [HSP.out]; refine (index1_any s c _).mono ?_; rintro e w1 ⟨rfl, hb1⟩; rw [HIX.out, HM.out, ← HSP.out])
    refine bodyPost_ret (results_tmp3 rfl _ _ _) rfl ?_
    refine ⟨?_, hb1⟩
    rw [HC.out]
    simp only
    rw [← HS.out]
    rfl
  · obtain ⟨i, hi⟩ : ∃ i : Nat, Lib.indexByte l c = i := ⟨(Lib.indexByte l c).toNat, by omega⟩
    have hil : i < l.length := by
      have := (Lib.indexByte_some hi).1
      exact (List.getElem?_eq_some_iff.1 this).1
    have HC := Lib.hid (show cutL l c = (l.take i, l.drop (i + 1), true) by unfold cutL; rw [if_neg hm, hi]; rfl)
    have HM := Lib.hid hi
    clear hm hge hi
    go_enter Tryd.func90, Tryd.ntmps90
    go_wp2_with (go_at_call 107; rw [HSP.out]; refine (index1_any s c _).mono ?_; rintro e w1 ⟨rfl, hb1⟩; rw [HIX.out, HM.out, ← HSP.out])
    have HB1 := Lib.hid hb1
    clear hb1
    have c1 : (0 : Int) ≤ ↑i := by omega
    have c2 : (↑i : Int) ≤ ↑s.size := by omega
    have c3 : (0 : Int) ≤ ↑i + 1 := by omega
    have c4 : (↑i + 1 : Int) ≤ ↑s.size := by omega
    go_quiet (fail)
    go_wp2_with fail
    refine bodyPost_ret (results_tmp3 rfl _ _ _) rfl ?_
    refine ⟨?_, ⟨HB1.out.os, HB1.out.tape, HB1.out.output, HB1.out.size, HB1.out.block⟩⟩
    rw [HC.out]
    simp only
    have e1 : s.extract 0 i = ⟨(l.take i).toArray⟩ := by
      rw [HS.out]
      apply ByteArray.ext
      simp
    have e2 : s.extract (i + 1) l.length = ⟨(l.drop (i + 1)).toArray⟩ := by
      rw [HS.out]
      apply ByteArray.ext
      simp [List.extract_eq_take_drop]
      exact List.take_of_length_le (by simp)
    rw [e1, e2]
    rfl
set_option maxRecDepth 100000 in
theorem cut_str (l : List UInt8) (c : UInt8) (w : World) (hl : l.length ≤ 1099511627776) :
    Calls Tryd.prog 55 #[.string ⟨l.toArray⟩, .string ⟨#[c]⟩] w fun e w' =>
      e = .returned (.tuple #[.string ⟨(cutL l c).1.toArray⟩, .string ⟨(cutL l c).2.1.toArray⟩, .bool (cutL l c).2.2]) ∧ Below w.heap.size w w' := by
  go_enter Tryd.func55, Tryd.ntmps55
  go_wp2_with (go_at_call 90; refine (cut0_any l c _ hl).mono ?_; rintro e w1 ⟨rfl, hb1⟩)
  refine bodyPost_ret (results_tmp3 rfl _ _ _) rfl ?_
  exact ⟨rfl, hb1⟩
end Go.Proofs.YtfheocdciekfoaaDoor
