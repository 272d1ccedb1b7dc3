/- Texts of this proof joined: RecSame, HexVal, HexParse, Cut, KeyParse, KeyLaw, HexPure, AtoiDec, Names, Seg2, Rising. -/
import Derived.Test.YtplbcbamnjnhlaaGreatDoorMT00
import Derived.Test.YtplbcbamnjnhlaaGreatDoorMT10
import Derived.Test.YtplbcbamnjnhlaaGreatDoorMT05
import Derived.Test.YtplbcbamnjnhlaaGreatDoorChecked
import Derived.Test.YtplbcbamnjnhlaaGreatDoorMT04
import Derived.Test.YtplbcbamnjnhlaaGreatDoorMT03
import Derived.Lib.Bytealg
import Derived.Lib.IndexLaws
import Derived.Deep.QuietTactic
import Derived.BigQuiet
import Derived.Test.YtplbcbamnjnhlaaGreatDoorMT09
import Derived.Laws.ResultCell
import Derived.Lib.AtoiTie
import Derived.Lib.ItoaNum
import Derived.Lib.ItoaMem
import Derived.Lib.ItoaLen
import Derived.Lib.Strings
set_option maxRecDepth 100000
set_option maxHeartbeats 40000000
namespace Go.Proofs.YtplbcbamnjnhlaaGreatDoor
open Go.RowKit

def gq (a b : RecD) : Bool := decide (a.kind = b.kind) && decide (a.seq = b.seq) && (decide (a.kh = b.kh) && decide (a.kk = b.kk)) && (decide (a.mh = b.mh) && decide (a.ms = b.ms)) && decide (a.keys = b.keys)
abbrev rv (r : RecD) (v : Value) : Value := recv r.kind r.seq r.kh r.kk r.mh r.ms v
def Hs (r : RecD) : Prop := r.kh.length = 32 ∧ r.mh.length = 32
theorem same_any (a b : RecD) (A1 A2 : Option Addr) (n1 c1 n2 c2 B1 B2 : Nat) (w : World) (ha : Hs a) (hb : Hs b) (h1 : SlR eKey w B1 (.slice A1 n1 c1) a.keys) (h2 : SlR eKey w B2 (.slice A2 n2 c2) b.keys) (hB1 : B1 ≤ w.heap.size) (hB2 : B2 ≤ w.heap.size) :
  Calls Tryz.prog 75 #[rv a (.slice A1 n1 c1), rv b (.slice A2 n2 c2)] w fun e w' => e = .returned (.bool (gq a b)) ∧ Below w.heap.size w w' := by
 obtain ⟨a0, a1, a2, a3, a4, a5, a6⟩ := a
 obtain ⟨b0, b1, b2, b3, b4, b5, b6⟩ := b
 obtain ⟨ha1, ha2⟩ := ha
 obtain ⟨hb1, hb2⟩ := hb
 simp only at ha1 ha2 hb1 hb2 h1 h2
 have hbw : Below w.heap.size w ((w.alloc (.cells (ag a0 a1 a2 a3 a4 a5 (.slice A1 n1 c1)).toArray 38)).alloc (.cells (ag b0 b1 b2 b3 b4 b5 (.slice A2 n2 c2)).toArray 38)) :=
  ((br _ _).alloc (nr _) _).alloc (Nat.le_of_lt (by show _ < (Array.push _ _).size; rw [Array.size_push]; exact Nat.lt_succ_self _)) _
 have hr1 : cu ((w.alloc (.cells (ag a0 a1 a2 a3 a4 a5 (.slice A1 n1 c1)).toArray 38)).alloc (.cells (ag b0 b1 b2 b3 b4 b5 (.slice A2 n2 c2)).toArray 38)) w.heap.size 38 a0 a1 a2 a3 a4 a5 (.slice A1 n1 c1) :=
  (cu.new w ha1 ha2).later ((br _ _).alloc (nr _) _)
 have hr2 := cu.new (t := 38) (kind := b0) (seq := b1) (kk := b3) (ms := b5) (v := .slice A2 n2 c2) (w.alloc (.cells (ag a0 a1 a2 a3 a4 a5 (.slice A1 n1 c1)).toArray 38)) hb1 hb2
 have H1 := Lh (h1.fut hbw hB1 (nr B1))
 have H2 := Lh (h2.fut hbw hB2 (nr B2))
 have HBW := Lh hbw
 clear h1 h2 hbw
 go_enter Tryz.func75, Tryz.ntmps75
 go_wp2_with (refine ai (some 2) rfl ?_)
 refine Stop.go (bn rfl _ rfl rfl rfl (bn rfl _ rfl rfl rfl ?_))
 rw [show (w.alloc (.cells (ag a0 a1 a2 a3 a4 a5 (.slice A1 n1 c1)).toArray 38)).heap.size = w.heap.size + 1 from Array.size_push _] at hr2 ⊢
 generalize (w.alloc (.cells (ag a0 a1 a2 a3 a4 a5 (.slice A1 n1 c1)).toArray 38)).alloc (.cells (ag b0 b1 b2 b3 b4 b5 (.slice A2 n2 c2)).toArray 38) = w1 at *
 have c0 := hr1.kind_
 have c1' := hr1.seq_
 have c2' := hr1.keys_
 have d0 := hr2.kind_
 have d1 := hr2.seq_
 have d2 := hr2.keys_
 have HR1 := Lh hr1
 have HR2 := Lh hr2
 clear hr1 hr2
 by_cases e0 : a0 = b0
 ·by_cases e1 : a1 = b1
  ·subst e0 e1
   go_wp2_with (refine ai (some 5) rfl ?_)
   refine Stop.go (ar 14 _ _ _ (fun Q' hQ' => ?_))
   simp only [T1, T0]
   go_wp2_with fail
   try simp only [dr1, dr0]
   refine Stop.go (aw (by rfl) 34 rfl rfl ba.ut rfl (al _ _ ha1) HR1.o.key_ ?_)
   refine ar 1 _ _ _ (fun Q' hQ' => ?_)
   simp only [T1, T0]
   go_wp2_with fail
   try simp only [dr1, dr0]
   refine Stop.go (aw (by rfl) 34 rfl rfl ba.ut rfl (al _ _ hb1) HR2.o.key_ ?_)
   refine ln (by rfl) .eql 34 rfl rfl rfl (ez ba.gd ..) (qar ba ha1 hb1) ?_
   cases ek : (decide (a2 = b2) && decide (a3 = b3))
   ·have HF := Lh (show gq ⟨a0, a1, a2, a3, a4, a5, a6⟩ ⟨a0, a1, b2, b3, b4, b5, b6⟩ = false by unfold gq; simp only [ek]; simp)
    go_wp2_with fail
    go_ret
    exact ⟨rt1 (bu HF.o.symm), HBW.o⟩
   ·refine ar 3 _ _ _ (fun Q' hQ' => ?_)
    simp only [T1, T0]
    go_wp2_with fail
    try simp only [dr1, dr0]
    refine Stop.go (aw (by rfl) 36 rfl rfl jw.ut rfl (dj _ _ ha2) HR1.o.mark_ ?_)
    refine ar 1 _ _ _ (fun Q' hQ' => ?_)
    simp only [T1, T0]
    go_wp2_with fail
    try simp only [dr1, dr0]
    refine Stop.go (aw (by rfl) 36 rfl rfl jw.ut rfl (dj _ _ hb2) HR2.o.mark_ ?_)
    refine ln (by rfl) .eql 36 rfl rfl rfl (ez jw.gd ..) (qar jw ha2 hb2) ?_
    cases em : (decide (a4 = b4) && decide (a5 = b5))
    ·have HF := Lh (show gq ⟨a0, a1, a2, a3, a4, a5, a6⟩ ⟨a0, a1, b2, b3, b4, b5, b6⟩ = false by unfold gq; simp only [ek, em]; simp)
     go_wp2_with fail
     go_ret
     exact ⟨rt1 (bu HF.o.symm), HBW.o⟩
    ·have HF := Lh (show gq ⟨a0, a1, a2, a3, a4, a5, a6⟩ ⟨a0, a1, b2, b3, b4, b5, b6⟩ = decide (a6 = b6) by unfold gq; simp only [ek, em]; simp)
     go_wp2_with (go_at_call 108; refine (qoy A1 A2 c1 c2 B1 B2 n1 n2 a6 b6 _ H1.o H2.o).mono ?_; rintro e w3 ⟨rfl, hb3⟩)
     go_ret
     exact ⟨rt1 (bu HF.o.symm), HBW.o.trans (hb3.mono HBW.o.size)⟩
  ·have HF := Lh (show gq ⟨a0, a1, a2, a3, a4, a5, a6⟩ ⟨b0, b1, b2, b3, b4, b5, b6⟩ = false by unfold gq; simp [e1])
   have e1' : (a1 == b1) = false := by rw [beq_eq_false_iff_ne]; exact e1
   subst e0
   clear e1
   go_wp2_with fail
   go_ret
   exact ⟨rt1 (bu HF.o.symm), HBW.o⟩
 ·have HF := Lh (show gq ⟨a0, a1, a2, a3, a4, a5, a6⟩ ⟨b0, b1, b2, b3, b4, b5, b6⟩ = false by unfold gq; simp [e0])
  have e0' : (a0 == b0) = false := by rw [beq_eq_false_iff_ne]; exact e0
  clear e0
  go_wp2_with fail
  go_ret
  exact ⟨rt1 (bu HF.o.symm), HBW.o⟩

def digValB (c : Int) : Bool := decide (48 ≤ c ∧ c ≤ 57) || decide (97 ≤ c ∧ c ≤ 102)
def digValN (c : Int) : Int := if 48 ≤ c ∧ c ≤ 57 then c - 48 else if 97 ≤ c ∧ c ≤ 102 then c - 87 else 0


def dB (b : UInt8) : Bool := digValB b.toNat
def dN (b : UInt8) : Nat := (digValN b.toNat).toNat
def qo : List UInt8 → Option (List UInt8)
 |[] => some []
 |[_] => none
 |a :: b :: r => if dB a && dB b then (qo r).map (fun t => UInt8.ofNat (16 * dN a + dN b) :: t) else none


def cutL (l : List UInt8) (c : UInt8) : List UInt8 × List UInt8 × Bool :=
 if Lib.indexByte l c = -1 then (l, [], false) else (l.take (Lib.indexByte l c).toNat, l.drop ((Lib.indexByte l c).toNat + 1), true)

theorem ls {w : World} {ops : Array Oper} {rest : List Oper} {o : Oper} {a : Act} {Q : Exit → Act → World → Prop} (hgd : o.guard = none) (d s : Operand)
  (ho : o.op = .call { callee := .builtin .copy, args := #[d, s], argTypes := #[44, 44] })
  {A : Option Addr} {g c c1 n : Nat} {h0 b : List UInt8} {k : Int} (hd : a.eval d = .slice (some ⟨g, 0, none⟩) 32 c) (hs : a.eval s = .slice A n c1) (hn : n = 32) (h0l : h0.length = 32) (hbl : b.length = 32) {t : TypeId}
  (hg : w.heap[g]? = some (.cells (af h0 k).toArray t (0, 0))) {B : Nat} (hr : Rd w B A (ak b)) {B0 : Nat} {w0 : World} (hb : Below B0 w0 w) (hBg : B0 ≤ g)
  (h : ∀ w', Hid (w'.heap[g]? = some (.cells (af b k).toArray t (0, 0))) → Below B0 w0 w' → w'.heap.size = w.heap.size → wpList Tryz.prog ops Q rest (a.put o.dst (goInt 32)) w') :
  wpList Tryz.prog ops Q (o :: rest) a w := by
 subst hn
 have hlb : (ak b).length = 32 := by rw [am, hbl]
 obtain ⟨ab, ao, rfl, hab, hcells⟩ := hr (by intro e; have := congrArg List.length e; rw [hlb] at this; simp at this)
 refine wpList_copy_own hgd d s 44 44 ho 5 Tryz.underlying44 (by kernel_rfl) g 0 32 c ⟨ab, ao, none⟩ 32 c1 hd hs (af h0 k).toArray t hg (ak b) (by rw [hlb]; rfl)
  (fun j v hv => by rw [Addr.add_lit]; exact hcells j v hv) (by rw [hlb]; simp [ae, h0l]) (ef _) ?_
 rw [hlb]
 refine h _ ?_ (below_setRow hb hBg _) (by simp)
 show _ = _
 rw [setRow_heap w g (af h0 k).toArray _ t _ hg]
 congr 2
 simp only [List.take_zero, List.nil_append, Nat.zero_add]
 unfold af
 rw [List.drop_append_of_le_length (by rw [am, h0l]; exact nr _), List.drop_eq_nil_of_le (by rw [am, h0l]; exact nr _)]
 simp
noncomputable def qoz : TypeDesc := .struct (Tryz.prog.fieldsOf 34)
theorem qjo : Tryz.prog.underlying 34 = some qoz := by kernel_rfl
theorem my (w : World) : (Instr.build 34 #[]).run Tryz.prog w = .ok (hkv z32 0) w := by
 unfold Instr.build
 simp only [Sem.run_bind, ge, Result.andThen_ok, dl, run_underlying qjo, qoz, qgc]
 rfl
theorem qpp (k : Int) (w : World) : (Instr.build 34 #[(1, .int .i64 k)]).run Tryz.prog w = .ok (hkv z32 k) w := by
 unfold Instr.build
 simp only [Sem.run_bind, ge, Result.andThen_ok, dl, run_underlying qjo, qoz, qgc]
 rfl
theorem ce {P : Program} {w : World} {g : Nat} {ty : TypeId} {vs : List Value} {v : Value} (hv : v.cells = vs.toArray) (hi : (P.info? ty).map (·.size) = some vs.length) {cur : Array Value} {t : TypeId} (hg : w.heap[g]? = some (.cells cur t (0, 0)))
  (hl : vs.length = cur.size) (h1 : ∀ u ∈ vs, u.oneCell' = true) : (Instr.storeAt ty (.pointer (some ⟨g, 0, none⟩)) v).run P w = .ok () (w.setRow g vs.toArray) := by
 rw [jt hv hi hg (by omega) h1]
 congr 2
 simp [List.drop_eq_nil_of_le (show cur.toList.length ≤ vs.length by simp; omega)]
def qmg (l : List UInt8) : Option (List UInt8 × Int) :=
 match qo (cutL l 45).1 with
 |none => none
 |some b => if (cutL l 45).2.2 = true ∧ b.length = 32 ∧ (cutL l 45).2.1.length = 1 ∧ kOk (((cutL l 45).2.1.getD 0 0).toNat - 48) = true then some (b, ((cutL l 45).2.1.getD 0 0).toNat - 48) else none
def KeyTo (w : World) (r : Option (List UInt8 × Int)) : Ending → World → Prop := fun e w' =>
 (match r with
  |none => e = .returned (.tuple #[hkv z32 0, .bool false])
  |some (b, k) => b.length = 32 ∧ e = .returned (.tuple #[hkv b k, .bool true])) ∧ Below w.heap.size w w'

def xp (l : List UInt8) : Option (List UInt8 × Int) :=
 if l.length = 66 ∧ l.getD 64 0 = 45 ∧ 49 ≤ (l.getD 65 0).toNat ∧ (l.getD 65 0).toNat ≤ 52 then (qo (l.take 64)).map fun b => (b, ((l.getD 65 0).toNat : Int) - 48) else none
theorem tu : ∀ (l t : List UInt8), qo l = some t → l.length = 2 * t.length ∧ ∀ b ∈ l, dB b = true
 |[], t, h => by
  simp only [qo, Option.some.injEq] at h
  subst h
  simp
 |[_], t, h => by simp [qo] at h
 |a :: b :: r, t, h => by
  rw [qo] at h
  split at h
  ·rename_i hd
   rw [Option.map_eq_some_iff] at h
   obtain ⟨t', h1, rfl⟩ := h
   obtain ⟨h2, h3⟩ := tu r t' h1
   rw [Bool.and_eq_true] at hd
   refine ⟨by simp; omega, fun x hx => ?_⟩
   rcases List.mem_cons.1 hx with rfl | hx
   ·exact hd.1
   ·rcases List.mem_cons.1 hx with rfl | hx
    ·exact hd.2
    ·exact h3 x hx
  ·cases h
theorem dB_dash : dB 45 = false := by decide
theorem keyOf_eq (l : List UInt8) : qmg l = xp l := by
 have hd : ∀ (i : Nat) (t : List UInt8), qo (l.take i) = some t → ∀ k, k < i → l[k]? ≠ some 45 := by
  intro i t h k hk he
  have hm : (45 : UInt8) ∈ l.take i := by
   rw [List.mem_iff_getElem?]
   exact ⟨k, by rw [List.getElem?_take, if_pos hk]; exact he⟩
  have := (tu _ _ h).2 45 hm
  rw [dB_dash] at this
  cases this
 have hge := Lib.indexByte_ge l 45
 by_cases hm : Lib.indexByte l 45 = -1
 ·have hc : cutL l 45 = (l, [], false) := by unfold cutL; rw [if_pos hm]
  have h1 : qmg l = none := by
   unfold qmg
   rw [hc]
   cases qo l <;> simp
  rw [h1]
  unfold xp
  rw [if_neg]
  rintro ⟨h2, h3, _⟩
  refine Lib.indexByte_none hm 64 ?_
  rw [List.getElem?_eq_getElem (by omega)]
  rw [List.getD_eq_getElem?_getD, List.getElem?_eq_getElem (by omega)] at h3
  simpa using h3
 ·obtain ⟨i, hi⟩ : ∃ i : Nat, Lib.indexByte l 45 = i := ⟨(Lib.indexByte l 45).toNat, by omega⟩
  obtain ⟨hat, hbefore⟩ := Lib.indexByte_some hi
  have hil : i < l.length := (List.getElem?_eq_some_iff.1 hat).1
  have hc : cutL l 45 = (l.take i, l.drop (i + 1), true) := by unfold cutL; rw [if_neg hm, hi]; rfl
  unfold qmg
  rw [hc]
  simp only [true_and]
  by_cases h64 : i = 64
  ·subst h64
   unfold xp
   have h45 : l.getD 64 0 = 45 := by rw [List.getD_eq_getElem?_getD, hat]; rfl
   have hdl : (l.drop 65).getD 0 0 = l.getD 65 0 := by simp [List.getD_eq_getElem?_getD]
   rw [hdl, List.length_drop]
   cases hu : qo (l.take 64) with
   |none => simp
   |some b =>
    have h32 := (tu _ _ hu).1
    rw [List.length_take] at h32
    have hb : b.length = 32 := by omega
    simp only [hb, h45, Option.map_some, true_and]
    have hk : ∀ n : Nat, (kOk ((n : Int) - 48) = true ↔ 49 ≤ n ∧ n ≤ 52) := fun n => by unfold kOk; simp; omega
    by_cases h66 : l.length = 66
    ·have : l.length - 65 = 1 := by omega
     simp only [h66, true_and, hk]
    ·have : ¬ (l.length - 65 = 1) := by omega
     simp only [h66, this, false_and, if_false]
  ·have h1 : xp l = none := by
    unfold xp
    split
    ·rename_i hh
     obtain ⟨h2, h3, _⟩ := hh
     cases hu : qo (l.take 64) with
     |none => rfl
     |some b =>
      exfalso
      have h4 : l[64]? = some 45 := by
       rw [List.getElem?_eq_getElem (by omega)]
       rw [List.getD_eq_getElem?_getD, List.getElem?_eq_getElem (by omega)] at h3
       simpa using h3
      rcases Nat.lt_or_ge i 64 with h5 | h5
      ·exact hd 64 b hu i h5 hat
      ·exact hbefore 64 (by omega) h4
    ·rfl
   rw [h1]
   cases hu : qo (l.take i) with
   |none => rfl
   |some b =>
    have h32 := (tu _ _ hu).1
    rw [List.length_take] at h32
    simp only
    rw [if_neg]
    rintro ⟨h5, _⟩
    omega

def qbv (k : Nat) : UInt8 := (md k).toNat.toUInt8
theorem qmp (k : Nat) (h : k < 16) : dB (qbv k) = true ∧ dN (qbv k) = k := by
 have h2 : ∀ j : Fin 16, dB (qbv j.val) = true ∧ dN (qbv j.val) = j.val := by decide +kernel
 exact h2 ⟨k, h⟩
theorem qcg : ∀ (l : List UInt8), qo (jp l) = some l
 |[] => rfl
 |b :: l => by
  have hb := b.toNat_lt
  have h1 := qmp (b.toNat / 16) (by omega)
  have h2 := qmp (b.toNat % 16) (by omega)
  show qo (qbv (b.toNat / 16) :: qbv (b.toNat % 16) :: jp l) = _
  rw [qo, h1.1, h2.1, h1.2, h2.2, qcg l]
  have : 16 * (b.toNat / 16) + b.toNat % 16 = b.toNat := by omega
  rw [this]
  simp
end Go.Proofs.YtplbcbamnjnhlaaGreatDoor
namespace Go.Proofs.YtplbcbamnjnhlaaGreatDoor

end Go.Proofs.YtplbcbamnjnhlaaGreatDoor
namespace Go.Proofs.YtplbcbamnjnhlaaGreatDoor
open Go.RowKit

theorem rz (h : List UInt8) (k : Int) (hh : h.length = 32) (hk : kOk k = true) : (dc h k).length = 66 := by
 unfold dc
 rw [if_pos hk, List.length_append, jk, hh]
 rfl
theorem qx (h : List UInt8) (k : Int) : dc h k = [] ↔ kOk k = false := by
 unfold dc
 cases kOk k <;> simp
theorem qfl (h : List UInt8) (k : Int) (hh : h.length = 32) : qmg (dc h k) = if kOk k then some (h, k) else none := by
 rw [keyOf_eq]
 cases hk : kOk k
 ·rw [(qx h k).2 hk]
  rfl
 ·have hl : (jp h).length = 64 := by rw [jk, hh]
  have hb : 1 ≤ k ∧ k ≤ 4 := by unfold kOk at hk; simpa using hk
  have ht : dc h k = jp h ++ [45, UInt8.ofNat (48 + k.toNat)] := by unfold dc; rw [if_pos hk]
  have h64 : (dc h k).getD 64 0 = 45 := by
   rw [ht, List.getD_eq_getElem?_getD, List.getElem?_append_right (by omega), hl]
   rfl
  have h65 : (dc h k).getD 65 0 = UInt8.ofNat (48 + k.toNat) := by
   rw [ht, List.getD_eq_getElem?_getD, List.getElem?_append_right (by omega), hl]
   rfl
  have hn : (UInt8.ofNat (48 + k.toNat)).toNat = 48 + k.toNat := by rw [UInt8.toNat_ofNat']; omega
  have htk : (dc h k).take 64 = jp h := by rw [ht, List.take_append_of_le_length (by omega), List.take_of_length_le (by omega)]
  unfold xp
  rw [h64, h65, htk, hn, qcg, rz h k hh hk, if_pos ⟨rfl, rfl, by omega, by omega⟩, if_pos rfl]
  simp only [Option.map_some]
  congr 2
  omega

section
variable {P : Program} {ops : Array Oper} {Q : Exit → Act → World → Prop} {a : Act} {w : World} {rest : List Oper} {o : Oper}
theorem nz {b : Bool} {v : Value} (hw : Region.wanted o (yielded ops a.tmps) = b) (hrun : b = true → (execOp a.eval o).run P w = .ok (.value v) w) (h : wpList P ops Q rest (a.put o.dst (if b then v else undef)) w) :
  wpList P ops Q (o :: rest) a w := by
 cases b
 ·exact wpList_skip hw (by simpa using h)
 ·refine ro hw fun K hK => ?_
  unfold Oper.wp
  rw [hrun rfl]
  exact hK _ _ (by simpa using h)
theorem jm (h : Q .normal a w) : wpList P ops Q [] a w := by simpa [wpList] using h
theorem rp (hw : Region.wanted o (yielded ops a.tmps) = true) {v : Value} (hrun : (execOp a.eval o).run P w = .ok (.value v) w) (h : wpList P ops Q rest (a.put o.dst v) w) : wpList P ops Q (o :: rest) a w := by
 refine ro hw fun K hK => ?_
 unfold Oper.wp
 rw [hrun]
 exact hK _ _ h
theorem iz {ty : TypeId} {k : IntKind} {p : Addr} {z : Int} (hu : P.underlying ty = some (.int k)) (hc : w.cell? p = some (.int k z)) : (Instr.loadAt ty (.pointer (some p))).run P w = .ok (.int k z) w := by
 have hagg : (isAgg ty).run P w = .ok false w := by
  unfold isAgg
  rw [Sem.run_bind, run_underlying hu w]
  rfl
 simp [Instr.loadAt, Instr.sureAddr, loadVar, Sem.run_bind, hagg, hc]
theorem du {ty : TypeId} {x : Operand} {v p : Value} (ho : o.op = .load ty x) (hx : a.eval x = p) (h : (Instr.loadAt ty p).run P w = .ok v w) : (execOp a.eval o).run P w = .ok (.value v) w := by
 unfold execOp
 simp only [ho, hx, Sem.run_bind, h, Result.andThen_ok, Sem.run_pure]
end
section
variable {P : Program} {ops : Array Oper} {w0 : World} {G : List Nat}
theorem bh {Q : Act → World → Prop} (n : Nat) {k : Nat} {l : List Oper} {a : Act} {w : World} (hG : (List.range' k n).all (fun i => !G.contains i) = true)
  (h : ∀ Q' : Exit → Act → World → Prop, (∀ a w, Stop (Text.wpS P ops w0 G Q (k + n) (l.drop n) a w) → Q' .normal a w) → wpList P ops Q' (l.take n) a w) : Stop (Text.wpS P ops w0 G Q k l a w) :=
 ⟨Text.wpS_seg n k l a w hG fun Q' hQ' => h Q' fun a w hh => hQ' a w hh.o⟩
theorem ie {Q : Act → World → Prop} {k : Nat} {o : Oper} {r : List Oper} {a : Act} {w : World}
  (h : ∀ Q' : Exit → Act → World → Prop, (∀ a' w', Below w0.heap.size w0 w' ∧ Stop (Text.wpS P ops w0 G Q (k + 1) r a' w') → Q' .normal a' w') → wpList P ops Q' [o] a w) : Stop (Text.wpS P ops w0 G Q k (o :: r) a w) :=
 ⟨Text.wpS_one fun Q' hQ' => h Q' fun a w hh => hQ' a w ⟨hh.1, hh.2.o⟩⟩
theorem jg {Q : Act → World → Prop} {k : Nat} {o : Oper} {r : List Oper} {a : Act} {w : World} (hg : Region.wanted o (yielded ops a.tmps) = false) (h : Stop (Text.wpS P ops w0 G Q (k + 1) r (a.put o.dst undef) w)) : Stop (Text.wpS P ops w0 G Q k (o :: r) a w) :=
 ⟨Text.wpS_skip hg h.o⟩
theorem jr {Q : Act → World → Prop} {k : Nat} {a : Act} {w : World} (h : Q a w) : Stop (Text.wpS P ops w0 G Q k [] a w) := ⟨h⟩
theorem qj {id : Nat} {Q : Exit → Act → World → Prop} {a : Act} {w : World} {l : List Oper} (G LD ex : List Nat) (hm : P.follows .mixedOrders = true) (hB : Text.growB P l.toArray G LD ex = true)
  (h : Stop (Text.wpS P l.toArray w.drew G (fun a' w' => Text.chk l.toArray ex a' = true ∧ Text.oldAll P l.toArray w.drew a' LD ∧ Q .normal a' w') 0 l a w.drew)) : (Code.region id l.toArray true).wp P Q a w :=
 Text.wp_grow G LD ex hm hB h.o
end

theorem tc (h : List UInt8) (k : Int) (w : World) (hh : h.length = 32) :
  Calls Tryz.prog 106 #[hkv h k] w fun e w' => e = .returned (.bool (kOk k)) ∧ Below w.heap.size w w' := by
 have HH := Lh hh
 clear hh
 obtain ⟨S, hS⟩ : ∃ S : ByteArray, S = ⟨(dc h k).toArray⟩ := ⟨_, rfl⟩
 have hz : S.toList.isEmpty = !kOk k := by
  rw [hS]
  have := qx h k
  cases hk : kOk k <;> rw [hk] at this <;> simpa using this
 have HS := Lh hS
 clear hS
 have HB := Lh ((br _ _).alloc (nr _) (.cells (af h k).toArray 34) : Below w.heap.size w _)
 have HG := Lh (hzn w (.cells (af h k).toArray 34))
 go_enter Tryz.func106, Tryz.ntmps106
 go_wp2_with (refine ai (some 1) rfl ?_)
 refine Stop.go (bn rfl _ rfl rfl (dl h k) ?_)
 generalize w.alloc (.cells (af h k).toArray 34) = w1 at *
 go_wp2_with (refine ai (some 3) rfl ?_)
 refine Stop.go (aa rfl 34 rfl rfl ba.ut rfl (al h k HH.o) (aq HG.o) ?_)
 go_wp2_with (go_at_call 105; refine (qec h k _ HH.o).mono ?_; rw [← HS.o]; rintro e w2 ⟨rfl, hb2⟩)
 go_ret
 exact ⟨rt1 (bu (by simp)), HB.o.trans (hb2.mono HB.o.size)⟩
def qef (xs : List KeyD) (i : Nat) : Bool := kOk (xs.getD i (z32, 0)).2 && (i == 0 || ij (xs.getD (i - 1) (z32, 0)).1 (xs.getD (i - 1) (z32, 0)).2 (xs.getD i (z32, 0)).1 (xs.getD i (z32, 0)).2)
def lf (xs : List KeyD) (i : Nat) : Bool := (List.range i).all (qef xs)
def fl (xs : List KeyD) : Bool := lf xs xs.length && decide (1 ≤ xs.length ∧ xs.length ≤ 256)
theorem pu (xs : List KeyD) (i : Nat) : lf xs (i + 1) = (lf xs i && qef xs i) := by
 unfold lf
 rw [List.range_succ, List.all_append]
 simp
theorem ub (xs : List KeyD) (i n : Nat) (hi : i < n) (h : qef xs i = false) : lf xs n = false := by
 unfold lf
 rw [List.all_eq_false]
 exact ⟨i, List.mem_range.2 hi, by simp [h]⟩
theorem qro (xs : List KeyD) (i : Nat) (h : i < xs.length) : xs.getD i (z32, 0) = xs[i] := by rw [List.getD_eq_getElem?_getD, List.getElem?_eq_getElem h]; rfl
theorem lx (xs : List KeyD) (i : Nat) (h : i < xs.length) : qef xs i = (kOk xs[i].2 && (i == 0 || ij xs[i - 1].1 xs[i - 1].2 xs[i].1 xs[i].2)) := by
 unfold qef
 rw [qro xs i h, qro xs (i - 1) (by omega)]
theorem qoa (A : Option Addr) (c B n : Nat) (xs : List KeyD) (w : World) (h1 : SlR eKey w B (.slice A n c) xs) (hB : B ≤ w.heap.size) :
  Calls Tryz.prog 107 #[.slice A n c] w fun e w' => e = .returned (.bool (fl xs)) ∧ Below w.heap.size w w' := by
 have N1 := Lh h1.n_eq
 have hc1 := h1.n_le
 have H1 := Lh h1
 have HBW := Lh hB
 clear h1 hB
 go_enter Tryz.func107, Tryz.ntmps107
 go_wp2_with fail
 go_loopw [7] (fun v7 wr => ∃ i : Nat, i ≤ n ∧ v7 = .int .i64 i ∧ Hid (lf xs i = true) ∧ Hid (Below w.heap.size w wr)) (fun v7 _ => n - (intOf v7).toNat)
 case atStart => exact ⟨0, by omega, rfl, rfl, br _ _⟩
 case round =>
  obtain ⟨i, hi, rfl, HP, HB⟩ := hrel
  by_cases hlt : i < n
  ·have hlt1 : i < xs.length := by have := N1.o; omega
   have HR := Lh (H1.o.below (HB.o.mono HBW.o))
   obtain ⟨b1, o1, rfl, _, hb1, l1, e1⟩ := mn HR.o hlt1
   obtain ⟨x1, x2, hx⟩ : ∃ x1 x2, xs[i] = (x1, x2) := ⟨_, _, rfl⟩
   rw [hx] at l1 e1
   simp only at l1 e1
   have HX := Lh hx
   have E1 := Lh e1
   have L1 := Lh l1
   clear e1 hx l1
   go_wp2_with (refine ai (some 10) rfl ?_)
   refine Stop.go (ar 1 _ _ _ (fun Q' hQ' => ?_))
   simp only [T1, T0]
   go_wp2_with fail
   try simp only [dr1, dr0]
   refine Stop.go (aa rfl 34 rfl rfl ba.ut rfl (al x1 x2 L1.o) E1.o ?_)
   refine av rfl 34 rfl ge rfl ?_
   refine ar 1 _ _ _ (fun Q' hQ' => ?_)
   simp only [T1, T0]
   go_wp2_with fail
   try simp only [dr1, dr0]
   refine Stop.go (ac rfl 34 rfl rfl rfl (ch (g := wr.heap.size) rfl (dl _ _) (al _ _ L1.o) (by rw [List.size_toArray, ae, ae, L1.o]; rfl) (bc _ _)) ?_)
   have hb2 : Below wr.heap.size wr (wr.alloc (.cells (af x1 x2).toArray 34)) := (br _ _).alloc (nr _) _
   have HG := Lh (hzn wr (.cells (af x1 x2).toArray 34))
   have HB2 := Lh (HB.o.trans (hb2.mono HB.o.size))
   have HR2 := Lh (H1.o.below (HB2.o.mono HBW.o))
   have HLT := Lh (Nat.lt_of_lt_of_le hb1 (Nat.le_trans HBW.o HB.o.size))
   clear hb2 E1 HR hb1
   generalize wr.alloc (.cells (af x1 x2).toArray 34) = w2 at *
   generalize wr.heap.size = m2 at *
   go_wp2_with fail
   refine qj [1, 13] [0, 11, 12] [] (by kernel_rfl) (by kernel_rfl) ?_
   refine bh 1 (by decide) (fun Q' hQ' => ?_)
   simp only [T1, T0]
   refine aa rfl 34 rfl rfl ba.ut rfl (al x1 x2 L1.o) (aq HG.o) ?_
   refine hQ' _ _ ?_
   simp only [dr1, dr0]
   generalize ha : Act.put _ _ _ = z9; simp [Act.put] at ha; subst ha
   refine ie (fun Q1 hQ1 => ?_)
   go_wp2_with fail
   refine (tc x1 x2 _ L1.o).mono ?_
   rintro e w3 ⟨rfl, hb3⟩
   have HB3 := Lh hb3
   clear hb3
   cases hk : kOk x2
   ·have HF := Lh (show fl xs = false by unfold fl; rw [ub xs i xs.length hlt1 (by rw [lx xs i hlt1, HX.o]; simp [hk])]; rfl)
    clear hk
    go_wp2_with fail
    refine ⟨HB3.o, ?_⟩
    refine bh 11 (by decide) (fun Q2 hQ2 => ?_)
    simp only [T1, T0]
    go_wp2_with fail
    try simp only [dr1, dr0]
    refine ie (fun Q3 hQ3 => ?_)
    go_wp2_with fail
    refine ⟨HB3.o, ?_⟩
    refine bh 3 (by decide) (fun Q2 hQ2 => ?_)
    simp only [T1, T0]
    go_wp2_with fail
    try simp only [dr1, dr0]
    refine jr ⟨by rfl, ⟨(fun _ => ⟨_, _, rfl, aq HG.o 0 _ (List.getElem?_eq_getElem (by rw [ae]; omega))⟩), Text.no_want rfl, Text.no_want rfl, trivial⟩, ?_⟩
    go_wp2_with fail
    go_ret
    exact ⟨rt1 (bu HF.o.symm), HB2.o.trans ((cg HB3.o).mono HB2.o.size)⟩
   ·have HRT := Lh (HR2.o.below (show Below B w2 w3 from (cg HB3.o).mono (Nat.le_trans HBW.o HB2.o.size)))
    have HBT := Lh (HB2.o.trans ((cg HB3.o).mono HB2.o.size))
    by_cases hi0 : i = 0
    ·subst hi0
     have HS1 := Lh (show lf xs (0 + 1) = true by rw [pu, HP.o, lx xs 0 hlt1, HX.o]; simp [hk])
     clear hk
     go_wp2_with fail
     refine ⟨HB3.o, ?_⟩
     refine bh 11 (by decide) (fun Q2 hQ2 => ?_)
     simp only [T1, T0]
     go_wp2_with fail
     try simp only [dr1, dr0]
     refine ie (fun Q3 hQ3 => ?_)
     go_wp2_with fail
     refine ⟨HB3.o, ?_⟩
     refine bh 3 (by decide) (fun Q2 hQ2 => ?_)
     simp only [T1, T0]
     go_wp2_with fail
     try simp only [dr1, dr0]
     refine jr ⟨by rfl, ⟨(fun _ => ⟨_, _, rfl, aq HG.o 0 _ (List.getElem?_eq_getElem (by rw [ae]; omega))⟩), Text.no_want rfl, Text.no_want rfl, trivial⟩, ?_⟩
     go_wp2_with fail
     refine ⟨⟨1, by omega, rfl, HS1, HBT⟩, ?_⟩
     simp [intOf]; omega
    ·obtain ⟨j, rfl⟩ : ∃ j, i = j + 1 := ⟨i - 1, by omega⟩
     have hj : j < xs.length := by omega
     obtain ⟨b2, o2, hA2, _, hb2, l2, e2⟩ := mn HR2.o hj
     injection hA2 with hA2
     injection hA2 with hA2 hA3
     subst hA2 hA3
     obtain ⟨y1, y2, hy⟩ : ∃ y1 y2, xs[j] = (y1, y2) := ⟨_, _, rfl⟩
     rw [hy] at l2 e2
     simp only at l2 e2
     have HY := Lh hy
     have E2 := Lh e2
     have L2 := Lh l2
     have E3 := Lh (fun (q : Nat) (u : Value) (hu : (af y1 y2)[q]? = some u) => ((cg HB3.o).cell (p := ⟨b1, o1 + j * 33 + q, none⟩) (Nat.lt_of_lt_of_le hb2 (Nat.le_trans HBW.o HB2.o.size))).trans (e2 q u hu))
     have HG3 := Lh (((cg HB3.o).block _ (gl HG.o)).trans HG.o)
     clear e2 hy l2 hi0
     have HST := Lh (show lf xs (j + 1 + 1) = ij y1 y2 x1 x2 by rw [pu, HP.o, lx xs (j + 1) hlt1, HX.o]; simp only [Nat.add_sub_cancel, HY.o, hk]; simp)
     have HNO := Lh (show ij y1 y2 x1 x2 = false → fl xs = false from fun hL => by unfold fl; rw [ub xs (j + 1) xs.length hlt1 (by rw [lx xs (j + 1) hlt1, HX.o]; simp only [Nat.add_sub_cancel, HY.o, hL]; simp)]; rfl)
     clear hk
     obtain ⟨Lb, hLb⟩ : ∃ Lb, Lb = ij y1 y2 x1 x2 := ⟨_, rfl⟩
     rw [← hLb] at HST HNO
     have HLB := Lh hLb
     clear hLb
     go_wp2_with fail
     refine ⟨HB3.o, ?_⟩
     refine bh 9 (by decide) (fun Q2 hQ2 => ?_)
     simp only [T1, T0]
     go_wp2_with fail
     try simp only [dr1, dr0]
     refine bh 2 (by decide) (fun Q2 hQ2 => ?_)
     simp only [T1, T0]
     refine aw (by rfl) 34 rfl rfl ba.ut rfl (al y1 y2 L2.o) E3.o ?_
     refine aw (by rfl) 34 rfl rfl ba.ut rfl (al x1 x2 L1.o) (aq HG3.o) ?_
     refine hQ2 _ _ ?_
     simp only [dr1, dr0]
     generalize ha : Act.put _ _ _ = z9; simp [Act.put] at ha; subst ha
     refine ie (fun Q3 hQ3 => ?_)
     go_wp2_with fail
     refine (qmh y1 x1 y2 x2 _ L2.o L1.o).mono ?_
     rw [← HLB.o]
     rintro e w4 ⟨rfl, hb4⟩
     have HB4 := Lh (HB3.o.trans (hb4.mono HB3.o.size))
     clear hb4
     cases Lb
     ·have HF := Lh (HNO.o rfl)
      go_wp2_with fail
      refine ⟨HB4.o, ?_⟩
      refine bh 3 (by decide) (fun Q2 hQ2 => ?_)
      simp only [T1, T0]
      go_wp2_with fail
      try simp only [dr1, dr0]
      refine jr ⟨by rfl, ⟨(fun _ => ⟨_, _, rfl, aq HG.o 0 _ (List.getElem?_eq_getElem (by rw [ae]; omega))⟩), (fun _ => ⟨_, _, rfl, E2.o 0 _ (List.getElem?_eq_getElem (by rw [ae]; omega))⟩), (fun _ => ⟨_, _, rfl, aq HG.o 0 _ (List.getElem?_eq_getElem (by rw [ae]; omega))⟩), trivial⟩, ?_⟩
      go_wp2_with fail
      go_ret
      exact ⟨rt1 (bu HF.o.symm), HB2.o.trans ((cg HB4.o).mono HB2.o.size)⟩
     ·have HBT4 := Lh (HB2.o.trans ((cg HB4.o).mono HB2.o.size))
      go_wp2_with fail
      refine ⟨HB4.o, ?_⟩
      refine bh 3 (by decide) (fun Q2 hQ2 => ?_)
      simp only [T1, T0]
      go_wp2_with fail
      try simp only [dr1, dr0]
      refine jr ⟨by rfl, ⟨(fun _ => ⟨_, _, rfl, aq HG.o 0 _ (List.getElem?_eq_getElem (by rw [ae]; omega))⟩), (fun _ => ⟨_, _, rfl, E2.o 0 _ (List.getElem?_eq_getElem (by rw [ae]; omega))⟩), (fun _ => ⟨_, _, rfl, aq HG.o 0 _ (List.getElem?_eq_getElem (by rw [ae]; omega))⟩), trivial⟩, ?_⟩
      go_wp2_with fail
      refine ⟨⟨j + 1 + 1, by omega, by simp, HST, HBT4⟩, ?_⟩
      simp [intOf]; omega
  ·obtain rfl : i = n := by omega
   have HS := Lh (show lf xs xs.length = true by have := HP.o; rwa [N1.o] at this)
   have HZ := Lh (show fl xs = decide (1 ≤ i ∧ i ≤ 256) by unfold fl; rw [HS.o, N1.o]; simp)
   by_cases h1 : 1 ≤ i
   ·by_cases h2 : i ≤ 256
    ·have HF := Lh (show fl xs = true by rw [HZ.o]; exact decide_eq_true ⟨h1, h2⟩)
     go_wp2_with fail
     go_ret
     exact ⟨rt1 (bu (by rw [HF.o]; exact decide_eq_true (by omega))), HB.o⟩
    ·have HF := Lh (show fl xs = false by rw [HZ.o]; exact decide_eq_false (fun h => h2 h.2))
     go_wp2_with fail
     go_ret
     exact ⟨rt1 (bu (by rw [HF.o]; exact decide_eq_false (by omega))), HB.o⟩
   ·have HF := Lh (show fl xs = false by rw [HZ.o]; exact decide_eq_false (fun h => h1 h.1))
    go_wp2_with fail
    go_ret
    exact ⟨rt1 (bu HF.o.symm), HB.o⟩
end Go.Proofs.YtplbcbamnjnhlaaGreatDoor
