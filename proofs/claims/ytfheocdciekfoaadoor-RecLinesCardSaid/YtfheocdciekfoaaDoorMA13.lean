/- Texts of this proof joined: Frame, Map. -/
import Derived.Test.YtfheocdciekfoaaDoorMA11
import Derived.Test.YtfheocdciekfoaaDoorMA12
import Derived.Test.YtfheocdciekfoaaDoorMA06
/- Contracts of frame.Seal and of the reference's Seal, for any load of at most 1048576 bytes, every world. -/
namespace Go.Proofs.YtfheocdciekfoaaDoor
open Go.RowKit

def frameBody (kind : UInt8) (load : List UInt8) : List UInt8 := kind :: (vForm load.length ++ load)
def frameSeal (kind : UInt8) (load : List UInt8) : List UInt8 := frameBody kind load ++ crcTail (crcSum (frameBody kind load))
theorem frameBody_length (kind : UInt8) (load : List UInt8) : (frameBody kind load).length = 1 + (vForm load.length).length + load.length := by simp [frameBody]; omega
theorem frameSeal_length (kind : UInt8) (load : List UInt8) : (frameSeal kind load).length = 5 + (vForm load.length).length + load.length := by simp [frameSeal, crcTail, frameBody_length]; omega
theorem vForm_len_le (v : Nat) (h : v < 1180591620717411303424) : (vForm v).length ≤ 10 := vForm_length v 9 (by simpa using h)

theorem own_of_row {w : World} {base g n : Nat} {l : List UInt8} (h : w.heap[g]? = some (.cells (bcells l).toArray 5 (0, 0))) (hb : base ≤ g) (hn : n = l.length) (hl : l.length ≤ 1099511627776) :
    w.ownsRow base 5 1 (.slice (some ⟨g, 0, none⟩) n n) n (bcells l) := by
  subst hn
  refine ⟨by simp [bcells_length], .inr ⟨g, l.length, _, rfl, hb, h, Nat.le_refl _, by simp only [maxLen]; omega, by simp [bcells_length], ?_⟩⟩
  simp only [Nat.mul_one]
  rw [List.take_of_length_le (by simp [bcells_length])]
theorem rd_of_bytes {w : World} {g B : Nat} {l : List UInt8} {t : TypeId} {fr : Nat × Nat} (h : w.heap[g]? = some (.cells (bcells l).toArray t fr)) (hg : g < B) : Rd w B (some ⟨g, 0, none⟩) (bcells l) := by
  have := Rd.row h hg
  simpa using this
theorem rd_alloc {w : World} {B B' : Nat} {A : Option Addr} {xs : List Value} (h : Rd w B A xs) (hB : B ≤ w.heap.size) (hB' : B ≤ B') (o : Obj) : Rd (w.alloc o) B' A xs :=
  (h.below ((Below.refl _ _).mono hB |>.alloc hB o)).more hB'
theorem cell_new (w : World) (v : Value) (t : TypeId) : (w.alloc (.cells #[v] t)).cell? ⟨w.heap.size, 0, none⟩ = some v := by
  rw [cell_of_row _ _ _ _ _ _ (Go.heap_alloc_new w _)]; rfl
theorem cell_new2 (w : World) (o : Obj) (v : Value) (t : TypeId) : ((w.alloc o).alloc (.cells #[v] t)).cell? ⟨w.heap.size + 1, 0, none⟩ = some v := by
  have h := cell_new (w.alloc o) v t
  rwa [World.size_alloc] at h
set_option maxRecDepth 100000 in
set_option maxHeartbeats 1000000 in
theorem seal_any (kind : UInt8) (load : List UInt8) (A : Option Addr) (c B : Nat) (w : World) (hr : Rd w B A (bcells load)) (hB : B ≤ w.heap.size) (hl : load.length ≤ 1048576) :
    Calls Tryd.prog 37 #[.int .u8 (kind.toNat : Nat), .slice A load.length c] w fun e w' => ∃ v, e = .returned (.tuple #[v, .int .i64 0]) ∧ w'.ownsRow w.heap.size 5 1 v (frameSeal kind load).length (bcells (frameSeal kind load)) ∧ Below w.heap.size w w' := by
  have HR := Lib.hid hr
  clear hr
  have hvl := vForm_len_le load.length (by omega)
  have hbl : (frameBody kind load).length ≤ 1048600 := by rw [frameBody_length]; omega
  have hsl : (frameSeal kind load).length ≤ 1048600 := by rw [frameSeal_length]; omega
  have hk8 := kind.toNat_lt
  go_enter Tryd.func37, Tryd.ntmps37
  go_wp2_with fail
  refine (write_any w).mono ?_
  rintro e w1 ⟨rfl, hw1, hb1, hs1⟩
  clear hs1
  have W1 := Lib.hid hw1
  have B1 : Hid (Below w.heap.size w w1) := hb1
  clear hw1 hb1
  have HRd1 := Lib.hid (HR.out.below (B1.out.mono hB))
  go_wp2_with fail
  refine (num_any w.heap.size 1 kind.toNat [] w1 W1.out (by omega) (by omega) (by omega) (by simp)).mono ?_
  rintro e w2 ⟨rfl, hw2, hk2⟩
  rw [beBytes_one _ (by omega), List.nil_append, UInt8.ofNat_toNat] at hw2
  have W2 := Lib.hid hw2
  have B2 := Lib.hid (B1.out.trans hk2.below)
  clear hw2 hk2
  go_wp2_with fail
  refine (put_any w.heap.size load.length [kind] w2 W2.out (by simp) (by omega)).mono ?_
  rintro e w3 ⟨rfl, hw3, hk3⟩
  have W3 := Lib.hid hw3
  have B3 := Lib.hid (B2.out.trans hk3.below)
  clear hw3 hk3
  go_wp2_with fail
  have hs3 := B3.out.size
  refine (raw_any w.heap.size w3.heap.size 0 1 ([kind] ++ vForm load.length) load A c B _ (W3.out.later ((Below.refl _ _).alloc (Nat.le_refl _) _)) (by rw [cell_of_row _ _ _ _ _ _ (Go.heap_alloc_new w3 _)]; rfl) ((HR.out.below (B3.out.mono hB)).below ((Below.refl _ _).alloc (by omega) _)) (by simp; omega) (by simp; omega) (by omega)).mono ?_
  rintro e w4 ⟨rfl, hw4, hk4⟩
  rw [List.append_assoc] at hw4
  have W4 : Hid (WrR w4 w.heap.size (frameBody kind load)) := Lib.hid hw4
  have B4 := Lib.hid ((B3.out.alloc hs3 _).trans hk4.below)
  clear hw4 hk4
  have hs4 := B4.out.size
  go_wp2_with fail
  refine (bytes_any w.heap.size (frameBody kind load) w4 W4.out (by omega)).mono ?_
  rintro e w5 ⟨rfl, hr5, hb5, hs5⟩
  have R5 := Lib.hid hr5
  have W5 := Lib.hid (W4.out.later hb5)
  have B5 := Lib.hid (B4.out.trans (hb5.mono hs4))
  have S5 := Lib.hid hs5
  have hlt5 : w4.heap.size < w5.heap.size := by omega
  clear hr5 hb5 hs5
  go_wp2_with fail
  have hs5' : w.heap.size ≤ w5.heap.size := by omega
  refine (of_crc w5.heap.size 0 1 (frameBody kind load) (some ⟨w4.heap.size, 0, none⟩) (frameBody kind load).length (w5.heap.size + 1) _ (cell_new _ _ _) (by omega) (rd_alloc (rd_of_bytes (B := w5.heap.size) R5.out (by omega)) (Nat.le_refl _) (by omega) _) (by simp) (by omega)).mono ?_
  rintro e w6 ⟨rfl, hb6⟩
  have B6 := Lib.hid ((B5.out.alloc hs5' _).trans (hb6.mono (by simp; omega)))
  have W6 := Lib.hid ((W5.out.later ((Below.refl _ _).alloc (Nat.le_refl _) _)).later hb6)
  clear hb6
  have hs6 := B6.out.size
  go_wp2_with fail
  refine (frame_tail _ w6).mono ?_
  rintro e w7 ⟨rfl, rfl⟩
  go_wp2_with fail
  refine (raw_any w.heap.size (w6.heap.size + 1) 0 1 (frameBody kind load) (crcTail (crcSum (frameBody kind load))) (some ⟨w6.heap.size, 0, none⟩) 4 (w6.heap.size + 1) _ ((W6.out.later ((Below.refl _ _).alloc (Nat.le_refl _) _)).later ((Below.refl _ _).alloc (Nat.le_refl _) _)) (cell_new2 _ _ _ _) (rd_alloc (rd_of_bytes (B := w6.heap.size + 1) (Go.heap_alloc_new w6 _) (by omega)) (by simp) (Nat.le_refl _) _) (by simp) (by omega) (by simp [crcTail])).mono ?_
  rintro e w8 ⟨rfl, hw8, hk8'⟩
  have W8 : Hid (WrR w8 w.heap.size (frameSeal kind load)) := Lib.hid hw8
  have B8 := Lib.hid (((B6.out.alloc hs6 _).alloc (by simp; omega) _).trans hk8'.below)
  clear hw8 hk8'
  have hs8 := B8.out.size
  go_wp2_with fail
  refine (bytes_any w.heap.size (frameSeal kind load) w8 W8.out (by omega)).mono ?_
  rintro e w9 ⟨rfl, hr9, hb9, hs9⟩
  have R9 := Lib.hid hr9
  have B9 := Lib.hid (B8.out.trans (hb9.mono hs8))
  clear hr9 hb9 hs9
  go_wp2
  go_ret2
  exact ⟨_, rfl, own_of_row R9.out hs8 rfl (by omega), B9.out⟩

set_option maxRecDepth 100000 in
set_option maxHeartbeats 1000000 in
theorem refSeal_any (kind : UInt8) (load : List UInt8) (A : Option Addr) (c B : Nat) (w : World) (hr : Rd w B A (bcells load)) (hB : B ≤ w.heap.size) (hl : load.length ≤ 1048576) :
    Calls Tryd.prog 48 #[.int .u8 (kind.toNat : Nat), .slice A load.length c] w fun e w' => ∃ v, e = .returned v ∧ w'.ownsRow w.heap.size 5 1 v (frameSeal kind load).length (bcells (frameSeal kind load)) ∧ Below w.heap.size w w' := by
  have HR := Lib.hid hr
  clear hr
  have hvl := vForm_len_le load.length (by omega)
  have hbl : (frameBody kind load).length ≤ 1048600 := by rw [frameBody_length]; omega
  have hsl : (frameSeal kind load).length ≤ 1048600 := by rw [frameSeal_length]; omega
  have hk8 := kind.toNat_lt
  go_enter Tryd.func48, Tryd.ntmps48
  go_wp2_with fail
  have own0 : (w.alloc (.cells #[.int .u8 (kind.toNat : Nat)] 5)).ownsRow w.heap.size 5 1 (.slice (some ⟨w.heap.size, 0, none⟩) 1 1) 1 (bcells [kind]) := own_of_row (l := [kind]) (Go.heap_alloc_new w _) (Nat.le_refl _) rfl (by simp)
  have OWN0 := Lib.hid own0
  clear own0
  have hb0 : Below w.heap.size w (w.alloc (.cells #[.int .u8 (kind.toNat : Nat)] 5)) := (Below.refl _ _).alloc (Nat.le_refl _) _
  have HR0 := Lib.hid (HR.out.below (hb0.mono hB))
  have B0 := Lib.hid hb0
  clear hb0
  refine (form_any load.length _ (by omega)).mono ?_
  rintro e w1 ⟨u, rfl, hu, hb1⟩
  obtain ⟨A1, c1, rfl, _, _⟩ := own_form hu
  have HU := Lib.hid hu
  have OWN1 := Lib.hid (own_below OWN0.out hb1)
  have B1 := Lib.hid (B0.out.trans (hb1.mono (by simp)))
  have hs1 : w.heap.size + 1 ≤ w1.heap.size := by have := hb1.size; simp at this; omega
  clear hu hb1
  go_wp2_with (at_builtin; refine wpList_app u8_ty rfl rfl rfl rfl OWN1.out (Rd.of_own HU.out) (by rw [bcells_length, Nat.mul_one]) (bcells_one _) ?h63 ?hby ?hbase ?_)
  case h63 => simp only [maxLen]; omega
  case hby => omega
  case hbase => omega
  intro v2 w2 hown2 hg2 _ _
  have B2 := Lib.hid (grown_below B1.out hg2 OWN1.out (Nat.le_refl _) (by omega))
  rw [← bcells_append] at hown2
  have OWN2 := Lib.hid hown2
  clear hown2 hg2
  have hs2 := B2.out.size
  obtain ⟨A2, c2, rfl, _, _⟩ := own_form OWN2.out
  go_wp2_with (at_builtin; refine wpList_app u8_ty rfl rfl rfl rfl OWN2.out (HR.out.below (B2.out.mono hB)) (by rw [bcells_length, Nat.mul_one]) (bcells_one _) ?h63 ?hby ?hbase ?_)
  case h63 => simp only [maxLen]; omega
  case hby => omega
  case hbase => omega
  intro v3 w3 hown3 hg3 _ _
  have B3 := Lib.hid (grown_below B2.out hg3 OWN2.out (Nat.le_refl _) (by omega))
  rw [← bcells_append] at hown3
  have hl3 : 1 + (vForm load.length).length + load.length = (frameBody kind load).length := by rw [frameBody_length]
  rw [hl3] at hown3
  have OWN3 : Hid (w3.ownsRow w.heap.size 5 1 v3 (frameBody kind load).length (bcells (frameBody kind load))) := Lib.hid hown3
  clear hown3 hg3 hl3
  have hs3 := B3.out.size
  obtain ⟨A3, c3, rfl, _, _⟩ := own_form OWN3.out
  go_wp2_with fail
  refine (refSum_any (frameBody kind load) A3 c3 w3.heap.size w3 (Rd.of_own OWN3.out) (by omega)).mono ?_
  rintro e w4 ⟨rfl, rfl⟩
  have hcs := (crcSum (frameBody kind load)).isLt
  generalize hsum : crcSum (frameBody kind load) = sum at hcs
  have HSUM := Lib.hid hsum
  clear hsum
  have HT : Hid ([Value.int .u8 ((sum.toNat : Int) % 256), .int .u8 ((sum.toNat : Int) / 256 % 256), .int .u8 ((sum.toNat : Int) / 65536 % 256), .int .u8 ((sum.toNat : Int) / 16777216)] = bcells (crcTail sum)) := by
    show _ = _
    simp only [bcells, crcTail, List.map_cons, List.map_nil, bcell, UInt8.toNat_ofNat']
    rw [show ((sum.toNat / 16777216 % 2 ^ 8 : Nat) : Int) = (sum.toNat : Int) / 16777216 by omega]
    congr
  go_wp2_with (at_builtin; refine wpList_app u8_ty rfl rfl rfl rfl (OWN3.out.alloc _) (Rd.row (B := w3.heap.size + 1) (Go.heap_alloc_new w3 _) (by omega)) rfl (by simp [Value.oneCell']) ?h63 ?hby ?hbase ?_)
  case h63 => simp only [maxLen]; omega
  case hby => omega
  case hbase => simp; omega
  intro v5 w5 hown5 hg5 _ _
  have B5 := Lib.hid (grown_below (B3.out.alloc hs3 _) hg5 (OWN3.out.alloc _) (Nat.le_refl _) (by simp; omega))
  have HO5 := Lib.hid hown5
  clear hown5 hg5
  go_wp2
  go_ret
  refine ⟨v5, rfl, ?_, B5.out⟩
  have h5 := HO5.out
  rw [HT.out, ← bcells_append] at h5
  have e : frameBody kind load ++ crcTail sum = frameSeal kind load := by unfold frameSeal; rw [HSUM.out]
  have e2 : (frameBody kind load).length + 4 = (frameSeal kind load).length := by rw [← e]; simp [crcTail]
  rw [e, e2] at h5
  exact h5
end Go.Proofs.YtfheocdciekfoaaDoor
/- Maps of the call's own: what a look-up and a store do, told by a list of pairs in the order of insertion. No program is named here. -/
namespace Go.Proofs.YtfheocdciekfoaaDoor
open Go.RowKit

/-- the value that a list of pairs has for a key -/
def assoc {α : Type} [DecidableEq α] (l : List (α × Value)) (k : α) : Option Value := (l.find? fun p => decide (p.1 = k)).map (·.2)
/-- a value put at a key: in its place, or at the end -/
def assocSet {α : Type} [DecidableEq α] : List (α × Value) → α → Value → List (α × Value)
  | [], k, v => [(k, v)]
  | p :: r, k, v => if p.1 = k then (k, v) :: r else p :: assocSet r k v
/-- block g is a map whose entries are these pairs -/
def MapR {α : Type} (κ : α → Value) (w : World) (g : Nat) (l : List (α × Value)) : Prop :=
  ∃ (es : Array MapEntry) (clock : Nat), w.heap[g]? = some (.map es clock) ∧ es.toList.map (fun e => (e.key, e.val)) = l.map (fun p => (κ p.1, p.2))
/-- keys of a kind: they may be, are found, and stay -/
structure KeyTy {α : Type} [DecidableEq α] (P : Program) (mt kt et : TypeId) (κ : α → Value) : Prop where
  und : P.underlying mt = some (.map kt et)
  check : ∀ (b : Bool) (a : α) (w : World), (Instr.checkKey b 10000 kt (κ a)).run P w = .ok () w
  find : ∀ (k : α) (l : List (α × Value)) (es : List MapEntry) (w : World), es.map (fun e => (e.key, e.val)) = l.map (fun p => (κ p.1, p.2)) →
    (Instr.findKey kt (κ k) es).run P w = .ok ((l.findIdx? fun p => decide (p.1 = k)).bind fun i => (l[i]?).map fun p => (i, p.2)) w
  stays : ∀ a : α, Instr.sameBits 10000 (κ a) (κ a) = true

section
variable {α : Type} {κ : α → Value} {w : World} {g : Nat} {l : List (α × Value)}
theorem MapR.made (w : World) : MapR κ (w.alloc (.map #[] 0)) w.heap.size [] := ⟨#[], 0, heap_alloc_new w _, rfl⟩
theorem MapR.lt (h : MapR κ w g l) : g < w.heap.size := by
  obtain ⟨es, c, hh, _⟩ := h
  exact (Array.getElem?_eq_some_iff.1 hh).1
theorem MapR.of_block {w' : World} (h : MapR κ w g l) (hb : w'.heap[g]? = w.heap[g]?) : MapR κ w' g l := by
  obtain ⟨es, c, hh, he⟩ := h
  exact ⟨es, c, hb.trans hh, he⟩
theorem MapR.below {B : Nat} {w' : World} (h : MapR κ w g l) (hb : Below B w w') (hg : g < B) : MapR κ w' g l := h.of_block (hb.block g hg)
theorem MapR.drew (h : MapR κ w g l) : MapR κ w.drew g l := h
theorem MapR.alloc (h : MapR κ w g l) (o : Obj) : MapR κ (w.alloc o) g l := h.of_block (Below.heap_alloc w o g h.lt)
theorem MapR.grown {row : Option Nat} {w' : World} (h : MapR κ w g l) (hg : w.grownBy w' row) (hne : some g ≠ row) : MapR κ w' g l := h.of_block (hg.block g h.lt hne)
theorem MapR.setCell {p : Addr} {v : Value} (h : MapR κ w g l) (hp : g ≠ p.block) : MapR κ (w.setCell p v) g l := h.of_block (Below.heap_setCell w p v g hp)

end
section
variable {α : Type} [DecidableEq α] {P : Program} {mt kt et : TypeId} {κ : α → Value} {w : World} {g : Nat} {l : List (α × Value)}
theorem assoc_idx : ∀ (l : List (α × Value)) (k : α), ((l.findIdx? fun p => decide (p.1 = k)).bind fun i => (l[i]?).map fun p => (i, p.2)).map (·.2) = assoc l k
  | [], k => rfl
  | p :: r, k => by
    have ih := assoc_idx r k
    unfold assoc at ih ⊢
    rw [List.findIdx?_cons, List.find?_cons]
    by_cases hp : p.1 = k
    · simp [hp]
    · simp only [hp, decide_false, Bool.false_eq_true, if_false]
      rw [← ih]
      cases hf : r.findIdx? fun p => decide (p.1 = k) with
      | none => simp
      | some i => simp [Option.map_map, Function.comp_def]

theorem MapR.lookup (K : KeyTy P mt kt et κ) (h : MapR κ w g l) {z : Value} (hz : ∀ w : World, (zeroValue et).run P w = .ok z w) (k : α) :
    (Instr.lookup mt (.map (some g)) (κ k) false).run P w = .ok ((assoc l k).getD z) w := by
  obtain ⟨es, c, hh, he⟩ := h
  have hf := K.find k l es.toList w he
  have ha := assoc_idx l k
  cases hx : ((l.findIdx? fun p => decide (p.1 = k)).bind fun i => (l[i]?).map fun p => (i, p.2)) with
  | none =>
    rw [hx] at hf ha
    rw [← ha]
    simp [Instr.lookup, run_underlying K.und, getObj, Sem.run, hh, K.check, hf, hz, Sem.run_bind, Result.andThen]
  | some r =>
    rw [hx] at hf ha
    rw [← ha]
    simp [Instr.lookup, run_underlying K.und, getObj, Sem.run, hh, K.check, hf, Sem.run_bind, Result.andThen]
theorem MapR.lookup_ok (K : KeyTy P mt kt et κ) (h : MapR κ w g l) {z : Value} (hz : ∀ w : World, (zeroValue et).run P w = .ok z w) (k : α) :
    (Instr.lookup mt (.map (some g)) (κ k) true).run P w = .ok (.tuple #[(assoc l k).getD z, .bool (assoc l k).isSome]) w := by
  obtain ⟨es, c, hh, he⟩ := h
  have hf := K.find k l es.toList w he
  have ha := assoc_idx l k
  cases hx : ((l.findIdx? fun p => decide (p.1 = k)).bind fun i => (l[i]?).map fun p => (i, p.2)) with
  | none =>
    rw [hx] at hf ha
    rw [← ha]
    simp [Instr.lookup, run_underlying K.und, getObj, Sem.run, hh, K.check, hf, hz, Sem.run_bind, Result.andThen]
  | some r =>
    rw [hx] at hf ha
    rw [← ha]
    simp [Instr.lookup, run_underlying K.und, getObj, Sem.run, hh, K.check, hf, Sem.run_bind, Result.andThen]

theorem assocSet_idx : ∀ (l : List (α × Value)) (k : α) (v : Value), assocSet l k v = match l.findIdx? fun p => decide (p.1 = k) with
    | some i => l.set i (k, v)
    | none => l ++ [(k, v)]
  | [], k, v => rfl
  | p :: r, k, v => by
    have ih := assocSet_idx r k v
    unfold assocSet
    rw [List.findIdx?_cons]
    by_cases hp : p.1 = k
    · simp [hp]
    · simp only [hp, decide_false, Bool.false_eq_true, if_false]
      rw [ih]
      cases hf : r.findIdx? fun p => decide (p.1 = k) with
      | none => simp
      | some i => simp
/-- the world behind a store into the map: block g alone has turned -/
theorem MapR.update (K : KeyTy P mt kt et κ) (h : MapR κ w g l) (k : α) (v : Value) :
    ∃ w', (Instr.mapUpdate mt (.map (some g)) (κ k) v).run P w = .ok () w' ∧ MapR κ w' g (assocSet l k v) ∧ w.grownBy w' (some g) ∧ w'.heap.size = w.heap.size := by
  obtain ⟨es, c, hh, he⟩ := h
  have hf := K.find k l es.toList w he
  have hgrow : ∀ o : Obj, w.grownBy { w with heap := w.heap.setIfInBounds g o } (some g) := fun o => ⟨rfl, rfl, rfl, by simp, fun k' _ hne => by
    have : g ≠ k' := fun e => hne (by rw [e])
    simp [Array.getElem?_setIfInBounds_ne this]⟩
  have hlt : g < w.heap.size := (Array.getElem?_eq_some_iff.1 hh).1
  rw [assocSet_idx]
  cases hi : l.findIdx? fun p => decide (p.1 = k) with
  | none =>
    rw [hi] at hf
    simp only [Option.bind_none] at hf
    refine ⟨{ w with heap := w.heap.setIfInBounds g (.map (es.push { key := κ k, val := v, born := c }) (c + 1)) }, ?_, ⟨es.push { key := κ k, val := v, born := c }, c + 1, by simp [hlt], ?_⟩, hgrow _, by simp⟩
    · simp [Instr.mapUpdate, run_underlying K.und, getObj, Sem.run, hh, K.check, hf, setObj, Result.andThen]
    · simp [he]
  | some i =>
    have hil : i < l.length := by
      rw [List.findIdx?_eq_some_iff_getElem] at hi
      exact hi.1
    have hik : l[i].1 = k := by
      rw [List.findIdx?_eq_some_iff_getElem] at hi
      simpa using hi.2.1
    have hsz : es.size = l.length := by
      have := congrArg List.length he
      simpa using this
    have hie : i < es.size := by omega
    have hei : (es[i]).key = κ k := by
      have := congrArg (fun q => q[i]?) he
      simp [hil, hie] at this
      rw [this.1, hik]
    rw [hi] at hf
    simp only [Option.bind_some, List.getElem?_eq_getElem hil, Option.map_some] at hf
    refine ⟨{ w with heap := w.heap.setIfInBounds g (.map (es.modify i fun e => { e with key := κ k, val := v }) c) }, ?_, ⟨es.modify i fun e => { e with key := κ k, val := v }, c, by simp [hlt], ?_⟩, hgrow _, by simp⟩
    · simp [Instr.mapUpdate, run_underlying K.und, getObj, Sem.run, hh, K.check, hf, setObj, Result.andThen, Instr.keyThatStays, hei, hie, K.stays]
    · apply List.ext_getElem?
      intro j
      have hj := congrArg (fun q => q[j]?) he
      simp only [List.getElem?_map, Array.getElem?_toList] at hj ⊢
      rw [Array.getElem?_modify, List.getElem?_set]
      by_cases hji : i = j
      · subst hji
        simp [hil, hie]
      · rw [if_neg hji, if_neg hji]
        exact hj
theorem wpList_update {ops : Array Oper} {rest : List Oper} {o : Oper} {a : Act} {Q : Exit → Act → World → Prop} {m x y : Operand} (K : KeyTy P mt kt et κ) (hgd : o.guard = none) (ho : o.op = .mapUpdate mt m x y)
    {k : α} {v : Value} (hm : a.eval m = .map (some g)) (hx : a.eval x = κ k) (hy : a.eval y = v) (h : MapR κ w g l)
    (hK : ∀ w', MapR κ w' g (assocSet l k v) → w.grownBy w' (some g) → w'.heap.size = w.heap.size → wpList P ops Q rest (a.put o.dst undef) w') : wpList P ops Q (o :: rest) a w := by
  refine wpList_plain hgd fun K' hK' => ?_
  obtain ⟨w', hrun, h1, h2, h3⟩ := h.update K k v
  unfold Oper.wp execOp
  simp only [ho, Sem.run_bind, Sem.run_pure, hm, hx, hy, hrun, Result.andThen]
  exact hK' _ _ (hK w' h1 h2 h3)
end

/-! keys that are strings, and numbers -/
theorem findNow_spec {α : Type} [DecidableEq α] {κ : α → Value} {d : TypeDesc} (hs : ∀ a b : α, Instr.sameNow d (κ a) (κ b) = some (decide (b = a))) (k : α) : ∀ (l : List (α × Value)) (es : List MapEntry) (n : Nat), es.map (fun e => (e.key, e.val)) = l.map (fun p => (κ p.1, p.2)) →
    Instr.findNow d (κ k) es n = some ((l.findIdx? fun p => decide (p.1 = k)).bind fun i => (l[i]?).map fun p => (n + i, p.2))
  | [], [], n, _ => rfl
  | [], e :: es, n, h => by simp at h
  | p :: r, [], n, h => by simp at h
  | p :: r, e :: es, n, h => by
    simp only [List.map_cons, List.cons.injEq, Prod.mk.injEq] at h
    unfold Instr.findNow
    rw [h.1.1, hs, List.findIdx?_cons]
    by_cases hp : p.1 = k
    · simp [hp, h.1.2]
    · simp only [hp, decide_false, Bool.false_eq_true, if_false]
      rw [findNow_spec hs k r es (n + 1) h.2]
      cases hf : r.findIdx? fun p => decide (p.1 = k) with
      | none => simp
      | some i => simp [Nat.add_assoc, Nat.add_comm 1 i]
theorem beq_swap {α : Type} [DecidableEq α] [BEq α] [LawfulBEq α] (a b : α) : (a == b) = decide (b = a) := by
  by_cases e : a = b
  · subst e; simp
  · rw [beq_eq_false_iff_ne.2 e, decide_eq_false fun h => e h.symm]
theorem bytes_beq (a b : ByteArray) : (a == b) = decide (b = a) := by
  obtain ⟨x⟩ := a
  obtain ⟨y⟩ := b
  have h : ((⟨x⟩ : ByteArray) == ⟨y⟩) = (x == y) := rfl
  rw [h]
  by_cases e : x = y
  · subst e; simp
  · rw [beq_eq_false_iff_ne.2 e, decide_eq_false fun h => e (by injection h with h; exact h.symm)]
theorem keyTy_str {P : Program} {mt kt et : TypeId} (h1 : P.underlying mt = some (.map kt et)) (h2 : P.underlying kt = some .string) : KeyTy P mt kt et Value.string where
  und := h1
  check := fun b a w => by
    show (Instr.checkKey b (9999 + 1) kt (.string a)).run P w = _
    unfold Instr.checkKey
    simp only [Sem.run_bind, run_underlying h2, Result.andThen, Sem.run_pure]
  find := fun k l es w h => by
    unfold Instr.findKey
    have := findNow_spec (κ := Value.string) (d := .string) (fun a b : ByteArray => (congrArg some (bytes_beq a b) : some (a == b) = some (decide (b = a)))) k l es 0 h
    simp only [Sem.run_bind, run_underlying h2, Result.andThen, this, Nat.zero_add, Sem.run_pure]
  stays := fun a => by
    rw [show (10000 : Nat) = 9999 + 1 from rfl]
    have := bytes_beq a a
    simp [Instr.sameBits, this]
theorem keyTy_int {P : Program} {mt kt et : TypeId} {q : IntKind} (h1 : P.underlying mt = some (.map kt et)) (h2 : P.underlying kt = some (.int q)) : KeyTy P mt kt et (Value.int q) where
  und := h1
  check := fun b a w => by
    show (Instr.checkKey b (9999 + 1) kt (.int q a)).run P w = _
    unfold Instr.checkKey
    simp only [Sem.run_bind, run_underlying h2, Result.andThen, Sem.run_pure]
  find := fun k l es w h => by
    unfold Instr.findKey
    have := findNow_spec (κ := Value.int q) (d := .int q) (fun a b : Int => (if_pos rfl).trans (congrArg some (beq_swap a b))) k l es 0 h
    simp only [Sem.run_bind, run_underlying h2, Result.andThen, this, Nat.zero_add, Sem.run_pure]
  stays := fun a => by
    rw [show (10000 : Nat) = 9999 + 1 from rfl]
    simp [Instr.sameBits]
end Go.Proofs.YtfheocdciekfoaaDoor
