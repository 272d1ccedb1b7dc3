/- Texts of this proof joined: Map, Front, Front2. -/
import Derived.Test.YtplbcbamnjnhlaaGreatDoorMT00
import Derived.Test.YtplbcbamnjnhlaaGreatDoorMT04
import Derived.Test.YtplbcbamnjnhlaaGreatDoorMT07
import Derived.Test.YtplbcbamnjnhlaaGreatDoorMT03
set_option maxRecDepth 100000
set_option maxHeartbeats 40000000
namespace Go.Proofs.YtplbcbamnjnhlaaGreatDoor
open Go.RowKit

def ka {α : Type} [DecidableEq α] (l : List (α × Value)) (k : α) : Option Value := (l.find? fun p => decide (p.1 = k)).map (·.2)
def mj {α : Type} [DecidableEq α] : List (α × Value) → α → Value → List (α × Value)
 |[], k, v => [(k, v)]
 |p :: r, k, v => if p.1 = k then (k, v) :: r else p :: mj r k v
def MapR {α : Type} (κ : α → Value) (w : World) (g : Nat) (l : List (α × Value)) : Prop :=
 ∃ (es : Array MapEntry) (clock : Nat), w.heap[g]? = some (.map es clock) ∧ es.toList.map (fun e => (e.key, e.val)) = l.map (fun p => (κ p.1, p.2))
structure rl {α : Type} [DecidableEq α] (P : Program) (mt kt et : TypeId) (κ : α → Value) : Prop where
 und : P.underlying mt = some (.map kt et)
 check : ∀ (b : Bool) (a : α) (w : World), (Instr.checkKey b 10000 kt (κ a)).run P w = .ok () w
 find : ∀ (k : α) (l : List (α × Value)) (es : List MapEntry) (w : World), es.map (fun e => (e.key, e.val)) = l.map (fun p => (κ p.1, p.2)) →
  (Instr.findKey kt (κ k) es).run P w = .ok ((l.findIdx? fun p => decide (p.1 = k)).bind fun i => (l[i]?).map fun p => (i, p.2)) w
 stays : ∀ a : α, Instr.sameBits 10000 (κ a) (κ a) = true

section
variable {α : Type} {κ : α → Value} {w : World} {g : Nat} {l : List (α × Value)}
theorem MapR.lt (h : MapR κ w g l) : g < w.heap.size := by
 obtain ⟨es, c, hh, _⟩ := h
 exact (gl hh)
end
section
variable {α : Type} [DecidableEq α] {P : Program} {mt kt et : TypeId} {κ : α → Value} {w : World} {g : Nat} {l : List (α × Value)}
theorem qca : ∀ (l : List (α × Value)) (k : α), ((l.findIdx? fun p => decide (p.1 = k)).bind fun i => (l[i]?).map fun p => (i, p.2)).map (·.2) = ka l k
 |[], k => rfl
 |p :: r, k => by
  have ih := qca r k
  unfold ka at ih ⊢
  rw [List.findIdx?_cons, List.find?_cons]
  by_cases hp : p.1 = k
  ·simp [hp]
  ·simp only [hp, decide_false, Bool.false_eq_true, if_false]
   rw [← ih]
   cases hf : r.findIdx? fun p => decide (p.1 = k) with
   |none => simp
   |some i => simp [Option.map_map, Function.comp_def]

theorem MapR.lookup (K : rl P mt kt et κ) (h : MapR κ w g l) {z : Value} (hz : ∀ w : World, (zeroValue et).run P w = .ok z w) (k : α) :
  (Instr.lookup mt (.map (some g)) (κ k) false).run P w = .ok ((ka l k).getD z) w := by
 obtain ⟨es, c, hh, he⟩ := h
 have hf := K.find k l es.toList w he
 have ha := qca l k
 cases hx : ((l.findIdx? fun p => decide (p.1 = k)).bind fun i => (l[i]?).map fun p => (i, p.2)) with
 |none =>
  rw [hx] at hf ha
  rw [← ha]
  simp [Instr.lookup, run_underlying K.und, getObj, Sem.run, hh, K.check, hf, hz, Sem.run_bind, Result.andThen]
 |some r =>
  rw [hx] at hf ha
  rw [← ha]
  simp [Instr.lookup, run_underlying K.und, getObj, Sem.run, hh, K.check, hf, Sem.run_bind, Result.andThen]
theorem MapR.lookup_ok (K : rl P mt kt et κ) (h : MapR κ w g l) {z : Value} (hz : ∀ w : World, (zeroValue et).run P w = .ok z w) (k : α) :
  (Instr.lookup mt (.map (some g)) (κ k) true).run P w = .ok (.tuple #[(ka l k).getD z, .bool (ka l k).isSome]) w := by
 obtain ⟨es, c, hh, he⟩ := h
 have hf := K.find k l es.toList w he
 have ha := qca l k
 cases hx : ((l.findIdx? fun p => decide (p.1 = k)).bind fun i => (l[i]?).map fun p => (i, p.2)) with
 |none =>
  rw [hx] at hf ha
  rw [← ha]
  simp [Instr.lookup, run_underlying K.und, getObj, Sem.run, hh, K.check, hf, hz, Sem.run_bind, Result.andThen]
 |some r =>
  rw [hx] at hf ha
  rw [← ha]
  simp [Instr.lookup, run_underlying K.und, getObj, Sem.run, hh, K.check, hf, Sem.run_bind, Result.andThen]

theorem qax : ∀ (l : List (α × Value)) (k : α) (v : Value), mj l k v = match l.findIdx? fun p => decide (p.1 = k) with
  |some i => l.set i (k, v)
  |none => l ++ [(k, v)]
 |[], k, v => rfl
 |p :: r, k, v => by
  have ih := qax r k v
  unfold mj
  rw [List.findIdx?_cons]
  by_cases hp : p.1 = k
  ·simp [hp]
  ·simp only [hp, decide_false, Bool.false_eq_true, if_false]
   rw [ih]
   cases hf : r.findIdx? fun p => decide (p.1 = k) with
   |none => simp
   |some i => simp
end

theorem qau {α : Type} [DecidableEq α] {κ : α → Value} {d : TypeDesc} (hs : ∀ a b : α, Instr.sameNow d (κ a) (κ b) = some (decide (b = a))) (k : α) : ∀ (l : List (α × Value)) (es : List MapEntry) (n : Nat), es.map (fun e => (e.key, e.val)) = l.map (fun p => (κ p.1, p.2)) →
  Instr.findNow d (κ k) es n = some ((l.findIdx? fun p => decide (p.1 = k)).bind fun i => (l[i]?).map fun p => (n + i, p.2))
 |[], [], n, _ => rfl
 |[], e :: es, n, h => by simp at h
 |p :: r, [], n, h => by simp at h
 |p :: r, e :: es, n, h => by
  simp only [List.map_cons, List.cons.injEq, Prod.mk.injEq] at h
  unfold Instr.findNow
  rw [h.1.1, hs, List.findIdx?_cons]
  by_cases hp : p.1 = k
  ·simp [hp, h.1.2]
  ·simp only [hp, decide_false, Bool.false_eq_true, if_false]
   rw [qau hs k r es (n + 1) h.2]
   cases hf : r.findIdx? fun p => decide (p.1 = k) with
   |none => simp
   |some i => simp [Nat.add_assoc, Nat.add_comm 1 i]
theorem beq_swap {α : Type} [DecidableEq α] [BEq α] [LawfulBEq α] (a b : α) : (a == b) = decide (b = a) := by
 by_cases e : a = b
 ·subst e; simp
 ·rw [beq_eq_false_iff_ne.2 e, decide_eq_false fun h => e h.symm]
theorem qui (a b : ByteArray) : (a == b) = decide (b = a) := by
 obtain ⟨x⟩ := a
 obtain ⟨y⟩ := b
 have h : ((⟨x⟩ : ByteArray) == ⟨y⟩) = (x == y) := rfl
 rw [h]
 by_cases e : x = y
 ·subst e; simp
 ·rw [beq_eq_false_iff_ne.2 e, decide_eq_false fun h => e (by injection h with h; exact h.symm)]
theorem qtu {P : Program} {mt kt et : TypeId} {q : IntKind} (h1 : P.underlying mt = some (.map kt et)) (h2 : P.underlying kt = some (.int q)) : rl P mt kt et (Value.int q) where
 und := h1
 check := fun b a w => by
  show (Instr.checkKey b (9999 + 1) kt (.int q a)).run P w = _
  unfold Instr.checkKey
  simp only [Sem.run_bind, run_underlying h2, Result.andThen, Sem.run_pure]
 find := fun k l es w h => by
  unfold Instr.findKey
  have := qau (κ := Value.int q) (d := .int q) (fun a b : Int => (if_pos rfl).trans (congrArg some (beq_swap a b))) k l es 0 h
  simp only [Sem.run_bind, run_underlying h2, Result.andThen, this, Nat.zero_add, Sem.run_pure]
 stays := fun a => by
  rw [show (10000 : Nat) = 9999 + 1 from rfl]
  simp [Instr.sameBits]

theorem dp {fn : Func} {t u v x : Tmp} (h : fn.results = #[.tmp t, .tmp u, .tmp v, .tmp x]) (tmps : Array Value) (P : Program) (w : World) :
  (results fn tmps).run P w = .ok (.tuple #[tmps.getD t undef, tmps.getD u undef, tmps.getD v undef, tmps.getD x undef]) w := by
 simp [results, h]
def dv : List UInt8 → Option (UInt8 × List UInt8 × Nat)
 |[] => none
 |k :: r => match gp r 0 0 with
  |none => none
  |some (n, m) => if n ≤ 1048576 ∧ 1 + m + n + 4 ≤ (k :: r).length ∧ (((k :: r).drop (1 + m + n)).take 4) = eu (il ((k :: r).take (1 + m + n))) then some (k, ((k :: r).drop (1 + m)).take n, 1 + m + n + 4) else none
def ik (w : World) (r : Option (UInt8 × List UInt8 × Nat)) (e : Ending) (w' : World) : Prop :=
 Below w.heap.size w w' ∧ match r with
 |none => ∃ x : Int, x ≠ 0 ∧ 0 ≤ x ∧ x ≤ 100 ∧ e = .returned (.tuple #[.int .u8 0, .slice none 0 0, .int .i64 0, .int .i64 x])
 |some (k, load, n) => ∃ A c, e = .returned (.tuple #[.int .u8 (k.toNat : Nat), .slice A load.length c, .int .i64 (n : Nat), .int .i64 0]) ∧ Rd w' w'.heap.size A (ak load)
theorem ik.no {w w' : World} {r : Option (UInt8 × List UInt8 × Nat)} {e : Ending} (hr : r = none) (hb : Below w.heap.size w w') (x : Int) (h0 : x ≠ 0) (h1 : 0 ≤ x) (h2 : x ≤ 100) (he : e = .returned (.tuple #[.int .u8 0, .slice none 0 0, .int .i64 0, .int .i64 x])) : ik w r e w' := by
 subst hr
 exact ⟨hb, x, h0, h1, h2, he⟩

def cutB (l : List UInt8) : Bool := highB' l && decide (l.length < 10)
where highB' (l : List UInt8) : Bool := l.all fun c => decide (128 ≤ c.toNat)
theorem cut_any (l : List UInt8) (A : Option Addr) (c B : Nat) (w : World) (hr : Rd w B A (ak l)) (hl : l.length ≤ 1099511627776) :
  Calls Tryz.prog 144 #[.slice A l.length c] w fun e w' => e = .returned (.bool (cutB l)) ∧ w = w' := by
 have HR := Lh hr
 clear hr
 go_enter Tryz.func144, Tryz.ntmps144
 go_wp2_with fail
 go_loop [7] (fun v7 => ∃ k : Nat, k ≤ l.length ∧ v7 = .int .i64 k ∧ Hid (cutB.highB' (l.take k) = true)) (fun v7 => l.length - (intOf v7).toNat)
 case atStart => exact ⟨0, by omega, rfl, rfl⟩
 case round =>
  obtain ⟨k, hk, rfl, hh⟩ := hrel
  by_cases hlt : k < l.length
  ·obtain ⟨ab, ao, rfl, hab, hcell⟩ := HR.o.byte hlt
   by_cases hb : l[k].toNat < 128
   ·have HL := Lh (show cutB l = false by
     have : cutB.highB' l = false := by
      unfold cutB.highB'
      rw [List.all_eq_false]
      exact ⟨l[k], List.getElem_mem hlt, by simp; omega⟩
     unfold cutB
     rw [this, Bool.false_and])
    go_wp2
    go_ret
    exact ⟨rt1 (bu HL.o.symm), rfl⟩
   ·have HL := Lh (show cutB.highB' (l.take (k + 1)) = true by
     have h := hh.o
     unfold cutB.highB' at h ⊢
     rw [List.take_succ_eq_append_getElem hlt, List.all_append, h]
     simp; omega)
    go_wp2
    go_round
    case rel => exact ⟨k + 1, by omega, by go_num, HL.o⟩
    case measure => simp [intOf]; omega
  ·have hkl : k = l.length := by omega
   subst hkl
   rw [List.take_length] at hh
   have HL := Lh (show cutB l = decide (l.length < 10) by unfold cutB; rw [hh.o, Bool.true_and])
   go_wp2
   go_ret
   exact ⟨rt1 (bu (by rw [HL.o, Bool.eq_iff_iff]; simp; omega)), rfl⟩
theorem kr (k : UInt8) (r : List UInt8) : dv (k :: r) = match gp r 0 0 with
  |none => none
  |some (n, m) => if n ≤ 1048576 ∧ 1 + m + n + 4 ≤ (k :: r).length ∧ (((k :: r).drop (1 + m + n)).take 4) = eu (il ((k :: r).take (1 + m + n))) then some (k, ((k :: r).drop (1 + m)).take n, 1 + m + n + 4) else none := rfl
theorem qsd (l : List UInt8) : ∀ i v n m, gp l i v = some (n, m) → i < m ∧ m ≤ i + l.length := by
 induction l with
 |nil => intro i v n m h; cases h
 |cons c l ih =>
  intro i v n m h
  rw [gp] at h
  split at h
  ·cases h
  ·split at h
   ·cases h
   ·split at h
    ·injection h with h
     injection h with h1 h2
     simp
     omega
    ·have := ih _ _ _ _ h
     simp
     omega
theorem zj {B : Nat} {w w' : World} (h : Below B w w') : Below B w.drew w' := ⟨h.os, h.tape, h.output, h.size, h.block⟩
theorem qdh (A : Option Addr) (n c m : Nat) (h : m ≤ c) (w : World) : (Instr.sliceAt 44 (.slice A n c) none (some (.int .i64 (m : Nat))) none).run Tryz.prog w = .ok (.slice A m c) w := by
 have hs : ∀ w : World, (sizeOf (Tryz.prog.elem 44)).run Tryz.prog w = .ok 1 w := fun _ => by kernel_rfl
 have ht : Tryz.prog.underlying 44 = some (.slice (Tryz.prog.elem 44)) := by kernel_rfl
 rw [run_sliceAt_slice _ _ _ _ _ _ ht, run_slice_h _ _ _ _ _ ht .i64 _ (by omega) (by omega), hs]
 have e : ∀ s : Nat, (if c = 0 then A else A.map (·.add (0 * s))) = A := by
  intro s
  rw [Nat.zero_mul]
  split
  ·rfl
  ·cases A with
   |none => rfl
   |some a => simp [Addr.add]
 simp only [Result.andThen, sliced, Int.toNat_natCast, e, Nat.sub_zero]
theorem str_eq (x y : List UInt8) : ((⟨x.toArray⟩ : ByteArray).toList == (⟨y.toArray⟩ : ByteArray).toList) = decide (x = y) := by
 rw [← beq_toListBytes, qui]
 by_cases h : x = y
 ·subst h; simp
 ·rw [decide_eq_false h, decide_eq_false]
  intro e
  apply h
  injection e with e
  have := congrArg Array.toList e
  simpa using this.symm
theorem quc (l : List UInt8) (A : Option Addr) (c B : Nat) (w : World) (hr : Rd w B A (ak l)) (hB : B ≤ w.heap.size) (hl : l.length ≤ 68719476736) (hc : l.length ≤ c) :
  Calls Tryz.prog 115 #[.slice A l.length c] w (ik w (dv l)) := by
 have HR := Lh hr
 clear hr
 cases l with
 |nil =>
  go_enter Tryz.func115, Tryz.ntmps115
  go_wp2
  refine bodyPost_ret (dp rfl _ _ _) rfl ?_
  exact ik.no rfl (br _ _) 2 (by omega) (by omega) (by omega) rfl
 |cons kb r =>
  have HP := Lh (kr kb r)
  obtain ⟨l, hle⟩ : ∃ l, l = kb :: r := ⟨_, rfl⟩
  rw [← hle] at HR HP hl hc ⊢
  have h0 : 0 < l.length := by rw [hle]; simp
  have hkb : l[0] = kb := by subst hle; rfl
  have hdr : l.drop 1 = r := by subst hle; rfl
  have HLE := Lh hle
  have HKB := Lh hkb
  have HDR := Lh hdr
  clear hle hkb hdr
  have hne : ((l.length : Int) == 0) = false := by rw [beq_eq_false_iff_ne]; omega
  have hu1 : ∀ w : World, (Instr.sliceAt 44 (.slice A l.length c) (some (.int .i64 1)) none none).run Tryz.prog w = .ok (.slice (cutA A c 1) (l.length - 1) (c - 1)) w := fun w => qdj A l.length c 1 (by omega) w
  go_enter Tryz.func115, Tryz.ntmps115
  go_wp2_with fail
  refine (qlb l A c B w HR.o hB (by omega)).mono ?_
  rintro e w1 ⟨rfl, hr1, hb1, hs1⟩
  have R1 := Lh hr1
  have B1 := Lh hb1
  have hs1' : w.heap.size + 2 ≤ w1.heap.size := by omega
  clear hr1 hb1 hs1
  obtain ⟨g, hg⟩ : ∃ g, g = w.heap.size + 1 := ⟨_, rfl⟩
  rw [← hg] at R1 ⊢
  have hgw : w.heap.size ≤ g := by omega
  clear hg
  go_wp2_with fail
  refine (qrc g l 0 w1 R1.o h0).mono ?_
  rintro e w2 ⟨rfl, hr2, hg2⟩
  have R2 := Lh hr2
  have B2 := Lh (B1.o.trans (ib hg2 hgw B1.o.size))
  have hs2 := B2.o.size
  clear hr2 hg2
  rw [HKB.o]
  have hk8 := kb.toNat_lt
  go_wp2_with fail
  refine (take_var g l (0 + 1) 1048576 w2 R2.o (by omega)).mono ?_
  rintro e w3 ⟨hg3, hv⟩
  have B3 := Lh (B2.o.trans (ib hg3 hgw hs2))
  have hs3 := B3.o.size
  clear hg3
  rcases hv with ⟨n, m, hv, hn, rfl, hr3⟩ | ⟨hv, rfl, a', hr3⟩
  ·have hml : 1 + m ≤ l.length := by obtain ⟨_, _, _, _, _, _, h5⟩ := hr3; omega
   rw [Nat.zero_add] at hv hr3
   have R3 := Lh hr3
   have HV : Hid (gp r 0 0 = some (n, m)) := by rw [← HDR.o]; exact hv
   clear hr3 hv
   have HPM := Lh (show dv l = if n ≤ 1048576 ∧ 1 + m + n + 4 ≤ l.length ∧ ((l.drop (1 + m + n)).take 4) = eu (il (l.take (1 + m + n))) then some (kb, (l.drop (1 + m)).take n, 1 + m + n + 4) else none by rw [HP.o, HV.o])
   go_wp2_with fail
   refine (gr g l (1 + m) false w3 R3.o).mono ?_
   rintro e w4 ⟨rfl, rfl⟩
   by_cases hmn : 1 + m + n ≤ l.length
   ·go_wp2_with fail
    refine (tv g l (1 + m) n w3 R3.o hmn).mono ?_
    rintro e w4 ⟨rfl, hb4, hr4, hg4, hs4⟩
    have R4 := Lh hr4
    have HB4 := Lh hb4
    have B4 := Lh (B3.o.trans (ib hg4 hgw hs3))
    have G4 := Lh hg4
    clear hb4 hr4 hg4
    have hs4' := B4.o.size
    go_wp2_with fail
    refine (qam g l (1 + m + n) w4 R4.o).mono ?_
    rintro e w5 ⟨rfl, rfl⟩
    have hend : (l.length : Int) - ((l.length - (1 + m + n) : Nat) : Int) = ((1 + m + n : Nat) : Int) := by omega
    obtain ⟨E, hE⟩ : ∃ E, E = 1 + m + n := ⟨_, rfl⟩
    obtain ⟨z, hz⟩ : ∃ z, z = l.length - E := ⟨_, rfl⟩
    rw [← hE, ← hz] at hend
    rw [← hE, ← hz]
    rw [← hE] at R4 HPM hmn
    have HE := Lh hE
    have HZ := Lh hz
    clear hE hz
    go_wp2_with fail
    by_cases h4 : E + 4 ≤ l.length
    ·refine (tv g l E 4 w4.drew R4.o.drew h4).mono ?_
     rintro e w6 ⟨rfl, hb6, hr6, hg6, hs6⟩
     have R6 := Lh hr6
     have HB6 := Lh hb6
     have B6 := Lh (B4.o.drew.trans (ib hg6 hgw hs4'))
     have G6 := Lh hg6
     have hs6' := B6.o.size
     clear hb6 hr6 hg6
     go_wp2_with fail
     refine (gr g l (E + 4) false w6 R6.o).mono ?_
     rintro e w7 ⟨rfl, rfl⟩
     have hs6a : w4.heap.size < w6.heap.size := hs6
     obtain ⟨s4, hs4e⟩ : ∃ s4, s4 = (l.drop E).take 4 := ⟨_, rfl⟩
     have hs4l : s4.length = 4 := by rw [hs4e, List.length_take, List.length_drop]; omega
     have HS4 := Lh hs4e
     have RD6 : Hid (Rd w6 w6.heap.size (some ⟨w4.heap.size, 0, none⟩) (ak s4)) := jh (by rw [hs4e]; exact HB6.o) hs6a
     clear hs4e
     obtain ⟨sa, hsa⟩ : ∃ sa : ByteArray, sa = ⟨s4.toArray⟩ := ⟨_, rfl⟩
     have hcv : ∀ w', Below w6.heap.size w6 w' → (convert 44 9 (.slice (some ⟨w4.heap.size, 0, none⟩) 4 4)).run Tryz.prog w' = .ok (.string sa) w' := by
      intro w' hb
      rw [hsa]
      exact ot (P := Tryz.prog) (RD6.o.below hb) Tryz.underlying44 Tryz.underlying5 Tryz.underlying9 4 hs4l.symm 4
     have HCV := Lh hcv
     have hcv1 := hcv _ (br _ _).drew
     have hu2 := qdh A l.length c E (by omega)
     obtain ⟨tl, htl⟩ : ∃ tl, tl = eu (il (l.take E)) := ⟨_, rfl⟩
     have HTL := Lh htl
     have htll : tl.length = 4 := by rw [htl]; simp [eu]
     obtain ⟨sb, hsb⟩ : ∃ sb : ByteArray, sb = ⟨tl.toArray⟩ := ⟨_, rfl⟩
     have hq := str_eq s4 tl
     rw [← hsa, ← hsb] at hq
     have HSA := Lh hsa
     have HSB := Lh hsb
     clear hcv hsa hsb htl hs4l
     go_wp2_with fail
     refine Text.wp_grow [5, 6, 7, 8] [1] [1, 8] (by kernel_rfl) (by kernel_rfl) ?_
     refine Text.wpS_seg 5 _ _ _ _ (by decide) (fun Q' hQ' => ?_)
     simp only [T1, T0]
     go_wp2_with fail
     simp only [Nat.zero_add, List.drop_succ_cons, List.drop_zero]
     refine Text.wpS_one (fun Q' hQ' => ?_)
     go_wp2_with fail
     have hbA : Below w6.heap.size w6 (w6.alloc (.cells #[.slice A E c] 44)).drew := ((br _ _).alloc (nr _) _).drew
     refine ⟨((br w6.drew.heap.size w6.drew).alloc (nr _) (.cells #[.slice A E c] 44)), ?_⟩
     have HBA := Lh hbA
     clear hbA
     refine Text.wpS_one (fun Q' hQ' => ?_)
     go_wp2_with fail
     have hlE : (l.take E).length = E := by rw [List.length_take]; omega
     refine (of_crc w6.heap.size 0 1 (l.take E) A c (w6.heap.size + 1) _ (by rw [hlE]; exact ri w6 _ _) (by omega) ((((HR.o.upto E).below (B6.o.mono hB)).below (HBA.o.mono (by omega))).more (by omega)) (by show _ ≤ (w6.alloc _).heap.size; simp) (by omega)).mono ?_
     rintro e w7 ⟨rfl, hb7⟩
     have HB7 := Lh (HBA.o.trans (hb7.mono (by show _ ≤ (w6.alloc _).heap.size; simp)))
     clear hb7 hlE
     have hs7 := HB7.o.size
     go_wp2_with fail
     refine ⟨zj HB7.o, ?_⟩
     refine Text.wpS_one (fun Q' hQ' => ?_)
     go_wp2_with fail
     refine (qfu _ w7).mono ?_
     rintro e w8 ⟨rfl, rfl⟩
     have HB8 := Lh (HB7.o.alloc hs7 (.cells (ak (eu (il (l.take E)))).toArray 5))
     go_wp2_with fail
     refine ⟨zj HB8.o, ?_⟩
     have hcv2 : (convert 44 9 (.slice (some ⟨w7.heap.size, 0, none⟩) 4 4)).run Tryz.prog (w7.alloc (.cells (ak (eu (il (l.take E)))).toArray 5)) = .ok (.string sb) (w7.alloc (.cells (ak (eu (il (l.take E)))).toArray 5)) := by
      rw [HSB.o, HTL.o]
      exact ot (P := Tryz.prog) (jh (B := w7.heap.size + 1) (hzn w7 _) (by omega)) Tryz.underlying44 Tryz.underlying5 Tryz.underlying9 4 (by simp [eu]) 4
     refine Text.wpS_one (fun Q' hQ' => ?_)
     go_wp2_with fail
     refine ⟨zj HB8.o, ?_⟩
     refine Text.wpS_seg 2 _ _ _ _ (by decide) (fun Q' hQ' => ?_)
     simp only [T1, T0]
     rcases Bool.eq_false_or_eq_true (decide (s4 = tl)) with hd | hd
     ·rw [hd] at hq
      have heq := of_decide_eq_true hd
      have HQ := Lh (show dv l = some (kb, (l.drop (1 + m)).take n, E + 4) by rw [HPM.o, if_pos ⟨hn, h4, by rw [← HS4.o, ← HTL.o]; exact heq⟩])
      clear heq hd
      go_wp2_with fail
      refine ⟨by rfl, ⟨fun _ => ⟨_, fun w' hb => HCV.o w' ⟨hb.os, hb.tape, hb.output, hb.size, hb.block⟩⟩, trivial⟩, ?_⟩
      go_wp2
      refine bodyPost_ret (dp rfl _ _ _) rfl ?_
      refine ⟨B6.o.trans (HB8.o.mono hs6'), ?_⟩
      rw [HQ.o]
      have hll : ((l.drop (1 + m)).take n).length = n := by rw [List.length_take, List.length_drop]; have := HE.o; omega
      have hgl := R3.o.lt
      refine ⟨some ⟨w3.heap.size, 0, none⟩, n, ?_, ?_⟩
      ·rw [hll]; exact congrArg Ending.returned (congrArg (fun x => Value.tuple #[.int .u8 (kb.toNat : Nat), .slice (some ⟨w3.heap.size, 0, none⟩) n n, x, .int .i64 0]) (by go_num))
      ·have h6 : w6.heap[w3.heap.size]? = _ := (G6.o.block w3.heap.size hs4 (by intro e; injection e; omega)).trans HB4.o
       exact jh ((HB8.o.block w3.heap.size (by omega)).trans h6) (by have := HB8.o.size; omega)
     ·rw [hd] at hq
      have hneq := of_decide_eq_false hd
      have HN := Lh (show dv l = none by rw [HPM.o, if_neg]; rintro ⟨_, _, h⟩; exact hneq (by rw [HS4.o, HTL.o]; exact h))
      clear hneq hd
      go_wp2_with fail
      refine ⟨by rfl, ⟨fun _ => ⟨_, fun w' hb => HCV.o w' ⟨hb.os, hb.tape, hb.output, hb.size, hb.block⟩⟩, trivial⟩, ?_⟩
      go_wp2
      refine bodyPost_ret (dp rfl _ _ _) rfl ?_
      exact ik.no HN.o (B6.o.trans (HB8.o.mono hs6')) 6 (by omega) (by omega) (by omega) rfl
    ·have HN := Lh (show dv l = none by rw [HPM.o, if_neg (by omega)])
     refine (tw g l E false 4 w4.drew R4.o.drew (.inr (.inr (by omega)))).mono ?_
     rintro e w6 ⟨rfl, hr6, hg6⟩
     have R6 := Lh hr6
     have B6 := Lh (B4.o.drew.trans (ib hg6 hgw hs4'))
     clear hr6 hg6
     go_wp2_with fail
     refine (gr g l E true w6 R6.o).mono ?_
     rintro e w7 ⟨rfl, rfl⟩
     go_wp2
     refine bodyPost_ret (dp rfl _ _ _) rfl ?_
     exact ik.no HN.o B6.o 2 (by omega) (by omega) (by omega) rfl
   ·have HN := Lh (show dv l = none by rw [HPM.o, if_neg (by omega)])
    go_wp2_with fail
    refine (tw g l (1 + m) false n w3 R3.o (.inr (.inr (by omega)))).mono ?_
    rintro e w4 ⟨rfl, hr4, hg4⟩
    have R4 := Lh hr4
    have B4 := Lh (B3.o.trans (ib hg4 hgw hs3))
    have hs4' := B4.o.size
    clear hr4 hg4
    go_wp2_with fail
    refine (qri g l (1 + m) w4 R4.o).mono ?_
    rintro e w5 ⟨rfl, rfl⟩
    go_wp2_with fail
    refine (tw g l (1 + m) true 4 w4 R4.o (.inl rfl)).mono ?_
    rintro e w6 ⟨rfl, hr6, hg6⟩
    have R6 := Lh hr6
    have B6 := Lh (B4.o.trans (ib hg6 hgw hs4'))
    clear hr6 hg6
    go_wp2_with fail
    refine (gr g l (1 + m) true w6 R6.o).mono ?_
    rintro e w7 ⟨rfl, rfl⟩
    go_wp2
    refine bodyPost_ret (dp rfl _ _ _) rfl ?_
    exact ik.no HN.o B6.o 2 (by omega) (by omega) (by omega) rfl
  ·have R3 := Lh hr3
   have HV := Lh hv
   clear hr3 hv
   have HN := Lh (show dv l = none by
    rw [HP.o]
    have h1 := HV.o
    rw [Nat.zero_add, HDR.o] at h1
    cases hvf : gp r 0 0 with
    |none => rfl
    |some p =>
     obtain ⟨n, m⟩ := p
     have := h1 n m hvf
     simp only
     rw [if_neg (by omega)])
   go_wp2_with fail
   refine (gr g l a' true w3 R3.o).mono ?_
   rintro e w4 ⟨rfl, rfl⟩
   go_wp2_with fail
   have hlen : l.length - 1 = (l.drop 1).length := (List.length_drop ..).symm
   rw [hlen]
   clear hlen
   refine (cut_any (l.drop 1) (cutA A c 1) (c - 1) B w3 ((HR.o.cut 1 c hc).below (B3.o.mono hB)) (by rw [List.length_drop]; omega)).mono ?_
   rintro e w5 ⟨rfl, rfl⟩
   rcases Bool.eq_false_or_eq_true (cutB (l.drop 1)) with hcb | hcb
   ·rw [hcb]
    clear hcb
    go_wp2
    refine bodyPost_ret (dp rfl _ _ _) rfl ?_
    exact ik.no HN.o B3.o 2 (by omega) (by omega) (by omega) rfl
   ·rw [hcb]
    clear hcb
    go_wp2
    refine bodyPost_ret (dp rfl _ _ _) rfl ?_
    exact ik.no HN.o B3.o 3 (by omega) (by omega) (by omega) rfl

def el (l : List UInt8) : Option (UInt8 × List UInt8) := match dv l with
 |some (k, load, n) => if n = l.length then some (k, load) else none
 |none => none
def OpenTo (w : World) (r : Option (UInt8 × List UInt8)) (e : Ending) (w' : World) : Prop :=
 Below w.heap.size w w' ∧ match r with
 |none => ∃ x : Int, x ≠ 0 ∧ 0 ≤ x ∧ x ≤ 100 ∧ e = .returned (.tuple #[.int .u8 0, .slice none 0 0, .int .i64 x])
 |some (k, load) => ∃ A c, e = .returned (.tuple #[.int .u8 (k.toNat : Nat), .slice A load.length c, .int .i64 0]) ∧ Rd w' w'.heap.size A (ak load)
theorem qhd {l : List UInt8} {k : UInt8} {load : List UInt8} {n : Nat} (h : dv l = some (k, load, n)) : n ≤ l.length := by
 cases l with
 |nil => cases h
 |cons a r =>
  rw [kr] at h
  split at h
  ·cases h
  ·split at h
   ·rename_i hc
    injection h with h
    injection h with h1 h2
    injection h2 with h2 h3
    omega
   ·cases h
theorem open_any (l : List UInt8) (A : Option Addr) (c B : Nat) (w : World) (hr : Rd w B A (ak l)) (hB : B ≤ w.heap.size) (hl : l.length ≤ 68719476736) (hc : l.length ≤ c) :
  Calls Tryz.prog 87 #[.slice A l.length c] w (OpenTo w (el l)) := by
 have HR := Lh hr
 clear hr
 go_enter Tryz.func87, Tryz.ntmps87
 go_wp2_with fail
 refine (quc l A c B w HR.o hB hl hc).mono ?_
 rintro e w1 ⟨hb, hm⟩
 have B1 := Lh hb
 clear hb
 cases hf : dv l with
 |none =>
  rw [hf] at hm
  obtain ⟨x, h0, h1, h2, rfl⟩ := hm
  have HO := Lh (show el l = none by unfold el; rw [hf])
  have hx : (x != 0) = true := by simpa using h0
  clear hf
  go_wp2
  go_ret3
  refine ⟨B1.o, ?_⟩
  rw [HO.o]
  exact ⟨x, h0, h1, h2, rfl⟩
 |some p =>
  obtain ⟨k, load, n⟩ := p
  have hle := qhd hf
  rw [hf] at hm
  obtain ⟨A1, c1, rfl, hrd⟩ := hm
  have HRD := Lh hrd
  have HF := Lh hf
  clear hrd hf
  have hk8 := k.toNat_lt
  by_cases hn : n = l.length
  ·have HO := Lh (show el l = some (k, load) by unfold el; rw [HF.o]; simp only; rw [if_pos hn])
   have hnl : ¬ n < l.length := by omega
   clear hn
   go_wp2
   go_ret3
   refine ⟨B1.o, ?_⟩
   rw [HO.o]
   exact ⟨A1, c1, rfl, HRD.o⟩
  ·have HO := Lh (show el l = none by unfold el; rw [HF.o]; simp only; rw [if_neg hn])
   have hnl : n < l.length := by omega
   clear hn
   go_wp2
   go_ret3
   refine ⟨B1.o, ?_⟩
   rw [HO.o]
   exact ⟨5, by omega, by omega, by omega, rfl⟩
theorem four_eq (l : List UInt8) (E : Nat) (h : E + 4 ≤ l.length) (s : BitVec 32) : ((l.drop E).take 4 = eu s) ↔ (l[E].toNat = s.toNat % 256 ∧ l[E + 1].toNat = s.toNat / 256 % 256 ∧ l[E + 2].toNat = s.toNat / 65536 % 256 ∧ l[E + 3].toNat = s.toNat / 16777216 % 256) := by
 rw [List.drop_eq_getElem_cons (by omega), List.drop_eq_getElem_cons (i := E + 1) (by omega), List.drop_eq_getElem_cons (i := E + 1 + 1) (by omega), List.drop_eq_getElem_cons (i := E + 1 + 1 + 1) (by omega)]
 simp only [List.take_succ_cons, List.take_zero, eu, List.cons.injEq, and_true]
 simp only [← UInt8.toNat_inj, UInt8.toNat_ofNat']
theorem qjg (l : List UInt8) (A : Option Addr) (c B : Nat) (w : World) (hr : Rd w B A (ak l)) (hB : B ≤ w.heap.size) (hl : l.length ≤ 68719476736) (hc : l.length ≤ c) :
  Calls Tryz.prog 95 #[.slice A l.length c] w (ik w (dv l)) := by
 have HR := Lh hr
 clear hr
 cases l with
 |nil =>
  go_enter Tryz.func95, Tryz.ntmps95
  go_wp2
  refine bodyPost_ret (dp rfl _ _ _) rfl ?_
  exact ik.no rfl (br _ _) 2 (by omega) (by omega) (by omega) rfl
 |cons kb r =>
  have HP := Lh (kr kb r)
  obtain ⟨l, hle⟩ : ∃ l, l = kb :: r := ⟨_, rfl⟩
  rw [← hle] at HR HP hl hc ⊢
  have h0 : 0 < l.length := by rw [hle]; simp
  have hkb : l[0] = kb := by subst hle; rfl
  have hdr : l.drop 1 = r := by subst hle; rfl
  have hlr : l.length - 1 = r.length := by subst hle; simp
  have HKB := Lh hkb
  have HDR := Lh hdr
  clear hle hkb hdr
  have hne : ((l.length : Int) == 0) = false := by rw [beq_eq_false_iff_ne]; omega
  have hu1 : ∀ w : World, (Instr.sliceAt 44 (.slice A l.length c) (some (.int .i64 1)) none none).run Tryz.prog w = .ok (.slice (cutA A c 1) r.length (c - 1)) w := fun w => by have := qdj A l.length c 1 (by omega) w; rw [hlr] at this; exact this
  have HLR := Lh hlr
  clear hlr
  go_enter Tryz.func95, Tryz.ntmps95
  go_wp2_with fail
  refine (qhb r (cutA A c 1) (c - 1) B w (by have := HR.o.cut 1 c hc; rw [HDR.o] at this; exact this) (by have := HLR.o; omega)).mono ?_
  rintro e w1 ⟨rfl, rfl⟩
  cases hv : gp r 0 0 with
  |none =>
   have HN := Lh (show dv l = none by rw [HP.o, hv])
   clear hv
   have hfv : qft none = .tuple #[.int .u64 0, .int .i64 0] := rfl
   rw [hfv]
   clear hfv
   go_wp2_with fail
   go_loop [8] (fun v8 => ∃ i : Nat, 1 ≤ i ∧ i ≤ l.length ∧ v8 = .int .i64 i) (fun v8 => l.length - (intOf v8).toNat)
   case atStart => exact ⟨1, by omega, by omega, rfl⟩
   case round =>
    obtain ⟨i, hi1, hi, rfl⟩ := hrel
    by_cases hlt : i < l.length
    ·obtain ⟨ab, ao, rfl, hab, hcell⟩ := HR.o.byte hlt
     have hb8 := l[i].toNat_lt
     obtain ⟨y, hy⟩ : ∃ y, y = l[i].toNat := ⟨_, rfl⟩
     rw [← hy] at hcell hb8
     clear hy
     rcases Nat.lt_or_ge y 128 with hy | hy
     ·go_wp2
      refine bodyPost_ret (dp rfl _ _ _) rfl ?_
      exact ik.no HN.o (br _ _) 3 (by omega) (by omega) (by omega) rfl
     ·rcases Nat.lt_or_ge i 10 with h10 | h10
      ·go_wp2
       go_round
       case rel => exact ⟨i + 1, by omega, by omega, by go_num⟩
       case measure => simp [intOf]; omega
      ·go_wp2
       refine bodyPost_ret (dp rfl _ _ _) rfl ?_
       exact ik.no HN.o (br _ _) 3 (by omega) (by omega) (by omega) rfl
    ·go_wp2
     refine bodyPost_ret (dp rfl _ _ _) rfl ?_
     exact ik.no HN.o (br _ _) 2 (by omega) (by omega) (by omega) rfl
  |some p =>
   obtain ⟨n, m⟩ := p
   have hml := qsd r 0 0 n m hv
   have hm1 : 1 + m ≤ l.length := by have := HLR.o; omega
   have hm0 : ((m : Int) == 0) = false := by rw [beq_eq_false_iff_ne]; omega
   have HPM := Lh (show dv l = if n ≤ 1048576 ∧ 1 + m + n + 4 ≤ l.length ∧ ((l.drop (1 + m + n)).take 4) = eu (il (l.take (1 + m + n))) then some (kb, (l.drop (1 + m)).take n, 1 + m + n + 4) else none by rw [HP.o, hv])
   clear hv hml
   have hfv : qft (some (n, m)) = .tuple #[.int .u64 (n : Nat), .int .i64 (m : Nat)] := rfl
   rw [hfv]
   clear hfv
   rcases Nat.lt_or_ge 1048576 n with hbig | hsm
   ·have HN := Lh (show dv l = none by rw [HPM.o, if_neg (by omega)])
    go_wp2
    refine bodyPost_ret (dp rfl _ _ _) rfl ?_
    exact ik.no HN.o (br _ _) 3 (by omega) (by omega) (by omega) rfl
   ·obtain ⟨E, hE⟩ : ∃ E, E = 1 + m + n := ⟨_, rfl⟩
    have hEi : (1 : Int) + m + n = (E : Int) := by omega
    rw [← hE] at HPM
    have HE := Lh hE
    clear hE
    by_cases h4 : E + 4 ≤ l.length
    ·have hu2 := qdh A l.length c E (by omega)
     have hnlt : ¬ ((l.length : Int) < (E : Int) + 4) := by omega
     have hlE : (l.take E).length = E := by rw [List.length_take]; omega
     have HLE := Lh hlE
     clear hlE
     go_wp2_with fail
     rw [← HLE.o]
     refine (qep (l.take E) A c B w (HR.o.upto E) (by rw [HLE.o]; omega)).mono ?_
     rintro e w1 ⟨rfl, rfl⟩
     rw [HLE.o]
     obtain ⟨b0, o0, rfl, hb0, hall⟩ := HR.o (by intro e; have := congrArg List.length e; rw [am, List.length_nil] at this; omega)
     have hcl : ∀ (j : Nat) (hj : j < l.length), w.cell? ⟨b0, o0 + j, none⟩ = some (.int .u8 (l[j].toNat : Nat)) := by
      intro j hj
      refine hall j _ ?_
      rw [List.getElem?_eq_getElem (by rw [am]; exact hj), qgn]
     have hF := four_eq l E h4 (il (l.take E))
     have hs32 := (il (l.take E)).isLt
     obtain ⟨sv, hsv⟩ : ∃ sv, sv = (il (l.take E)).toNat := ⟨_, rfl⟩
     rw [← hsv] at hF hs32 ⊢
     have ce0 := hcl E (by omega)
     have ce1 := hcl (E + 1) (by omega)
     have ce2 := hcl (E + 2) (by omega)
     have ce3 := hcl (E + 3) (by omega)
     have cz := hcl 0 h0
     rw [HKB.o, Nat.add_zero] at cz
     have hk8 := kb.toNat_lt
     obtain ⟨y0, hy0⟩ : ∃ y, y = l[E].toNat := ⟨_, rfl⟩
     obtain ⟨y1, hy1⟩ : ∃ y, y = l[E + 1].toNat := ⟨_, rfl⟩
     obtain ⟨y2, hy2⟩ : ∃ y, y = l[E + 2].toNat := ⟨_, rfl⟩
     obtain ⟨y3, hy3⟩ : ∃ y, y = l[E + 3].toNat := ⟨_, rfl⟩
     rw [← hy0] at ce0 hF
     rw [← hy1] at ce1 hF
     rw [← hy2] at ce2 hF
     rw [← hy3] at ce3 hF
     have hy38 : y3 < 256 := by rw [hy3]; exact l[E + 3].toNat_lt
     clear hy0 hy1 hy2 hy3 hcl hall hsv
     have HF := Lh hF
     clear hF
     have hu3 : ∀ w : World, (Instr.sliceAt 44 (.slice (some ⟨b0, o0, none⟩) l.length c) (some (.int .i64 (1 + (m : Int)))) (some (.int .i64 (E : Nat))) none).run Tryz.prog w = .ok (.slice (cutA (some ⟨b0, o0, none⟩) c (1 + m)) n (c - (1 + m))) w := fun w => by
      have h := qnr (some ⟨b0, o0, none⟩) l.length c (1 + m) E (by have := HE.o; omega) (by omega) w
      rw [show ((1 + m : Nat) : Int) = 1 + (m : Int) by omega, show E - (1 + m) = n by have := HE.o; omega] at h
      exact h
     rcases Bool.eq_false_or_eq_true (((y0 : Nat) : Int) != (sv : Int) % 256) with q0 | q0
     ·have HN := Lh (show dv l = none by
       rw [HPM.o, if_neg]; rintro ⟨_, _, h⟩; have := (HF.o.1 h).1; simp at q0; omega)
      go_wp2
      refine bodyPost_ret (dp rfl _ _ _) rfl ?_
      exact ik.no HN.o (br _ _) 6 (by omega) (by omega) (by omega) rfl
     rcases Bool.eq_false_or_eq_true (((y1 : Nat) : Int) != (sv : Int) / 256 % 256) with q1 | q1
     ·have HN := Lh (show dv l = none by
       rw [HPM.o, if_neg]; rintro ⟨_, _, h⟩; have := (HF.o.1 h).2.1; simp at q1; omega)
      go_wp2
      refine bodyPost_ret (dp rfl _ _ _) rfl ?_
      exact ik.no HN.o (br _ _) 6 (by omega) (by omega) (by omega) rfl
     rcases Bool.eq_false_or_eq_true (((y2 : Nat) : Int) != (sv : Int) / 65536 % 256) with q2 | q2
     ·have HN := Lh (show dv l = none by
       rw [HPM.o, if_neg]; rintro ⟨_, _, h⟩; have := (HF.o.1 h).2.2.1; simp at q2; omega)
      go_wp2
      refine bodyPost_ret (dp rfl _ _ _) rfl ?_
      exact ik.no HN.o (br _ _) 6 (by omega) (by omega) (by omega) rfl
     rcases Bool.eq_false_or_eq_true (((y3 : Nat) : Int) != (sv : Int) / 16777216) with q3 | q3
     ·have HN := Lh (show dv l = none by
       rw [HPM.o, if_neg]; rintro ⟨_, _, h⟩; have := (HF.o.1 h).2.2.2; simp at q3; omega)
      go_wp2
      refine bodyPost_ret (dp rfl _ _ _) rfl ?_
      exact ik.no HN.o (br _ _) 6 (by omega) (by omega) (by omega) rfl
     have HQ := Lh (show dv l = some (kb, (l.drop (1 + m)).take n, E + 4) by
      have hf := HF.o.2 (by simp at q0 q1 q2 q3; omega)
      rw [HPM.o, if_pos ⟨hsm, h4, hf⟩])
     go_wp2_with fail
     refine Text.wp_text [] (by kernel_rfl) (by kernel_rfl) (fun Q' hQ' => ?_)
     go_wp2
     refine ⟨by rfl, ?_⟩
     go_wp2
     refine bodyPost_ret (dp rfl _ _ _) rfl ?_
     refine ⟨(br _ _).drew, ?_⟩
     rw [HQ.o]
     have hll : ((l.drop (1 + m)).take n).length = n := by rw [List.length_take, List.length_drop]; have := HE.o; omega
     refine ⟨cutA (some ⟨b0, o0, none⟩) c (1 + m), c - (1 + m), ?_, ((((HR.o.cut (1 + m) c hc).upto n).below ((br _ _).drew)).more (by exact hB))⟩
     rw [hll]
     exact congrArg Ending.returned (congrArg (fun x => Value.tuple #[.int .u8 (kb.toNat : Nat), .slice (cutA (some ⟨b0, o0, none⟩) c (1 + m)) n (c - (1 + m)), x, .int .i64 0]) (by go_num))
    ·have HN := Lh (show dv l = none by rw [HPM.o, if_neg (by omega)])
     have hlt4 : (l.length : Int) < (E : Int) + 4 := by omega
     go_wp2
     refine bodyPost_ret (dp rfl _ _ _) rfl ?_
     exact ik.no HN.o (br _ _) 2 (by omega) (by omega) (by omega) rfl
end Go.Proofs.YtplbcbamnjnhlaaGreatDoor
