/- Texts of this proof joined: SlInt, SlRule, Gram1, Lex, Map. -/
import Derived.Test.YthojelhpipmkiaaGreatDoorChecked
import Derived.Test.YthojelhpipmkiaaGreatDoorKO01
import Derived.Test.YthojelhpipmkiaaGreatDoorKO04
namespace Go.Proofs.YthojelhpipmkiaaGreatDoor
open Go.RowKit
def idxOf {α : Type} (p : α → Bool) (xs : List α) : Int := match xs.findIdx? p with | some i => i | none => -1
theorem idxOf_hit {α : Type} {p : α → Bool} {xs : List α} {k : Nat} (h : k < xs.length) (hno : ∀ (j : Nat) (h : j < xs.length), j < k → p xs[j] = false) (hp : p xs[k] = true) : idxOf p xs = k := by
 unfold idxOf
 rw [List.findIdx?_eq_some_iff_getElem.2 ⟨h, hp, fun j hj => by simp [hno j (by omega) hj]⟩]
theorem idxOf_miss {α : Type} {p : α → Bool} {xs : List α} (hno : ∀ (j : Nat) (h : j < xs.length), p xs[j] = false) : idxOf p xs = -1 := by
 unfold idxOf
 rw [List.findIdx?_eq_none_iff.2 fun x hx => by obtain ⟨j, hj, rfl⟩ := List.getElem_of_mem hx; exact hno j hj]
theorem idxOf_any {α : Type} (p : α → Bool) (xs : List α) : (0 ≤ idxOf p xs ∧ xs.any p = true) ∨ (idxOf p xs < 0 ∧ xs.any p = false) := by
 unfold idxOf
 cases h : xs.findIdx? p with
 |none => right; rw [List.findIdx?_eq_none_iff] at h; exact ⟨by simp, by simpa using h⟩
 |some i =>
  left
  rw [List.findIdx?_eq_some_iff_getElem] at h
  exact ⟨by simp, by rw [List.any_eq_true]; exact ⟨_, List.getElem_mem h.1, h.2.1⟩⟩

set_option maxHeartbeats 800000 in
theorem idxf_int (F : FuncId) (cap : Array Value) (p : Int → Bool) (v : Value) (xs : List (Int)) (w : World) (hv : SlR eInt w w.heap.size v xs)
  (hF : ∀ (args : Array Value) (w : World), (callFunc F args).run Tryz.prog w = .ok (.enter F args) w)
  (hp : ∀ (cs : List Value) (x : Int) (w1 : World), x ∈ xs → Below w.heap.size w w1 → (eInt).rep w1 w.heap.size cs x → Calls Tryz.prog F (#[.int .i64 x] ++ cap) w1 fun e w2 => e = .returned (.bool (p x)) ∧ Below w1.heap.size w1 w2) :
  Calls Tryz.prog 97 #[v, .func (.func F) #[] cap] w fun e w' => e = .returned (.int .i64 (idxOf p xs)) ∧ Below w.heap.size w w' := by
 have HP := Lib.hid hp
 clear hp
 obtain ⟨A, c, rfl, hc1, hc2⟩ := hv.form
 unfold maxLen at hc2
 go_enter Tryz.func97, Tryz.ntmps97
 go_wp2_with fail
 go_loopw [8] (fun v8 wr => ∃ k : Nat, k ≤ xs.length ∧ v8 = .int .i64 k ∧ Hid (∀ (j : Nat) (h : j < xs.length), j < k → p xs[j] = false) ∧ Below w.heap.size w wr) (fun v8 _ => xs.length - (intOf v8).toNat)
 case atStart => exact ⟨0, by omega, rfl, fun j h hj => by omega, Below.refl _ _⟩
 case round =>
  obtain ⟨k, hk, rfl, hno, hbr⟩ := hrel
  by_cases hlt : k < xs.length
  ·obtain ⟨ab, ao, cs, rfl, _, hab, hrep, hcell⟩ := (hv.below hbr).get hlt (by decide)
   have hrep0 := Lib.hid hrep
   obtain ⟨rfl, hx1, hx2⟩ := hrep
   have hc0 := hcell 0 _ rfl
   clear hcell
   simp only [show eInt.size = 1 from rfl, Nat.mul_one, Nat.add_zero] at hc0
   rcases Bool.eq_false_or_eq_true (p xs[k]) with hpk | hpk
   ·have HB := Lib.hid hpk
    have HFIN := Lib.hid (idxOf_hit hlt hno.out hpk)
    clear hpk
    go_wp2_with fail
    refine (HP.out [.int .i64 xs[k]] xs[k] wr (List.getElem_mem hlt) hbr hrep0.out).mono ?_
    rintro e w1 ⟨rfl, hb1⟩
    rw [HB.out]
    go_wp2
    go_ret
    exact ⟨rt1 (vint HFIN.out.symm), hbr.trans (hb1.mono hbr.size)⟩
   ·have HB := Lib.hid hpk
    clear hpk
    go_wp2_with fail
    refine (HP.out [.int .i64 xs[k]] xs[k] wr (List.getElem_mem hlt) hbr hrep0.out).mono ?_
    rintro e w1 ⟨rfl, hb1⟩
    rw [HB.out]
    go_wp2
    go_roundw
    case rel => exact ⟨k + 1, by omega, by go_num, fun j h hj => by by_cases e : j = k; (subst e; exact HB.out); exact hno.out j h (by omega), hbr.trans (hb1.mono hbr.size)⟩
    case measure => simp [intOf]; omega
  ·have HFIN := Lib.hid (idxOf_miss fun j h => hno.out j h (by omega))
   go_wp2
   go_ret
   exact ⟨rt1 (vint HFIN.out.symm), hbr⟩
set_option maxHeartbeats 400000 in
theorem conf_int (F : FuncId) (cap : Array Value) (p : Int → Bool) (v : Value) (xs : List (Int)) (w : World) (hv : SlR eInt w w.heap.size v xs)
  (hF : ∀ (args : Array Value) (w : World), (callFunc F args).run Tryz.prog w = .ok (.enter F args) w)
  (hp : ∀ (cs : List Value) (x : Int) (w1 : World), x ∈ xs → Below w.heap.size w w1 → (eInt).rep w1 w.heap.size cs x → Calls Tryz.prog F (#[.int .i64 x] ++ cap) w1 fun e w2 => e = .returned (.bool (p x)) ∧ Below w1.heap.size w1 w2) :
  Calls Tryz.prog 57 #[v, .func (.func F) #[] cap] w fun e w' => e = .returned (.bool (xs.any p)) ∧ Below w.heap.size w w' := by
 have HC := Lib.hid (idxf_int F cap p v xs w hv hF hp)
 clear hp
 rcases idxOf_any p xs with ⟨h1, h2⟩ | ⟨h1, h2⟩
 all_goals
  have H2 := Lib.hid h2
  clear h2
  go_enter Tryz.func57, Tryz.ntmps57
  go_wp2_with fail
  refine HC.out.mono ?_
  rintro e w1 ⟨rfl, hb1⟩
  go_wp2
  go_ret
  exact ⟨rt1 (vbool (by first | exact H2.out.symm | (rw [H2.out]; simp; done) | (rw [H2.out]; simp; omega))), hb1⟩
end Go.Proofs.YthojelhpipmkiaaGreatDoor
namespace Go.Proofs.YthojelhpipmkiaaGreatDoor
open Go.RowKit
def eRule : Elt (Int × List Int) := eProd eInt (eSl eInt)

set_option maxHeartbeats 800000 in
theorem idxf_rule (F : FuncId) (cap : Array Value) (p : Int × List Int → Bool) (v : Value) (xs : List (Int × List Int)) (w : World) (hv : SlR eRule w w.heap.size v xs)
  (hF : ∀ (args : Array Value) (w : World), (callFunc F args).run Tryz.prog w = .ok (.enter F args) w)
  (hp : ∀ (cs : List Value) (x : Int × List Int) (w1 : World), x ∈ xs → Below w.heap.size w w1 → (eRule).rep w1 w.heap.size cs x → Calls Tryz.prog F (#[.agg cs.toArray] ++ cap) w1 fun e w2 => e = .returned (.bool (p x)) ∧ Below w1.heap.size w1 w2) :
  Calls Tryz.prog 98 #[v, .func (.func F) #[] cap] w fun e w' => e = .returned (.int .i64 (idxOf p xs)) ∧ Below w.heap.size w w' := by
 have HP := Lib.hid hp
 clear hp
 obtain ⟨A, c, rfl, hc1, hc2⟩ := hv.form
 unfold maxLen at hc2
 go_enter Tryz.func98, Tryz.ntmps98
 go_wp2_with fail
 go_loopw [8] (fun v8 wr => ∃ k : Nat, k ≤ xs.length ∧ v8 = .int .i64 k ∧ Hid (∀ (j : Nat) (h : j < xs.length), j < k → p xs[j] = false) ∧ Below w.heap.size w wr) (fun v8 _ => xs.length - (intOf v8).toNat)
 case atStart => exact ⟨0, by omega, rfl, fun j h hj => by omega, Below.refl _ _⟩
 case round =>
  obtain ⟨k, hk, rfl, hno, hbr⟩ := hrel
  by_cases hlt : k < xs.length
  ·obtain ⟨ab, ao, cs, rfl, _, hab, hrep, hcell⟩ := (hv.below hbr).get hlt (by decide)
   obtain ⟨u0, u1, rfl⟩ : ∃ u0 u1, cs = [u0, u1] := by
    match cs, (eRule).len hrep with
    |[u0, u1], _ => exact ⟨u0, u1, rfl⟩
   have hc0 := hcell 0 _ rfl
   have hc1' := hcell 1 _ rfl
   have hrep := Lib.hid hrep
   clear hcell
   simp only [show (eRule).size = 2 from rfl, Nat.add_zero, ← Nat.add_assoc] at hc0 hc1'
   rcases Bool.eq_false_or_eq_true (p xs[k]) with hpk | hpk
   ·have HB := Lib.hid hpk
    have HFIN := Lib.hid (idxOf_hit hlt hno.out hpk)
    clear hpk
    go_wp2_with fail
    refine (HP.out [u0, u1] xs[k] wr (List.getElem_mem hlt) hbr hrep.out).mono ?_
    rintro e w1 ⟨rfl, hb1⟩
    rw [HB.out]
    go_wp2
    go_ret
    exact ⟨rt1 (vint HFIN.out.symm), hbr.trans (hb1.mono hbr.size)⟩
   ·have HB := Lib.hid hpk
    clear hpk
    go_wp2_with fail
    refine (HP.out [u0, u1] xs[k] wr (List.getElem_mem hlt) hbr hrep.out).mono ?_
    rintro e w1 ⟨rfl, hb1⟩
    rw [HB.out]
    go_wp2
    go_roundw
    case rel => exact ⟨k + 1, by omega, by go_num, fun j h hj => by by_cases e : j = k; (subst e; exact HB.out); exact hno.out j h (by omega), hbr.trans (hb1.mono hbr.size)⟩
    case measure => simp [intOf]; omega
  ·have HFIN := Lib.hid (idxOf_miss fun j h => hno.out j h (by omega))
   go_wp2
   go_ret
   exact ⟨rt1 (vint HFIN.out.symm), hbr⟩
set_option maxHeartbeats 400000 in
theorem conf_rule (F : FuncId) (cap : Array Value) (p : Int × List Int → Bool) (v : Value) (xs : List (Int × List Int)) (w : World) (hv : SlR eRule w w.heap.size v xs)
  (hF : ∀ (args : Array Value) (w : World), (callFunc F args).run Tryz.prog w = .ok (.enter F args) w)
  (hp : ∀ (cs : List Value) (x : Int × List Int) (w1 : World), x ∈ xs → Below w.heap.size w w1 → (eRule).rep w1 w.heap.size cs x → Calls Tryz.prog F (#[.agg cs.toArray] ++ cap) w1 fun e w2 => e = .returned (.bool (p x)) ∧ Below w1.heap.size w1 w2) :
  Calls Tryz.prog 59 #[v, .func (.func F) #[] cap] w fun e w' => e = .returned (.bool (xs.any p)) ∧ Below w.heap.size w w' := by
 have HC := Lib.hid (idxf_rule F cap p v xs w hv hF hp)
 clear hp
 rcases idxOf_any p xs with ⟨h1, h2⟩ | ⟨h1, h2⟩
 all_goals
  have H2 := Lib.hid h2
  clear h2
  go_enter Tryz.func59, Tryz.ntmps59
  go_wp2_with fail
  refine HC.out.mono ?_
  rintro e w1 ⟨rfl, hb1⟩
  go_wp2
  go_ret
  exact ⟨rt1 (vbool (by first | exact H2.out.symm | (rw [H2.out]; simp; done) | (rw [H2.out]; simp; omega))), hb1⟩
end Go.Proofs.YthojelhpipmkiaaGreatDoor
namespace Go.Proofs.YthojelhpipmkiaaGreatDoor
open Go.RowKit

theorem below_drew1 {w : World} : Below w.heap.size w w.drew := (Below.refl _ _).drew

set_option maxHeartbeats 800000 in
theorem equal_int (a b : Value) (xs ys : List Int) (w : World) (ha : SlR eInt w w.heap.size a xs) (hb : SlR eInt w w.heap.size b ys) :
  Calls Tryz.prog 99 #[a, b] w fun e w' => e = .returned (.bool (decide (xs = ys))) ∧ Below w.heap.size w w' := by
 obtain ⟨A, c, rfl, hc1, hc2⟩ := ha.form
 obtain ⟨B, d, rfl, hd1, hd2⟩ := hb.form
 unfold maxLen at hc2 hd2
 by_cases hl : xs.length = ys.length
 ·have hne : ((xs.length : Int) != (ys.length : Int)) = false := by simp; omega
  go_enter Tryz.func99, Tryz.ntmps99
  go_wp2
  go_loopw [13] (fun v8 wr => ∃ k : Nat, k ≤ xs.length ∧ v8 = .int .i64 k ∧ Hid (∀ (j : Nat) (h : j < xs.length) (h2 : j < ys.length), j < k → xs[j] = ys[j]) ∧ Below w.heap.size w wr) (fun v8 _ => xs.length - (intOf v8).toNat)
  case atStart => exact ⟨0, by omega, rfl, fun j h h2 hj => by omega, Below.refl _ _⟩
  case round =>
   obtain ⟨k, hk, rfl, hno, hbr⟩ := hrel
   by_cases hlt : k < xs.length
   ·have hlt2 : k < ys.length := by omega
    obtain ⟨ab, ao, cs, rfl, _, hab, hrep, hcell⟩ := (ha.below hbr).get hlt (by decide)
    obtain ⟨rfl, hx1, hx2⟩ := hrep
    have hc0 := hcell 0 _ rfl
    obtain ⟨bb, bo, cs, rfl, _, hbb, hrep, hcell2⟩ := (hb.below hbr).get hlt2 (by decide)
    obtain ⟨rfl, hy1, hy2⟩ := hrep
    have hd0 := hcell2 0 _ rfl
    clear hcell hcell2
    simp only [show eInt.size = 1 from rfl, Nat.mul_one, Nat.add_zero] at hc0 hd0
    by_cases heq : xs[k] = ys[k]
    ·have hq : (xs[k] != ys[k]) = false := by simp [heq]
     have HQ := Lib.hid heq
     clear heq
     go_wp2_with fail
     refine Text.wp_text [] (by kernel_rfl) (by kernel_rfl) (fun Q' hQ' => ?_)
     go_wp2
     refine ⟨by rfl, ?_⟩
     go_wp2
     go_roundw
     case rel => exact ⟨k + 1, by omega, by go_num, fun j h h2 hj => by by_cases e : j = k; (subst e; exact HQ.out); exact hno.out j h h2 (by omega), hbr.drew⟩
     case measure => simp [intOf]; omega
    ·have hq : (xs[k] != ys[k]) = true := by simp [heq]
     have HQ := Lib.hid heq
     clear heq
     go_wp2_with fail
     refine Text.wp_text [] (by kernel_rfl) (by kernel_rfl) (fun Q' hQ' => ?_)
     go_wp2
     refine ⟨by rfl, ?_⟩
     go_wp2
     go_ret
     exact ⟨rt1 (vbool (by rw [eq_comm, decide_eq_false_iff_not]; intro h; subst h; exact HQ.out rfl)), hbr.drew⟩
   ·have HEQ : Hid (xs = ys) := List.ext_getElem hl fun j h h2 => hno.out j h h2 (by omega)
    go_wp2
    go_ret
    exact ⟨rt1 (vbool (by rw [eq_comm, decide_eq_true_eq]; exact HEQ.out)), hbr⟩
 ·have hne : ((xs.length : Int) != (ys.length : Int)) = true := by simp; omega
  go_enter Tryz.func99, Tryz.ntmps99
  go_wp2
  go_ret
  exact ⟨rt1 (vbool (by rw [eq_comm, decide_eq_false_iff_not]; intro h; subst h; exact hl rfl)), Below.refl _ _⟩

theorem eRule_open {w : World} {B : Nat} {cs : List Value} {r : Int × List Int} (h : eRule.rep w B cs r) : ∃ v, cs = [.int .i64 r.1, v] ∧ SlR eInt w B v r.2 ∧ -9223372036854775808 ≤ r.1 ∧ r.1 ≤ 9223372036854775807 := by
 obtain ⟨c1, c2, rfl, ⟨rfl, h1, h2⟩, v, rfl, hs⟩ := h
 exact ⟨v, rfl, hs, h1, h2⟩
set_option maxHeartbeats 800000 in
theorem like_any (v1 v2 : Value) (l1 l2 : Int) (r1 r2 : List Int) (w : World) (h1 : SlR eInt w w.heap.size v1 r1) (h2 : SlR eInt w w.heap.size v2 r2) :
  Calls Tryz.prog 61 #[.agg #[.int .i64 l1, v1], .agg #[.int .i64 l2, v2]] w fun e w' => e = .returned (.bool (decide ((l1, r1) = (l2, r2)))) ∧ Below w.heap.size w w' := by
 obtain ⟨A, c, rfl, hc1, hc2⟩ := h1.form
 obtain ⟨B, d, rfl, hd1, hd2⟩ := h2.form
 by_cases hl : l1 = l2
 ·have hq : (l1 == l2) = true := by simp [hl]
  have HL := Lib.hid hl
  clear hl
  go_enter Tryz.func61, Tryz.ntmps61
  go_wp2_with fail
  refine (equal_int _ _ r1 r2 _ (h1.next ?g1 ?s1) (h2.next ?g1 ?s1)).mono ?_
  case g1 => go_grown
  case s1 => simp; omega
  rintro e w1 ⟨rfl, hb1⟩
  go_wp2
  go_ret
  refine ⟨rt1 (vbool (by rw [HL.out]; simp)), ?_⟩
  exact (Below.trans (by go_grown) (hb1.mono (by simp; omega)))
 ·have hq : (l1 == l2) = false := by simp [hl]
  have HL := Lib.hid hl
  clear hl
  go_enter Tryz.func61, Tryz.ntmps61
  go_wp2_with fail
  go_ret
  refine ⟨rt1 (vbool (by rw [eq_comm, decide_eq_false_iff_not]; intro h; exact HL.out (congrArg Prod.fst h))), by go_grown⟩

set_option maxHeartbeats 800000 in
theorem twice_clo (g : Nat) (v1 v2 : Value) (l1 l2 : Int) (r1 r2 : List Int) (w : World) (h1 : SlR eInt w w.heap.size v1 r1) (h2 : SlR eInt w w.heap.size v2 r2)
  (hc0 : w.cell? ⟨g, 0, none⟩ = some (.int .i64 l2)) (hc1 : w.cell? ⟨g, 1, none⟩ = some v2) :
  Calls Tryz.prog 60 #[.agg #[.int .i64 l1, v1], .pointer (some ⟨g, 0, none⟩)] w fun e w' => e = .returned (.bool (decide ((l1, r1) = (l2, r2)))) ∧ Below w.heap.size w w' := by
 have hg := World.block_lt_of_cell? w _ hc0
 simp only at hg
 go_enter Tryz.func60, Tryz.ntmps60
 go_wp2_with fail
 refine (like_any v1 v2 l1 l2 r1 r2 _ (h1.next ?g1 ?s1) (h2.next ?g1 ?s1)).mono ?_
 case g1 => go_grown
 case s1 => simp
 rintro e w1 ⟨rfl, hb1⟩
 go_wp2
 go_ret
 exact ⟨rt1 (vbool (by simp)), (Below.trans (by go_grown) (hb1.mono (by simp)))⟩

theorem nodup_snoc {α : Type} [DecidableEq α] (rs : List α) (k : Nat) (h : k < rs.length) : (rs.take (k + 1)).Nodup ↔ (rs.take k).Nodup ∧ (rs.take k).any (fun x => decide (x = rs[k])) = false := by
 rw [List.take_succ_eq_append_getElem h, List.nodup_append]
 simp
set_option maxHeartbeats 1000000 in
theorem twice_any (v : Value) (rs : List (Int × List Int)) (w : World) (hv : SlR eRule w w.heap.size v rs) :
  Calls Tryz.prog 29 #[v] w fun e w' => e = .returned (.bool (decide (¬ rs.Nodup))) ∧ Below w.heap.size w w' := by
 obtain ⟨A, c, rfl, hc1, hc2⟩ := hv.form
 unfold maxLen at hc2
 go_enter Tryz.func29, Tryz.ntmps29
 go_wp2_with fail
 go_loopw [7] (fun v7 wr => ∃ k : Nat, k ≤ rs.length ∧ v7 = .int .i64 k ∧ Hid ((rs.take k).Nodup) ∧ Below w.heap.size w wr) (fun v7 _ => rs.length - (intOf v7).toNat)
 case atStart => exact ⟨0, by omega, rfl, by simp [Hid], Below.refl _ _⟩
 case round =>
  obtain ⟨k, hk, rfl, hno, hbr⟩ := hrel
  by_cases hlt : k < rs.length
  ·obtain ⟨ab, ao, cs, rfl, _, hab, hrep, hcell⟩ := (hv.below hbr).get hlt (by decide)
   obtain ⟨u, rfl, hu, hz1, hz2⟩ := eRule_open hrep
   have hc0 := hcell 0 _ rfl
   have hc1' := hcell 1 _ rfl
   clear hcell
   simp only [show eRule.size = 2 from rfl, Nat.add_zero, ← Nat.add_assoc] at hc0 hc1'
   obtain ⟨A1, e1, rfl, he1, he2⟩ := hu.form
   have htk := Lib.hid (hv.take_ k (n' := k) (by rw [List.length_take]; omega))
   have hsn := Lib.hid (nodup_snoc rs k hlt)
   go_wp2_with fail
   have hbw : Below wr.heap.size wr (wr.alloc (Obj.cells #[Value.int IntKind.i64 rs[k].fst, Value.slice A1 rs[k].snd.length e1] 36)) := (Below.refl _ _).alloc (Nat.le_refl _) _
   have HC := Lib.hid (conf_rule 60 #[.pointer (some ⟨wr.heap.size, 0, none⟩)] (fun x => decide (x = rs[k])) _ (rs.take k) (wr.alloc (Obj.cells #[Value.int IntKind.i64 rs[k].fst, Value.slice A1 rs[k].snd.length e1] 36))
    (htk.out.next (hbr.alloc hbr.size _) (by simp; exact Nat.le_succ_of_le hbr.size)) (fun _ _ => by kernel_rfl) (by
     intro cs x w2 hx hb2 hrx
     obtain ⟨vx, rfl, hsx, _, _⟩ := eRule_open hrx
     have hsz := hb2.size
     simp only [World.size_alloc] at hsz hb2 hsx
     have hws := hbr.size
     refine (twice_clo wr.heap.size vx (Value.slice A1 rs[k].snd.length e1) x.1 rs[k].1 x.2 rs[k].2 w2 (hsx.more hsz) (hu.fut (hbw.trans (hb2.mono (Nat.le_succ _))) hws (by omega)) ?_ ?_)
     ·rw [hb2.cell (p := ⟨wr.heap.size, 0, none⟩) (Nat.lt_succ_self _)]; simp
     ·rw [hb2.cell (p := ⟨wr.heap.size, 1, none⟩) (Nat.lt_succ_self _)]; simp))
   rcases Bool.eq_false_or_eq_true ((rs.take k).any fun x => decide (x = rs[k])) with hany | hany
   ·have HA := Lib.hid hany
    clear hany
    refine HC.out.mono ?_
    rintro e w1 ⟨rfl, hb1⟩
    rw [HA.out]
    go_wp2
    go_ret
    refine ⟨rt1 (vbool ?_), (hbr.alloc hbr.size _).trans (hb1.mono (by simp; exact Nat.le_succ_of_le hbr.size))⟩
    rw [eq_comm, decide_eq_true_eq]
    intro hnd
    have h3 := hsn.out.1 (hnd.sublist (List.take_sublist _ _))
    rw [HA.out] at h3
    cases h3.2
   ·have HA := Lib.hid hany
    clear hany
    refine HC.out.mono ?_
    rintro e w1 ⟨rfl, hb1⟩
    rw [HA.out]
    go_wp2
    go_roundw
    case rel => exact ⟨k + 1, by omega, by go_num, hsn.out.2 ⟨hno.out, HA.out⟩, (hbr.alloc hbr.size _).trans (hb1.mono (by simp; exact Nat.le_succ_of_le hbr.size))⟩
    case measure => simp [intOf]; omega
  ·go_wp2
   go_ret
   refine ⟨rt1 (vbool ?_), hbr⟩
   have := hno.out
   rw [List.take_of_length_le (by omega)] at this
   simp [this]
end Go.Proofs.YthojelhpipmkiaaGreatDoor
namespace Go.Proofs.YthojelhpipmkiaaGreatDoor
open Go.RowKit

def letterB (c : Int) : Bool := decide (97 ≤ c ∧ c ≤ 122) || decide (65 ≤ c ∧ c ≤ 90)
def goesB (c : Int) : Bool := letterB c || decide (48 ≤ c ∧ c ≤ 57) || decide (c = 95)
def spellsB (c : Int) : Bool := decide (32 ≤ c ∧ c ≤ 126) && decide (c ≠ 39) && decide (c ≠ 92)

theorem letter_any (c : Int) (w : World) : Calls Tryz.prog 53 #[.int .u8 c] w fun e w' => e = .returned (.bool (letterB c)) ∧ w = w' := by
 have hc : c < 65 ∨ (65 ≤ c ∧ c ≤ 90) ∨ (90 < c ∧ c < 97) ∨ (97 ≤ c ∧ c ≤ 122) ∨ 122 < c := by omega
 rcases hc with h | h | h | h | h
 all_goals
  go_enter Tryz.func53, Tryz.ntmps53
  go_wp2
  all_goals first
   |(exfalso; omega)
   |(exfalso; simp at *; omega)
   |(go_ret; exact ⟨rt1 (vbool (by rw [Bool.eq_iff_iff]; simp [letterB] <;> omega)), rfl⟩)
theorem goes_any (c : Int) (w : World) : Calls Tryz.prog 55 #[.int .u8 c] w fun e w' => e = .returned (.bool (goesB c)) ∧ w = w' := by
 rcases Bool.eq_false_or_eq_true (letterB c) with hl | hl
 ·have HL := Lib.hid hl
  go_enter Tryz.func55, Tryz.ntmps55
  go_wp2_with (go_call letter_any c _ as e w1 ⟨rfl, rfl⟩)
  go_ret
  exact ⟨rt1 (vbool (by unfold goesB; rw [HL.out]; rfl)), rfl⟩
 ·have HL := Lib.hid hl
  have hc : c < 48 ∨ (48 ≤ c ∧ c ≤ 57) ∨ (57 < c ∧ c < 95) ∨ (95 ≤ c ∧ c ≤ 95) ∨ 95 < c := by omega
  rcases hc with h | h | h | h | h
  all_goals
   go_enter Tryz.func55, Tryz.ntmps55
   go_wp2_with (go_call letter_any c _ as e w1 ⟨rfl, rfl⟩)
   all_goals first
    |(exfalso; omega)
    |(exfalso; simp at *; omega)
    |(go_ret; exact ⟨rt1 (vbool (by rw [Bool.eq_iff_iff]; simp [goesB, HL.out] <;> omega)), rfl⟩)
theorem spells_any (c : Int) (w : World) : Calls Tryz.prog 56 #[.int .u8 c] w fun e w' => e = .returned (.bool (spellsB c)) ∧ w = w' := by
 have hc : c < 32 ∨ (32 ≤ c ∧ c < 39) ∨ (39 ≤ c ∧ c ≤ 39) ∨ (39 < c ∧ c < 92) ∨ (92 ≤ c ∧ c ≤ 92) ∨ (92 < c ∧ c ≤ 126) ∨ 126 < c := by omega
 rcases hc with h | h | h | h | h | h | h
 all_goals
  go_enter Tryz.func56, Tryz.ntmps56
  go_wp2
  all_goals first
   |(exfalso; omega)
   |(exfalso; simp at *; omega)
   |(go_ret; exact ⟨rt1 (vbool (by rw [Bool.eq_iff_iff]; simp [spellsB] <;> omega)), rfl⟩)
theorem sized_any (s : ByteArray) (w : World) : Calls Tryz.prog 52 #[.string s] w fun e w' => e = .returned (.bool (decide (1 ≤ s.size ∧ s.size ≤ 32))) ∧ w = w' := by
 have hc : s.size < 1 ∨ (1 ≤ s.size ∧ s.size ≤ 32) ∨ 32 < s.size := by omega
 rcases hc with h | h | h
 all_goals
  go_enter Tryz.func52, Tryz.ntmps52
  go_wp2
  all_goals first
   |(exfalso; omega)
   |(exfalso; simp at *; omega)
   |(go_ret; exact ⟨rt1 (vbool (by rw [Bool.eq_iff_iff]; simp <;> omega)), rfl⟩)

def runN (may : Int → Bool) : List UInt8 → Nat
 |[] => 0
 |b :: r => if may (b.toNat : Int) then runN may r + 1 else 0
theorem runN_le (may : Int → Bool) : ∀ l, runN may l ≤ l.length
 |[] => Nat.le_refl _
 |b :: r => by unfold runN; split; (have := runN_le may r; simp; omega); omega
theorem runN_all (may : Int → Bool) : ∀ (l : List UInt8), (runN may l = l.length ↔ ∀ b ∈ l, may (b.toNat : Int) = true)
 |[] => by simp [runN]
 |b :: r => by
  unfold runN
  have := runN_all may r
  have h2 := runN_le may r
  split
  ·rename_i hb; simp [hb, this]
  ·rename_i hb; simp [hb]
set_option maxHeartbeats 800000 in
theorem run_any (F : FuncId) (may : Int → Bool) (hF : ∀ (args : Array Value) (w : World), (callFunc F args).run Tryz.prog w = .ok (.enter F args) w) (hmay : ∀ (c : Int) (w : World), Calls Tryz.prog F #[.int .u8 c] w fun e w' => e = .returned (.bool (may c)) ∧ w = w') (s : ByteArray) (w : World) (hs : s.size ≤ maxLen) :
  Calls Tryz.prog 54 #[.string s, .func (.func F) #[] #[]] w fun e w' => e = .returned (.int .i64 (runN may s.data.toList)) ∧ w = w' := by
 unfold maxLen at hs
 have hbt := bat_get s
 have HM := Lib.hid hmay
 clear hmay
 go_enter Tryz.func54, Tryz.ntmps54
 go_wp2_with fail
 go_loop [5] (fun v5 => ∃ k : Nat, k ≤ s.size ∧ v5 = .int .i64 k ∧ Hid (runN may s.data.toList = k + runN may (s.data.toList.drop k))) (fun v5 => s.size - (intOf v5).toNat)
 case atStart => exact ⟨0, by omega, rfl, by simp [Hid]⟩
 case round =>
  obtain ⟨k, hk, rfl, hr⟩ := hrel
  by_cases hlt : k < s.size
  ·have hlen : s.data.toList.length = s.size := by simp
   have hd := Lib.hid (show runN may (s.data.toList.drop k) = if may (bat s k) then runN may (s.data.toList.drop (k + 1)) + 1 else 0 by
    rw [List.drop_eq_getElem_cons (by omega), runN, bat_list s k (by omega)])
   rcases Bool.eq_false_or_eq_true (may (bat s k)) with hm | hm
   ·have HB := Lib.hid hm
    go_wp2_with fail
    refine (HM.out (bat s k) _).mono ?_
    rintro e w1 ⟨rfl, rfl⟩
    go_wp2
    go_round
    case rel => exact ⟨k + 1, by omega, by go_num, by show _ = _; rw [hr.out, hd.out, HB.out]; simp; omega⟩
    case measure => simp [intOf]; omega
   ·have HB := Lib.hid hm
    go_wp2_with fail
    refine (HM.out (bat s k) _).mono ?_
    rintro e w1 ⟨rfl, rfl⟩
    go_wp2
    go_ret
    exact ⟨rt1 (vint (by rw [hr.out, hd.out, HB.out]; simp)), rfl⟩
  ·have hz := Lib.hid (show runN may (s.data.toList.drop k) = 0 by rw [List.drop_eq_nil_of_le (by simp; omega)]; rfl)
   go_wp2
   go_ret
   exact ⟨rt1 (vint (by rw [hr.out, hz.out]; simp)), rfl⟩

def isNameB (l : List UInt8) : Bool := decide (1 ≤ l.length ∧ l.length ≤ 32) && letterB ((l.headD 0).toNat : Int) && l.all fun b => goesB (b.toNat : Int)
def isTermB (l : List UInt8) : Bool := decide (1 ≤ l.length ∧ l.length ≤ 32) && l.all fun b => spellsB (b.toNat : Int)
theorem runN_eq (may : Int → Bool) (l : List UInt8) : ((runN may l : Int) == (l.length : Int)) = l.all fun b => may (b.toNat : Int) := by
 rw [Bool.eq_iff_iff]
 simp only [beq_iff_eq, List.all_eq_true]
 rw [← runN_all]
 omega
theorem bat_head (s : ByteArray) (h : 1 ≤ s.size) : bat s 0 = ((s.data.toList.headD 0).toNat : Int) := by
 have h0 : 0 < s.data.toList.length := by simp; omega
 rw [bat_list s 0 h0, List.headD_eq_head?_getD, List.head?_eq_getElem?, List.getElem?_eq_getElem h0]
 rfl
set_option maxHeartbeats 800000 in
theorem isName_any (s : ByteArray) (w : World) (hs : s.size ≤ maxLen) : Calls Tryz.prog 25 #[.string s] w fun e w' => e = .returned (.bool (isNameB s.data.toList)) ∧ w = w' := by
 have hbt := bat_get s
 have hlen : s.data.toList.length = s.size := by simp
 have hrl := runN_le goesB s.data.toList
 have HR := Lib.hid (runN_eq goesB s.data.toList)
 have HDEF : Hid (isNameB s.data.toList = (decide (1 ≤ s.size ∧ s.size ≤ 32) && letterB ((s.data.toList.headD 0).toNat : Int) && s.data.toList.all fun b => goesB (b.toNat : Int))) := by
  show _ = _; unfold isNameB; rw [hlen]
 by_cases h1 : 1 ≤ s.size ∧ s.size ≤ 32
 ·have hd : decide (1 ≤ s.size ∧ s.size ≤ 32) = true := by simpa using h1
  have HD := Lib.hid hd
  have hpos : 0 < s.size := by omega
  have HH := Lib.hid (bat_head s h1.1)
  rcases Bool.eq_false_or_eq_true (letterB (bat s 0)) with hb | hb
  ·have HB := Lib.hid hb
   go_enter Tryz.func25, Tryz.ntmps25
   go_wp2_with fail
   go_call sized_any s _ as e w1 ⟨rfl, rfl⟩
   go_wp2_with fail
   go_call letter_any (bat s 0) _ as e w1 ⟨rfl, rfl⟩
   go_wp2_with fail
   go_call run_any 55 goesB (fun _ _ => by kernel_rfl) goes_any s _ hs as e w1 ⟨rfl, rfl⟩
   go_wp2
   go_ret
   exact ⟨rt1 (vbool (by rw [HDEF.out, HD.out, ← HH.out, HB.out, ← HR.out, hlen]; simp)), rfl⟩
  ·have HB := Lib.hid hb
   go_enter Tryz.func25, Tryz.ntmps25
   go_wp2_with fail
   go_call sized_any s _ as e w1 ⟨rfl, rfl⟩
   go_wp2_with fail
   go_call letter_any (bat s 0) _ as e w1 ⟨rfl, rfl⟩
   go_wp2
   go_ret
   exact ⟨rt1 (vbool (by rw [HDEF.out, ← HH.out, HB.out]; simp)), rfl⟩
 ·have hd : decide (1 ≤ s.size ∧ s.size ≤ 32) = false := by simpa using h1
  have HD := Lib.hid hd
  go_enter Tryz.func25, Tryz.ntmps25
  go_wp2_with fail
  go_call sized_any s _ as e w1 ⟨rfl, rfl⟩
  go_wp2
  go_ret
  exact ⟨rt1 (vbool (by rw [HDEF.out, HD.out]; simp)), rfl⟩
set_option maxHeartbeats 800000 in
theorem isTerm_any (s : ByteArray) (w : World) (hs : s.size ≤ maxLen) : Calls Tryz.prog 26 #[.string s] w fun e w' => e = .returned (.bool (isTermB s.data.toList)) ∧ w = w' := by
 have hlen : s.data.toList.length = s.size := by simp
 have hrl := runN_le spellsB s.data.toList
 have HR := Lib.hid (runN_eq spellsB s.data.toList)
 have HDEF : Hid (isTermB s.data.toList = (decide (1 ≤ s.size ∧ s.size ≤ 32) && s.data.toList.all fun b => spellsB (b.toNat : Int))) := by
  show _ = _; unfold isTermB; rw [hlen]
 by_cases h1 : 1 ≤ s.size ∧ s.size ≤ 32
 ·have hd : decide (1 ≤ s.size ∧ s.size ≤ 32) = true := by simpa using h1
  have HD := Lib.hid hd
  go_enter Tryz.func26, Tryz.ntmps26
  go_wp2_with fail
  go_call sized_any s _ as e w1 ⟨rfl, rfl⟩
  go_wp2_with fail
  go_call run_any 56 spellsB (fun _ _ => by kernel_rfl) spells_any s _ hs as e w1 ⟨rfl, rfl⟩
  go_wp2
  go_ret
  exact ⟨rt1 (vbool (by rw [HDEF.out, HD.out, ← HR.out, hlen]; simp)), rfl⟩
 ·have hd : decide (1 ≤ s.size ∧ s.size ≤ 32) = false := by simpa using h1
  have HD := Lib.hid hd
  go_enter Tryz.func26, Tryz.ntmps26
  go_wp2_with fail
  go_call sized_any s _ as e w1 ⟨rfl, rfl⟩
  go_wp2
  go_ret
  exact ⟨rt1 (vbool (by rw [HDEF.out, HD.out]; simp)), rfl⟩
end Go.Proofs.YthojelhpipmkiaaGreatDoor
namespace Go.Proofs.YthojelhpipmkiaaGreatDoor
open Go.RowKit

def assoc {α : Type} [DecidableEq α] (l : List (α × Value)) (k : α) : Option Value := (l.find? fun p => decide (p.1 = k)).map (·.2)
def assocSet {α : Type} [DecidableEq α] : List (α × Value) → α → Value → List (α × Value)
 |[], k, v => [(k, v)]
 |p :: r, k, v => if p.1 = k then (k, v) :: r else p :: assocSet r k v
def MapR {α : Type} (κ : α → Value) (w : World) (g : Nat) (l : List (α × Value)) : Prop :=
 ∃ (es : Array MapEntry) (clock : Nat), w.heap[g]? = some (.map es clock) ∧ es.toList.map (fun e => (e.key, e.val)) = l.map (fun p => (κ p.1, p.2))
structure KeyTy {α : Type} [DecidableEq α] (P : Program) (mt kt et : TypeId) (κ : α → Value) : Prop where
 und : P.underlying mt = some (.map kt et)
 check : ∀ (b : Bool) (a : α) (w : World), (Instr.checkKey b 10000 kt (κ a)).run P w = .ok () w
 find : ∀ (k : α) (l : List (α × Value)) (es : List MapEntry) (w : World), es.map (fun e => (e.key, e.val)) = l.map (fun p => (κ p.1, p.2)) →
  (Instr.findKey kt (κ k) es).run P w = .ok ((l.findIdx? fun p => decide (p.1 = k)).bind fun i => (l[i]?).map fun p => (i, p.2)) w
 stays : ∀ a : α, Instr.sameBits 10000 (κ a) (κ a) = true

section
variable {α : Type} {κ : α → Value} {w : World} {g : Nat} {l : List (α × Value)}
theorem MapR.made (w : World) : MapR κ (w.alloc (.map #[] 0)) w.heap.size [] := ⟨#[], 0, heap_alloc_new w _, rfl⟩
theorem MapR.lt (h : MapR κ w g l) : g < w.heap.size := by
 obtain ⟨es, c, hh, _⟩ := h
 exact (Array.getElem?_eq_some_iff.1 hh).1
theorem MapR.of_block {w' : World} (h : MapR κ w g l) (hb : w'.heap[g]? = w.heap[g]?) : MapR κ w' g l := by
 obtain ⟨es, c, hh, he⟩ := h
 exact ⟨es, c, hb.trans hh, he⟩
theorem MapR.below {B : Nat} {w' : World} (h : MapR κ w g l) (hb : Below B w w') (hg : g < B) : MapR κ w' g l := h.of_block (hb.block g hg)
theorem MapR.drew (h : MapR κ w g l) : MapR κ w.drew g l := h
theorem MapR.alloc (h : MapR κ w g l) (o : Obj) : MapR κ (w.alloc o) g l := h.of_block (Below.heap_alloc w o g h.lt)
theorem MapR.grown {row : Option Nat} {w' : World} (h : MapR κ w g l) (hg : w.grownBy w' row) (hne : some g ≠ row) : MapR κ w' g l := h.of_block (hg.block g h.lt hne)
theorem MapR.setCell {p : Addr} {v : Value} (h : MapR κ w g l) (hp : g ≠ p.block) : MapR κ (w.setCell p v) g l := h.of_block (Below.heap_setCell w p v g hp)

end
section
variable {α : Type} [DecidableEq α] {P : Program} {mt kt et : TypeId} {κ : α → Value} {w : World} {g : Nat} {l : List (α × Value)}
theorem assoc_idx : ∀ (l : List (α × Value)) (k : α), ((l.findIdx? fun p => decide (p.1 = k)).bind fun i => (l[i]?).map fun p => (i, p.2)).map (·.2) = assoc l k
 |[], k => rfl
 |p :: r, k => by
  have ih := assoc_idx r k
  unfold assoc at ih ⊢
  rw [List.findIdx?_cons, List.find?_cons]
  by_cases hp : p.1 = k
  ·simp [hp]
  ·simp only [hp, decide_false, Bool.false_eq_true, if_false]
   rw [← ih]
   cases hf : r.findIdx? fun p => decide (p.1 = k) with
   |none => simp
   |some i => simp [Option.map_map, Function.comp_def]

theorem MapR.lookup (K : KeyTy P mt kt et κ) (h : MapR κ w g l) {z : Value} (hz : ∀ w : World, (zeroValue et).run P w = .ok z w) (k : α) :
  (Instr.lookup mt (.map (some g)) (κ k) false).run P w = .ok ((assoc l k).getD z) w := by
 obtain ⟨es, c, hh, he⟩ := h
 have hf := K.find k l es.toList w he
 have ha := assoc_idx l k
 cases hx : ((l.findIdx? fun p => decide (p.1 = k)).bind fun i => (l[i]?).map fun p => (i, p.2)) with
 |none =>
  rw [hx] at hf ha
  rw [← ha]
  simp [Instr.lookup, run_underlying K.und, getObj, Sem.run, hh, K.check, hf, hz, Sem.run_bind, Result.andThen]
 |some r =>
  rw [hx] at hf ha
  rw [← ha]
  simp [Instr.lookup, run_underlying K.und, getObj, Sem.run, hh, K.check, hf, Sem.run_bind, Result.andThen]
theorem assocSet_idx : ∀ (l : List (α × Value)) (k : α) (v : Value), assocSet l k v = match l.findIdx? fun p => decide (p.1 = k) with
  |some i => l.set i (k, v)
  |none => l ++ [(k, v)]
 |[], k, v => rfl
 |p :: r, k, v => by
  have ih := assocSet_idx r k v
  unfold assocSet
  rw [List.findIdx?_cons]
  by_cases hp : p.1 = k
  ·simp [hp]
  ·simp only [hp, decide_false, Bool.false_eq_true, if_false]
   rw [ih]
   cases hf : r.findIdx? fun p => decide (p.1 = k) with
   |none => simp
   |some i => simp
theorem MapR.update (K : KeyTy P mt kt et κ) (h : MapR κ w g l) (k : α) (v : Value) :
  ∃ w', (Instr.mapUpdate mt (.map (some g)) (κ k) v).run P w = .ok () w' ∧ MapR κ w' g (assocSet l k v) ∧ w.grownBy w' (some g) ∧ w'.heap.size = w.heap.size := by
 obtain ⟨es, c, hh, he⟩ := h
 have hf := K.find k l es.toList w he
 have hgrow : ∀ o : Obj, w.grownBy { w with heap := w.heap.setIfInBounds g o } (some g) := fun o => ⟨rfl, rfl, rfl, by simp, fun k' _ hne => by
  have : g ≠ k' := fun e => hne (by rw [e])
  simp [Array.getElem?_setIfInBounds_ne this]⟩
 have hlt : g < w.heap.size := (Array.getElem?_eq_some_iff.1 hh).1
 rw [assocSet_idx]
 cases hi : l.findIdx? fun p => decide (p.1 = k) with
 |none =>
  rw [hi] at hf
  simp only [Option.bind_none] at hf
  refine ⟨{ w with heap := w.heap.setIfInBounds g (.map (es.push { key := κ k, val := v, born := c }) (c + 1)) }, ?_, ⟨es.push { key := κ k, val := v, born := c }, c + 1, by simp [hlt], ?_⟩, hgrow _, by simp⟩
  ·simp [Instr.mapUpdate, run_underlying K.und, getObj, Sem.run, hh, K.check, hf, setObj, Result.andThen]
  ·simp [he]
 |some i =>
  have hil : i < l.length := by
   rw [List.findIdx?_eq_some_iff_getElem] at hi
   exact hi.1
  have hik : l[i].1 = k := by
   rw [List.findIdx?_eq_some_iff_getElem] at hi
   simpa using hi.2.1
  have hsz : es.size = l.length := by
   have := congrArg List.length he
   simpa using this
  have hie : i < es.size := by omega
  have hei : (es[i]).key = κ k := by
   have := congrArg (fun q => q[i]?) he
   simp [hil, hie] at this
   rw [this.1, hik]
  rw [hi] at hf
  simp only [Option.bind_some, List.getElem?_eq_getElem hil, Option.map_some] at hf
  refine ⟨{ w with heap := w.heap.setIfInBounds g (.map (es.modify i fun e => { e with key := κ k, val := v }) c) }, ?_, ⟨es.modify i fun e => { e with key := κ k, val := v }, c, by simp [hlt], ?_⟩, hgrow _, by simp⟩
  ·simp [Instr.mapUpdate, run_underlying K.und, getObj, Sem.run, hh, K.check, hf, setObj, Result.andThen, Instr.keyThatStays, hei, hie, K.stays]
  ·apply List.ext_getElem?
   intro j
   have hj := congrArg (fun q => q[j]?) he
   simp only [List.getElem?_map, Array.getElem?_toList] at hj ⊢
   rw [Array.getElem?_modify, List.getElem?_set]
   by_cases hji : i = j
   ·subst hji
    simp [hil, hie]
   ·rw [if_neg hji, if_neg hji]
    exact hj
theorem wpList_update {ops : Array Oper} {rest : List Oper} {o : Oper} {a : Act} {Q : Exit → Act → World → Prop} {m x y : Operand} (K : KeyTy P mt kt et κ) (hgd : o.guard = none) (ho : o.op = .mapUpdate mt m x y)
  {k : α} {v : Value} (hm : a.eval m = .map (some g)) (hx : a.eval x = κ k) (hy : a.eval y = v) (h : MapR κ w g l)
  (hK : ∀ w', MapR κ w' g (assocSet l k v) → w.grownBy w' (some g) → w'.heap.size = w.heap.size → wpList P ops Q rest (a.put o.dst undef) w') : wpList P ops Q (o :: rest) a w := by
 refine wpList_plain hgd fun K' hK' => ?_
 obtain ⟨w', hrun, h1, h2, h3⟩ := h.update K k v
 unfold Oper.wp execOp
 simp only [ho, Sem.run_bind, Sem.run_pure, hm, hx, hy, hrun, Result.andThen]
 exact hK' _ _ (hK w' h1 h2 h3)
end

theorem findNow_spec {α : Type} [DecidableEq α] {κ : α → Value} {d : TypeDesc} (hs : ∀ a b : α, Instr.sameNow d (κ a) (κ b) = some (decide (b = a))) (k : α) : ∀ (l : List (α × Value)) (es : List MapEntry) (n : Nat), es.map (fun e => (e.key, e.val)) = l.map (fun p => (κ p.1, p.2)) →
  Instr.findNow d (κ k) es n = some ((l.findIdx? fun p => decide (p.1 = k)).bind fun i => (l[i]?).map fun p => (n + i, p.2))
 |[], [], n, _ => rfl
 |[], e :: es, n, h => by simp at h
 |p :: r, [], n, h => by simp at h
 |p :: r, e :: es, n, h => by
  simp only [List.map_cons, List.cons.injEq, Prod.mk.injEq] at h
  unfold Instr.findNow
  rw [h.1.1, hs, List.findIdx?_cons]
  by_cases hp : p.1 = k
  ·simp [hp, h.1.2]
  ·simp only [hp, decide_false, Bool.false_eq_true, if_false]
   rw [findNow_spec hs k r es (n + 1) h.2]
   cases hf : r.findIdx? fun p => decide (p.1 = k) with
   |none => simp
   |some i => simp [Nat.add_assoc, Nat.add_comm 1 i]
theorem bytes_beq (a b : ByteArray) : (a == b) = decide (b = a) := by
 obtain ⟨x⟩ := a
 obtain ⟨y⟩ := b
 have h : ((⟨x⟩ : ByteArray) == ⟨y⟩) = (x == y) := rfl
 rw [h]
 by_cases e : x = y
 ·subst e; simp
 ·rw [beq_eq_false_iff_ne.2 e, decide_eq_false fun h => e (by injection h with h; exact h.symm)]
theorem keyTy_str {P : Program} {mt kt et : TypeId} (h1 : P.underlying mt = some (.map kt et)) (h2 : P.underlying kt = some .string) : KeyTy P mt kt et Value.string where
 und := h1
 check := fun b a w => by
  show (Instr.checkKey b (9999 + 1) kt (.string a)).run P w = _
  unfold Instr.checkKey
  simp only [Sem.run_bind, run_underlying h2, Result.andThen, Sem.run_pure]
 find := fun k l es w h => by
  unfold Instr.findKey
  have := findNow_spec (κ := Value.string) (d := .string) (fun a b : ByteArray => (congrArg some (bytes_beq a b) : some (a == b) = some (decide (b = a)))) k l es 0 h
  simp only [Sem.run_bind, run_underlying h2, Result.andThen, this, Nat.zero_add, Sem.run_pure]
 stays := fun a => by
  rw [show (10000 : Nat) = 9999 + 1 from rfl]
  have := bytes_beq a a
  simp [Instr.sameBits, this]
end Go.Proofs.YthojelhpipmkiaaGreatDoor
