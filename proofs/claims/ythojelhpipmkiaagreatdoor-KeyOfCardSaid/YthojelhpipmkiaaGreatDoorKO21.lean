/- Texts of this proof joined: Rf14a, Rf14b, FirstW, FirstW2, WellW, Well1, Well2, Well3, Well4. -/
import Derived.Test.YthojelhpipmkiaaGreatDoorKO20
import Derived.Test.YthojelhpipmkiaaGreatDoorKO06
import Derived.Test.YthojelhpipmkiaaGreatDoorKO04
import Derived.Deep.LoopGhost
import Derived.Test.YthojelhpipmkiaaGreatDoorKO01
import Derived.Test.YthojelhpipmkiaaGreatDoorKO03
import Derived.Test.YthojelhpipmkiaaGreatDoorKO07
import Derived.Laws.CopyOwn
import Derived.Laws.CopyRow
import Derived.Deep.OwnRows
import Derived.Test.YthojelhpipmkiaaGreatDoorShelf
import Derived.Maps.AppendAt
import Derived.OwnWalk
import Derived.Laws.EntriesVeiled
namespace Go.Proofs.YthojelhpipmkiaaGreatDoor
open Go.RowKit

set_option maxHeartbeats 1600000 in
theorem find14_any (v : Value) (ns : List ByteArray) (s : ByteArray) (w : World) (hv : SlR eStr w w.heap.size v ns) :
  Calls Tryz.prog 37 #[v, .string s] w fun e w' => e = .returned (.int .i64 (idxOf (fun x => decide (x = s)) ns)) ∧ w = w' := by
 obtain ⟨A, c, rfl, hc1, hc2⟩ := hv.form
 unfold maxLen at hc2
 have HV := Lib.hid hv
 obtain ⟨n, hn⟩ : ∃ n, n = ns.length := ⟨_, rfl⟩
 rw [← hn] at HV hc1 ⊢
 have HN := Lib.hid hn
 clear hv hn
 go_enter Tryz.func37, Tryz.ntmps37
 go_wp2_with fail
 go_loopg [5] n (fun left v5 wr => ∃ i : Nat, i ≤ n ∧ n - i ≤ left ∧ v5 = .int .i64 i ∧ wr = w ∧ Hid (∀ (j : Nat) (h : j < ns.length), j < i → (fun x => decide (x = s)) ns[j] = false))
 case atStart => exact ⟨0, by omega, by omega, rfl, rfl, fun j h hj => by omega⟩
 case round =>
  obtain ⟨i, hi, hleft, rfl, rfl, HNO⟩ := hrel
  by_cases hib : i < n
  ·have hil : i < ns.length := by rw [← HN.out]; exact hib
   obtain ⟨b, o, cs, rfl, -, -, hrep, hcell⟩ := HV.out.get hil (by decide)
   obtain ⟨rfl, hx1⟩ := hrep
   have hc0 := hcell 0 _ rfl
   simp only [show eStr.size = 1 from rfl, Nat.mul_one, Nat.add_zero] at hc0
   have HHIT := Lib.hid (idxOf_hit (p := fun x => decide (x = s)) hil HNO.out)
   by_cases he : ns[i] = s
   ·have hb : (ns[i].toList == s.toList) = true := by rw [he]; exact beq_self_eq_true _
    have HX := Lib.hid (HHIT.out (by simpa using he))
    clear hcell he
    go_wp2_with fail
    go_ret
    exact ⟨rt1 (vint HX.out.symm), rfl⟩
   ·have hb : (ns[i].toList == s.toList) = false := by rw [← beq_toListBytes, bytes_beq, decide_eq_false_iff_not]; exact fun e => he e.symm
    have HE := Lib.hid he
    clear hcell he
    go_wp2_with fail
    go_roundg (gk - 1)
    case measure => omega
    case rel => exact ⟨i + 1, by omega, by omega, by go_num, rfl, fun j h hj => by by_cases e : j = i; (subst e; simpa using HE.out); exact HNO.out j h (by omega)⟩
  ·have HX := Lib.hid (idxOf_miss (p := fun x => decide (x = s)) (xs := ns) fun j h => HNO.out j h (by have := HN.out; omega))
   go_wp2_with fail
   go_ret
   exact ⟨rt1 (vint HX.out.symm), rfl⟩
set_option maxHeartbeats 1600000 in
theorem same14_any (a b : Value) (xs ys : List Int) (w : World) (ha : SlR eInt w w.heap.size a xs) (hb : SlR eInt w w.heap.size b ys) :
  Calls Tryz.prog 81 #[a, b] w fun e w' => e = .returned (.bool (decide (xs = ys))) ∧ Below w.heap.size w w' := by
 obtain ⟨A, c, rfl, hc1, hc2⟩ := ha.form
 obtain ⟨B, d, rfl, hd1, hd2⟩ := hb.form
 unfold maxLen at hc2 hd2
 by_cases hl : xs.length = ys.length
 ·have hne : ((xs.length : Int) != (ys.length : Int)) = false := by simp; omega
  go_enter Tryz.func81, Tryz.ntmps81
  go_wp2
  go_loopw [5] (fun v8 wr => ∃ k : Nat, k ≤ xs.length ∧ v8 = .int .i64 k ∧ Hid (∀ (j : Nat) (h : j < xs.length) (h2 : j < ys.length), j < k → xs[j] = ys[j]) ∧ Below w.heap.size w wr) (fun v8 _ => xs.length - (intOf v8).toNat)
  case atStart => exact ⟨0, by omega, rfl, fun j h h2 hj => by omega, Below.refl _ _⟩
  case round =>
   obtain ⟨k, hk, rfl, hno, hbr⟩ := hrel
   by_cases hlt : k < xs.length
   ·have hlt2 : k < ys.length := by omega
    obtain ⟨ab, ao, cs, rfl, _, hab, hrep, hcell⟩ := (ha.below hbr).get hlt (by decide)
    obtain ⟨rfl, hx1, hx2⟩ := hrep
    have hc0 := hcell 0 _ rfl
    obtain ⟨bb, bo, cs, rfl, _, hbb, hrep, hcell2⟩ := (hb.below hbr).get hlt2 (by decide)
    obtain ⟨rfl, hy1, hy2⟩ := hrep
    have hd0 := hcell2 0 _ rfl
    clear hcell hcell2
    simp only [show eInt.size = 1 from rfl, Nat.mul_one, Nat.add_zero] at hc0 hd0
    by_cases heq : xs[k] = ys[k]
    ·have hq : (xs[k] != ys[k]) = false := by simp [heq]
     have HQ := Lib.hid heq
     clear heq
     go_wp2_with fail
     refine Text.wp_text [] (by kernel_rfl) (by kernel_rfl) (fun Q' hQ' => ?_)
     go_wp2
     refine ⟨by rfl, ?_⟩
     go_wp2
     go_roundw
     case rel => exact ⟨k + 1, by omega, by go_num, fun j h h2 hj => by by_cases e : j = k; (subst e; exact HQ.out); exact hno.out j h h2 (by omega), hbr.drew⟩
     case measure => simp [intOf]; omega
    ·have hq : (xs[k] != ys[k]) = true := by simp [heq]
     have HQ := Lib.hid heq
     clear heq
     go_wp2_with fail
     refine Text.wp_text [] (by kernel_rfl) (by kernel_rfl) (fun Q' hQ' => ?_)
     go_wp2
     refine ⟨by rfl, ?_⟩
     go_wp2
     go_ret
     exact ⟨rt1 (vbool (by rw [eq_comm, decide_eq_false_iff_not]; intro h; subst h; exact HQ.out rfl)), hbr.drew⟩
   ·have HEQ : Hid (xs = ys) := List.ext_getElem hl fun j h h2 => hno.out j h h2 (by omega)
    go_wp2
    go_ret
    exact ⟨rt1 (vbool (by rw [eq_comm, decide_eq_true_eq]; exact HEQ.out)), hbr⟩
 ·have hne : ((xs.length : Int) != (ys.length : Int)) = true := by simp; omega
  go_enter Tryz.func81, Tryz.ntmps81
  go_wp2
  go_ret
  exact ⟨rt1 (vbool (by rw [eq_comm, decide_eq_false_iff_not]; intro h; subst h; exact hl rfl)), Below.refl _ _⟩
end Go.Proofs.YthojelhpipmkiaaGreatDoor
namespace Go.Proofs.YthojelhpipmkiaaGreatDoor
open Go.RowKit

set_option maxRecDepth 100000 in
set_option maxHeartbeats 4000000 in
theorem twice14_any (A : Option Addr) (n c : Nat) (rs : List (Int × List Int)) (w : World) (hv : SlR eRule w w.heap.size (.slice A n c) rs) :
  Calls Tryz.prog 39 #[.slice A n c] w fun e w' => e = .returned (.bool (decide (¬ rs.Nodup))) ∧ Below w.heap.size w w' := by
 have HV := Lib.hid hv
 have hnc := hv.n_le
 have HN := Lib.hid hv.n_eq
 clear hv
 go_enter Tryz.func39, Tryz.ntmps39
 go_wp2_with fail
 go_loopg [3] n (fun left v3 wr => ∃ i : Nat, i ≤ n ∧ n - i ≤ left ∧ v3 = .int .i64 i ∧ Hid ((rs.take i).Nodup) ∧ Hid (Below w.heap.size w wr))
 case atStart => exact ⟨0, by omega, by omega, rfl, by simp [Hid], Below.refl _ _⟩
 case round =>
  obtain ⟨i, hi, hleft, rfl, HND, HB⟩ := hrel
  obtain ⟨gas, hgas⟩ : ∃ gas, gas = gk := ⟨_, rfl⟩
  rw [← hgas] at hleft
  have HGK := Lib.hid hgas
  clear hgas
  generalize wr = wo at *
  by_cases hib : i < n
  ·have hil : i < rs.length := by rw [← HN.out]; exact hib
   go_wp2_with fail
   go_loopg [4] i (fun lft2 v4 wt => ∃ j : Nat, j ≤ i ∧ i - j ≤ lft2 ∧ v4 = .int .i64 j ∧ Hid (∀ (l : Nat) (h : l < rs.length), l < j → rs[l] ≠ rs[i]) ∧ Hid (Below w.heap.size w wt))
   case atStart => exact ⟨0, by omega, by omega, rfl, fun l h hl => by omega, HB.out⟩
   case round =>
    clear HB
    obtain ⟨j, hj, hlft2, rfl, HNO, HB⟩ := hrel
    by_cases hji : j < i
    ·have hjl : j < rs.length := by omega
     obtain ⟨b1, o1, cs1, rfl, -, hb1, hrep1, hcell1⟩ := (HV.out.below HB.out).get hil (by decide)
     obtain ⟨v1, rfl, hv1, hz1, hz2⟩ := eRule_open hrep1
     have x0 := hcell1 0 _ rfl
     have x1 := hcell1 1 _ rfl
     simp only [show eRule.size = 2 from rfl, Nat.add_zero, ← Nat.add_assoc] at x0 x1
     obtain ⟨b2, o2, cs2, he2, -, hb2, hrep2, hcell2⟩ := (HV.out.below HB.out).get hjl (by decide)
     injection he2 with he2
     injection he2 with e1 e2
     subst e1 e2
     obtain ⟨v2, rfl, hv2, hz3, hz4⟩ := eRule_open hrep2
     have y0 := hcell2 0 _ rfl
     have y1 := hcell2 1 _ rfl
     simp only [show eRule.size = 2 from rfl, Nat.add_zero, ← Nat.add_assoc] at y0 y1
     have HXE := Lib.hid (show rs[j] = rs[i] ↔ rs[j].1 = rs[i].1 ∧ rs[j].2 = rs[i].2 from Prod.ext_iff)
     obtain ⟨A3, c3, rfl, h31, h32⟩ := hv1.form
     obtain ⟨A4, c4, rfl, h41, h42⟩ := hv2.form
     have hbs := HB.out.size
     have HSAME := Lib.hid (fun w1 (hb : Below wr.heap.size wr w1) => same14_any _ _ _ _ w1 (hv1.fut hb hbs (Nat.le_trans hbs hb.size)) (hv2.fut hb hbs (Nat.le_trans hbs hb.size)))
     obtain ⟨r, hr⟩ : ∃ r, r = rs[i] := ⟨_, rfl⟩
     obtain ⟨s, hs⟩ : ∃ s, s = rs[j] := ⟨_, rfl⟩
     rw [← hr] at x0 x1 HXE HSAME
     rw [← hs] at y0 y1 HXE HSAME
     have HR := Lib.hid hr
     have HS := Lib.hid hs
     clear hv1 hv2 hcell1 hcell2 hrep1 hrep2 hr hs hz1 hz2 hz3 hz4 h31 h32 h41 h42
     obtain ⟨l1, r1⟩ := r
     obtain ⟨l2, r2⟩ := s
     simp only at x0 x1 y0 y1
     by_cases hll : l1 = l2
     ·have hq : (l1 == l2) = true := by simp [hll]
      have HLL := Lib.hid hll
      clear hll
      go_wp2_with fail
      refine Text.wp_grow [22] [4, 9, 16, 21] [] (by kernel_rfl) (by kernel_rfl) ?_
      refine Text.wpS_seg 22 _ _ _ _ (by decide) (fun Q' hQ' => ?_)
      simp only [List.take_succ_cons, List.take_zero]
      go_wp2_with fail
      try simp only [Nat.zero_add, List.drop_succ_cons, List.drop_zero]
      refine Text.wpS_one (fun Q' hQ' => ?_)
      go_wp2_with fail
      refine (HSAME.out _ below_drew1).mono ?_
      rintro e w5 ⟨rfl, hb5⟩
      go_wp2_with fail
      refine ⟨hb5, ?_⟩
      refine Text.wpS_seg 1 _ _ _ _ (by decide) (fun Q' hQ' => ?_)
      simp only [List.take_succ_cons, List.take_zero]
      go_wp2_with fail
      refine ⟨by rfl, ?_, ?_⟩
      ·exact ⟨fun _ => ⟨_, _, rfl, x0⟩, fun _ => ⟨_, _, rfl, y0⟩, fun _ => ⟨_, _, rfl, x1⟩, fun _ => ⟨_, _, rfl, y1⟩, trivial⟩
      have HB5 := Lib.hid (HB.out.trans ((below_drew1.trans hb5).mono hbs))
      clear hb5
      by_cases hrr : r1 = r2
      ·have hd : decide (r1 = r2) = true := by simpa using hrr
       have HX := Lib.hid (show ¬ rs.Nodup by
        intro hnd
        rw [List.Nodup, List.pairwise_iff_getElem] at hnd
        refine hnd j i hjl hil hji ?_
        rw [← HR.out, ← HS.out, HLL.out, hrr])
       go_wp2_with fail
       go_ret
       exact ⟨rt1 (vbool (by rw [eq_comm, decide_eq_true_eq]; exact HX.out)), HB5.out⟩
      ·have hd : decide (r1 = r2) = false := by simpa using hrr
       have HX := Lib.hid (show rs[j] ≠ rs[i] by
        rw [← HR.out, ← HS.out]
        intro e
        injection e with e1 e2
        exact hrr e2.symm)
       go_wp2_with fail
       go_roundg (gk - 1)
       case measure => omega
       case rel => exact ⟨j + 1, by omega, by omega, by go_num, fun l h hl => by by_cases e : l = j; (subst e; exact HX.out); exact HNO.out l h (by omega), HB5.out⟩
     ·have hq : (l1 == l2) = false := by simp [hll]
      have HX := Lib.hid (show rs[j] ≠ rs[i] by
       rw [← HR.out, ← HS.out]
       intro e
       injection e with e1 e2
       exact hll e1.symm)
      clear hll
      go_wp2_with fail
      refine Text.wp_grow [22] [4, 9, 16, 21] [] (by kernel_rfl) (by kernel_rfl) ?_
      refine Text.wpS_seg 22 _ _ _ _ (by decide) (fun Q' hQ' => ?_)
      simp only [List.take_succ_cons, List.take_zero]
      go_wp2_with fail
      try simp only [Nat.zero_add, List.drop_succ_cons, List.drop_zero]
      refine Text.wpS_one (fun Q' hQ' => ?_)
      go_wp2_with fail
      refine ⟨Below.refl _ _, ?_⟩
      refine Text.wpS_seg 1 _ _ _ _ (by decide) (fun Q' hQ' => ?_)
      simp only [List.take_succ_cons, List.take_zero]
      go_wp2_with fail
      refine ⟨by rfl, ?_, ?_⟩
      ·exact ⟨fun _ => ⟨_, _, rfl, x0⟩, fun _ => ⟨_, _, rfl, y0⟩, Text.no_want rfl, Text.no_want rfl, trivial⟩
      go_wp2_with fail
      go_roundg (gk - 1)
      case measure => omega
      case rel => exact ⟨j + 1, by omega, by omega, by go_num, fun l h hl => by by_cases e : l = j; (subst e; exact HX.out); exact HNO.out l h (by omega), HB.out.drew⟩
    ·have HND2 := Lib.hid (show (rs.take (i + 1)).Nodup by
      refine (nodup_snoc rs i hil).2 ⟨HND.out, ?_⟩
      rw [List.any_eq_false]
      intro x hx
      obtain ⟨l, hl, rfl⟩ := List.getElem_of_mem hx
      rw [List.getElem_take]
      rw [List.length_take] at hl
      simpa using HNO.out l (by omega) (by omega))
     go_wp2_with fail
     go_roundg (gas - 1)
     case measure => have := HGK.out; omega
     case rel => exact ⟨i + 1, by omega, by omega, by go_num, HND2.out, HB.out⟩
  ·have HX := Lib.hid (show rs.Nodup by
    have := HND.out
    rwa [List.take_of_length_le (by have := HN.out; omega)] at this)
   go_wp2_with fail
   go_ret
   exact ⟨rt1 (vbool (by rw [eq_comm, decide_eq_false_iff_not]; exact fun h => h HX.out)), HB.out⟩
end Go.Proofs.YthojelhpipmkiaaGreatDoor
namespace Go.Proofs.YthojelhpipmkiaaGreatDoor

abbrev RuleL := List (Int × List Int)
abbrev Sets := List (List Wd)
def tb (s : Int) : UInt8 := UInt8.ofNat (-1 - s).toNat
inductive Der (rs : RuleL) : List Int → Wd → Prop
 |nil : Der rs [] []
 |term {s l w} (hs : s < 0) (h : Der rs l w) : Der rs (s :: l) (tb s :: w)
 |nont {a l r u v} (ha : 0 ≤ a) (hr : (a, r) ∈ rs) (h1 : Der rs r u) (h2 : Der rs l v) : Der rs (a :: l) (u ++ v)
inductive Fol (rs : RuleL) : Int → Wd → Prop
 |start : Fol rs 0 []
 |step {a r l1 b l2 u v} (hr : (a, r) ∈ rs) (e : r = l1 ++ b :: l2) (hb : 0 ≤ b) (h1 : Der rs l2 u) (h2 : Fol rs a v) : Fol rs b (u ++ v)

end Go.Proofs.YthojelhpipmkiaaGreatDoor
namespace Go.Proofs.YthojelhpipmkiaaGreatDoor

def AllAsc (s : Sets) : Prop := ∀ (a : Nat) (x : List Wd), s[a]? = some x → Asc x
theorem AllAsc.getD {s : Sets} (h : AllAsc s) (a : Nat) : Asc (s.getD a []) := by
 rw [List.getD_eq_getElem?_getD]
 cases e : s[a]? with
 |none => exact List.Pairwise.nil
 |some x => exact h a x e
theorem AllAsc.set {s : Sets} (h : AllAsc s) (a : Nat) {x : List Wd} (hx : Asc x) : AllAsc (s.set a x) := by
 intro b y hy
 rw [List.getElem?_set] at hy
 split at hy
 ·split at hy
  ·injection hy with hy; subst hy; exact hx
  ·cases hy
 ·exact h b y hy
theorem AllAsc.replicate (n : Nat) : AllAsc (List.replicate n []) := by
 intro b y hy
 rw [List.getElem?_replicate] at hy
 split at hy
 ·injection hy with hy; subst hy; exact List.Pairwise.nil
 ·cases hy
def SoundO (rs : RuleL) (k : Nat) (fol : Sets) : Prop := ∀ (a : Nat) (s : List Wd), fol[a]? = some s → ∀ x ∈ s, ∃ v, Fol rs a v ∧ x = v.take k
theorem SoundO.getD {rs : RuleL} {k : Nat} {fol : Sets} (h : SoundO rs k fol) {a : Nat} {x : Wd} (hx : x ∈ fol.getD a []) : ∃ v, Fol rs a v ∧ x = v.take k := by
 rw [List.getD_eq_getElem?_getD] at hx
 cases e : fol[a]? with
 |none => rw [e] at hx; cases hx
 |some s => rw [e] at hx; exact h _ _ e x hx
def FewW (w : Wd) : Prop := w.length ≤ 4 ∧ ∀ c ∈ w, c.toNat < 3
def FewS (s : Sets) : Prop := ∀ (a : Nat) (x : List Wd), s[a]? = some x → ∀ w ∈ x, FewW w
theorem FewS.getD {s : Sets} (h : FewS s) (a : Nat) : ∀ w ∈ s.getD a [], FewW w := by
 rw [List.getD_eq_getElem?_getD]
 cases e : s[a]? with
 |none => intro w hw; cases hw
 |some x => exact h a x e
theorem FewS.set {s : Sets} (h : FewS s) (a : Nat) {x : List Wd} (hx : ∀ w ∈ x, FewW w) : FewS (s.set a x) := by
 intro b y hy
 rw [List.getElem?_set] at hy
 split at hy
 ·split at hy
  ·injection hy with hy; subst hy; exact hx
  ·cases hy
 ·exact h b y hy
theorem FewS.replicate (n : Nat) : FewS (List.replicate n []) := by
 intro b y hy
 rw [List.getElem?_replicate] at hy
 split at hy
 ·injection hy with hy; subst hy; intro w hw; cases hw
 ·cases hy
end Go.Proofs.YthojelhpipmkiaaGreatDoor
namespace Go.Proofs.YthojelhpipmkiaaGreatDoor

end Go.Proofs.YthojelhpipmkiaaGreatDoor
namespace Go.Proofs.YthojelhpipmkiaaGreatDoor
open Go.RowKit

end Go.Proofs.YthojelhpipmkiaaGreatDoor
namespace Go.Proofs.YthojelhpipmkiaaGreatDoor
open Go.RowKit

def bcellsB (l : List Bool) : List Value := l.map Value.bool
theorem Rd.bool {w : World} {B : Nat} {A : Option Addr} {l : List Bool} (h : Rd w B A (bcellsB l)) {k : Nat} (hk : k < l.length) : ∃ b off, A = some ⟨b, off, none⟩ ∧ b < B ∧ w.cell? ⟨b, off + k, none⟩ = some (.bool l[k]) := by
 obtain ⟨b, off, e, hb, hc⟩ := h.at_ (k := k) (by simpa [bcellsB] using hk)
 exact ⟨b, off, e, hb, by rw [hc]; simp [bcellsB]⟩
structure ShortR (vals : List Int) (P : List Bool) : Prop where
 len : vals.length = P.length
 val : ∀ (i : Nat) (x : Int), vals[i]? = some x → -1 ≤ x ∧ x ≤ 1000000 ∧ P[i]? = some (decide (0 ≤ x))
end Go.Proofs.YthojelhpipmkiaaGreatDoor
namespace Go.Proofs.YthojelhpipmkiaaGreatDoor
open Go.RowKit

end Go.Proofs.YthojelhpipmkiaaGreatDoor
namespace Go.Proofs.YthojelhpipmkiaaGreatDoor
open Go.RowKit

structure ShortSt (g SB n : Nat) (P : List Bool) (w : World) : Prop where
 ex : ∃ vals, w.heap[g]? = some (.cells (icells vals).toArray 3 (0, 0)) ∧ ShortR vals P ∧ vals.length = n
 box : w.heap[SB]? = some (.cells #[.slice (some ⟨g, 0, none⟩) n n] 34 (0, 0))
 ne : g ≠ SB
theorem ShortSt.below {g SB n : Nat} {P : List Bool} {w w' : World} (h : ShortSt g SB n P w) (hb : Below w.heap.size w w') : ShortSt g SB n P w' := by
 obtain ⟨vals, h1, h2⟩ := h.ex
 have l1 := (Array.getElem?_eq_some_iff.1 h1).1
 have l2 := (Array.getElem?_eq_some_iff.1 h.box).1
 exact ⟨⟨vals, (hb.block g l1).trans h1, h2⟩, (hb.block SB l2).trans h.box, h.ne⟩
theorem ShortR.set {vals : List Int} {P : List Bool} (h : ShortR vals P) {k : Nat} {x : Int} (h0 : 0 ≤ x) (h1 : x ≤ 1000000) : ShortR (vals.set k x) (P.set k true) := by
 refine ⟨by rw [List.length_set, List.length_set]; exact h.len, fun i y hy => ?_⟩
 rw [List.getElem?_set] at hy ⊢
 split at hy
 ·rename_i e
  split at hy
  ·rename_i hl
   injection hy with hy
   subst hy
   rw [if_pos e, if_pos (by rw [← h.len]; exact hl)]
   exact ⟨by omega, h1, by rw [decide_eq_true h0]⟩
  ·cases hy
 ·rename_i e
  rw [if_neg e]
  exact h.val i y hy
abbrev gramV (A1 A2 A3 : Option Addr) (n m q c1 c2 c3 : Nat) : Value := .agg #[.slice A1 n c1, .slice A2 m c2, .slice A3 q c3]
structure GramR (w : World) (B : Nat) (A1 A2 A3 : Option Addr) (n m q c1 c2 c3 : Nat) (g : Gram) : Prop where
 names : SlR eStr w B (.slice A1 n c1) g.1
 terms : SlR eStr w B (.slice A2 m c2) g.2.1
 rules : SlR eRule w B (.slice A3 q c3) g.2.2
 small : n ≤ 1048576 ∧ m ≤ 1048576 ∧ q ≤ 1048576
theorem GramR.ln {w : World} {B : Nat} {A1 A2 A3 : Option Addr} {n m q c1 c2 c3 : Nat} {g : Gram} (h : GramR w B A1 A2 A3 n m q c1 c2 c3 g) : n = g.1.length ∧ m = g.2.1.length ∧ q = g.2.2.length := ⟨h.names.n_eq, h.terms.n_eq, h.rules.n_eq⟩
theorem GramR.fut {w w' : World} {B B' N : Nat} {A1 A2 A3 : Option Addr} {n m q c1 c2 c3 : Nat} {g : Gram} (h : GramR w B A1 A2 A3 n m q c1 c2 c3 g) (hb : Below N w w') (h1 : B ≤ N) (h2 : B ≤ B') : GramR w' B' A1 A2 A3 n m q c1 c2 c3 g := ⟨h.names.fut hb h1 h2, h.terms.fut hb h1 h2, h.rules.fut hb h1 h2, h.small⟩
end Go.Proofs.YthojelhpipmkiaaGreatDoor
