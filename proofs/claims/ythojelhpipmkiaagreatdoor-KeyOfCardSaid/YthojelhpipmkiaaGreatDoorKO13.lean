/- Texts of this proof joined: Wrt2, PText, CText, HexDig, HexText, Key. -/
import Derived.Test.YthojelhpipmkiaaGreatDoorKO12
import Derived.Test.YthojelhpipmkiaaGreatDoorKO07
import Derived.Test.YthojelhpipmkiaaGreatDoorShelf
import Derived.Test.YthojelhpipmkiaaGreatDoorKO11
import Derived.Test.YthojelhpipmkiaaGreatDoorChecked
import Derived.Test.YthojelhpipmkiaaGreatDoorKO01
import Derived.Test.YthojelhpipmkiaaGreatDoorKO03
import Derived.Maps.AppendAt
import Derived.Test.YthojelhpipmkiaaGreatDoorKO08
import Derived.Test.YthojelhpipmkiaaGreatDoorKO04
import Derived.Laws.CopyOwn
namespace Go.Proofs.YthojelhpipmkiaaGreatDoor
open Go.RowKit Go.Shelf

theorem isBW {w w' : World} {B b : Nat} {bs : List Value} (h : Lib.IsBuilder 100 5 B b bs w) (hb : Below w.heap.size w w') : Lib.IsBuilder 100 5 B b bs w' := by
 have key : ∀ p, Lib.BuilderAt 100 5 B b p bs w → Lib.BuilderAt 100 5 B b p bs w' := fun p ⟨h1, v, h2, h3, h4⟩ => ⟨h1, v, (hb.block _ (Array.getElem?_eq_some_iff.1 h2).1).trans h2, own_below h3 hb, h4⟩
 rcases h with h | h
 ·exact .inl (key _ h)
 ·exact .inr (key _ h)
def KeepO (w w' : World) : Prop := ∀ ts : List TypeId, 100 ∉ ts → 5 ∉ ts → KeepT ts w w'
theorem KeepO.trans {a b c : World} (h : KeepO a b) (k : KeepO b c) : KeepO a c := fun ts h1 h2 => (h ts h1 h2).trans (k ts h1 h2)
theorem KeepO.of_below {w w' : World} (h : Below w.heap.size w w') : KeepO w w' := fun _ _ _ => .of_below h
theorem KeepO.refl (w : World) : KeepO w w := fun _ _ _ => .refl _ _
theorem copyCheck_bld (B b : Nat) (bs : List Value) (w : World) (h : Lib.IsBuilder 100 5 B b bs w) :
  Calls Tryz.prog 103 #[.pointer (some ⟨b, 0, none⟩)] w fun e w' => e = .returned (.tuple #[]) ∧ Lib.BuilderAt 100 5 B b (.pointer (some ⟨b, 0, none⟩)) bs w' ∧ Below B w w' ∧ KeepO w w' := by
 rcases h with h | h
 ·refine (Any.Builder_copyCheck_fresh (P := Tryz.prog) (ρ := laysW_ren) { laysW with } builderW.toX72 b w h.cell0 h.shape h.frozen0).mono ?_
  rintro e w' ⟨rfl, rfl⟩
  refine ⟨rfl, h.used _, (Below.refl B w).setCell (p := ⟨b, 0, none⟩) h.1 _, fun ts h1 h2 => ?_⟩
  obtain ⟨_, v, hb, _⟩ := h
  exact keepT_setC hb h1 _
 ·refine (Any.Builder_copyCheck_used (P := Tryz.prog) (ρ := laysW_ren) { laysW with } builderW.toX72 b w h.cell0).mono ?_
  rintro e w' ⟨rfl, rfl⟩
  exact ⟨rfl, h, Below.refl B _, .refl _⟩
def BldTo (S : Nat) (l : List UInt8) (w : World) (e : Ending) (w' : World) : Prop := (∃ n : Int, e = .returned (.tuple #[.int .i64 n, .nilIface])) ∧ Lib.IsBuilder 100 5 S S (Lib.byteCells l) w' ∧ Below S w w' ∧ KeepO w w' ∧ w.heap.size ≤ w'.heap.size
theorem str_len (s : ByteArray) : s.size = (ofB s).length := by unfold ofB; rw [Array.length_toList]; rfl
set_option maxHeartbeats 2000000 in
set_option maxRecDepth 100000 in
theorem write_bld (S : Nat) (l : List UInt8) (s : ByteArray) (w : World) (h : Lib.IsBuilder 100 5 S S (Lib.byteCells l) w) (hl : (l ++ ofB s).length ≤ 140737488355328) (hS : S ≤ w.heap.size) : Calls Tryz.prog 66 #[.pointer (some ⟨S, 0, none⟩), .string s] w (BldTo S (l ++ ofB s) w) := by
 obtain ⟨i0, hi, hz0, hz1, hz2⟩ := info_parts builderW.infoByte
 have hlen : (Lib.byteCells l).length + s.size ≤ 140737488355328 := by rw [Lib.byteCells_length, str_len, ← List.length_append]; exact hl
 have ebc : Lib.byteCells (l ++ ofB s) = Lib.byteCells l ++ Lib.strCells s := by rw [Lib.byteCells_append]; rfl
 unfold BldTo
 rw [ebc]
 clear ebc hl
 generalize Lib.byteCells l = bs at *
 go_enter Tryz.func66, Tryz.ntmps66
 go_wp2_with fail
 refine (copyCheck_bld S S bs _ h).mono ?_
 rintro e w1 ⟨rfl, h1, hb1, hk1⟩
 obtain ⟨hB, v, hbk, hown, hne⟩ := h1
 have c0 : w1.cell? ⟨S, 0, none⟩ = some (.pointer (some ⟨S, 0, none⟩)) := by rw [Lib.cell_of_heap hbk]; rfl
 have c1 : w1.cell? ⟨S, 1, none⟩ = some v := by rw [Lib.cell_of_heap hbk]; rfl
 go_wp2_with (at_builtin; refine Lib.wpList_append_own_string _ rfl _ _ 45 9 rfl S 5 i0 (by kernel_rfl) (by kernel_rfl) hi hz0 hz1 hz2 _ _ _ rfl hown s rfl ?c3 ?c4 ?c5 ?_)
 case c3 => unfold maxLen; omega
 case c4 => omega
 case c5 => have := hb1.size; omega
 intro v' w2 hown' hgrow _
 have hlt : S < w1.heap.size := (Array.getElem?_eq_some_iff.1 hbk).1
 have hb2 : w2.heap[S]? = some (.cells #[.pointer (some ⟨S, 0, none⟩), v] 100 (0, 0)) := by
  rw [hgrow.block S hlt (fun e => hne e.symm)]
  exact hbk
 have d0 : w2.cell? ⟨S, 0, none⟩ = some (.pointer (some ⟨S, 0, none⟩)) := by rw [Lib.cell_of_heap hb2]; rfl
 have d1 : w2.cell? ⟨S, 1, none⟩ = some v := by rw [Lib.cell_of_heap hb2]; rfl
 have f1 : w2.frozen? ⟨S, 1, none⟩ = false := Lib.frozen_of_heap hb2 1
 obtain ⟨ao, n', cap, rfl⟩ : ∃ ao n' cap, v' = .slice ao n' cap := by
  rcases hown'.2 with ⟨hv, _⟩ | ⟨g, cap, cur, hv, _⟩
  ·exact ⟨_, _, _, hv⟩
  ·exact ⟨_, _, _, hv⟩
 go_wp2_with fail
 go_ret2
 refine ⟨⟨_, rfl⟩, .inr ?_, ?_, fun ts h1 h2 => ?_, ?_⟩
 ·exact Lib.BuilderAt.put (T := 100) (e := 5) hB hb2 (bs' := bs ++ Lib.strCells s) (by simpa [Lib.strCells_length] using hown') (by decide)
 ·exact (hb1.grown hgrow (by have := hb1.size; omega) (fun k hk => (hown.lt k hk).1)).setCell (p := ⟨S, 1, none⟩) hB _
 ·exact ((hk1 ts h1 h2).trans (KeepT.of_grown hown hgrow h2)).trans (keepT_setC hb2 h1 _)
 ·exact Nat.le_trans hb1.size (Nat.le_trans hgrow.size (by simp [World.setCell]))
theorem toB_app (a b : Wd) : toB a ++ toB b = toB (a ++ b) := by
 unfold toB
 exact wv_app a b
end Go.Proofs.YthojelhpipmkiaaGreatDoor
namespace Go.Proofs.YthojelhpipmkiaaGreatDoor
open Go.RowKit

def eItem : Elt ItemD := eProd eBool eStr
def eLine : Elt LineD := eProd eStr (eSl (eSl eItem))
theorem ofB_app (a b : ByteArray) : ofB (a ++ b) = ofB a ++ ofB b := by
 have h := toB_app (ofB a) (ofB b)
 rw [toB_ofB, toB_ofB] at h
 rw [h, ofB_toB]
theorem altX_le (a : List ItemD) (j : Nat) : (altX (a.take j)).length ≤ (altX a).length := by
 conv => rhs; rw [← List.take_append_drop j a]
 unfold altX
 rw [List.flatMap_append, List.length_append]
 omega
theorem altsX_le (l : List (List ItemD)) (i : Nat) : ∀ d, i + d ≤ l.length → (altsX l i).length ≤ (altsX l (i + d)).length
 |0, _ => Nat.le_refl _
 |d + 1, h => by
  refine Nat.le_trans (altsX_le l i d (by omega)) ?_
  by_cases h0 : 0 < i + d
  ·rw [show i + (d + 1) = i + d + 1 by omega, altsX_succ l (by omega) h0, List.length_append, List.length_append]
   omega
  ·rw [show i + d = 0 by omega, altsX_zero]
   exact Nat.zero_le _
theorem line_bound {T1 T2 : Wd} {nm : ByteArray} {al : List (List ItemD)} (h : T2 = T1 ++ lineX (nm, al)) (hb : T2.length ≤ 140737488355328) : nm.size ≤ 140737488355328 ∧ (T1 ++ (ofB nm ++ [32, 58])).length ≤ 140737488355328 ∧ ∀ i ≤ al.length, (T1 ++ (ofB nm ++ [32, 58]) ++ altsX al i).length ≤ 140737488355328 - 3 := by
 rw [h, lineX_eq] at hb
 simp only [List.length_append] at hb ⊢
 rw [str_len]
 have h3 : ([32, 59, 10] : Wd).length = 3 := rfl
 have h2 : ([32, 58] : Wd).length = 2 := rfl
 rw [h2, h3] at hb
 rw [h2]
 refine ⟨by omega, by omega, fun i hi => ?_⟩
 have := altsX_le al i (al.length - i) (by omega)
 rw [show i + (al.length - i) = al.length by omega] at this
 omega
def Text13To (l : List LineD) (w : World) (e : Ending) (w' : World) : Prop := e = .returned (.string (toB (textX l))) ∧ Below w.heap.size w w'
set_option maxRecDepth 100000 in
set_option maxHeartbeats 16000000 in
theorem text13_any (v : Value) (l : List LineD) (w : World) (h : SlR eLine w w.heap.size v l) (hsz : (textX l).length ≤ 140737488355328) (hln : ∀ x ∈ l, x.2.length ≤ 1048576 ∧ ∀ a ∈ x.2, a.length ≤ 1048576) :
  Calls Tryz.prog 33 #[v] w (Text13To l w) := by
 obtain ⟨A1, c1, rfl, ha1, ha2⟩ := h.form
 unfold maxLen at ha2
 have H := Lib.hid h
 have HSZ := Lib.hid hsz
 have HLN := Lib.hid hln
 clear h hsz hln
 obtain ⟨n, hn⟩ : ∃ n, n = l.length := ⟨_, rfl⟩
 rw [← hn] at H ha1 ⊢
 have HN := Lib.hid hn
 clear hn
 obtain ⟨S, hS⟩ : ∃ S, S = w.heap.size := ⟨_, rfl⟩
 have HB1 := Lib.hid ((Below.refl _ _).alloc (Nat.le_refl _) (.cells #[.pointer none, .slice none 0 0] 100) : Below w.heap.size w _)
 have HI1 := Lib.hid (Lib.fresh_isBuilder 100 5 w)
 have HZ1 := Lib.hid (World.size_alloc w (.cells #[.pointer none, .slice none 0 0] 100))
 unfold Text13To
 rw [← hS] at H HB1 HI1 HZ1 ⊢
 go_enter Tryz.func33, Tryz.ntmps33
 go_wp2_with fail
 rw [← hS]
 have HSE := Lib.hid hS
 clear hS
 generalize w.alloc (.cells #[.pointer none, .slice none 0 0] 100) = w1 at *
 have HI0 := Lib.hid (show Lib.IsBuilder 100 5 S S (Lib.byteCells (textX (l.take 0))) w1 from HI1.out)
 have HS1 := Lib.hid (show S < w1.heap.size by rw [HZ1.out]; omega)
 clear HI1 HZ1
 go_loopw [12] (fun v12 wr => ∃ k : Nat, k ≤ n ∧ v12 = .int .i64 k ∧ Hid (Lib.IsBuilder 100 5 S S (Lib.byteCells (textX (l.take k))) wr) ∧ Hid (Below S w wr) ∧ Hid (S < wr.heap.size)) (fun v12 _ => n - (intOf v12).toNat)
 case atStart => exact ⟨0, by omega, rfl, HI0.out, HB1.out, HS1.out⟩
 case round =>
  clear HI0 HB1 HS1
  obtain ⟨k, hk, rfl, HI, HB, HS⟩ := hrel
  by_cases hlt : k < n
  ·have hkl : k < l.length := by rw [← HN.out]; exact hlt
   obtain ⟨b, off, cs, rfl, _, _, hrep, hcell⟩ := (H.out.below HB.out).get hkl (by decide)
   obtain ⟨_, _, rfl, ⟨rfl, hx1⟩, v2, rfl, hsl⟩ := hrep
   obtain ⟨A2, c2, rfl, hl5, hl6⟩ := hsl.form
   unfold maxLen at hl6
   have hr0 := hcell 0 _ rfl
   have hr1 := hcell 1 _ rfl
   simp only [show eLine.size = 2 from rfl, Nat.add_zero, ← Nat.add_assoc] at hr0 hr1
   have HSUC := Lib.hid (textX_succ l hkl)
   have HLX := Lib.hid (lineX_eq l[k])
   have HBD := Lib.hid (HLN.out l[k] (List.getElem_mem hkl))
   have HTOT := Lib.hid (show (textX (l.take (k + 1))).length ≤ 140737488355328 from by
    have h1 : (textX (l.take (k + 1))).length ≤ (textX l).length := by
     conv => rhs; rw [← List.take_append_drop (k + 1) l]
     unfold textX
     rw [List.flatMap_append, List.length_append]
     omega
    exact Nat.le_trans h1 HSZ.out)
   have HSL := Lib.hid hsl
   clear hcell hsl
   generalize l[k] = x at *
   obtain ⟨nm, al⟩ := x
   simp only at hr0 hr1 HSUC HLX HBD HSL hl5 hx1
   obtain ⟨T2, hT2⟩ : ∃ T2, T2 = textX (l.take (k + 1)) := ⟨_, rfl⟩
   rw [← hT2] at HSUC HTOT
   have HTE := Lib.hid hT2
   clear hT2
   generalize textX (l.take k) = T1 at *
   have HTL := Lib.hid (line_bound HSUC.out HTOT.out)
   have hnmb := HTL.out.1
   obtain ⟨m2, hm2⟩ : ∃ m2, m2 = al.length := ⟨_, rfl⟩
   rw [← hm2] at HSL hl5 hr1
   have HM2 := Lib.hid hm2
   clear hm2
   obtain ⟨bx, hbx⟩ : ∃ bx, bx = wr.heap.size := ⟨_, rfl⟩
   have hbl : Below wr.heap.size wr (wr.alloc (.cells #[.string nm, .slice A2 m2 c2] 103)) := (Below.refl _ _).alloc (Nat.le_refl _) _
   have HXX := Lib.hid (Go.heap_alloc_new wr (.cells #[.string nm, .slice A2 m2 c2] 103))
   have HIX := Lib.hid (isBW HI.out hbl)
   have HBX := Lib.hid (hbl.mono (Nat.le_of_lt HS.out))
   have HSX := Lib.hid (Nat.lt_of_lt_of_le HS.out hbl.size)
   clear hbl
   go_wp2_with fail
   generalize wr.alloc (.cells #[.string nm, .slice A2 m2 c2] 103) = wx at *
   rw [← hbx] at HXX ⊢
   clear hbx
   have HT1 := Lib.hid (show ofB (nm ++ ⟨#[32, 58]⟩) = ofB nm ++ [32, 58] from ofB_app nm ⟨#[32, 58]⟩)
   have HWR := Lib.hid (write_bld S T1 (nm ++ ⟨#[32, 58]⟩) wx HIX.out (by rw [HT1.out]; exact HTL.out.2.1) (Nat.le_of_lt HSX.out))
   rw [HT1.out] at HWR
   refine HWR.out.mono ?_
   rintro e w3 ⟨⟨z, rfl⟩, hi3, hb3, hk3, hz3⟩
   have HX3 := Lib.hid ((hk3 [103] (by decide) (by decide)).2 bx _ _ (by simp) HXX.out)
   have HB3 := Lib.hid (HBX.out.trans hb3)
   have HS3 := Lib.hid (Nat.lt_of_lt_of_le HSX.out hz3)
   have HI3 := Lib.hid hi3
   clear hi3 hb3 hk3 hz3 HWR HIX HBX HSX HXX HT1
   have hk1 : w3.cell? ⟨bx, 1, none⟩ = some (.slice A2 m2 c2) := by rw [cell_of_row _ _ _ _ _ _ HX3.out]; rfl
   obtain ⟨Ta, hTa⟩ : ∃ Ta, Ta = T1 ++ (ofB nm ++ [32, 58]) := ⟨_, rfl⟩
   have HT2 := Lib.hid (show T2 = Ta ++ altsX al m2 ++ [32, 59, 10] by rw [HSUC.out, HLX.out, hTa, HM2.out]; simp only [List.append_assoc])
   rw [← hTa] at HI3 HTL
   clear hTa HLX HSUC
   go_wp2_with fail
   have HBO := Lib.hid HB.out
   generalize wr = wo at *
   have HIA := Lib.hid (show Lib.IsBuilder 100 5 S S (Lib.byteCells (Ta ++ altsX al 0)) w3 from by rw [altsX_zero, List.append_nil]; exact HI3.out)
   go_loopw [23] (fun v23 wr => ∃ i : Nat, i ≤ m2 ∧ v23 = .int .i64 i ∧ Hid (Lib.IsBuilder 100 5 S S (Lib.byteCells (Ta ++ altsX al i)) wr) ∧ Hid (Below S wo wr) ∧ Hid (S < wr.heap.size)) (fun v23 _ => m2 - (intOf v23).toNat)
   case atStart => exact ⟨0, by omega, rfl, HIA.out, HB3.out, HS3.out⟩
   case round =>
    clear HIA HI3 HB3 HS3 hk1 HX3 HI HB HS
    obtain ⟨i, hi, rfl, HI, HB, HS⟩ := hrel
    by_cases hil : i < m2
    ·have hia : i < al.length := by rw [← HM2.out]; exact hil
     obtain ⟨b3, o3, cs, rfl, _, _, hrep, hcell⟩ := ((HSL.out.below HB.out).get hia (by decide))
     obtain ⟨v4, rfl, hs4⟩ := hrep
     obtain ⟨A4, c4, rfl, hl7, hl8⟩ := hs4.form
     unfold maxLen at hl8
     have hr3 := hcell 0 _ rfl
     simp only [show (eSl eItem).size = 1 from rfl, Nat.mul_one, Nat.add_zero] at hr3
     clear hcell
     have HBA := Lib.hid (HBD.out.2 al[i] (List.getElem_mem hia))
     have HS4 := Lib.hid hs4
     have HONE := Lib.hid (fun h0 : i = 0 => show altsX al (i + 1) = altX al[i] by subst h0; exact altsX_one al hia)
     have HSUC := Lib.hid (fun h0 : 0 < i => altsX_succ al hia h0)
     have HLE := Lib.hid (HTL.out.2.2 (i + 1) hia)
     obtain ⟨a, ha⟩ : ∃ a, a = al[i] := ⟨_, rfl⟩
     rw [← ha] at hr3 HBA HS4 hl7 HONE HSUC
     clear ha hs4
     obtain ⟨m3, hm3⟩ : ∃ m3, m3 = a.length := ⟨_, rfl⟩
     rw [← hm3] at hr3 HBA HS4 hl7
     have HM3 := Lib.hid hm3
     clear hm3
     by_cases h0 : 0 < i
     focus
      have d0 : decide ((0 : Int) < (i : Int)) = true := by simp; omega
      have HTB := Lib.hid (show (Ta ++ altsX al i ++ [32, 124]) ++ altX a = Ta ++ altsX al (i + 1) by rw [HSUC.out h0]; simp only [List.append_assoc])
      have HT1 := Lib.hid (show ofB (⟨#[32, 124]⟩ : ByteArray) = [32, 124] from rfl)
      have HWR := Lib.hid (write_bld S (Ta ++ altsX al i) ⟨#[32, 124]⟩ wr HI.out (by rw [HT1.out]; have := HTL.out.2.2 i (by omega); rw [List.length_append]; have h2 : ([32, 124] : Wd).length = 2 := rfl; omega) (Nat.le_of_lt HS.out))
      rw [HT1.out] at HWR
      go_wp2_with fail
      refine HWR.out.mono ?_
      rintro e w4 ⟨⟨z4, rfl⟩, hi4, hb4, hk4, hz4⟩
      have HI4 := Lib.hid hi4
      have HB4 := Lib.hid (HB.out.trans hb4)
      have HZ4 := Lib.hid (Nat.lt_of_lt_of_le HS.out hz4)
      have HA4 := Lib.hid (HS4.out.below hb4)
      clear hi4 hb4 hk4 hz4 HWR HT1 hr3 HI HB HS HS4
      obtain ⟨Tb, hTb⟩ : ∃ Tb, Tb = Ta ++ altsX al i ++ [32, 124] := ⟨_, rfl⟩
      rw [← hTb] at HI4 HTB
      clear hTb d0
      go_wp2_with fail
     rotate_left
     focus
      have d0 : decide ((0 : Int) < (i : Int)) = false := by simp; omega
      have HTB := Lib.hid (show Ta ++ altX a = Ta ++ altsX al (i + 1) by rw [HONE.out (by omega)])
      have HI4 := Lib.hid (show Lib.IsBuilder 100 5 S S (Lib.byteCells Ta) wr from by have := HI.out; rwa [show i = 0 by omega, altsX_zero, List.append_nil] at this)
      go_wp2_with fail
      have HB4 := Lib.hid HB.out
      have HZ4 := Lib.hid HS.out
      have HA4 := Lib.hid HS4.out
      obtain ⟨Tb, hTb⟩ : ∃ Tb, Tb = Ta := ⟨_, rfl⟩
      rw [← hTb] at HI4
      rw [show Ta ++ altX a = Tb ++ altX a by rw [hTb]] at HTB
      clear hTb d0 HI HB HS HS4 hr3
      generalize wr = w4 at *
     rotate_left
     all_goals
      have HI5 := Lib.hid (show Lib.IsBuilder 100 5 S S (Lib.byteCells (Tb ++ altX (a.take 0))) w4 from by rw [show altX (a.take 0) = [] from rfl, List.append_nil]; exact HI4.out)
      go_loopw [33] (fun v33 wr => ∃ j : Nat, j ≤ m3 ∧ v33 = .int .i64 j ∧ Hid (Lib.IsBuilder 100 5 S S (Lib.byteCells (Tb ++ altX (a.take j))) wr) ∧ Hid (Below S w4 wr) ∧ Hid (S < wr.heap.size)) (fun v33 _ => m3 - (intOf v33).toNat)
      case atStart => exact ⟨0, by omega, rfl, HI5.out, Below.refl _ _, HZ4.out⟩
      case round =>
       clear HI5 HI4
       obtain ⟨j, hj, rfl, HI, HB, HS⟩ := hrel
       by_cases hjl : j < m3
       ·have hja : j < a.length := by rw [← HM3.out]; exact hjl
        obtain ⟨b5, o5, cs, rfl, _, _, hrep, hcell⟩ := ((HA4.out.below HB.out).get hja (by decide))
        obtain ⟨_, _, rfl, rfl, rfl, hz⟩ := hrep
        have hr0 := hcell 0 _ rfl
        have hr1 := hcell 1 _ rfl
        simp only [show eItem.size = 2 from rfl, Nat.add_zero, ← Nat.add_assoc] at hr0 hr1
        clear hcell
        have HNX := Lib.hid (altX_succ a hja)
        have HBN := Lib.hid (show (Tb ++ altX (a.take (j + 1))).length ≤ 140737488355328 from by
         have h1 := altX_le a (j + 1)
         have h2 := HLE.out
         rw [← HTB.out] at h2
         rw [List.length_append] at h2 ⊢
         omega)
        generalize a[j] = it at *
        obtain ⟨ib, is⟩ := it
        simp only at hr0 hr1 hz
        have hisz : is.size ≤ 140737488355328 := by
         have h := HBN.out
         rw [HNX.out, List.length_append, List.length_append] at h
         have h2 : is.size ≤ (itemX (ib, is)).length := by
          rw [str_len]
          unfold itemX
          cases ib <;> simp <;> omega
         omega
        cases ib
        ·have HX := Lib.hid (show ofB ((⟨#[32]⟩ : ByteArray) ++ is) = itemX (false, is) from by rw [ofB_app]; rfl)
         have HBL := Lib.hid ((Below.refl wr.heap.size wr).alloc (Nat.le_refl _) (.cells #[.bool false, .string is] 106))
         have HWR := Lib.hid (write_bld S (Tb ++ altX (a.take j)) ((⟨#[32]⟩ : ByteArray) ++ is) _ (isBW HI.out HBL.out) (by rw [HX.out, List.append_assoc, ← HNX.out]; exact HBN.out) (Nat.le_trans (Nat.le_of_lt HS.out) HBL.out.size))
         rw [HX.out, List.append_assoc, ← HNX.out] at HWR
         have HBW := Lib.hid (HB.out.trans (HBL.out.mono (Nat.le_of_lt HS.out)))
         have HSW := Lib.hid (Nat.lt_of_lt_of_le HS.out HBL.out.size)
         clear HX HBL
         go_wp2_with fail
         refine HWR.out.mono ?_
         rintro e w6 ⟨⟨z6, rfl⟩, hi6, hb6, hk6, hz6⟩
         have HI6 := Lib.hid hi6
         have HB6 := Lib.hid (HBW.out.trans hb6)
         have HS6 := Lib.hid (Nat.lt_of_lt_of_le HSW.out hz6)
         clear hi6 hb6 hk6 hz6 HWR HBW HSW
         go_wp2_with fail
         go_roundw
         case rel => exact ⟨j + 1, by omega, by go_num, HI6.out, HB6.out, HS6.out⟩
         case measure => simp [intOf]; omega
        ·have HX := Lib.hid (show ofB ((⟨#[32, 39]⟩ : ByteArray) ++ is ++ ⟨#[39]⟩) = itemX (true, is) from by rw [ofB_app, ofB_app]; rfl)
         have HBL := Lib.hid ((Below.refl wr.heap.size wr).alloc (Nat.le_refl _) (.cells #[.bool true, .string is] 106))
         have HWR := Lib.hid (write_bld S (Tb ++ altX (a.take j)) ((⟨#[32, 39]⟩ : ByteArray) ++ is ++ ⟨#[39]⟩) _ (isBW HI.out HBL.out) (by rw [HX.out, List.append_assoc, ← HNX.out]; exact HBN.out) (Nat.le_trans (Nat.le_of_lt HS.out) HBL.out.size))
         rw [HX.out, List.append_assoc, ← HNX.out] at HWR
         have HBW := Lib.hid (HB.out.trans (HBL.out.mono (Nat.le_of_lt HS.out)))
         have HSW := Lib.hid (Nat.lt_of_lt_of_le HS.out HBL.out.size)
         clear HX HBL
         have hcat : ((⟨#[32, 39]⟩ : ByteArray) ++ is).size = is.size + 2 := by rw [ByteArray.size_append, Nat.add_comm]; rfl
         go_wp2_with fail
         refine HWR.out.mono ?_
         rintro e w6 ⟨⟨z6, rfl⟩, hi6, hb6, hk6, hz6⟩
         have HI6 := Lib.hid hi6
         have HB6 := Lib.hid (HBW.out.trans hb6)
         have HS6 := Lib.hid (Nat.lt_of_lt_of_le HSW.out hz6)
         clear hi6 hb6 hk6 hz6 HWR HBW HSW
         go_wp2_with fail
         go_roundw
         case rel => exact ⟨j + 1, by omega, by go_num, HI6.out, HB6.out, HS6.out⟩
         case measure => simp [intOf]; omega
       ·obtain rfl : j = m3 := by omega
        have HIE := Lib.hid (show Lib.IsBuilder 100 5 S S (Lib.byteCells (Ta ++ altsX al (i + 1))) wr from by
         have := HI.out
         rwa [HM3.out, List.take_length, HTB.out] at this)
        have HBE := Lib.hid (HB4.out.trans HB.out)
        go_wp2_with fail
        go_roundw
        case rel => exact ⟨i + 1, by omega, by go_num, HIE.out, HBE.out, HS.out⟩
        case measure => simp [intOf]; omega
    ·obtain rfl : i = m2 := by omega
     have HT3 := Lib.hid (show ofB (⟨#[32, 59, 10]⟩ : ByteArray) = [32, 59, 10] from rfl)
     have HWR := Lib.hid (write_bld S (Ta ++ altsX al i) ⟨#[32, 59, 10]⟩ wr HI.out (by rw [HT3.out, ← HT2.out]; exact HTOT.out) (Nat.le_of_lt HS.out))
     rw [HT3.out, ← HT2.out] at HWR
     go_wp2_with fail
     refine HWR.out.mono ?_
     rintro e w6 ⟨⟨z6, rfl⟩, hi6, hb6, hk6, hz6⟩
     have HI6 := Lib.hid hi6
     have HB6 := Lib.hid (HBO.out.trans (HB.out.trans hb6))
     have HS6 := Lib.hid (Nat.lt_of_lt_of_le HS.out hz6)
     clear hi6 hb6 hk6 hz6 HWR
     go_wp2_with fail
     go_roundw
     case rel => exact ⟨k + 1, by omega, by go_num, by have := HI6.out; rw [HTE.out] at this; exact this, HB6.out, HS6.out⟩
     case measure => simp [intOf]; omega
  ·obtain rfl : k = n := by omega
   go_wp2_with fail
   refine (Tryz.Builder_String_any S S _ wr HI.out (Nat.le_of_lt HS.out)).mono ?_
   rintro e w9 ⟨rfl, hb9⟩
   have HB9 := Lib.hid (HB.out.trans hb9)
   clear hb9
   go_wp2_with fail
   go_ret
   exact ⟨by rw [HN.out, List.take_length]; rfl, HB9.out⟩
end Go.Proofs.YthojelhpipmkiaaGreatDoor
namespace Go.Proofs.YthojelhpipmkiaaGreatDoor
open Go.RowKit

theorem flatMap_le {α : Type} {f : α → Wd} {B : Nat} : ∀ l : List α, (∀ x ∈ l, (f x).length ≤ B) → (l.flatMap f).length ≤ l.length * B
 |[], _ => by simp
 |x :: l, h => by
  have h1 := h x (List.mem_cons_self ..)
  have h2 := flatMap_le l fun y hy => h y (List.mem_cons_of_mem _ hy)
  rw [List.flatMap_cons, List.length_append, List.length_cons, Nat.succ_mul]
  omega
theorem getD_le {l : List Wd} {i : Nat} (h : ∀ x ∈ l, x.length ≤ 32) : (l.getD i []).length ≤ 32 := by
 rw [List.getD_eq_getElem?_getD]
 cases hx : l[i]? with
 |none => simp
 |some x => exact h x (List.mem_of_getElem? hx)
theorem symT_le {ns ts : List Wd} (hn : ∀ x ∈ ns, x.length ≤ 32) (ht : ∀ x ∈ ts, x.length ≤ 32) (s : Int) : (symT ns ts s).length ≤ 34 := by
 unfold symT
 split
 ·have := getD_le (i := (-1 - s).toNat) ht
  rw [List.length_cons, List.length_append, List.length_singleton]
  omega
 ·have := getD_le (i := s.toNat) hn
  omega
theorem altT_le35 {ns ts : List Wd} (hn : ∀ x ∈ ns, x.length ≤ 32) (ht : ∀ x ∈ ts, x.length ≤ 32) {r : List Int} (hr : r.length ≤ 64) : (altT ns ts r).length ≤ 2240 := by
 have := flatMap_le (f := fun s => 32 :: symT ns ts s) (B := 35) r fun s _ => by
  have := symT_le hn ht s
  rw [List.length_cons]
  omega
 unfold altT
 have h2 : r.length * 35 ≤ 64 * 35 := Nat.mul_le_mul_right 35 hr
 omega
theorem altsT_le (B : Nat) : ∀ l : List Wd, (∀ x ∈ l, x.length ≤ B) → (altsT l).length ≤ l.length * (B + 2)
 |[], _ => by simp [altsT]
 |x :: r, h => by
  have h1 := h x (List.mem_cons_self ..)
  have h2 := flatMap_le (f := fun y : Wd => 32 :: 124 :: y) (B := B + 2) r fun y hy => by
   have := h y (List.mem_cons_of_mem _ hy)
   rw [List.length_cons, List.length_cons]
   omega
  unfold altsT
  rw [List.length_append, List.length_cons, Nat.succ_mul]
  exact Nat.le_trans (Nat.add_le_add h1 h2) (by omega)
theorem ofLeft_mem {rs : List RuleD} {i : Nat} {x : List Int} (h : x ∈ ofLeft rs i) : ∃ r ∈ rs, r.2 = x := by
 unfold ofLeft at h
 obtain ⟨r, hr, e⟩ := List.mem_map.1 h
 exact ⟨r, (List.mem_filter.1 hr).1, e⟩
theorem ofLeft_len (rs : List RuleD) (i : Nat) : (ofLeft rs i).length ≤ rs.length := by
 unfold ofLeft
 rw [List.length_map]
 exact List.length_filter_le _ _
theorem textG_bound {g : Gram} (h : GoodC g) : (textG g).length ≤ 4294967296 := by
 have hn : ∀ x ∈ g.1.map ofB, x.length ≤ 32 := fun x hx => by
  obtain ⟨b, hb, rfl⟩ := List.mem_map.1 hx
  exact nameB_len (h.names b hb)
 have ht : ∀ x ∈ g.2.1.map ofB, x.length ≤ 32 := fun x hx => by
  obtain ⟨b, hb, rfl⟩ := List.mem_map.1 hx
  exact termB_len (h.terms b hb)
 unfold textG gramT
 have h1 := flatMap_le (f := lineT (g.1.map ofB) (g.2.1.map ofB) g.2.2) (B := 16777216) (List.range (g.1.map ofB).length) fun i _ => by
  unfold lineT
  have h2 := getD_le (i := i) hn
  have h3 := altsT_le 2240 ((ofLeft g.2.2 i).map (altT (g.1.map ofB) (g.2.1.map ofB))) fun x hx => by
   obtain ⟨r, hr, rfl⟩ := List.mem_map.1 hx
   obtain ⟨r', hr', rfl⟩ := ofLeft_mem hr
   exact altT_le35 hn ht (h.fit r' hr').2.1
  rw [List.length_map] at h3
  have h4 := ofLeft_len g.2.2 i
  have h5 := h.q
  have h6 : (ofLeft g.2.2 i).length * (2240 + 2) ≤ 4096 * (2240 + 2) := Nat.mul_le_mul_right _ (by omega)
  simp only [List.length_append]
  have h7 : ([32, 58] : Wd).length = 2 := rfl
  have h8 : ([32, 59, 10] : Wd).length = 3 := rfl
  omega
 rw [List.length_range, List.length_map] at h1
 have h9 := h.nm
 have h10 : g.1.length * 16777216 ≤ 256 * 16777216 := Nat.mul_le_mul_right _ (by omega)
 rw [List.length_map]
 omega
theorem linesG_bound {g : Gram} (h : GoodC g) : ∀ x ∈ linesG g, x.2.length ≤ 1048576 ∧ ∀ a ∈ x.2, a.length ≤ 1048576 := by
 intro x hx
 unfold linesG at hx
 obtain ⟨i, _, rfl⟩ := List.mem_map.1 hx
 unfold lineG
 refine ⟨?_, fun a ha => ?_⟩
 ·have h1 := ofLeft_len g.2.2 i
  have h2 := h.q
  show ((ofLeft g.2.2 i).map _).length ≤ _
  rw [List.length_map]
  omega
 ·obtain ⟨r, hr, rfl⟩ := List.mem_map.1 (show a ∈ (ofLeft g.2.2 i).map _ from ha)
  obtain ⟨r', hr', rfl⟩ := ofLeft_mem hr
  have := (h.fit r' hr').2.1
  rw [List.length_map]
  omega
theorem sl_B {w : World} {B : Nat} {v : Value} {xs : List Wd} (h : SlR eW w B v xs) : SlR eStr w B v (xs.map toB) := by
 obtain ⟨A, c, css, e, h1, h2, h3, h4, h5⟩ := h
 refine ⟨A, c, css, by rw [List.length_map]; exact e, by rw [List.length_map]; exact h1, h2, by rw [List.length_map]; exact h3, h4, fun i cs x hc hx => ?_⟩
 rw [List.getElem?_map] at hx
 cases hxi : xs[i]? with
 |none => rw [hxi] at hx; cases hx
 |some y =>
  rw [hxi] at hx
  injection hx with hx
  subst hx
  exact h5 i cs y hc hxi
theorem canTo_gram {g : Gram} {w w' : World} {e : Ending} (h : CanTo (g.1.map ofB) (g.2.1.map ofB) g.2.2 w e w') : ∃ u1 u2 u3, e = .returned (.agg #[u1, u2, u3]) ∧ SlR eStr w' w'.heap.size u1 (gramC g).1 ∧ SlR eStr w' w'.heap.size u2 (gramC g).2.1 ∧ SlR eRule w' w'.heap.size u3 (gramC g).2.2 ∧ Below w.heap.size w w' := by
 obtain ⟨u1, u2, u3, he, h1, h2, h3, hb⟩ := h
 exact ⟨u1, u2, u3, he, sl_B h1, sl_B h2, h3, hb⟩
def CTextTo (g : Gram) (w : World) (e : Ending) (w' : World) : Prop := e = .returned (.string (toB (textC g))) ∧ Below w.heap.size w w'
set_option maxRecDepth 100000 in
set_option maxHeartbeats 4000000 in
theorem canonText_any (v1 v2 v3 : Value) (g : Gram) (w : World) (hg : GoodC g) (h1 : SlR eStr w w.heap.size v1 g.1) (h2 : SlR eStr w w.heap.size v2 g.2.1) (h3 : SlR eRule w w.heap.size v3 g.2.2) :
  Calls Tryz.prog 13 #[.agg #[v1, v2, v3]] w (CTextTo g w) := by
 have hbl : Below w.heap.size w (w.alloc (.cells #[v1, v2, v3] 25)) := (Below.refl _ _).alloc (Nat.le_refl _) _
 obtain ⟨A1, c1, rfl, _, _⟩ := h1.form
 obtain ⟨A2, c2, rfl, _, _⟩ := h2.form
 obtain ⟨A3, c3, rfl, _, _⟩ := h3.form
 have HBL := Lib.hid hbl
 have HCA := Lib.hid (canonOf_any (.slice A1 g.1.length c1) (.slice A2 g.2.1.length c2) (.slice A3 g.2.2.length c3) (g.1.map ofB) (g.2.1.map ofB) g.2.2 _ (by rw [map_toB_ofB, map_toB_ofB]; exact hg) (by rw [map_toB_ofB]; exact h1.fut hbl (Nat.le_refl _) hbl.size) (by rw [map_toB_ofB]; exact h2.fut hbl (Nat.le_refl _) hbl.size) (h3.fut hbl (Nat.le_refl _) hbl.size))
 have HGC := Lib.hid (gramC_good hg)
 have HTX := Lib.hid (textC_eq g)
 have HLX := Lib.hid (textX_G (gramC g))
 have HTB := Lib.hid (textG_bound (gramC_good hg))
 clear hg h1 h2 h3 hbl
 generalize g.1.length = n at *
 generalize g.2.1.length = m at *
 generalize g.2.2.length = q at *
 go_enter Tryz.func13, Tryz.ntmps13
 go_wp2_with fail
 refine HCA.out.mono ?_
 intro e w2 hc
 obtain ⟨u1, u2, u3, rfl, k1, k2, k3, hb2⟩ := canTo_gram hc
 have HLI := Lib.hid (lines_any u1 u2 u3 (gramC g).1 (gramC g).2.1 (gramC g).2.2 w2 HGC.out k1 k2 k3)
 have HB2 := Lib.hid (HBL.out.trans (hb2.mono HBL.out.size))
 clear hc k1 k2 k3 hb2 HCA
 go_wp2_with fail
 refine HLI.out.mono ?_
 rintro e w3 ⟨v, rfl, ho, hb3⟩
 have HB3 := Lib.hid (HB2.out.trans (hb3.mono HB2.out.size))
 have HTE := Lib.hid (text13_any v (linesG (gramC g)) w3 ho.sl (by rw [HLX.out]; exact Nat.le_trans HTB.out (by decide)) (linesG_bound HGC.out))
 clear ho hb3 HLI
 go_wp2_with fail
 refine HTE.out.mono ?_
 rintro e w4 ⟨rfl, hb4⟩
 have HB4 := Lib.hid (HB3.out.trans (hb4.mono HB3.out.size))
 rw [show textX (linesG (gramC g)) = textC g from by rw [HLX.out, HTX.out]]
 clear hb4 HTE
 go_wp2_with fail
 go_ret
 exact ⟨rfl, HB4.out⟩
end Go.Proofs.YthojelhpipmkiaaGreatDoor
namespace Go.Proofs.YthojelhpipmkiaaGreatDoor
open Go.RowKit

def digArr : Array Value := #[.int .u8 48, .int .u8 49, .int .u8 50, .int .u8 51, .int .u8 52, .int .u8 53, .int .u8 54, .int .u8 55, .int .u8 56, .int .u8 57, .int .u8 97, .int .u8 98, .int .u8 99, .int .u8 100, .int .u8 101, .int .u8 102]

set_option maxHeartbeats 400000 in
theorem hex_digits (w : World) :
  Calls Tryz.prog 95 #[] w fun e w' => e = .returned (.agg digArr) ∧ Below w.heap.size w w' := by
 go_enter Tryz.func95, Tryz.ntmps95
 go_wp2
 refine bodyPost_ret (v := .agg digArr) (by simp [results, Tryz.results95, go_sem, digArr]) rfl ⟨rfl, ?_⟩
 go_grown

def digAt (k : Nat) : Int := if k < 10 then 48 + k else 87 + k
theorem dig_get (k : Nat) (hk : k < 16) : digArr[k]? = some (Value.int .u8 (digAt k)) := by
 have hall : ∀ j : Fin 16, digArr[j.val]? = some (Value.int .u8 (digAt j.val)) := by
  intro j
  match j with
  |⟨0, _⟩ | ⟨1, _⟩ | ⟨2, _⟩ | ⟨3, _⟩ | ⟨4, _⟩ | ⟨5, _⟩ | ⟨6, _⟩ | ⟨7, _⟩ | ⟨8, _⟩ | ⟨9, _⟩ | ⟨10, _⟩ | ⟨11, _⟩ | ⟨12, _⟩ | ⟨13, _⟩ | ⟨14, _⟩ | ⟨15, _⟩ => rfl
  |⟨n + 16, h⟩ => omega
 exact hall ⟨k, hk⟩
theorem dig_index (k : Nat) (hk : k < 16) (w : World) : (Instr.index 134 (.agg digArr) (.int .i64 (k : Int))).run Tryz.prog w = .ok (.int .u8 (digAt k)) w := by
 have h := dig_get k hk
 simp [Instr.index, asIntOf, run_underlying Tryz.underlying134, go_sem, hk, h]

end Go.Proofs.YthojelhpipmkiaaGreatDoor
namespace Go.Proofs.YthojelhpipmkiaaGreatDoor
open Go.RowKit

def hex2 (b : UInt8) : List UInt8 := [(digAt (b.toNat / 16)).toNat.toUInt8, (digAt (b.toNat % 16)).toNat.toUInt8]
def hexOf (l : List UInt8) : List UInt8 := l.flatMap hex2

theorem u8_app : AppTy Tryz.prog 45 5 1 1 (.int .u8 0) := appTy Tryz.underlying45 (by kernel_rfl) rfl (by omega)
theorem digAt_bd (k : Nat) (h : k < 16) : 0 ≤ digAt k ∧ digAt k < 256 := by unfold digAt; split <;> omega
theorem hex2_cells (b : UInt8) : bcells (hex2 b) = [.int .u8 (digAt (b.toNat / 16)), .int .u8 (digAt (b.toNat % 16))] := by
 have h1 := digAt_bd (b.toNat / 16) (by have := b.toNat_lt; omega)
 have h2 := digAt_bd (b.toNat % 16) (by omega)
 simp only [bcells, hex2, List.map_cons, List.map_nil, bcell, UInt8.toNat_ofNat']
 rw [show (((digAt (b.toNat / 16)).toNat % 2 ^ 8 : Nat) : Int) = digAt (b.toNat / 16) by omega, show (((digAt (b.toNat % 16)).toNat % 2 ^ 8 : Nat) : Int) = digAt (b.toNat % 16) by omega]
theorem hexOf_snoc (l : List UInt8) (k : Nat) (h : k < l.length) : hexOf (l.take (k + 1)) = hexOf (l.take k) ++ hex2 l[k] := by
 rw [List.take_succ_eq_append_getElem h, hexOf, List.flatMap_append]
 simp [hexOf]
theorem hexOf_length (l : List UInt8) : (hexOf l).length = 2 * l.length := by
 induction l with
 |nil => rfl
 |cons b l ih => simp only [hexOf, List.flatMap_cons, List.length_append, List.length_cons] at *; rw [ih]; simp [hex2]; omega
theorem dig_store (w : World) : (storeCells ⟨w.heap.size, 0, none⟩ digArr.toList).run Tryz.prog (w.alloc (.cells #[.int .u8 0, .int .u8 0, .int .u8 0, .int .u8 0, .int .u8 0, .int .u8 0, .int .u8 0, .int .u8 0, .int .u8 0, .int .u8 0, .int .u8 0, .int .u8 0, .int .u8 0, .int .u8 0, .int .u8 0, .int .u8 0] 134)) =
  .ok () (w.alloc (.cells digArr 134)) :=
 run_store_new w _ _ _ rfl (by simp [digArr, Value.oneCell'])

set_option maxHeartbeats 400000 in
theorem hex_text (l : List UInt8) (A : Option Addr) (c : Nat) (w : World) (hr : Rd w w.heap.size A (bcells l)) (hl : l.length ≤ 1099511627776) :
  Calls Tryz.prog 50 #[.slice A l.length c] w fun e w' => e = .returned (.string ⟨(hexOf l).toArray⟩) ∧ Below w.heap.size w w' := by
 have hst := dig_store
 go_enter Tryz.func50, Tryz.ntmps50
 go_wp2_with (go_call hex_digits _ as e w1 ⟨rfl, hb⟩)
 go_loopw [4, 6, 10] (fun v4 v6 v10 wr => ∃ k : Nat, k ≤ l.length ∧ v10 = .int .i64 k ∧ wr.ownsRow w.heap.size 5 1 v4 (2 * k) (bcells (hexOf (l.take k))) ∧ wr.heap[w1.heap.size]? = some (.cells digArr 134 (0, 0)) ∧ Below w.heap.size w wr) (fun _ _ i _ => l.length - (intOf i).toNat)
 case atStart => exact ⟨0, by omega, rfl, World.ownsRow_nil _ _ _ _, Go.heap_alloc_new w1 _, hb.alloc hb.size _⟩
 case round =>
  obtain ⟨k, hk, rfl, hown, hd, hbr⟩ := hrel
  by_cases hlt : k < l.length
  ·obtain ⟨ab, ao, rfl, hab, hcell⟩ := (hr.below hbr).byte hlt
   go_wp2
   have hb8 := l[k].toNat_lt
   have hd1 : wr.cell? ⟨w1.heap.size, l[k].toNat / 16, none⟩ = some (.int .u8 (digAt (l[k].toNat / 16))) := by
    rw [cell_of_row _ _ _ _ _ _ hd]; exact dig_get _ (by have := l[k].toNat_lt; omega)
   have hd2 : wr.cell? ⟨w1.heap.size, l[k].toNat % 16, none⟩ = some (.int .u8 (digAt (l[k].toNat % 16))) := by
    rw [cell_of_row _ _ _ _ _ _ hd]; exact dig_get _ (by omega)
   refine Text.wp_text [] (by kernel_rfl) (by kernel_rfl) (fun Q' hQ' => ?_)
   go_wp2_with (at_builtin; refine wpList_app u8_app rfl rfl rfl rfl (hown.alloc _).drew (Rd.row (B := wr.heap.size + 1) (Go.heap_alloc_new wr _) (by omega)) rfl (by simp [Value.oneCell']) ?h63 ?hby ?hbase ?_)
   case h63 => simp only [maxLen]; omega
   case hby => omega
   case hbase => have := hbr.size; simp; omega
   intro v1 w2 hown2 hg2 _ _
   go_wp2
   refine ⟨by rfl, ?_⟩
   go_wp2
   go_roundw
   case rel =>
    refine ⟨k + 1, by omega, by go_num, ?_, ?_, ?_⟩
    ·rw [hexOf_snoc l k hlt, bcells_append, hex2_cells]; exact hown2
    ·exact grown_other (hown.alloc _).drew hg2 ((Below.heap_alloc _ _ _ (Array.getElem?_eq_some_iff.1 hd).1).trans hd) (by decide)
    ·exact grown_below ((hbr.alloc hbr.size _).drew) hg2 (hown.alloc _).drew (Nat.le_refl _) (by have := hbr.size; simp; omega)
   case measure => simp [intOf]; omega
  ·have hkl : k = l.length := by omega
   subst hkl
   obtain ⟨A4, c4, rfl, _, _⟩ := own_form hown
   rw [List.take_length] at hown
   have hcv := conv_bytes (P := Tryz.prog) (Rd.of_own hown) Tryz.underlying45 Tryz.underlying5 Tryz.underlying9 (2 * l.length) (hexOf_length l).symm
   go_wp2
   go_ret
   exact ⟨rfl, hbr⟩

end Go.Proofs.YthojelhpipmkiaaGreatDoor
namespace Go.Proofs.YthojelhpipmkiaaGreatDoor
open Go.RowKit

theorem hashTy : HashTy Tryz.prog 28 5 := ⟨by kernel_rfl, by kernel_rfl, fun _ => by kernel_rfl, fun _ => by kernel_rfl, by kernel_rfl⟩
noncomputable def fieldAt' (t i : Nat) : Field := (Tryz.prog.fieldsOf t).getD i { name := "", type := 0, offset := 0, embedded := false, tag := "", pkgPath := "", byteOffset := 0 }
theorem key_n0 : (fieldAt' 30 0).name = "Hash" := by kernel_rfl
theorem key_n1 : (fieldAt' 30 1).name = "K" := by kernel_rfl
theorem keyTy : HkTy Tryz.prog 30 28 5 3 (fieldAt' 30 0) (fieldAt' 30 1) :=
 ⟨by kernel_rfl, by rw [key_n0]; decide, by rw [key_n1]; decide, by kernel_rfl, by kernel_rfl, by kernel_rfl, by kernel_rfl, by kernel_rfl, hashTy, by kernel_rfl, by kernel_rfl⟩
def kOk (k : Int) : Bool := decide (1 ≤ k ∧ k ≤ 4)
theorem right_any (k : Int) (w : World) : Calls Tryz.prog 11 #[.int .i64 k] w fun e w' => e = .returned (.bool (kOk k)) ∧ w = w' := by
 by_cases h1 : 1 ≤ k
 ·by_cases h2 : k ≤ 4
  ·have HK := Lib.hid (show kOk k = true by unfold kOk; simp; omega)
   go_enter Tryz.func11, Tryz.ntmps11
   go_wp2
   go_ret
   exact ⟨rt1 (vbool HK.out.symm), rfl⟩
  ·have HK := Lib.hid (show kOk k = false by unfold kOk; simp; omega)
   go_enter Tryz.func11, Tryz.ntmps11
   go_wp2
   go_ret
   exact ⟨rt1 (vbool HK.out.symm), rfl⟩
 ·have HK := Lib.hid (show kOk k = false by unfold kOk; simp; omega)
  go_enter Tryz.func11, Tryz.ntmps11
  go_wp2
  go_ret
  exact ⟨rt1 (vbool HK.out.symm), rfl⟩
theorem itoa_small (k : Int) (w : World) (hk : kOk k = true) : Calls Tryz.prog 23 #[.int .i64 k] w fun e w' => e = .returned (.string ⟨#[UInt8.ofNat (48 + k.toNat)]⟩) ∧ w = w' := by
 have h : k = 1 ∨ k = 2 ∨ k = 3 ∨ k = 4 := by unfold kOk at hk; simp at hk; omega
 clear hk
 rcases h with rfl | rfl | rfl | rfl
 all_goals
  go_enter Tryz.func23, Tryz.ntmps23
  go_wp2
  go_ret
  exact ⟨rt1 (vstr (by kernel_rfl)), rfl⟩
def keyText (h : List UInt8) (k : Int) : List UInt8 := if kOk k then hexOf h ++ [45, UInt8.ofNat (48 + k.toNat)] else []
theorem below_drew {B : Nat} {w w' : World} (h : Below B w.drew w') : Below B w w' := ⟨h.os, h.tape, h.output, h.size, h.block⟩
theorem rd_hash {w : World} {B : Nat} {A : Option Addr} {h : List UInt8} {k : Int} (hr : Rd w B A (hkCells h k)) : Rd w B A (bcells h) := by
 have := hr.take_ h.length
 have e : (hkCells h k).take h.length = bcells h := by
  unfold hkCells
  rw [List.take_append_of_le_length (by rw [bcells_length]; omega), List.take_of_length_le (by rw [bcells_length]; omega)]
 rwa [e] at this
theorem hex_text32 (l : List UInt8) (A : Option Addr) (c : Nat) (w : World) (hr : Rd w w.heap.size A (bcells l)) (hl : l.length = 32) :
  Calls Tryz.prog 50 #[.slice A 32 c] w fun e w' => e = .returned (.string ⟨(hexOf l).toArray⟩) ∧ Below w.heap.size w w' := by
 have := hex_text l A c w hr (by omega)
 rwa [hl] at this
set_option maxRecDepth 100000 in
set_option maxHeartbeats 400000 in
theorem text_any (h : List UInt8) (k : Int) (w : World) (hh : h.length = 32) :
  Calls Tryz.prog 22 #[hkv h k] w fun e w' => e = .returned (.string ⟨(keyText h k).toArray⟩) ∧ Below w.heap.size w w' := by
 have hck : (w.alloc (.cells (hkCells h k).toArray 30)).cell? ⟨w.heap.size, 32, none⟩ = some (.int .i64 k) := by
  rw [cell_of_row _ _ _ _ _ _ (Go.heap_alloc_new w _), ← Array.getElem?_toList]
  exact hkCells_get h k hh
 have hgk : (hkCells h k)[32]? = some (.int .i64 k) := hkCells_get h k hh
 have hlk : (hkCells h k).length = 33 := by rw [hkCells_length, hh]
 have HH := Lib.hid hh
 clear hh
 rcases Bool.eq_false_or_eq_true (kOk k) with hb | hb
 ·have HB := Lib.hid hb
  clear hb
  go_enter Tryz.func22, Tryz.ntmps22
  go_wp2_with fail
  refine (right_any k _).mono ?_
  rintro e w1 ⟨rfl, rfl⟩
  rw [HB.out]
  go_wp2_with fail
  refine Text.wp_grow [2, 6] [5] [] (by kernel_rfl) (by kernel_rfl) ?_
  refine Text.wpS_seg 2 _ _ _ _ (by decide) (fun Q' hQ' => ?_)
  simp only [List.take_succ_cons, List.take_zero]
  go_wp2_with fail
  simp only [Nat.zero_add, List.drop_succ_cons, List.drop_zero]
  refine Text.wpS_one (fun Q' hQ' => ?_)
  go_wp2_with fail
  have hrow : Rd (w.alloc (.cells (hkCells h k).toArray 30)) (w.heap.size + 1) (some ⟨w.heap.size, 0, none⟩) (hkCells h k) := by
   have := Rd.row (w := w.alloc (.cells (hkCells h k).toArray 30)) (B := w.heap.size + 1) (Go.heap_alloc_new w _) (by omega)
   simpa using this
  refine (hex_text32 h (some ⟨w.heap.size, 0, none⟩) 32 _ (by have := (rd_hash hrow).below (Below.refl _ _).drew; simpa using this) HH.out).mono ?_
  rintro e w2 ⟨rfl, hb2⟩
  have hb2' : Below w.heap.size w w2 := ((Below.refl _ _).alloc (Nat.le_refl _) _).trans ((below_drew hb2).mono (by simp))
  have hck2 : w2.cell? ⟨w.heap.size, 32, none⟩ = some (.int .i64 k) := (hb2.cell (p := ⟨w.heap.size, 32, none⟩) (by show w.heap.size < (w.alloc _).heap.size; simp)).trans hck
  have HB2 := Lib.hid hb2
  have HB2' := Lib.hid hb2'
  clear hb2 hb2' hrow
  obtain ⟨sh, hsh⟩ : ∃ sh : ByteArray, sh = ⟨(hexOf h).toArray⟩ := ⟨_, rfl⟩
  have hsz : sh.size ≤ 64 := by
   rw [hsh]
   show (hexOf h).toArray.size ≤ 64
   have := hexOf_length h
   have := HH.out
   simp; omega
  rw [← hsh]
  have HSH := Lib.hid hsh
  clear hsh
  go_wp2_with fail
  refine ⟨HB2.out, ?_⟩
  refine Text.wpS_seg 3 _ _ _ _ (by decide) (fun Q' hQ' => ?_)
  simp only [List.take_succ_cons, List.take_zero]
  go_wp2_with fail
  simp only [List.drop_succ_cons, List.drop_zero]
  refine Text.wpS_one (fun Q' hQ' => ?_)
  go_wp2_with fail
  refine (itoa_small k _ HB.out).mono ?_
  rintro e w3 ⟨rfl, rfl⟩
  go_wp2_with fail
  refine ⟨HB2.out, ?_⟩
  refine Text.wpS_seg 2 _ _ _ _ (by decide) (fun Q' hQ' => ?_)
  simp only [List.take_succ_cons, List.take_zero]
  go_wp2_with fail
  refine ⟨by rfl, ⟨fun _ => ⟨_, _, rfl, hck⟩, trivial⟩, ?_⟩
  go_wp2
  go_ret
  refine ⟨rt1 (vstr ?_), HB2'.out⟩
  unfold keyText
  rw [HB.out, if_pos rfl, HSH.out]
  apply ByteArray.ext
  simp
 ·have HB := Lib.hid hb
  clear hb
  go_enter Tryz.func22, Tryz.ntmps22
  go_wp2_with fail
  refine (right_any k _).mono ?_
  rintro e w1 ⟨rfl, rfl⟩
  rw [HB.out]
  go_wp2
  go_ret
  refine ⟨rt1 (vstr ?_), (Below.refl _ _).alloc (Nat.le_refl _) _⟩
  unfold keyText
  rw [HB.out]
  rfl

end Go.Proofs.YthojelhpipmkiaaGreatDoor
