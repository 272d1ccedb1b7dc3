/- Contracts of key.right, key.Text, and of the reference's may, Text (17), for any key, every world. -/
import Derived.Test.YtfheocdciekfoaaDoorAgg
import Derived.Test.YtfheocdciekfoaaDoorHexText
import Derived.Test.YtfheocdciekfoaaDoorFront2
namespace Go.Proofs.YtfheocdciekfoaaDoor
open Go.RowKit

theorem hashTy : HashTy Tryd.prog 22 5 := ⟨by kernel_rfl, by kernel_rfl, fun _ => by kernel_rfl, fun _ => by kernel_rfl, by kernel_rfl⟩
noncomputable def fieldAt' (t i : Nat) : Field := (Tryd.prog.fieldsOf t).getD i { name := "", type := 0, offset := 0, embedded := false, tag := "", pkgPath := "", byteOffset := 0 }
theorem key_n0 : (fieldAt' 24 0).name = "Hash" := by kernel_rfl
theorem key_n1 : (fieldAt' 24 1).name = "K" := by kernel_rfl
theorem mark_n0 : (fieldAt' 26 0).name = "Hash" := by kernel_rfl
theorem mark_n1 : (fieldAt' 26 1).name = "Size" := by kernel_rfl
theorem keyTy : HkTy Tryd.prog 24 22 5 3 (fieldAt' 24 0) (fieldAt' 24 1) :=
  ⟨by kernel_rfl, by rw [key_n0]; decide, by rw [key_n1]; decide, by kernel_rfl, by kernel_rfl, by kernel_rfl, by kernel_rfl, by kernel_rfl, hashTy, by kernel_rfl, by kernel_rfl⟩
theorem markTy : HkTy Tryd.prog 26 22 5 3 (fieldAt' 26 0) (fieldAt' 26 1) :=
  ⟨by kernel_rfl, by rw [mark_n0]; decide, by rw [mark_n1]; decide, by kernel_rfl, by kernel_rfl, by kernel_rfl, by kernel_rfl, by kernel_rfl, hashTy, by kernel_rfl, by kernel_rfl⟩

/-- whether a number may be looked ahead -/
def kOk (k : Int) : Bool := decide (1 ≤ k ∧ k ≤ 4)
theorem right_any (k : Int) (w : World) : Calls Tryd.prog 57 #[.int .i64 k] w fun e w' => e = .returned (.bool (kOk k)) ∧ w = w' := by
  by_cases h1 : 1 ≤ k
  · by_cases h2 : k ≤ 4
    · have HK := Lib.hid (show kOk k = true by unfold kOk; simp; omega)
      go_enter Tryd.func57, Tryd.ntmps57
      go_wp2
      go_ret
      exact ⟨rt1 (vbool HK.out.symm), rfl⟩
    · have HK := Lib.hid (show kOk k = false by unfold kOk; simp; omega)
      go_enter Tryd.func57, Tryd.ntmps57
      go_wp2
      go_ret
      exact ⟨rt1 (vbool HK.out.symm), rfl⟩
  · have HK := Lib.hid (show kOk k = false by unfold kOk; simp; omega)
    go_enter Tryd.func57, Tryd.ntmps57
    go_wp2
    go_ret
    exact ⟨rt1 (vbool HK.out.symm), rfl⟩
theorem itoa_small (k : Int) (w : World) (hk : kOk k = true) : Calls Tryd.prog 60 #[.int .i64 k] w fun e w' => e = .returned (.string ⟨#[UInt8.ofNat (48 + k.toNat)]⟩) ∧ w = w' := by
  have h : k = 1 ∨ k = 2 ∨ k = 3 ∨ k = 4 := by unfold kOk at hk; simp at hk; omega
  clear hk
  rcases h with rfl | rfl | rfl | rfl
  all_goals
    go_enter Tryd.func60, Tryd.ntmps60
    go_wp2
    go_ret
    exact ⟨rt1 (vstr (by kernel_rfl)), rfl⟩
/-- a key's text -/
def keyText (h : List UInt8) (k : Int) : List UInt8 := if kOk k then hexOf h ++ [45, UInt8.ofNat (48 + k.toNat)] else []
theorem ba_append (x y : List UInt8) : (⟨x.toArray⟩ : ByteArray) ++ (⟨y.toArray⟩ : ByteArray) = ⟨(x ++ y).toArray⟩ := by
  apply ByteArray.ext
  simp
theorem below_drew {B : Nat} {w w' : World} (h : Below B w.drew w') : Below B w w' := ⟨h.os, h.tape, h.output, h.size, h.block⟩
theorem rd_hash {w : World} {B : Nat} {A : Option Addr} {h : List UInt8} {k : Int} (hr : Rd w B A (hkCells h k)) : Rd w B A (bcells h) := by
  have := hr.take_ h.length
  have e : (hkCells h k).take h.length = bcells h := by
    unfold hkCells
    rw [List.take_append_of_le_length (by rw [bcells_length]; omega), List.take_of_length_le (by rw [bcells_length]; omega)]
  rwa [e] at this
theorem hex_text32 (l : List UInt8) (A : Option Addr) (c : Nat) (w : World) (hr : Rd w w.heap.size A (bcells l)) (hl : l.length = 32) :
    Calls Tryd.prog 59 #[.slice A 32 c] w fun e w' => e = .returned (.string ⟨(hexOf l).toArray⟩) ∧ Below w.heap.size w w' := by
  have := hex_text l A c w hr (by omega)
  rwa [hl] at this
set_option maxRecDepth 100000 in
set_option maxHeartbeats 400000 in
theorem text_any (h : List UInt8) (k : Int) (w : World) (hh : h.length = 32) :
    Calls Tryd.prog 29 #[hkv h k] w fun e w' => e = .returned (.string ⟨(keyText h k).toArray⟩) ∧ Below w.heap.size w w' := by
  have hck : (w.alloc (.cells (hkCells h k).toArray 24)).cell? ⟨w.heap.size, 32, none⟩ = some (.int .i64 k) := by
    rw [cell_of_row _ _ _ _ _ _ (Go.heap_alloc_new w _), ← Array.getElem?_toList]
    exact hkCells_get h k hh
  have hgk : (hkCells h k)[32]? = some (.int .i64 k) := hkCells_get h k hh
  have hlk : (hkCells h k).length = 33 := by rw [hkCells_length, hh]
  have HH := Lib.hid hh
  clear hh
  rcases Bool.eq_false_or_eq_true (kOk k) with hb | hb
  · have HB := Lib.hid hb
    clear hb
    go_enter Tryd.func29, Tryd.ntmps29
    go_wp2_with fail
    refine (right_any k _).mono ?_
    rintro e w1 ⟨rfl, rfl⟩
    rw [HB.out]
    go_wp2_with fail
    refine Text.wp_grow [2, 6] [5] [] (by kernel_rfl) (by kernel_rfl) ?_
    refine Text.wpS_seg 2 _ _ _ _ (by decide) (fun Q' hQ' => ?_)
    simp only [List.take_succ_cons, List.take_zero]
    go_wp2_with fail
    simp only [Nat.zero_add, List.drop_succ_cons, List.drop_zero]
    refine Text.wpS_one (fun Q' hQ' => ?_)
    go_wp2_with fail
    have hrow : Rd (w.alloc (.cells (hkCells h k).toArray 24)) (w.heap.size + 1) (some ⟨w.heap.size, 0, none⟩) (hkCells h k) := by
      have := Rd.row (w := w.alloc (.cells (hkCells h k).toArray 24)) (B := w.heap.size + 1) (Go.heap_alloc_new w _) (by omega)
      simpa using this
    refine (hex_text32 h (some ⟨w.heap.size, 0, none⟩) 32 _ (by have := (rd_hash hrow).below (Below.refl _ _).drew; simpa using this) HH.out).mono ?_
    rintro e w2 ⟨rfl, hb2⟩
    have hb2' : Below w.heap.size w w2 := ((Below.refl _ _).alloc (Nat.le_refl _) _).trans ((below_drew hb2).mono (by simp))
    have hck2 : w2.cell? ⟨w.heap.size, 32, none⟩ = some (.int .i64 k) := (hb2.cell (p := ⟨w.heap.size, 32, none⟩) (by show w.heap.size < (w.alloc _).heap.size; simp)).trans hck
    have HB2 := Lib.hid hb2
    have HB2' := Lib.hid hb2'
    clear hb2 hb2' hrow
    obtain ⟨sh, hsh⟩ : ∃ sh : ByteArray, sh = ⟨(hexOf h).toArray⟩ := ⟨_, rfl⟩
    have hsz : sh.size ≤ 64 := by
      rw [hsh]
      show (hexOf h).toArray.size ≤ 64
      have := hexOf_length h
      have := HH.out
      simp; omega
    rw [← hsh]
    have HSH := Lib.hid hsh
    clear hsh
    go_wp2_with fail
    refine ⟨HB2.out, ?_⟩
    refine Text.wpS_seg 3 _ _ _ _ (by decide) (fun Q' hQ' => ?_)
    simp only [List.take_succ_cons, List.take_zero]
    go_wp2_with fail
    simp only [List.drop_succ_cons, List.drop_zero]
    refine Text.wpS_one (fun Q' hQ' => ?_)
    go_wp2_with fail
    refine (itoa_small k _ HB.out).mono ?_
    rintro e w3 ⟨rfl, rfl⟩
    go_wp2_with fail
    refine ⟨HB2.out, ?_⟩
    refine Text.wpS_seg 2 _ _ _ _ (by decide) (fun Q' hQ' => ?_)
    simp only [List.take_succ_cons, List.take_zero]
    go_wp2_with fail
    refine ⟨by rfl, ⟨fun _ => ⟨_, _, rfl, hck⟩, trivial⟩, ?_⟩
    go_wp2
    go_ret
    refine ⟨rt1 (vstr ?_), HB2'.out⟩
    unfold keyText
    rw [HB.out, if_pos rfl, HSH.out]
    apply ByteArray.ext
    simp
  · have HB := Lib.hid hb
    clear hb
    go_enter Tryd.func29, Tryd.ntmps29
    go_wp2_with fail
    refine (right_any k _).mono ?_
    rintro e w1 ⟨rfl, rfl⟩
    rw [HB.out]
    go_wp2
    go_ret
    refine ⟨rt1 (vstr ?_), (Below.refl _ _).alloc (Nat.le_refl _) _⟩
    unfold keyText
    rw [HB.out]
    rfl

theorem may_any (h : List UInt8) (k : Int) (w : World) (hh : h.length = 32) :
    Calls Tryd.prog 41 #[hkv h k] w fun e w' => e = .returned (.bool (kOk k)) ∧ Below w.heap.size w w' := by
  have hck : (w.alloc (.cells (hkCells h k).toArray 24)).cell? ⟨w.heap.size, 32, none⟩ = some (.int .i64 k) := by
    rw [cell_of_row _ _ _ _ _ _ (Go.heap_alloc_new w _), ← Array.getElem?_toList]
    exact hkCells_get h k hh
  have hgk : (hkCells h k)[32]? = some (.int .i64 k) := hkCells_get h k hh
  have hlk : (hkCells h k).length = 33 := by rw [hkCells_length, hh]
  by_cases h1 : 1 ≤ k
  · by_cases h2 : k ≤ 4
    · have HK := Lib.hid (show kOk k = true by unfold kOk; simp; omega)
      go_enter Tryd.func41, Tryd.ntmps41
      go_wp2
      go_ret
      exact ⟨rt1 (vbool HK.out.symm), (Below.refl _ _).alloc (Nat.le_refl _) _⟩
    · have HK := Lib.hid (show kOk k = false by unfold kOk; simp; omega)
      go_enter Tryd.func41, Tryd.ntmps41
      go_wp2
      go_ret
      exact ⟨rt1 (vbool HK.out.symm), (Below.refl _ _).alloc (Nat.le_refl _) _⟩
  · have HK := Lib.hid (show kOk k = false by unfold kOk; simp; omega)
    go_enter Tryd.func41, Tryd.ntmps41
    go_wp2
    go_ret
    exact ⟨rt1 (vbool HK.out.symm), (Below.refl _ _).alloc (Nat.le_refl _) _⟩
def digStr : ByteArray := ⟨#[48, 49, 50, 51, 52, 53, 54, 55, 56, 57, 97, 98, 99, 100, 101, 102]⟩
theorem digStr_at (x : Nat) (hx : x < 16) : digStr.extract x (x + 1) = ⟨#[(digAt x).toNat.toUInt8]⟩ := by
  have h : ∀ j : Fin 16, (digStr.extract j.val (j.val + 1)).data = #[(digAt j.val).toNat.toUInt8] := by decide +kernel
  apply ByteArray.ext
  exact h ⟨x, hx⟩
set_option maxRecDepth 100000 in
set_option maxHeartbeats 400000 in
theorem digits_any (l : List UInt8) (w : World) (hl : l.length = 32) :
    Calls Tryd.prog 65 #[hashv l] w fun e w' => e = .returned (.string ⟨(hexOf l).toArray⟩) ∧ Below w.heap.size w w' := by
  have hlb : (bcells l).length = 32 := by rw [bcells_length, hl]
  have HL := Lib.hid hl
  clear hl
  go_enter Tryd.func65, Tryd.ntmps65
  go_wp2_with fail
  obtain ⟨D, hD⟩ : ∃ D, D = digStr := ⟨_, rfl⟩
  have hDs : D.size = 16 := by rw [hD]; rfl
  have hD2 : ({ data := #[48, 49, 50, 51, 52, 53, 54, 55, 56, 57, 97, 98, 99, 100, 101, 102] } : ByteArray) = D := hD.symm
  rw [hD2]
  have HD := Lib.hid hD
  clear hD hD2
  go_loopw [4, 5] (fun v4 v5 wr => ∃ (i : Nat) (s : ByteArray), i ≤ 32 ∧ v5 = .int .i64 i ∧ v4 = .string s ∧ s.size ≤ 64 ∧ Hid (s = ⟨(hexOf (l.take i)).toArray⟩) ∧ Hid (Below (w.heap.size + 1) (w.alloc (.cells (bcells l).toArray 22)) wr)) (fun _ v5 _ => 32 - (intOf v5).toNat)
  case atStart => exact ⟨0, ⟨#[]⟩, by omega, rfl, rfl, by decide, rfl, (Below.refl _ _)⟩
  case round =>
    obtain ⟨i, s, hi, rfl, rfl, hs, hse, hbr⟩ := hrel
    by_cases hlt : i < 32
    · have hlt2 : i < l.length := by have := HL.out; omega
      have hcell : wr.cell? ⟨w.heap.size, i, none⟩ = some (.int .u8 (l[i].toNat : Nat)) := by
        refine (hbr.out.cell (p := ⟨w.heap.size, i, none⟩) (by show w.heap.size < _; omega)).trans ?_
        rw [cell_of_row _ _ _ _ _ _ (Go.heap_alloc_new w _), ← Array.getElem?_toList, List.getElem?_eq_getElem (by rw [bcells_length]; exact hlt2)]
        simp [bcells, bcell]
      have hsn := Lib.hid (hexOf_snoc l i hlt2)
      obtain ⟨y, hy⟩ : ∃ y, y = l[i].toNat := ⟨_, rfl⟩
      have hy8 : y < 256 := by rw [hy]; exact l[i].toNat_lt
      rw [← hy] at hcell
      have HY := Lib.hid hy
      clear hy
      have HE1 := Lib.hid (show D.extract (y / 16) (y / 16 + 1) = ⟨#[(digAt (y / 16)).toNat.toUInt8]⟩ by rw [HD.out]; exact digStr_at _ (by omega))
      have HE2 := Lib.hid (show D.extract (y % 16) (y % 16 + 1) = ⟨#[(digAt (y % 16)).toNat.toUInt8]⟩ by rw [HD.out]; exact digStr_at _ (by omega))
      go_wp2_with fail
      refine Text.wp_text [] (by kernel_rfl) (by kernel_rfl) (fun Q' hQ' => ?_)
      go_wp2
      refine ⟨by rfl, ?_⟩
      have HSN := Lib.hid (show s ++ D.extract (y / 16) (y / 16 + 1) ++ D.extract (y % 16) (y % 16 + 1) = ⟨(hexOf (l.take (i + 1))).toArray⟩ by
        rw [HE1.out, HE2.out, hse.out, hsn.out]
        apply ByteArray.ext
        simp [hex2, HY.out])
      go_wp2
      go_roundw
      case rel =>
        refine ⟨i + 1, _, by omega, by go_num, rfl, ?_, HSN.out, hbr.out.drew⟩
        rw [HSN.out]
        show (hexOf (l.take (i + 1))).toArray.size ≤ 64
        have := hexOf_length (l.take (i + 1))
        have h2 : (l.take (i + 1)).length ≤ i + 1 := List.length_take_le _ _
        simp; omega
      case measure => simp [intOf]; omega
    · have hi32 : i = 32 := by omega
      subst hi32
      have hlt2 : l.take 32 = l := List.take_of_length_le (by have := HL.out; omega)
      have HT := Lib.hid hlt2
      clear hlt2
      go_wp2
      go_ret
      refine ⟨rt1 (vstr ?_), ((Below.refl _ _).alloc (Nat.le_refl _) _).trans (hbr.out.mono (by omega))⟩
      rw [hse.out, HT.out]
end Go.Proofs.YtfheocdciekfoaaDoor
