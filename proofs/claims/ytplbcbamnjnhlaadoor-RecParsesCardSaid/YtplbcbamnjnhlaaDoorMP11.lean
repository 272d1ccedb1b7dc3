/- Texts of this proof joined: Key, Rec0, Rec1, Rep2, Key2. -/
import Derived.Test.YtplbcbamnjnhlaaDoorMP05
import Derived.Test.YtplbcbamnjnhlaaDoorMP06
import Derived.Test.YtplbcbamnjnhlaaDoorMP10
import Derived.OpenShut
import Derived.WalkLawsBesides
/- Contracts of key.right, key.Text, and of the reference's may, Text (17), for any key, every world. -/
namespace Go.Proofs.YtplbcbamnjnhlaaDoor
open Go.RowKit

theorem hashTy : HashTy Tryd.prog 24 5 := ⟨by kernel_rfl, by kernel_rfl, fun _ => by kernel_rfl, fun _ => by kernel_rfl, by kernel_rfl⟩
noncomputable def fieldAt' (t i : Nat) : Field := (Tryd.prog.fieldsOf t).getD i { name := "", type := 0, offset := 0, embedded := false, tag := "", pkgPath := "", byteOffset := 0 }
theorem key_n0 : (fieldAt' 26 0).name = "Hash" := by kernel_rfl
theorem key_n1 : (fieldAt' 26 1).name = "K" := by kernel_rfl
theorem mark_n0 : (fieldAt' 28 0).name = "Hash" := by kernel_rfl
theorem mark_n1 : (fieldAt' 28 1).name = "Size" := by kernel_rfl
theorem keyTy : HkTy Tryd.prog 26 24 5 3 (fieldAt' 26 0) (fieldAt' 26 1) :=
  ⟨by kernel_rfl, by rw [key_n0]; decide, by rw [key_n1]; decide, by kernel_rfl, by kernel_rfl, by kernel_rfl, by kernel_rfl, by kernel_rfl, hashTy, by kernel_rfl, by kernel_rfl⟩
theorem markTy : HkTy Tryd.prog 28 24 5 3 (fieldAt' 28 0) (fieldAt' 28 1) :=
  ⟨by kernel_rfl, by rw [mark_n0]; decide, by rw [mark_n1]; decide, by kernel_rfl, by kernel_rfl, by kernel_rfl, by kernel_rfl, by kernel_rfl, hashTy, by kernel_rfl, by kernel_rfl⟩

/-- whether a number may be looked ahead -/
def kOk (k : Int) : Bool := decide (1 ≤ k ∧ k ≤ 4)
theorem right_any (k : Int) (w : World) : Calls Tryd.prog 71 #[.int .i64 k] w fun e w' => e = .returned (.bool (kOk k)) ∧ w = w' := by
  by_cases h1 : 1 ≤ k
  · by_cases h2 : k ≤ 4
    · have HK := Lib.hid (show kOk k = true by unfold kOk; simp; omega)
      go_enter Tryd.func71, Tryd.ntmps71
      go_wp2
      go_ret
      exact ⟨rt1 (vbool HK.out.symm), rfl⟩
    · have HK := Lib.hid (show kOk k = false by unfold kOk; simp; omega)
      go_enter Tryd.func71, Tryd.ntmps71
      go_wp2
      go_ret
      exact ⟨rt1 (vbool HK.out.symm), rfl⟩
  · have HK := Lib.hid (show kOk k = false by unfold kOk; simp; omega)
    go_enter Tryd.func71, Tryd.ntmps71
    go_wp2
    go_ret
    exact ⟨rt1 (vbool HK.out.symm), rfl⟩
theorem itoa_small (k : Int) (w : World) (hk : kOk k = true) : Calls Tryd.prog 73 #[.int .i64 k] w fun e w' => e = .returned (.string ⟨#[UInt8.ofNat (48 + k.toNat)]⟩) ∧ w = w' := by
  have h : k = 1 ∨ k = 2 ∨ k = 3 ∨ k = 4 := by unfold kOk at hk; simp at hk; omega
  clear hk
  rcases h with rfl | rfl | rfl | rfl
  all_goals
    go_enter Tryd.func73, Tryd.ntmps73
    go_wp2
    go_ret
    exact ⟨rt1 (vstr (by kernel_rfl)), rfl⟩
/-- a key's text -/
def keyText (h : List UInt8) (k : Int) : List UInt8 := if kOk k then hexOf h ++ [45, UInt8.ofNat (48 + k.toNat)] else []
theorem ba_append (x y : List UInt8) : (⟨x.toArray⟩ : ByteArray) ++ (⟨y.toArray⟩ : ByteArray) = ⟨(x ++ y).toArray⟩ := by
  apply ByteArray.ext
  simp
theorem below_drew {B : Nat} {w w' : World} (h : Below B w.drew w') : Below B w w' := ⟨h.os, h.tape, h.output, h.size, h.block⟩
theorem rd_hash {w : World} {B : Nat} {A : Option Addr} {h : List UInt8} {k : Int} (hr : Rd w B A (hkCells h k)) : Rd w B A (bcells h) := by
  have := hr.take_ h.length
  have e : (hkCells h k).take h.length = bcells h := by
    unfold hkCells
    rw [List.take_append_of_le_length (by rw [bcells_length]; omega), List.take_of_length_le (by rw [bcells_length]; omega)]
  rwa [e] at this
theorem hex_text32 (l : List UInt8) (A : Option Addr) (c : Nat) (w : World) (hr : Rd w w.heap.size A (bcells l)) (hl : l.length = 32) :
    Calls Tryd.prog 72 #[.slice A 32 c] w fun e w' => e = .returned (.string ⟨(hexOf l).toArray⟩) ∧ Below w.heap.size w w' := by
  have := hex_text l A c w hr (by omega)
  rwa [hl] at this
set_option maxRecDepth 100000 in
set_option maxHeartbeats 400000 in
theorem text_any (h : List UInt8) (k : Int) (w : World) (hh : h.length = 32) :
    Calls Tryd.prog 68 #[hkv h k] w fun e w' => e = .returned (.string ⟨(keyText h k).toArray⟩) ∧ Below w.heap.size w w' := by
  have hck : (w.alloc (.cells (hkCells h k).toArray 26)).cell? ⟨w.heap.size, 32, none⟩ = some (.int .i64 k) := by
    rw [cell_of_row _ _ _ _ _ _ (Go.heap_alloc_new w _), ← Array.getElem?_toList]
    exact hkCells_get h k hh
  have hgk : (hkCells h k)[32]? = some (.int .i64 k) := hkCells_get h k hh
  have hlk : (hkCells h k).length = 33 := by rw [hkCells_length, hh]
  have HH := Lib.hid hh
  clear hh
  rcases Bool.eq_false_or_eq_true (kOk k) with hb | hb
  · have HB := Lib.hid hb
    clear hb
    go_enter Tryd.func68, Tryd.ntmps68
    go_wp2_with fail
    refine (right_any k _).mono ?_
    rintro e w1 ⟨rfl, rfl⟩
    rw [HB.out]
    go_wp2_with fail
    refine Text.wp_grow [2, 6] [5] [] (by kernel_rfl) (by kernel_rfl) ?_
    refine Text.wpS_seg 2 _ _ _ _ (by decide) (fun Q' hQ' => ?_)
    simp only [List.take_succ_cons, List.take_zero]
    go_wp2_with fail
    simp only [Nat.zero_add, List.drop_succ_cons, List.drop_zero]
    refine Text.wpS_one (fun Q' hQ' => ?_)
    go_wp2_with fail
    have hrow : Rd (w.alloc (.cells (hkCells h k).toArray 26)) (w.heap.size + 1) (some ⟨w.heap.size, 0, none⟩) (hkCells h k) := by
      have := Rd.row (w := w.alloc (.cells (hkCells h k).toArray 26)) (B := w.heap.size + 1) (Go.heap_alloc_new w _) (by omega)
      simpa using this
    refine (hex_text32 h (some ⟨w.heap.size, 0, none⟩) 32 _ (by have := (rd_hash hrow).below (Below.refl _ _).drew; simpa using this) HH.out).mono ?_
    rintro e w2 ⟨rfl, hb2⟩
    have hb2' : Below w.heap.size w w2 := ((Below.refl _ _).alloc (Nat.le_refl _) _).trans ((below_drew hb2).mono (by simp))
    have hck2 : w2.cell? ⟨w.heap.size, 32, none⟩ = some (.int .i64 k) := (hb2.cell (p := ⟨w.heap.size, 32, none⟩) (by show w.heap.size < (w.alloc _).heap.size; simp)).trans hck
    have HB2 := Lib.hid hb2
    have HB2' := Lib.hid hb2'
    clear hb2 hb2' hrow
    obtain ⟨sh, hsh⟩ : ∃ sh : ByteArray, sh = ⟨(hexOf h).toArray⟩ := ⟨_, rfl⟩
    have hsz : sh.size ≤ 64 := by
      rw [hsh]
      show (hexOf h).toArray.size ≤ 64
      have := hexOf_length h
      have := HH.out
      simp; omega
    rw [← hsh]
    have HSH := Lib.hid hsh
    clear hsh
    go_wp2_with fail
    refine ⟨HB2.out, ?_⟩
    refine Text.wpS_seg 3 _ _ _ _ (by decide) (fun Q' hQ' => ?_)
    simp only [List.take_succ_cons, List.take_zero]
    go_wp2_with fail
    simp only [List.drop_succ_cons, List.drop_zero]
    refine Text.wpS_one (fun Q' hQ' => ?_)
    go_wp2_with fail
    refine (itoa_small k _ HB.out).mono ?_
    rintro e w3 ⟨rfl, rfl⟩
    go_wp2_with fail
    refine ⟨HB2.out, ?_⟩
    refine Text.wpS_seg 2 _ _ _ _ (by decide) (fun Q' hQ' => ?_)
    simp only [List.take_succ_cons, List.take_zero]
    go_wp2_with fail
    refine ⟨by rfl, ⟨fun _ => ⟨_, _, rfl, hck⟩, trivial⟩, ?_⟩
    go_wp2
    go_ret
    refine ⟨rt1 (vstr ?_), HB2'.out⟩
    unfold keyText
    rw [HB.out, if_pos rfl, HSH.out]
    apply ByteArray.ext
    simp
  · have HB := Lib.hid hb
    clear hb
    go_enter Tryd.func68, Tryd.ntmps68
    go_wp2_with fail
    refine (right_any k _).mono ?_
    rintro e w1 ⟨rfl, rfl⟩
    rw [HB.out]
    go_wp2
    go_ret
    refine ⟨rt1 (vstr ?_), (Below.refl _ _).alloc (Nat.le_refl _) _⟩
    unfold keyText
    rw [HB.out]
    rfl

theorem may_any (h : List UInt8) (k : Int) (w : World) (hh : h.length = 32) :
    Calls Tryd.prog 36 #[hkv h k] w fun e w' => e = .returned (.bool (kOk k)) ∧ Below w.heap.size w w' := by
  have hck : (w.alloc (.cells (hkCells h k).toArray 26)).cell? ⟨w.heap.size, 32, none⟩ = some (.int .i64 k) := by
    rw [cell_of_row _ _ _ _ _ _ (Go.heap_alloc_new w _), ← Array.getElem?_toList]
    exact hkCells_get h k hh
  have hgk : (hkCells h k)[32]? = some (.int .i64 k) := hkCells_get h k hh
  have hlk : (hkCells h k).length = 33 := by rw [hkCells_length, hh]
  by_cases h1 : 1 ≤ k
  · by_cases h2 : k ≤ 4
    · have HK := Lib.hid (show kOk k = true by unfold kOk; simp; omega)
      go_enter Tryd.func36, Tryd.ntmps36
      go_wp2
      go_ret
      exact ⟨rt1 (vbool HK.out.symm), (Below.refl _ _).alloc (Nat.le_refl _) _⟩
    · have HK := Lib.hid (show kOk k = false by unfold kOk; simp; omega)
      go_enter Tryd.func36, Tryd.ntmps36
      go_wp2
      go_ret
      exact ⟨rt1 (vbool HK.out.symm), (Below.refl _ _).alloc (Nat.le_refl _) _⟩
  · have HK := Lib.hid (show kOk k = false by unfold kOk; simp; omega)
    go_enter Tryd.func36, Tryd.ntmps36
    go_wp2
    go_ret
    exact ⟨rt1 (vbool HK.out.symm), (Below.refl _ _).alloc (Nat.le_refl _) _⟩
def digStr : ByteArray := ⟨#[48, 49, 50, 51, 52, 53, 54, 55, 56, 57, 97, 98, 99, 100, 101, 102]⟩
theorem digStr_at (x : Nat) (hx : x < 16) : digStr.extract x (x + 1) = ⟨#[(digAt x).toNat.toUInt8]⟩ := by
  have h : ∀ j : Fin 16, (digStr.extract j.val (j.val + 1)).data = #[(digAt j.val).toNat.toUInt8] := by decide +kernel
  apply ByteArray.ext
  exact h ⟨x, hx⟩
set_option maxRecDepth 100000 in
set_option maxHeartbeats 400000 in
theorem digits_any (l : List UInt8) (w : World) (hl : l.length = 32) :
    Calls Tryd.prog 67 #[hashv l] w fun e w' => e = .returned (.string ⟨(hexOf l).toArray⟩) ∧ Below w.heap.size w w' := by
  have hlb : (bcells l).length = 32 := by rw [bcells_length, hl]
  have HL := Lib.hid hl
  clear hl
  go_enter Tryd.func67, Tryd.ntmps67
  go_wp2_with fail
  obtain ⟨D, hD⟩ : ∃ D, D = digStr := ⟨_, rfl⟩
  have hDs : D.size = 16 := by rw [hD]; rfl
  have hD2 : ({ data := #[48, 49, 50, 51, 52, 53, 54, 55, 56, 57, 97, 98, 99, 100, 101, 102] } : ByteArray) = D := hD.symm
  rw [hD2]
  have HD := Lib.hid hD
  clear hD hD2
  go_loopw [4, 5] (fun v4 v5 wr => ∃ (i : Nat) (s : ByteArray), i ≤ 32 ∧ v5 = .int .i64 i ∧ v4 = .string s ∧ s.size ≤ 64 ∧ Hid (s = ⟨(hexOf (l.take i)).toArray⟩) ∧ Hid (Below (w.heap.size + 1) (w.alloc (.cells (bcells l).toArray 24)) wr)) (fun _ v5 _ => 32 - (intOf v5).toNat)
  case atStart => exact ⟨0, ⟨#[]⟩, by omega, rfl, rfl, by decide, rfl, (Below.refl _ _)⟩
  case round =>
    obtain ⟨i, s, hi, rfl, rfl, hs, hse, hbr⟩ := hrel
    by_cases hlt : i < 32
    · have hlt2 : i < l.length := by have := HL.out; omega
      have hcell : wr.cell? ⟨w.heap.size, i, none⟩ = some (.int .u8 (l[i].toNat : Nat)) := by
        refine (hbr.out.cell (p := ⟨w.heap.size, i, none⟩) (by show w.heap.size < _; omega)).trans ?_
        rw [cell_of_row _ _ _ _ _ _ (Go.heap_alloc_new w _), ← Array.getElem?_toList, List.getElem?_eq_getElem (by rw [bcells_length]; exact hlt2)]
        simp [bcells, bcell]
      have hsn := Lib.hid (hexOf_snoc l i hlt2)
      obtain ⟨y, hy⟩ : ∃ y, y = l[i].toNat := ⟨_, rfl⟩
      have hy8 : y < 256 := by rw [hy]; exact l[i].toNat_lt
      rw [← hy] at hcell
      have HY := Lib.hid hy
      clear hy
      have HE1 := Lib.hid (show D.extract (y / 16) (y / 16 + 1) = ⟨#[(digAt (y / 16)).toNat.toUInt8]⟩ by rw [HD.out]; exact digStr_at _ (by omega))
      have HE2 := Lib.hid (show D.extract (y % 16) (y % 16 + 1) = ⟨#[(digAt (y % 16)).toNat.toUInt8]⟩ by rw [HD.out]; exact digStr_at _ (by omega))
      go_wp2_with fail
      refine Text.wp_text [] (by kernel_rfl) (by kernel_rfl) (fun Q' hQ' => ?_)
      go_wp2
      refine ⟨by rfl, ?_⟩
      have HSN := Lib.hid (show s ++ D.extract (y / 16) (y / 16 + 1) ++ D.extract (y % 16) (y % 16 + 1) = ⟨(hexOf (l.take (i + 1))).toArray⟩ by
        rw [HE1.out, HE2.out, hse.out, hsn.out]
        apply ByteArray.ext
        simp [hex2, HY.out])
      go_wp2
      go_roundw
      case rel =>
        refine ⟨i + 1, _, by omega, by go_num, rfl, ?_, HSN.out, hbr.out.drew⟩
        rw [HSN.out]
        show (hexOf (l.take (i + 1))).toArray.size ≤ 64
        have := hexOf_length (l.take (i + 1))
        have h2 : (l.take (i + 1)).length ≤ i + 1 := List.length_take_le _ _
        simp; omega
      case measure => simp [intOf]; omega
    · have hi32 : i = 32 := by omega
      subst hi32
      have hlt2 : l.take 32 = l := List.take_of_length_le (by have := HL.out; omega)
      have HT := Lib.hid hlt2
      clear hlt2
      go_wp2
      go_ret
      refine ⟨rt1 (vstr ?_), ((Below.refl _ _).alloc (Nat.le_refl _) _).trans (hbr.out.mono (by omega))⟩
      rw [hse.out, HT.out]
end Go.Proofs.YtplbcbamnjnhlaaDoor
/- Records as values: how they lie in memory, how they are built; the contract of the law's Plain. -/
namespace Go.Proofs.YtplbcbamnjnhlaaDoor
open Go.RowKit

section
variable {w : World} {g : Nat} {t : TypeId} {fr : Nat × Nat} {kind seq : Int} {kh mh : List UInt8} {kk ms : Int} {v : Value}
/-- a record in block g -/
structure RecAt (w : World) (g : Nat) (t : TypeId) (kind seq : Int) (kh : List UInt8) (kk : Int) (mh : List UInt8) (ms : Int) (v : Value) : Prop where
  blk : w.heap[g]? = some (.cells (recCells kind seq kh kk mh ms v).toArray t (0, 0))
  hk : kh.length = 32
  hm : mh.length = 32
theorem rec_split1 : recCells kind seq kh kk mh ms v = [.int .i64 kind, .int .i64 seq] ++ (hkCells kh kk ++ (hkCells mh ms ++ [v])) := rfl
theorem rec_split2 : recCells kind seq kh kk mh ms v = ([.int .i64 kind, .int .i64 seq] ++ hkCells kh kk) ++ (hkCells mh ms ++ [v]) := by simp [recCells]
theorem rec_split3 : recCells kind seq kh kk mh ms v = ([.int .i64 kind, .int .i64 seq] ++ hkCells kh kk) ++ (bcells mh ++ ([.int .i64 ms] ++ [v])) := by simp [recCells, hkCells]
theorem rec_split4 : recCells kind seq kh kk mh ms v = ([.int .i64 kind, .int .i64 seq] ++ hkCells kh kk ++ bcells mh) ++ ([.int .i64 ms, v] ++ []) := by simp [recCells, hkCells]
theorem rec_split5 : recCells kind seq kh kk mh ms v = ([.int .i64 kind, .int .i64 seq] ++ bcells kh) ++ ([.int .i64 kk] ++ (hkCells mh ms ++ [v])) := by simp [recCells, hkCells]
theorem RecAt.kind_ (h : RecAt w g t kind seq kh kk mh ms v) : w.cell? ⟨g, 0, none⟩ = some (.int .i64 kind) := by rw [cell_of_row _ _ _ _ _ _ h.blk]; rfl
theorem RecAt.seq_ (h : RecAt w g t kind seq kh kk mh ms v) : w.cell? ⟨g, 1, none⟩ = some (.int .i64 seq) := by rw [cell_of_row _ _ _ _ _ _ h.blk]; rfl
theorem RecAt.kk_ (h : RecAt w g t kind seq kh kk mh ms v) : w.cell? ⟨g, 34, none⟩ = some (.int .i64 kk) := by
  have := cell_part h.blk (congrArg List.toArray rec_split5) 0 (.int .i64 kk) rfl
  simpa [bcells_length, h.hk] using this
theorem RecAt.size_ (h : RecAt w g t kind seq kh kk mh ms v) : w.cell? ⟨g, 67, none⟩ = some (.int .i64 ms) := by
  have := cell_part h.blk (congrArg List.toArray rec_split4) 0 (.int .i64 ms) rfl
  simpa [bcells_length, hkCells_length, h.hk, h.hm] using this
theorem RecAt.keys_ (h : RecAt w g t kind seq kh kk mh ms v) : w.cell? ⟨g, 68, none⟩ = some v := by
  have := cell_part h.blk (congrArg List.toArray rec_split4) 1 v rfl
  simpa [bcells_length, hkCells_length, h.hk, h.hm] using this
theorem RecAt.key_ (h : RecAt w g t kind seq kh kk mh ms v) : ∀ j u, (hkCells kh kk)[j]? = some u → w.cell? ⟨g, 2 + j, none⟩ = some u := fun j u hu => cell_part h.blk (congrArg List.toArray rec_split1) j u hu
theorem RecAt.mark_ (h : RecAt w g t kind seq kh kk mh ms v) : ∀ j u, (hkCells mh ms)[j]? = some u → w.cell? ⟨g, 35 + j, none⟩ = some u := fun j u hu => by
  have := cell_part h.blk (congrArg List.toArray rec_split2) j u hu
  rwa [show ([Value.int .i64 kind, .int .i64 seq] ++ hkCells kh kk).length = 35 by simp [hkCells_length, h.hk]] at this
theorem RecAt.hash_ (h : RecAt w g t kind seq kh kk mh ms v) : ∀ j u, (bcells mh)[j]? = some u → w.cell? ⟨g, 35 + j, none⟩ = some u := fun j u hu => by
  have := cell_part h.blk (congrArg List.toArray rec_split3) j u hu
  rwa [show ([Value.int .i64 kind, .int .i64 seq] ++ hkCells kh kk).length = 35 by simp [hkCells_length, h.hk]] at this
theorem RecAt.all_ (h : RecAt w g t kind seq kh kk mh ms v) : ∀ j u, (recCells kind seq kh kk mh ms v)[j]? = some u → w.cell? ⟨g, 0 + j, none⟩ = some u := fun j u hu => by
  rw [Nat.zero_add, cell_of_row _ _ _ _ _ _ h.blk, ← Array.getElem?_toList]
  exact hu
theorem RecAt.lt (h : RecAt w g t kind seq kh kk mh ms v) : g < w.heap.size := (Array.getElem?_eq_some_iff.1 h.blk).1
theorem RecAt.later {w' : World} (h : RecAt w g t kind seq kh kk mh ms v) (hb : Below w.heap.size w w') : RecAt w' g t kind seq kh kk mh ms v := ⟨(hb.block g h.lt).trans h.blk, h.hk, h.hm⟩
theorem RecAt.new (w : World) (hk : kh.length = 32) (hm : mh.length = 32) : RecAt (w.alloc (.cells (recCells kind seq kh kk mh ms v).toArray t)) w.heap.size t kind seq kh kk mh ms v := ⟨Go.heap_alloc_new w _, hk, hm⟩
end
theorem key_size (h : List UInt8) (k : Int) (hh : h.length = 32) : (Tryd.prog.info? 26).map (·.size) = some (hkCells h k).length := by rw [hkCells_length, hh]; kernel_rfl
theorem mark_size (h : List UInt8) (k : Int) (hh : h.length = 32) : (Tryd.prog.info? 28).map (·.size) = some (hkCells h k).length := by rw [hkCells_length, hh]; kernel_rfl
theorem hash_size (h : List UInt8) (hh : h.length = 32) : (Tryd.prog.info? 24).map (·.size) = some (bcells h).length := by rw [bcells_length, hh]; kernel_rfl
theorem rec_size (kind seq : Int) (kh : List UInt8) (kk : Int) (mh : List UInt8) (ms : Int) (v : Value) (hk : kh.length = 32) (hm : mh.length = 32) : (Tryd.prog.info? 31).map (·.size) = some (recCells kind seq kh kk mh ms v).length := by
  rw [recCells_length, hk, hm]; kernel_rfl
theorem rec32_size (kind seq : Int) (kh : List UInt8) (kk : Int) (mh : List UInt8) (ms : Int) (v : Value) (hk : kh.length = 32) (hm : mh.length = 32) : (Tryd.prog.info? 36).map (·.size) = some (recCells kind seq kh kk mh ms v).length := by
  rw [recCells_length, hk, hm]; kernel_rfl
noncomputable def recTy : TypeDesc := .struct (Tryd.prog.fieldsOf 31)
noncomputable def rec32Ty : TypeDesc := .struct (Tryd.prog.fieldsOf 36)
theorem recTy_u : Tryd.prog.underlying 31 = some recTy := by kernel_rfl
theorem rec32Ty_u : Tryd.prog.underlying 36 = some rec32Ty := by kernel_rfl

theorem hkCells_one (l : List UInt8) (k : Int) : ∀ u ∈ hkCells l k, u.oneCell' = true := fun u hu => by
  rcases List.mem_append.1 hu with h | h
  · exact bcells_one l u h
  · rw [List.mem_singleton.1 h]; rfl
theorem recCells_one (kind seq : Int) (kh : List UInt8) (kk : Int) (mh : List UInt8) (ms : Int) (A : Option Addr) (n c : Nat) : ∀ u ∈ recCells kind seq kh kk mh ms (.slice A n c), u.oneCell' = true := fun u hu => by
  rcases List.mem_append.1 hu with h | h
  · rcases List.mem_cons.1 h with rfl | h
    · rfl
    · rw [List.mem_singleton.1 h]; rfl
  rcases List.mem_append.1 h with h | h
  · exact hkCells_one _ _ u h
  rcases List.mem_append.1 h with h | h
  · exact hkCells_one _ _ u h
  · rw [List.mem_singleton.1 h]; rfl

/-! built out of parts -/
theorem zip_fold (off : Nat) : ∀ (vs : List Value) (k : Nat) (pre Z : List Value), pre.length = off + k → vs.length ≤ Z.length →
    (vs.zipIdx k).foldl (fun (cs : Array Value) (x : Value × Nat) => cs.setIfInBounds (off + x.2) x.1) (pre ++ Z).toArray = (pre ++ vs ++ Z.drop vs.length).toArray
  | [], k, pre, Z, _, _ => by simp
  | u :: vs, k, pre, [], _, h => by simp at h
  | u :: vs, k, pre, z :: Z, hp, h => by
    rw [List.zipIdx_cons, List.foldl_cons]
    have e : (pre ++ z :: Z).toArray.setIfInBounds (off + (u, k).2) (u, k).1 = ((pre ++ [u]) ++ Z).toArray := by
      simp only
      rw [List.setIfInBounds_toArray]
      congr 1
      rw [← hp, List.set_append_right _ _ (by omega)]
      simp
    rw [e, zip_fold off vs (k + 1) (pre ++ [u]) Z (by simp; omega) (by simpa using h)]
    simp
theorem fill_step {place : Nat → Option (Nat × Nat)} {i : Nat} {v : Value} {vs : List Value} {rest : List (Nat × Value)} {pre Z : List Value} (hv : v.cells = vs.toArray) (hp : place i = some (pre.length, vs.length)) (hl : vs.length ≤ Z.length) :
    Instr.fill place (pre ++ Z).toArray ((i, v) :: rest) = Instr.fill place ((pre ++ vs) ++ Z.drop vs.length).toArray rest := by
  rw [Instr.fill, hp]
  simp only [hv]
  rw [if_neg (by simp; omega)]
  congr 1
  have h := zip_fold pre.length vs 0 pre Z rfl hl
  rw [← h, ← Array.foldl_toList]
  simp

def z32 : List UInt8 := List.replicate 32 0
theorem z32_len : z32.length = 32 := rfl
theorem zero_rec (w : World) : (zeroValue 31).run Tryd.prog w = .ok (recv 0 0 z32 0 z32 0 (.slice none 0 0)) w := by kernel_rfl
theorem zero_rec32 (w : World) : (zeroValue 36).run Tryd.prog w = .ok (recv 0 0 z32 0 z32 0 (.slice none 0 0)) w := by kernel_rfl
theorem zero_key (w : World) : (zeroValue 26).run Tryd.prog w = .ok (hkv z32 0) w := by kernel_rfl
theorem fields_rec32 (w : World) : ((Tryd.prog.fieldsOf 36).mapM fun (f : Field) => do pure (f.offset, ← sizeOf f.type)).run Tryd.prog w = .ok #[(0, 1), (1, 1), (2, 33), (35, 32), (67, 1), (68, 1)] w := by kernel_rfl
theorem fields_rec (w : World) : ((Tryd.prog.fieldsOf 31).mapM fun (f : Field) => do pure (f.offset, ← sizeOf f.type)).run Tryd.prog w = .ok #[(0, 1), (1, 1), (2, 33), (35, 33), (68, 1)] w := by kernel_rfl
theorem fields_key (w : World) : ((Tryd.prog.fieldsOf 26).mapM fun (f : Field) => do pure (f.offset, ← sizeOf f.type)).run Tryd.prog w = .ok #[(0, 32), (32, 1)] w := by kernel_rfl
theorem build_rec32 (kind seq : Int) (kh : List UInt8) (kk : Int) (mh : List UInt8) (ms : Int) (A : Option Addr) (n c : Nat) (hk : kh.length = 32) (hm : mh.length = 32) (w : World) :
    (Instr.build 36 #[(0, .int .i64 kind), (1, .int .i64 seq), (2, hkv kh kk), (3, hashv mh), (4, .int .i64 ms), (5, .slice A n c)]).run Tryd.prog w = .ok (recv kind seq kh kk mh ms (.slice A n c)) w := by
  have hz : (recCells 0 0 z32 0 z32 0 (.slice none 0 0)).length = 69 := rfl
  unfold Instr.build
  simp only [Sem.run_bind, zero_rec32, Result.andThen_ok, recv_cells, run_underlying rec32Ty_u, rec32Ty, fields_rec32]
  have h0 := fill_step (place := fun i => (#[((0 : Nat), (1 : Nat)), (1, 1), (2, 33), (35, 32), (67, 1), (68, 1)] : Array (Nat × Nat))[i]?) (i := 0) (v := .int .i64 kind) (vs := [.int .i64 kind]) (pre := []) (Z := recCells 0 0 z32 0 z32 0 (.slice none 0 0)) rfl rfl (by simp [hz])
    (rest := [(1, .int .i64 seq), (2, hkv kh kk), (3, hashv mh), (4, .int .i64 ms), (5, .slice A n c)])
  have hf : Instr.fill (fun i => (#[((0 : Nat), (1 : Nat)), (1, 1), (2, 33), (35, 32), (67, 1), (68, 1)] : Array (Nat × Nat))[i]?) (recCells 0 0 z32 0 z32 0 (.slice none 0 0)).toArray [(0, .int .i64 kind), (1, .int .i64 seq), (2, hkv kh kk), (3, hashv mh), (4, .int .i64 ms), (5, .slice A n c)] = some (recCells kind seq kh kk mh ms (.slice A n c)).toArray := by
    rw [List.nil_append] at h0
    rw [h0, fill_step (vs := [.int .i64 seq]) rfl rfl (by simp [hz]), fill_step (vs := hkCells kh kk) rfl (by simp [hkCells_length, hk]) (by simp [hz, hkCells_length, hk]), fill_step (vs := bcells mh) rfl (by simp [hkCells_length, bcells_length, hk, hm]) (by simp [hz, hkCells_length, bcells_length, hk, hm]),
      fill_step (vs := [.int .i64 ms]) rfl (by simp [hkCells_length, bcells_length, hk, hm]) (by simp [hz, hkCells_length, bcells_length, hk, hm]), fill_step (vs := [.slice A n c]) rfl (by simp [hkCells_length, bcells_length, hk, hm]) (by simp [hz, hkCells_length, bcells_length, hk, hm])]
    rw [Instr.fill]
    congr 2
    rw [List.drop_eq_nil_of_le (by simp [hz, hkCells_length, bcells_length, hk, hm])]
    simp [recCells, hkCells]
  rw [hf]
  rfl
end Go.Proofs.YtplbcbamnjnhlaaDoor
/- The contract of the law's Plain. -/
namespace Go.Proofs.YtplbcbamnjnhlaaDoor
open Go.RowKit

set_option maxRecDepth 100000 in
set_option maxHeartbeats 1000000 in
theorem plain_any (kind seq : Int) (kh : List UInt8) (kk : Int) (mh : List UInt8) (ms : Int) (A : Option Addr) (n c : Nat) (w : World) (hk : kh.length = 32) (hm : mh.length = 32) :
    Calls Tryd.prog 8 #[recv kind seq kh kk mh ms (.slice A n c)] w fun e w' => e = .returned (recv kind seq kh kk mh ms (.slice A n c)) ∧ Below w.heap.size w w' := by
  go_enter Tryd.func8, Tryd.ntmps8
  go_wp2_with (refine stop_at (some 1) rfl ?_)
  refine Stop.go (wpList_box rfl _ rfl rfl rfl (wpList_alloc rfl _ rfl zero_rec32 rfl ?_))
  have hr : RecAt ((w.alloc (.cells (recCells kind seq kh kk mh ms (.slice A n c)).toArray 31)).alloc (.cells (recCells 0 0 z32 0 z32 0 (.slice none 0 0)).toArray 36)) w.heap.size 31 kind seq kh kk mh ms (.slice A n c) :=
    (RecAt.new w hk hm).later ((Below.refl _ _).alloc (Nat.le_refl _) _)
  have c0 := hr.kind_
  have c1 := hr.seq_
  have c2 := hr.size_
  have c3 := hr.keys_
  have HR := Lib.hid hr
  clear hr
  go_wp2_with (refine stop_at (some 3) rfl ?_)
  refine Stop.go (wpList_seg 5 _ _ _ (fun Q' hQ' => ?_))
  simp only [List.take_succ_cons, List.take_zero]
  go_wp2_with fail
  simp only [List.drop_succ_cons, List.drop_zero]
  refine Stop.go (wpList_load_agg rfl 26 rfl rfl keyTy.ut rfl (key_size _ _ hk) HR.out.key_ ?_)
  refine wpList_seg 2 _ _ _ (fun Q' hQ' => ?_)
  simp only [List.take_succ_cons, List.take_zero]
  go_wp2_with fail
  simp only [List.drop_succ_cons, List.drop_zero]
  refine Stop.go (wpList_load_agg rfl 24 rfl rfl hashTy.ua rfl (hash_size _ hm) HR.out.hash_ ?_)
  refine wpList_seg 5 _ _ _ (fun Q' hQ' => ?_)
  simp only [List.take_succ_cons, List.take_zero]
  go_wp2_with fail
  simp only [List.drop_succ_cons, List.drop_zero]
  refine Stop.go (wpList_build rfl 36 rfl (vs := #[(0, .int .i64 kind), (1, .int .i64 seq), (2, hkv kh kk), (3, hashv mh), (4, .int .i64 ms), (5, .slice A n c)]) (by rfl) (build_rec32 _ _ _ _ _ _ _ _ _ hk hm _) ?_)
  refine wpList_store_agg rfl 36 rfl rfl rfl (store_new2 (Array.size_push _).symm (recv_cells ..) (rec32_size _ _ _ _ _ _ _ hk hm) (by rw [List.size_toArray, recCells_length, recCells_length, hk, hm]; rfl) (recCells_one _ _ _ _ _ _ _ _ _)) ?_
  go_wp2_with fail
  refine bodyPost_ret (results_cell_row rfl _ _ (w.heap.size + 1) 36 (recCells kind seq kh kk mh ms (.slice A n c)).toArray (0, 0) _ rfl (Go.heap_alloc2_new w _ _) rec32Ty_u rfl (rec32_size _ _ _ _ _ _ _ hk hm)) rfl ?_
  exact ⟨rfl, ((Below.refl _ _).alloc (Nat.le_refl _) _).alloc (Nat.le_of_lt (by show _ < (Array.push _ _).size; rw [Array.size_push]; exact Nat.lt_succ_self _)) _⟩
end Go.Proofs.YtplbcbamnjnhlaaDoor
/- Arrays of bytes, and a hash with a number (a key), as arguments opened. No program is named here. -/
namespace Go.Proofs.YtplbcbamnjnhlaaDoor
open Go.ChangeShapes Go.WideShapes Go.ChangeAt Go.RowKit

section
variable {H : Type} {enc : TypeId × Value → H} {P : Program}
theorem opens_bytes {n : Nat} {t e : TypeId} (ht : P.underlying t = some (.array n e)) (he : P.underlying e = some (.int .u8)) (h1 : P.cellsOf e = 1) (hn : P.cellsOf t = n) : Opens enc P (eBytes n) t := by
  intro W fuel cs x h
  obtain ⟨xs, m, _, _, hc, hl, hel⟩ := DataW.trod_array ht h
  rw [hn] at hc
  rw [h1] at hel
  have hex : ∀ i, i < n → ∃ (u : Value) (b : UInt8), cs[i]? = some u ∧ u = bcell b := by
    intro i hi
    have h2 := hel i hi
    rw [List.getElem?_eq_getElem (by omega), Nat.mul_one] at h2
    obtain ⟨b, hb⟩ := opens_byte he W m _ _ h2
    have hb' : (cs.drop i).take 1 = [bcell b] := hb
    refine ⟨bcell b, b, ?_, rfl⟩
    have h3 : ((cs.drop i).take 1)[0]? = some (bcell b) := by rw [hb']; rfl
    rw [List.getElem?_take, if_pos (by omega), List.getElem?_drop] at h3
    simpa using h3
  obtain ⟨us, bs, l1, l2, hall⟩ := choose_list n (fun i (u : Value) (b : UInt8) => cs[i]? = some u ∧ u = bcell b) hex
  refine ⟨bs, ?_, l2⟩
  apply List.ext_getElem?
  intro i
  rcases Nat.lt_or_ge i n with hi | hi
  · obtain ⟨q1, q2⟩ := hall i _ _ (List.getElem?_eq_getElem (by omega)) (List.getElem?_eq_getElem (by omega))
    rw [q1, q2]
    unfold bcells
    rw [List.getElem?_map, List.getElem?_eq_getElem (by omega)]
    rfl
  · rw [List.getElem?_eq_none (by omega), List.getElem?_eq_none (by rw [bcells_length]; omega)]
/-- a hash of 32 bytes and a number -/
def eKey : Elt (List UInt8 × Int) := eProd (eBytes 32) eInt
theorem eKey_rep {w : World} {B : Nat} {cs : List Value} {x : List UInt8 × Int} (h : eKey.rep w B cs x) : cs = hkCells x.1 x.2 ∧ x.1.length = 32 ∧ -9223372036854775808 ≤ x.2 ∧ x.2 ≤ 9223372036854775807 := by
  obtain ⟨c1, c2, rfl, ⟨rfl, h2⟩, rfl, h3, h4⟩ := h
  exact ⟨rfl, h2, h3, h4⟩
theorem eKey_of {w : World} {B : Nat} {x : List UInt8 × Int} (h1 : x.1.length = 32) (h2 : -9223372036854775808 ≤ x.2) (h3 : x.2 ≤ 9223372036854775807) : eKey.rep w B (hkCells x.1 x.2) x :=
  ⟨_, _, rfl, ⟨rfl, h1⟩, rfl, h2, h3⟩
end
end Go.Proofs.YtplbcbamnjnhlaaDoor
/- Contracts of the reference's Text (17) and Less (09), and of key.Less, for any keys, every world. -/
namespace Go.Proofs.YtplbcbamnjnhlaaDoor
open Go.RowKit

set_option maxRecDepth 100000 in
set_option maxHeartbeats 400000 in
theorem refText_any (h : List UInt8) (k : Int) (w : World) (hh : h.length = 32) :
    Calls Tryd.prog 57 #[hkv h k] w fun e w' => e = .returned (.string ⟨(keyText h k).toArray⟩) ∧ Below w.heap.size w w' := by
  have hck : (w.alloc (.cells (hkCells h k).toArray 26)).cell? ⟨w.heap.size, 32, none⟩ = some (.int .i64 k) := by
    rw [cell_of_row _ _ _ _ _ _ (Go.heap_alloc_new w _), ← Array.getElem?_toList]
    exact hkCells_get h k hh
  have hgk : (hkCells h k)[32]? = some (.int .i64 k) := hkCells_get h k hh
  have hi32 : (Tryd.prog.info? 24).map (·.size) = some (bcells h).length := by rw [bcells_length, hh]; kernel_rfl
  have hcs : ∀ j u, (bcells h)[j]? = some u → (w.alloc (.cells (hkCells h k).toArray 26)).drew.cell? ⟨w.heap.size, 0 + j, none⟩ = some u := by
    intro j u hu
    rw [Nat.zero_add]
    refine (cell_of_row _ _ _ _ _ _ (Go.heap_alloc_new w _)).trans ?_
    rw [← Array.getElem?_toList]
    simp only [hkCells]
    rw [List.getElem?_append_left (List.getElem?_eq_some_iff.1 hu).1]
    exact hu
  obtain ⟨u0, hu0⟩ : ∃ u0, (w.alloc (.cells (hkCells h k).toArray 26)).cell? ⟨w.heap.size, 0, none⟩ = some u0 := ⟨_, hcs 0 _ (List.getElem?_eq_getElem (by rw [bcells_length]; omega))⟩
  have HCS := Lib.hid hcs
  have HU0 := Lib.hid hu0
  have HI := Lib.hid hi32
  clear hcs hu0 hi32
  have HH := Lib.hid hh
  clear hh
  rcases Bool.eq_false_or_eq_true (kOk k) with hb | hb
  · have hq : k = 1 ∨ k = 2 ∨ k = 3 ∨ k = 4 := by unfold kOk at hb; simp at hb; omega
    have HB := Lib.hid hb
    clear hb
    rcases hq with rfl | rfl | rfl | rfl
    all_goals
      go_enter Tryd.func57, Tryd.ntmps57
      go_wp2_with fail
      refine Text.wp_grow [2] [1, 6, 8] [] (by kernel_rfl) (by kernel_rfl) ?_
      refine Text.wpS_seg 1 _ _ _ _ (by decide) (fun Q' hQ' => ?_)
      simp only [List.take_succ_cons, List.take_zero]
      go_wp2_with fail
      try simp only [Nat.zero_add, List.drop_succ_cons, List.drop_zero]
      refine Text.wpS_seg 1 _ _ _ _ (by decide) (fun Q' hQ' => ?_)
      simp only [List.take_succ_cons, List.take_zero]
      refine wpList_load_agg rfl 24 rfl rfl hashTy.ua rfl HI.out HCS.out ?_
      go_wp2_with fail
      try simp only [Nat.zero_add, List.drop_succ_cons, List.drop_zero]
      refine Text.wpS_one (fun Q' hQ' => ?_)
      go_wp2_with fail
      refine (digits_any h _ HH.out).mono ?_
      rintro e w2 ⟨rfl, hb2⟩
      have hb2' : Below w.heap.size w w2 := ((Below.refl _ _).alloc (Nat.le_refl _) _).trans ((below_drew hb2).mono (by simp))
      have hck2 : w2.cell? ⟨w.heap.size, 32, none⟩ = _ := (hb2.cell (p := ⟨w.heap.size, 32, none⟩) (by show w.heap.size < (w.alloc _).heap.size; simp)).trans hck
      have HB2 := Lib.hid hb2
      have HB2' := Lib.hid hb2'
      clear hb2 hb2'
      obtain ⟨sh, hsh⟩ : ∃ sh : ByteArray, sh = ⟨(hexOf h).toArray⟩ := ⟨_, rfl⟩
      have hsz : sh.size ≤ 64 := by
        rw [hsh]
        show (hexOf h).toArray.size ≤ 64
        have := hexOf_length h
        have := HH.out
        simp; omega
      rw [← hsh]
      have HSH := Lib.hid hsh
      clear hsh
      go_wp2_with fail
      refine ⟨HB2.out, ?_⟩
      refine Text.wpS_seg 10 _ _ _ _ (by decide) (fun Q' hQ' => ?_)
      simp only [List.take_succ_cons, List.take_zero]
      go_wp2_with fail
      refine ⟨by rfl, ⟨fun _ => ⟨_, _, rfl, HU0.out⟩, fun _ => ⟨_, _, rfl, hck⟩, fun _ => ⟨_, _, rfl, hck⟩, trivial⟩, ?_⟩
      go_wp2
      go_ret
      refine ⟨rt1 (vstr ?_), HB2'.out⟩
      unfold keyText
      rw [HB.out, if_pos rfl, HSH.out]
      apply ByteArray.ext
      simp
  · have hq : k < 1 ∨ 4 < k := by unfold kOk at hb; simp at hb; omega
    have HB := Lib.hid hb
    clear hb
    have HK := Lib.hid (show keyText h k = [] by unfold keyText; rw [HB.out]; rfl)
    rcases Int.lt_or_le k 1 with h1 | h1
    all_goals
      go_enter Tryd.func57, Tryd.ntmps57
      go_wp2
      go_ret
      exact ⟨rt1 (vstr (by rw [HK.out])), (Below.refl _ _).alloc (Nat.le_refl _) _⟩
end Go.Proofs.YtplbcbamnjnhlaaDoor
