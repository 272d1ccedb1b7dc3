/- Texts of this proof joined: Key, Rec0, Rec1, Rep2, Key2, Key3. -/
import Derived.Test.YtplbcbamnjnhlaaGreatDoorMT00
import Derived.Test.YtplbcbamnjnhlaaGreatDoorMT04
import Derived.Test.YtplbcbamnjnhlaaGreatDoorMT05
import Derived.Test.YtplbcbamnjnhlaaGreatDoorMT08
import Derived.OpenShut
import Derived.WalkLawsBesides
import Derived.Deep.QuietTactic
import Derived.BigQuiet
set_option maxRecDepth 100000
set_option maxHeartbeats 40000000
namespace Go.Proofs.YtplbcbamnjnhlaaGreatDoor
open Go.RowKit

theorem fz : qcd Tryz.prog 32 5 := ⟨by kernel_rfl, by kernel_rfl, fun _ => by kernel_rfl, fun _ => by kernel_rfl, by kernel_rfl⟩
noncomputable def pg (t i : Nat) : Field := (Tryz.prog.fieldsOf t).getD i { name := "", type := 0, offset := 0, embedded := false, tag := "", pkgPath := "", byteOffset := 0 }
theorem key_n0 : (pg 34 0).name = "Hash" := by kernel_rfl
theorem key_n1 : (pg 34 1).name = "K" := by kernel_rfl
theorem mark_n0 : (pg 36 0).name = "Hash" := by kernel_rfl
theorem mark_n1 : (pg 36 1).name = "Size" := by kernel_rfl
theorem ba : HkTy Tryz.prog 34 32 5 3 (pg 34 0) (pg 34 1) :=
 ⟨by kernel_rfl, by rw [key_n0]; decide, by rw [key_n1]; decide, by kernel_rfl, by kernel_rfl, by kernel_rfl, by kernel_rfl, by kernel_rfl, fz, by kernel_rfl, by kernel_rfl⟩
theorem jw : HkTy Tryz.prog 36 32 5 3 (pg 36 0) (pg 36 1) :=
 ⟨by kernel_rfl, by rw [mark_n0]; decide, by rw [mark_n1]; decide, by kernel_rfl, by kernel_rfl, by kernel_rfl, by kernel_rfl, by kernel_rfl, fz, by kernel_rfl, by kernel_rfl⟩

def kOk (k : Int) : Bool := decide (1 ≤ k ∧ k ≤ 4)
theorem xl (k : Int) (w : World) : Calls Tryz.prog 139 #[.int .i64 k] w fun e w' => e = .returned (.bool (kOk k)) ∧ w = w' := by
 by_cases h1 : 1 ≤ k
 ·by_cases h2 : k ≤ 4
  ·have HK := Lh (show kOk k = true by unfold kOk; simp; omega)
   go_enter Tryz.func139, Tryz.ntmps139
   go_wp2
   go_ret
   exact ⟨rt1 (bu HK.o.symm), rfl⟩
  ·have HK := Lh (show kOk k = false by unfold kOk; simp; omega)
   go_enter Tryz.func139, Tryz.ntmps139
   go_wp2
   go_ret
   exact ⟨rt1 (bu HK.o.symm), rfl⟩
 ·have HK := Lh (show kOk k = false by unfold kOk; simp; omega)
  go_enter Tryz.func139, Tryz.ntmps139
  go_wp2
  go_ret
  exact ⟨rt1 (bu HK.o.symm), rfl⟩
theorem qfn (k : Int) (w : World) (hk : kOk k = true) : Calls Tryz.prog 61 #[.int .i64 k] w fun e w' => e = .returned (.string ⟨#[UInt8.ofNat (48 + k.toNat)]⟩) ∧ w = w' := by
 have h : k = 1 ∨ k = 2 ∨ k = 3 ∨ k = 4 := by unfold kOk at hk; simp at hk; omega
 clear hk
 rcases h with rfl | rfl | rfl | rfl
 all_goals
  go_enter Tryz.func61, Tryz.ntmps61
  go_wp2
  go_ret
  exact ⟨rt1 (vstr (by kernel_rfl)), rfl⟩
def dc (h : List UInt8) (k : Int) : List UInt8 := if kOk k then jp h ++ [45, UInt8.ofNat (48 + k.toNat)] else []
theorem cg {B : Nat} {w w' : World} (h : Below B w.drew w') : Below B w w' := ⟨h.os, h.tape, h.output, h.size, h.block⟩
theorem qdm {w : World} {B : Nat} {A : Option Addr} {h : List UInt8} {k : Int} (hr : Rd w B A (af h k)) : Rd w B A (ak h) := by
 have := hr.take_ h.length
 have e : (af h k).take h.length = ak h := by
  unfold af
  rw [List.take_append_of_le_length (by rw [am]; omega), List.take_of_length_le (by rw [am]; omega)]
 rwa [e] at this
theorem qpe (l : List UInt8) (A : Option Addr) (c : Nat) (w : World) (hr : Rd w w.heap.size A (ak l)) (hl : l.length = 32) :
  Calls Tryz.prog 140 #[.slice A 32 c] w fun e w' => e = .returned (.string ⟨(jp l).toArray⟩) ∧ Below w.heap.size w w' := by
 have := hex_text l A c w hr (by omega)
 rwa [hl] at this
theorem qec (h : List UInt8) (k : Int) (w : World) (hh : h.length = 32) :
  Calls Tryz.prog 105 #[hkv h k] w fun e w' => e = .returned (.string ⟨(dc h k).toArray⟩) ∧ Below w.heap.size w w' := by
 have hck : (w.alloc (.cells (af h k).toArray 34)).cell? ⟨w.heap.size, 32, none⟩ = some (.int .i64 k) := by
  rw [cell_of_row _ _ _ _ _ _ (hzn w _), ← Array.getElem?_toList]
  exact gb h k hh
 have hgk : (af h k)[32]? = some (.int .i64 k) := gb h k hh
 have hlk : (af h k).length = 33 := by rw [ae, hh]
 have HH := Lh hh
 clear hh
 rcases Bool.eq_false_or_eq_true (kOk k) with hb | hb
 ·have HB := Lh hb
  clear hb
  go_enter Tryz.func105, Tryz.ntmps105
  go_wp2_with fail
  refine (xl k _).mono ?_
  rintro e w1 ⟨rfl, rfl⟩
  rw [HB.o]
  go_wp2_with fail
  refine Text.wp_grow [2, 6] [5] [] (by kernel_rfl) (by kernel_rfl) ?_
  refine Text.wpS_seg 2 _ _ _ _ (by decide) (fun Q' hQ' => ?_)
  simp only [T1, T0]
  go_wp2_with fail
  simp only [Nat.zero_add, List.drop_succ_cons, List.drop_zero]
  refine Text.wpS_one (fun Q' hQ' => ?_)
  go_wp2_with fail
  have hrow : Rd (w.alloc (.cells (af h k).toArray 34)) (w.heap.size + 1) (some ⟨w.heap.size, 0, none⟩) (af h k) := by
   have := Rd.row (w := w.alloc (.cells (af h k).toArray 34)) (B := w.heap.size + 1) (hzn w _) (by omega)
   simpa using this
  refine (qpe h (some ⟨w.heap.size, 0, none⟩) 32 _ (by have := (qdm hrow).below (br _ _).drew; simpa using this) HH.o).mono ?_
  rintro e w2 ⟨rfl, hb2⟩
  have hb2' : Below w.heap.size w w2 := ((br _ _).alloc (nr _) _).trans ((cg hb2).mono (by simp))
  have hck2 : w2.cell? ⟨w.heap.size, 32, none⟩ = some (.int .i64 k) := (hb2.cell (p := ⟨w.heap.size, 32, none⟩) (by show w.heap.size < (w.alloc _).heap.size; simp)).trans hck
  have HB2 := Lh hb2
  have HB2' := Lh hb2'
  clear hb2 hb2' hrow
  obtain ⟨sh, hsh⟩ : ∃ sh : ByteArray, sh = ⟨(jp h).toArray⟩ := ⟨_, rfl⟩
  have hsz : sh.size ≤ 64 := by
   rw [hsh]
   show (jp h).toArray.size ≤ 64
   have := jk h
   have := HH.o
   simp; omega
  rw [← hsh]
  have HSH := Lh hsh
  clear hsh
  go_wp2_with fail
  refine ⟨HB2.o, ?_⟩
  refine Text.wpS_seg 3 _ _ _ _ (by decide) (fun Q' hQ' => ?_)
  simp only [T1, T0]
  go_wp2_with fail
  simp only [dr1, dr0]
  refine Text.wpS_one (fun Q' hQ' => ?_)
  go_wp2_with fail
  refine (qfn k _ HB.o).mono ?_
  rintro e w3 ⟨rfl, rfl⟩
  go_wp2_with fail
  refine ⟨HB2.o, ?_⟩
  refine Text.wpS_seg 2 _ _ _ _ (by decide) (fun Q' hQ' => ?_)
  simp only [T1, T0]
  go_wp2_with fail
  refine ⟨by rfl, ⟨fun _ => ⟨_, _, rfl, hck⟩, trivial⟩, ?_⟩
  go_wp2
  go_ret
  refine ⟨rt1 (vstr ?_), HB2'.o⟩
  unfold dc
  rw [HB.o, if_pos rfl, HSH.o]
  apply ByteArray.ext
  simp
 ·have HB := Lh hb
  clear hb
  go_enter Tryz.func105, Tryz.ntmps105
  go_wp2_with fail
  refine (xl k _).mono ?_
  rintro e w1 ⟨rfl, rfl⟩
  rw [HB.o]
  go_wp2
  go_ret
  refine ⟨rt1 (vstr ?_), (br _ _).alloc (nr _) _⟩
  unfold dc
  rw [HB.o]
  rfl

theorem jj (h : List UInt8) (k : Int) (w : World) (hh : h.length = 32) :
  Calls Tryz.prog 53 #[hkv h k] w fun e w' => e = .returned (.bool (kOk k)) ∧ Below w.heap.size w w' := by
 have hck : (w.alloc (.cells (af h k).toArray 34)).cell? ⟨w.heap.size, 32, none⟩ = some (.int .i64 k) := by
  rw [cell_of_row _ _ _ _ _ _ (hzn w _), ← Array.getElem?_toList]
  exact gb h k hh
 have hgk : (af h k)[32]? = some (.int .i64 k) := gb h k hh
 have hlk : (af h k).length = 33 := by rw [ae, hh]
 by_cases h1 : 1 ≤ k
 ·by_cases h2 : k ≤ 4
  ·have HK := Lh (show kOk k = true by unfold kOk; simp; omega)
   go_enter Tryz.func53, Tryz.ntmps53
   go_wp2
   go_ret
   exact ⟨rt1 (bu HK.o.symm), (br _ _).alloc (nr _) _⟩
  ·have HK := Lh (show kOk k = false by unfold kOk; simp; omega)
   go_enter Tryz.func53, Tryz.ntmps53
   go_wp2
   go_ret
   exact ⟨rt1 (bu HK.o.symm), (br _ _).alloc (nr _) _⟩
 ·have HK := Lh (show kOk k = false by unfold kOk; simp; omega)
  go_enter Tryz.func53, Tryz.ntmps53
  go_wp2
  go_ret
  exact ⟨rt1 (bu HK.o.symm), (br _ _).alloc (nr _) _⟩
def qpl : ByteArray := ⟨#[48, 49, 50, 51, 52, 53, 54, 55, 56, 57, 97, 98, 99, 100, 101, 102]⟩
theorem qio (x : Nat) (hx : x < 16) : qpl.extract x (x + 1) = ⟨#[(md x).toNat.toUInt8]⟩ := by
 have h : ∀ j : Fin 16, (qpl.extract j.val (j.val + 1)).data = #[(md j.val).toNat.toUInt8] := by decide +kernel
 apply ByteArray.ext
 exact h ⟨x, hx⟩
theorem qpk (l : List UInt8) (w : World) (hl : l.length = 32) :
  Calls Tryz.prog 109 #[jc l] w fun e w' => e = .returned (.string ⟨(jp l).toArray⟩) ∧ Below w.heap.size w w' := by
 have hlb : (ak l).length = 32 := by rw [am, hl]
 have HL := Lh hl
 clear hl
 go_enter Tryz.func109, Tryz.ntmps109
 go_wp2_with fail
 obtain ⟨D, hD⟩ : ∃ D, D = qpl := ⟨_, rfl⟩
 have hDs : D.size = 16 := by rw [hD]; rfl
 have hD2 : ({ data := #[48, 49, 50, 51, 52, 53, 54, 55, 56, 57, 97, 98, 99, 100, 101, 102] } : ByteArray) = D := hD.symm
 rw [hD2]
 have HD := Lh hD
 clear hD hD2
 go_loopw [4, 5] (fun v4 v5 wr => ∃ (i : Nat) (s : ByteArray), i ≤ 32 ∧ v5 = .int .i64 i ∧ v4 = .string s ∧ s.size ≤ 64 ∧ Hid (s = ⟨(jp (l.take i)).toArray⟩) ∧ Hid (Below (w.heap.size + 1) (w.alloc (.cells (ak l).toArray 32)) wr)) (fun _ v5 _ => 32 - (intOf v5).toNat)
 case atStart => exact ⟨0, ⟨#[]⟩, by omega, rfl, rfl, by decide, rfl, (br _ _)⟩
 case round =>
  obtain ⟨i, s, hi, rfl, rfl, hs, hse, hbr⟩ := hrel
  by_cases hlt : i < 32
  ·have hlt2 : i < l.length := by have := HL.o; omega
   have hcell : wr.cell? ⟨w.heap.size, i, none⟩ = some (.int .u8 (l[i].toNat : Nat)) := by
    refine (hbr.o.cell (p := ⟨w.heap.size, i, none⟩) (by show w.heap.size < _; omega)).trans ?_
    rw [cell_of_row _ _ _ _ _ _ (hzn w _), ← Array.getElem?_toList, List.getElem?_eq_getElem (by rw [am]; exact hlt2)]
    simp [ak, ic]
   have hsn := Lh (zf l i hlt2)
   obtain ⟨y, hy⟩ : ∃ y, y = l[i].toNat := ⟨_, rfl⟩
   have hy8 : y < 256 := by rw [hy]; exact l[i].toNat_lt
   rw [← hy] at hcell
   have HY := Lh hy
   clear hy
   have HE1 := Lh (show D.extract (y / 16) (y / 16 + 1) = ⟨#[(md (y / 16)).toNat.toUInt8]⟩ by rw [HD.o]; exact qio _ (by omega))
   have HE2 := Lh (show D.extract (y % 16) (y % 16 + 1) = ⟨#[(md (y % 16)).toNat.toUInt8]⟩ by rw [HD.o]; exact qio _ (by omega))
   go_wp2_with fail
   refine Text.wp_text [] (by kernel_rfl) (by kernel_rfl) (fun Q' hQ' => ?_)
   go_wp2
   refine ⟨by rfl, ?_⟩
   have HSN := Lh (show s ++ D.extract (y / 16) (y / 16 + 1) ++ D.extract (y % 16) (y % 16 + 1) = ⟨(jp (l.take (i + 1))).toArray⟩ by
    rw [HE1.o, HE2.o, hse.o, hsn.o]
    apply ByteArray.ext
    simp [hex2, HY.o])
   go_wp2
   go_roundw
   case rel =>
    refine ⟨i + 1, _, by omega, by go_num, rfl, ?_, HSN.o, hbr.o.drew⟩
    rw [HSN.o]
    show (jp (l.take (i + 1))).toArray.size ≤ 64
    have := jk (l.take (i + 1))
    have h2 : (l.take (i + 1)).length ≤ i + 1 := List.length_take_le _ _
    simp; omega
   case measure => simp [intOf]; omega
  ·have hi32 : i = 32 := by omega
   subst hi32
   have hlt2 : l.take 32 = l := List.take_of_length_le (by have := HL.o; omega)
   have HT := Lh hlt2
   clear hlt2
   go_wp2
   go_ret
   refine ⟨rt1 (vstr ?_), ((br _ _).alloc (nr _) _).trans (hbr.o.mono (by omega))⟩
   rw [hse.o, HT.o]

section
variable {w : World} {g : Nat} {t : TypeId} {fr : Nat × Nat} {kind seq : Int} {kh mh : List UInt8} {kk ms : Int} {v : Value}
structure cu (w : World) (g : Nat) (t : TypeId) (kind seq : Int) (kh : List UInt8) (kk : Int) (mh : List UInt8) (ms : Int) (v : Value) : Prop where
 blk : w.heap[g]? = some (.cells (ag kind seq kh kk mh ms v).toArray t (0, 0))
 hk : kh.length = 32
 hm : mh.length = 32
theorem qoe : ag kind seq kh kk mh ms v = [.int .i64 kind, .int .i64 seq] ++ (af kh kk ++ (af mh ms ++ [v])) := rfl
theorem yp : ag kind seq kh kk mh ms v = ([.int .i64 kind, .int .i64 seq] ++ af kh kk) ++ (af mh ms ++ [v]) := by simp [ag]
theorem qod : ag kind seq kh kk mh ms v = ([.int .i64 kind, .int .i64 seq] ++ af kh kk) ++ (ak mh ++ ([.int .i64 ms] ++ [v])) := by simp [ag, af]
theorem qes : ag kind seq kh kk mh ms v = ([.int .i64 kind, .int .i64 seq] ++ af kh kk ++ ak mh) ++ ([.int .i64 ms, v] ++ []) := by simp [ag, af]
theorem cu.kind_ (h : cu w g t kind seq kh kk mh ms v) : w.cell? ⟨g, 0, none⟩ = some (.int .i64 kind) := by rw [cell_of_row _ _ _ _ _ _ h.blk]; rfl
theorem cu.seq_ (h : cu w g t kind seq kh kk mh ms v) : w.cell? ⟨g, 1, none⟩ = some (.int .i64 seq) := by rw [cell_of_row _ _ _ _ _ _ h.blk]; rfl
theorem cu.size_ (h : cu w g t kind seq kh kk mh ms v) : w.cell? ⟨g, 67, none⟩ = some (.int .i64 ms) := by
 have := lz h.blk (congrArg List.toArray qes) 0 (.int .i64 ms) rfl
 simpa [am, ae, h.hk, h.hm] using this
theorem cu.keys_ (h : cu w g t kind seq kh kk mh ms v) : w.cell? ⟨g, 68, none⟩ = some v := by
 have := lz h.blk (congrArg List.toArray qes) 1 v rfl
 simpa [am, ae, h.hk, h.hm] using this
theorem cu.key_ (h : cu w g t kind seq kh kk mh ms v) : ∀ j u, (af kh kk)[j]? = some u → w.cell? ⟨g, 2 + j, none⟩ = some u := fun j u hu => lz h.blk (congrArg List.toArray qoe) j u hu
theorem cu.mark_ (h : cu w g t kind seq kh kk mh ms v) : ∀ j u, (af mh ms)[j]? = some u → w.cell? ⟨g, 35 + j, none⟩ = some u := fun j u hu => by
 have := lz h.blk (congrArg List.toArray yp) j u hu
 rwa [show ([Value.int .i64 kind, .int .i64 seq] ++ af kh kk).length = 35 by simp [ae, h.hk]] at this
theorem cu.hash_ (h : cu w g t kind seq kh kk mh ms v) : ∀ j u, (ak mh)[j]? = some u → w.cell? ⟨g, 35 + j, none⟩ = some u := fun j u hu => by
 have := lz h.blk (congrArg List.toArray qod) j u hu
 rwa [show ([Value.int .i64 kind, .int .i64 seq] ++ af kh kk).length = 35 by simp [ae, h.hk]] at this
theorem cu.all_ (h : cu w g t kind seq kh kk mh ms v) : ∀ j u, (ag kind seq kh kk mh ms v)[j]? = some u → w.cell? ⟨g, 0 + j, none⟩ = some u := fun j u hu => by
 rw [Nat.zero_add, cell_of_row _ _ _ _ _ _ h.blk, ← Array.getElem?_toList]
 exact hu
theorem cu.lt (h : cu w g t kind seq kh kk mh ms v) : g < w.heap.size := (gl h.blk)
theorem cu.later {w' : World} (h : cu w g t kind seq kh kk mh ms v) (hb : Below w.heap.size w w') : cu w' g t kind seq kh kk mh ms v := ⟨(hb.block g h.lt).trans h.blk, h.hk, h.hm⟩
theorem cu.new (w : World) (hk : kh.length = 32) (hm : mh.length = 32) : cu (w.alloc (.cells (ag kind seq kh kk mh ms v).toArray t)) w.heap.size t kind seq kh kk mh ms v := ⟨hzn w _, hk, hm⟩
end
theorem al (h : List UInt8) (k : Int) (hh : h.length = 32) : (Tryz.prog.info? 34).map (·.size) = some (af h k).length := by rw [ae, hh]; kernel_rfl
theorem dj (h : List UInt8) (k : Int) (hh : h.length = 32) : (Tryz.prog.info? 36).map (·.size) = some (af h k).length := by rw [ae, hh]; kernel_rfl
theorem gk (h : List UInt8) (hh : h.length = 32) : (Tryz.prog.info? 32).map (·.size) = some (ak h).length := by rw [am, hh]; kernel_rfl
theorem bk (kind seq : Int) (kh : List UInt8) (kk : Int) (mh : List UInt8) (ms : Int) (v : Value) (hk : kh.length = 32) (hm : mh.length = 32) : (Tryz.prog.info? 38).map (·.size) = some (ag kind seq kh kk mh ms v).length := by
 rw [ah, hk, hm]; kernel_rfl
theorem cw (kind seq : Int) (kh : List UInt8) (kk : Int) (mh : List UInt8) (ms : Int) (v : Value) (hk : kh.length = 32) (hm : mh.length = 32) : (Tryz.prog.info? 42).map (·.size) = some (ag kind seq kh kk mh ms v).length := by
 rw [ah, hk, hm]; kernel_rfl
noncomputable def qcj : TypeDesc := .struct (Tryz.prog.fieldsOf 38)
noncomputable def qdl : TypeDesc := .struct (Tryz.prog.fieldsOf 42)
theorem dr : Tryz.prog.underlying 38 = some qcj := by kernel_rfl
theorem fc : Tryz.prog.underlying 42 = some qdl := by kernel_rfl

theorem bc (l : List UInt8) (k : Int) : ∀ u ∈ af l k, u.oneCell' = true := fun u hu => by
 rcases List.mem_append.1 hu with h | h
 ·exact ef l u h
 ·rw [List.mem_singleton.1 h]; rfl
theorem bd (kind seq : Int) (kh : List UInt8) (kk : Int) (mh : List UInt8) (ms : Int) (A : Option Addr) (n c : Nat) : ∀ u ∈ ag kind seq kh kk mh ms (.slice A n c), u.oneCell' = true := fun u hu => by
 rcases List.mem_append.1 hu with h | h
 ·rcases List.mem_cons.1 h with rfl | h
  ·rfl
  ·rw [List.mem_singleton.1 h]; rfl
 rcases List.mem_append.1 h with h | h
 ·exact bc _ _ u h
 rcases List.mem_append.1 h with h | h
 ·exact bc _ _ u h
 ·rw [List.mem_singleton.1 h]; rfl

theorem qkj (off : Nat) : ∀ (vs : List Value) (k : Nat) (pre Z : List Value), pre.length = off + k → vs.length ≤ Z.length →
  (vs.zipIdx k).foldl (fun (cs : Array Value) (x : Value × Nat) => cs.setIfInBounds (off + x.2) x.1) (pre ++ Z).toArray = (pre ++ vs ++ Z.drop vs.length).toArray
 |[], k, pre, Z, _, _ => by simp
 |u :: vs, k, pre, [], _, h => by simp at h
 |u :: vs, k, pre, z :: Z, hp, h => by
  rw [List.zipIdx_cons, List.foldl_cons]
  have e : (pre ++ z :: Z).toArray.setIfInBounds (off + (u, k).2) (u, k).1 = ((pre ++ [u]) ++ Z).toArray := by
   simp only
   rw [List.setIfInBounds_toArray]
   congr 1
   rw [← hp, List.set_append_right _ _ (by omega)]
   simp
  rw [e, qkj off vs (k + 1) (pre ++ [u]) Z (by simp; omega) (by simpa using h)]
  simp
theorem jy {place : Nat → Option (Nat × Nat)} {i : Nat} {v : Value} {vs : List Value} {rest : List (Nat × Value)} {pre Z : List Value} (hv : v.cells = vs.toArray) (hp : place i = some (pre.length, vs.length)) (hl : vs.length ≤ Z.length) :
  Instr.fill place (pre ++ Z).toArray ((i, v) :: rest) = Instr.fill place ((pre ++ vs) ++ Z.drop vs.length).toArray rest := by
 rw [Instr.fill, hp]
 simp only [hv]
 rw [if_neg (by simp; omega)]
 congr 1
 have h := qkj pre.length vs 0 pre Z rfl hl
 rw [← h, ← Array.foldl_toList]
 simp

def z32 : List UInt8 := List.replicate 32 0
theorem bg : z32.length = 32 := rfl
theorem gn (w : World) : (zeroValue 38).run Tryz.prog w = .ok (recv 0 0 z32 0 z32 0 (.slice none 0 0)) w := by kernel_rfl
theorem lk (w : World) : (zeroValue 42).run Tryz.prog w = .ok (recv 0 0 z32 0 z32 0 (.slice none 0 0)) w := by kernel_rfl
theorem ge (w : World) : (zeroValue 34).run Tryz.prog w = .ok (hkv z32 0) w := by kernel_rfl
theorem uo (w : World) : ((Tryz.prog.fieldsOf 42).mapM fun (f : Field) => do pure (f.offset, ← sizeOf f.type)).run Tryz.prog w = .ok #[(0, 1), (1, 1), (2, 33), (35, 32), (67, 1), (68, 1)] w := by kernel_rfl
theorem mw (w : World) : ((Tryz.prog.fieldsOf 38).mapM fun (f : Field) => do pure (f.offset, ← sizeOf f.type)).run Tryz.prog w = .ok #[(0, 1), (1, 1), (2, 33), (35, 33), (68, 1)] w := by kernel_rfl
theorem qgc (w : World) : ((Tryz.prog.fieldsOf 34).mapM fun (f : Field) => do pure (f.offset, ← sizeOf f.type)).run Tryz.prog w = .ok #[(0, 32), (32, 1)] w := by kernel_rfl
theorem qmv (kind seq : Int) (kh : List UInt8) (kk : Int) (mh : List UInt8) (ms : Int) (A : Option Addr) (n c : Nat) (hk : kh.length = 32) (hm : mh.length = 32) (w : World) :
  (Instr.build 42 #[(0, .int .i64 kind), (1, .int .i64 seq), (2, hkv kh kk), (3, jc mh), (4, .int .i64 ms), (5, .slice A n c)]).run Tryz.prog w = .ok (recv kind seq kh kk mh ms (.slice A n c)) w := by
 have hz : (ag 0 0 z32 0 z32 0 (.slice none 0 0)).length = 69 := rfl
 unfold Instr.build
 simp only [Sem.run_bind, lk, Result.andThen_ok, bb, run_underlying fc, qdl, uo]
 have h0 := jy (place := fun i => (#[((0 : Nat), (1 : Nat)), (1, 1), (2, 33), (35, 32), (67, 1), (68, 1)] : Array (Nat × Nat))[i]?) (i := 0) (v := .int .i64 kind) (vs := [.int .i64 kind]) (pre := []) (Z := ag 0 0 z32 0 z32 0 (.slice none 0 0)) rfl rfl (by simp [hz])
  (rest := [(1, .int .i64 seq), (2, hkv kh kk), (3, jc mh), (4, .int .i64 ms), (5, .slice A n c)])
 have hf : Instr.fill (fun i => (#[((0 : Nat), (1 : Nat)), (1, 1), (2, 33), (35, 32), (67, 1), (68, 1)] : Array (Nat × Nat))[i]?) (ag 0 0 z32 0 z32 0 (.slice none 0 0)).toArray [(0, .int .i64 kind), (1, .int .i64 seq), (2, hkv kh kk), (3, jc mh), (4, .int .i64 ms), (5, .slice A n c)] = some (ag kind seq kh kk mh ms (.slice A n c)).toArray := by
  rw [List.nil_append] at h0
  rw [h0, jy (vs := [.int .i64 seq]) rfl rfl (by simp [hz]), jy (vs := af kh kk) rfl (by simp [ae, hk]) (by simp [hz, ae, hk]), jy (vs := ak mh) rfl (by simp [ae, am, hk, hm]) (by simp [hz, ae, am, hk, hm]),
   jy (vs := [.int .i64 ms]) rfl (by simp [ae, am, hk, hm]) (by simp [hz, ae, am, hk, hm]), jy (vs := [.slice A n c]) rfl (by simp [ae, am, hk, hm]) (by simp [hz, ae, am, hk, hm])]
  rw [Instr.fill]
  congr 2
  rw [List.drop_eq_nil_of_le (by simp [hz, ae, am, hk, hm])]
  simp [ag, af]
 rw [hf]
 rfl

theorem qtd (kind seq : Int) (kh : List UInt8) (kk : Int) (mh : List UInt8) (ms : Int) (A : Option Addr) (n c : Nat) (w : World) (hk : kh.length = 32) (hm : mh.length = 32) :
  Calls Tryz.prog 11 #[recv kind seq kh kk mh ms (.slice A n c)] w fun e w' => e = .returned (recv kind seq kh kk mh ms (.slice A n c)) ∧ Below w.heap.size w w' := by
 go_enter Tryz.func11, Tryz.ntmps11
 go_wp2_with (refine ai (some 1) rfl ?_)
 refine Stop.go (bn rfl _ rfl rfl rfl (av rfl _ rfl lk rfl ?_))
 have hr : cu ((w.alloc (.cells (ag kind seq kh kk mh ms (.slice A n c)).toArray 38)).alloc (.cells (ag 0 0 z32 0 z32 0 (.slice none 0 0)).toArray 42)) w.heap.size 38 kind seq kh kk mh ms (.slice A n c) :=
  (cu.new w hk hm).later ((br _ _).alloc (nr _) _)
 have c0 := hr.kind_
 have c1 := hr.seq_
 have c2 := hr.size_
 have c3 := hr.keys_
 have HR := Lh hr
 clear hr
 go_wp2_with (refine ai (some 3) rfl ?_)
 refine Stop.go (ar 5 _ _ _ (fun Q' hQ' => ?_))
 simp only [T1, T0]
 go_wp2_with fail
 simp only [dr1, dr0]
 refine Stop.go (aa rfl 34 rfl rfl ba.ut rfl (al _ _ hk) HR.o.key_ ?_)
 refine ar 2 _ _ _ (fun Q' hQ' => ?_)
 simp only [T1, T0]
 go_wp2_with fail
 simp only [dr1, dr0]
 refine Stop.go (aa rfl 32 rfl rfl fz.ua rfl (gk _ hm) HR.o.hash_ ?_)
 refine ar 5 _ _ _ (fun Q' hQ' => ?_)
 simp only [T1, T0]
 go_wp2_with fail
 simp only [dr1, dr0]
 refine Stop.go (bl rfl 42 rfl (vs := #[(0, .int .i64 kind), (1, .int .i64 seq), (2, hkv kh kk), (3, jc mh), (4, .int .i64 ms), (5, .slice A n c)]) (by rfl) (qmv _ _ _ _ _ _ _ _ _ hk hm _) ?_)
 refine ac rfl 42 rfl rfl rfl (ch (Array.size_push _).symm (bb ..) (cw _ _ _ _ _ _ _ hk hm) (by rw [List.size_toArray, ah, ah, hk, hm]; rfl) (bd _ _ _ _ _ _ _ _ _)) ?_
 go_wp2_with fail
 refine bodyPost_ret (results_cell_row rfl _ _ (w.heap.size + 1) 42 (ag kind seq kh kk mh ms (.slice A n c)).toArray (0, 0) _ rfl (Go.heap_alloc2_new w _ _) fc rfl (cw _ _ _ _ _ _ _ hk hm)) rfl ?_
 exact ⟨rfl, ((br _ _).alloc (nr _) _).alloc (Nat.le_of_lt (by show _ < (Array.push _ _).size; rw [Array.size_push]; exact Nat.lt_succ_self _)) _⟩
end Go.Proofs.YtplbcbamnjnhlaaGreatDoor
namespace Go.Proofs.YtplbcbamnjnhlaaGreatDoor
open Go.ChangeShapes Go.WideShapes Go.ChangeAt Go.RowKit

section
variable {H : Type} {enc : TypeId × Value → H} {P : Program}
theorem qlr {n : Nat} {t e : TypeId} (ht : P.underlying t = some (.array n e)) (he : P.underlying e = some (.int .u8)) (h1 : P.cellsOf e = 1) (hn : P.cellsOf t = n) : qba enc P (eBytes n) t := by
 intro W fuel cs x h
 obtain ⟨xs, m, _, _, hc, hl, hel⟩ := DataW.trod_array ht h
 rw [hn] at hc
 rw [h1] at hel
 have hex : ∀ i, i < n → ∃ (u : Value) (b : UInt8), cs[i]? = some u ∧ u = ic b := by
  intro i hi
  have h2 := hel i hi
  rw [List.getElem?_eq_getElem (by omega), Nat.mul_one] at h2
  obtain ⟨b, hb⟩ := qoo he W m _ _ h2
  have hb' : (cs.drop i).take 1 = [ic b] := hb
  refine ⟨ic b, b, ?_, rfl⟩
  have h3 : ((cs.drop i).take 1)[0]? = some (ic b) := by rw [hb']; rfl
  rw [List.getElem?_take, if_pos (by omega), List.getElem?_drop] at h3
  simpa using h3
 obtain ⟨us, bs, l1, l2, hall⟩ := qmu n (fun i (u : Value) (b : UInt8) => cs[i]? = some u ∧ u = ic b) hex
 refine ⟨bs, ?_, l2⟩
 apply List.ext_getElem?
 intro i
 rcases Nat.lt_or_ge i n with hi | hi
 ·obtain ⟨q1, q2⟩ := hall i _ _ (List.getElem?_eq_getElem (by omega)) (List.getElem?_eq_getElem (by omega))
  rw [q1, q2]
  unfold ak
  rw [List.getElem?_map, List.getElem?_eq_getElem (by omega)]
  rfl
 ·rw [List.getElem?_eq_none (by omega), List.getElem?_eq_none (by rw [am]; omega)]
def eKey : Elt (List UInt8 × Int) := eProd (eBytes 32) eInt
theorem tm {w : World} {B : Nat} {cs : List Value} {x : List UInt8 × Int} (h : eKey.rep w B cs x) : cs = af x.1 x.2 ∧ x.1.length = 32 ∧ -9223372036854775808 ≤ x.2 ∧ x.2 ≤ 9223372036854775807 := by
 obtain ⟨c1, c2, rfl, ⟨rfl, h2⟩, rfl, h3, h4⟩ := h
 exact ⟨rfl, h2, h3, h4⟩
theorem qdq {w : World} {B : Nat} {x : List UInt8 × Int} (h1 : x.1.length = 32) (h2 : -9223372036854775808 ≤ x.2) (h3 : x.2 ≤ 9223372036854775807) : eKey.rep w B (af x.1 x.2) x :=
 ⟨_, _, rfl, ⟨rfl, h1⟩, rfl, h2, h3⟩
end
end Go.Proofs.YtplbcbamnjnhlaaGreatDoor
namespace Go.Proofs.YtplbcbamnjnhlaaGreatDoor
open Go.RowKit

theorem rt (h : List UInt8) (k : Int) (w : World) (hh : h.length = 32) :
  Calls Tryz.prog 77 #[hkv h k] w fun e w' => e = .returned (.string ⟨(dc h k).toArray⟩) ∧ Below w.heap.size w w' := by
 have hck : (w.alloc (.cells (af h k).toArray 34)).cell? ⟨w.heap.size, 32, none⟩ = some (.int .i64 k) := by
  rw [cell_of_row _ _ _ _ _ _ (hzn w _), ← Array.getElem?_toList]
  exact gb h k hh
 have hgk : (af h k)[32]? = some (.int .i64 k) := gb h k hh
 have hi32 : (Tryz.prog.info? 32).map (·.size) = some (ak h).length := by rw [am, hh]; kernel_rfl
 have hcs : ∀ j u, (ak h)[j]? = some u → (w.alloc (.cells (af h k).toArray 34)).drew.cell? ⟨w.heap.size, 0 + j, none⟩ = some u := by
  intro j u hu
  rw [Nat.zero_add]
  refine (cell_of_row _ _ _ _ _ _ (hzn w _)).trans ?_
  rw [← Array.getElem?_toList]
  simp only [af]
  rw [List.getElem?_append_left (List.getElem?_eq_some_iff.1 hu).1]
  exact hu
 obtain ⟨u0, hu0⟩ : ∃ u0, (w.alloc (.cells (af h k).toArray 34)).cell? ⟨w.heap.size, 0, none⟩ = some u0 := ⟨_, hcs 0 _ (List.getElem?_eq_getElem (by rw [am]; omega))⟩
 have HCS := Lh hcs
 have HU0 := Lh hu0
 have HI := Lh hi32
 clear hcs hu0 hi32
 have HH := Lh hh
 clear hh
 rcases Bool.eq_false_or_eq_true (kOk k) with hb | hb
 ·have hq : k = 1 ∨ k = 2 ∨ k = 3 ∨ k = 4 := by unfold kOk at hb; simp at hb; omega
  have HB := Lh hb
  clear hb
  rcases hq with rfl | rfl | rfl | rfl
  all_goals
   go_enter Tryz.func77, Tryz.ntmps77
   go_wp2_with fail
   refine Text.wp_grow [2] [1, 6, 8] [] (by kernel_rfl) (by kernel_rfl) ?_
   refine Text.wpS_seg 1 _ _ _ _ (by decide) (fun Q' hQ' => ?_)
   simp only [T1, T0]
   go_wp2_with fail
   try simp only [Nat.zero_add, List.drop_succ_cons, List.drop_zero]
   refine Text.wpS_seg 1 _ _ _ _ (by decide) (fun Q' hQ' => ?_)
   simp only [T1, T0]
   refine aa rfl 32 rfl rfl fz.ua rfl HI.o HCS.o ?_
   go_wp2_with fail
   try simp only [Nat.zero_add, List.drop_succ_cons, List.drop_zero]
   refine Text.wpS_one (fun Q' hQ' => ?_)
   go_wp2_with fail
   refine (qpk h _ HH.o).mono ?_
   rintro e w2 ⟨rfl, hb2⟩
   have hb2' : Below w.heap.size w w2 := ((br _ _).alloc (nr _) _).trans ((cg hb2).mono (by simp))
   have hck2 : w2.cell? ⟨w.heap.size, 32, none⟩ = _ := (hb2.cell (p := ⟨w.heap.size, 32, none⟩) (by show w.heap.size < (w.alloc _).heap.size; simp)).trans hck
   have HB2 := Lh hb2
   have HB2' := Lh hb2'
   clear hb2 hb2'
   obtain ⟨sh, hsh⟩ : ∃ sh : ByteArray, sh = ⟨(jp h).toArray⟩ := ⟨_, rfl⟩
   have hsz : sh.size ≤ 64 := by
    rw [hsh]
    show (jp h).toArray.size ≤ 64
    have := jk h
    have := HH.o
    simp; omega
   rw [← hsh]
   have HSH := Lh hsh
   clear hsh
   go_wp2_with fail
   refine ⟨HB2.o, ?_⟩
   refine Text.wpS_seg 10 _ _ _ _ (by decide) (fun Q' hQ' => ?_)
   simp only [T1, T0]
   go_wp2_with fail
   refine ⟨by rfl, ⟨fun _ => ⟨_, _, rfl, HU0.o⟩, fun _ => ⟨_, _, rfl, hck⟩, fun _ => ⟨_, _, rfl, hck⟩, trivial⟩, ?_⟩
   go_wp2
   go_ret
   refine ⟨rt1 (vstr ?_), HB2'.o⟩
   unfold dc
   rw [HB.o, if_pos rfl, HSH.o]
   apply ByteArray.ext
   simp
 ·have hq : k < 1 ∨ 4 < k := by unfold kOk at hb; simp at hb; omega
  have HB := Lh hb
  clear hb
  have HK := Lh (show dc h k = [] by unfold dc; rw [HB.o]; rfl)
  rcases Int.lt_or_le k 1 with h1 | h1
  all_goals
   go_enter Tryz.func77, Tryz.ntmps77
   go_wp2
   go_ret
   exact ⟨rt1 (vstr (by rw [HK.o])), (br _ _).alloc (nr _) _⟩

theorem qtp (x y : List UInt8) (i : Nat) (h1 : i < x.length) (h2 : i < y.length) :
  Op.bytesLess (x.drop i) (y.drop i) = (decide (x[i].toNat < y[i].toNat) || (x[i] == y[i] && Op.bytesLess (x.drop (i + 1)) (y.drop (i + 1)))) := by
 rw [List.drop_eq_getElem_cons h1, List.drop_eq_getElem_cons h2, Op.bytesLess]
 rfl
theorem uw {B : Nat} {w w' : World} (h : Below B w w') (n : Nat) : Below B w (w'.drewN n) := ⟨h.os, h.tape, h.output, h.size, h.block⟩
theorem qfk (x y : List UInt8) (w : World) (hx : x.length ≤ 68719476736) (hy : y.length ≤ 68719476736) :
  Calls Tryz.prog 76 #[.string ⟨x.toArray⟩, .string ⟨y.toArray⟩] w fun e w' => e = .returned (.bool (Op.bytesLess x y)) ∧ Below w.heap.size w w' := by
 obtain ⟨X, hX⟩ : ∃ X : ByteArray, X = ⟨x.toArray⟩ := ⟨_, rfl⟩
 obtain ⟨Y, hY⟩ : ∃ Y : ByteArray, Y = ⟨y.toArray⟩ := ⟨_, rfl⟩
 have hXs : X.size = x.length := by rw [hX]; rfl
 have hYs : Y.size = y.length := by rw [hY]; rfl
 rw [← hX, ← hY]
 have HXX := Lh hX
 have HYY := Lh hY
 clear hX hY
 go_enter Tryz.func76, Tryz.ntmps76
 go_wp2_with fail
 go_loopw [5] (fun v5 wr => ∃ (i : Nat), i ≤ x.length ∧ i ≤ y.length ∧ v5 = .int .i64 i ∧ Hid (Op.bytesLess (x.drop i) (y.drop i) = Op.bytesLess x y) ∧ Hid (Below w.heap.size w wr)) (fun v5 _ => x.length - (intOf v5).toNat)
 case atStart => exact ⟨0, by omega, by omega, rfl, rfl, (br _ _)⟩
 case round =>
  obtain ⟨i, hi, hj, rfl, HB, HW⟩ := hrel
  by_cases h1 : i < x.length
  ·by_cases h2 : i < y.length
   ·have hXi : ∀ (h : i < X.size), X[i] = x[i] := fun h => by
     have := HXX.o
     subst this
     rfl
    have hYi : ∀ (h : i < Y.size), Y[i] = y[i] := fun h => by
     have := HYY.o
     subst this
     rfl
    have HXI := Lh hXi
    have HYI := Lh hYi
    clear hXi hYi
    have HS := Lh (qtp x y i h1 h2)
    go_wp2_with fail
    go_quiet (fail)
    go_wp2_with (go_quiet (fail))
    ·rename_i _ hne
     go_ret
     refine ⟨rt1 (bu ?_), uw (uw HW.o _) _⟩
     rw [← HB.o, HS.o]
     rw [HXI.o, HYI.o] at hne ⊢
     have : (x[i] == y[i]) = false := by
      rw [beq_eq_false_iff_ne]
      intro h
      rw [h] at hne
      simp at hne
     rw [this]
     simp
    ·rename_i hne
     rw [HXI.o, HYI.o] at hne
     have he : x[i] = y[i] := UInt8.toNat_inj.1 (Int.ofNat_inj.1 (bne_eq_false_iff_eq.1 hne))
     refine ⟨⟨i + 1, by omega, by omega, by simp, ?_, uw HW.o _⟩, ?_⟩
     ·show Op.bytesLess _ _ = _
      rw [← HB.o, HS.o, he]
      simp
     ·simp [intOf]; omega
   ·have HS := Lh (show Op.bytesLess (x.drop i) (y.drop i) = decide (x.length < y.length) by
     have := HXX
     rw [List.drop_eq_nil_of_le (show y.length ≤ i by omega), List.drop_eq_getElem_cons h1]
     simp [Op.bytesLess]; omega)
    go_wp2_with fail
    go_ret
    exact ⟨rt1 (bu (by rw [← HB.o, HS.o])), HW.o⟩
  ·have HS := Lh (show Op.bytesLess (x.drop i) (y.drop i) = decide (x.length < y.length) by
    rw [List.drop_eq_nil_of_le (show x.length ≤ i by omega)]
    by_cases h2 : i < y.length
    ·rw [List.drop_eq_getElem_cons h2]
     simp [Op.bytesLess]; omega
    ·rw [List.drop_eq_nil_of_le (show y.length ≤ i by omega)]
     simp [Op.bytesLess]; omega)
   go_wp2_with fail
   go_ret
   exact ⟨rt1 (bu (by rw [← HB.o, HS.o])), HW.o⟩
theorem na (h : List UInt8) (k : Int) (hh : h.length = 32) : (Tryz.prog.info? 34).map (·.size) = some (af h k).length := by rw [ae, hh]; kernel_rfl
theorem rj : ∀ (x : List UInt8), Op.bytesLess x x = false
 |[] => rfl
 |a :: x => by rw [Op.bytesLess, rj x]; simp
def ij (h : List UInt8) (k : Int) (h' : List UInt8) (k' : Int) : Bool := Op.bytesLess (dc h k) (dc h' k')
theorem qmh (h h' : List UInt8) (k k' : Int) (w : World) (hh : h.length = 32) (hh' : h'.length = 32) :
  Calls Tryz.prog 73 #[hkv h k, hkv h' k'] w fun e w' => e = .returned (.bool (ij h k h' k')) ∧ Below w.heap.size w w' := by
 go_enter Tryz.func73, Tryz.ntmps73
 go_wp2_with fail
 have HG1 := Lh (aq (Go.heap_alloc2_old w (.cells (af h k).toArray 34) (.cells (af h' k').toArray 34)))
 have HG2 := Lh (aq (Go.heap_alloc2_new w (.cells (af h k).toArray 34) (.cells (af h' k').toArray 34)))
 have HH := Lh hh
 have HH' := Lh hh'
 clear hh hh'
 refine Text.wp_grow [2, 5, 7] [0, 1, 4, 6] [2] (by kernel_rfl) (by kernel_rfl) ?_
 refine Text.wpS_seg 2 _ _ _ _ (by decide) (fun Q' hQ' => ?_)
 simp only [T1, T0]
 refine aa rfl 34 rfl rfl ba.ut rfl (na h k HH.o) HG1.o ?_
 refine aa rfl 34 rfl rfl ba.ut rfl (na h' k' HH'.o) HG2.o ?_
 refine hQ' _ _ ?_
 simp only [dr1, dr0]
 generalize ha : Act.put _ _ _ = a9
 simp [Act.put] at ha
 subst ha
 refine Text.wpS_one (fun Q1 hQ1 => ?_)
 refine ei rfl .neq 34 rfl rfl rfl (ez ba.gd ..) (js ba HH.o HH'.o) ?_
 by_cases he : h = h' ∧ k = k'
 ·rw [show (!(decide (h = h') && decide (k = k'))) = false by simp [he]]
  have hle : ij h k h' k' = false := by
   obtain ⟨rfl, rfl⟩ := he
   exact rj _
  have HLE := Lh hle
  clear hle he
  refine hQ1 _ _ ⟨br _ _, ?_⟩
  generalize ha : Act.put _ _ _ = a9
  simp [Act.put] at ha
  subst ha
  refine Text.wpS_seg 2 _ _ _ _ (by decide) (fun Q2 hQ2 => ?_)
  simp only [T1, T0]
  refine bz rfl (v := .bool false) rfl ?_
  refine wpList_skip rfl ?_
  refine hQ2 _ _ ?_
  simp only [dr1, dr0]
  generalize ha : Act.put _ _ _ = a9
  simp [Act.put] at ha
  subst ha
  refine Text.wpS_one (fun Q3 hQ3 => ?_)
  refine wpList_skip rfl ?_
  refine hQ3 _ _ ⟨br _ _, ?_⟩
  generalize ha : Act.put _ _ _ = a9
  simp [Act.put] at ha
  subst ha
  refine Text.wpS_seg 1 _ _ _ _ (by decide) (fun Q4 hQ4 => ?_)
  simp only [T1, T0]
  refine wpList_skip rfl ?_
  refine hQ4 _ _ ?_
  simp only [dr1, dr0]
  generalize ha : Act.put _ _ _ = a9
  simp [Act.put] at ha
  subst ha
  refine Text.wpS_one (fun Q5 hQ5 => ?_)
  refine wpList_skip rfl ?_
  refine hQ5 _ _ ⟨br _ _, ?_⟩
  generalize ha : Act.put _ _ _ = a9
  simp [Act.put] at ha
  subst ha
  refine Text.wpS_seg 3 _ _ _ _ (by decide) (fun Q6 hQ6 => ?_)
  simp only [T1, T0]
  refine wpList_skip rfl ?_
  refine bz rfl (v := .bool false) rfl ?_
  refine bz rfl (v := .bool false) rfl ?_
  refine hQ6 _ _ ?_
  generalize ha : Act.put _ _ _ = a9
  simp [Act.put] at ha
  subst ha
  simp only [dr1, dr0]
  refine ⟨by rfl, ⟨fun _ => ⟨_, _, rfl, HG1.o 0 _ (List.getElem?_eq_getElem (by rw [ae]; omega))⟩, fun _ => ⟨_, _, rfl, HG2.o 0 _ (List.getElem?_eq_getElem (by rw [ae]; omega))⟩, (fun hh => absurd hh Bool.false_ne_true), (fun hh => absurd hh Bool.false_ne_true), trivial⟩, ?_⟩
  go_wp2_with fail
  go_ret
  exact ⟨rt1 (bu HLE.o.symm), (((br _ _).alloc (nr _) _).alloc (Nat.le_of_lt (by show _ < (Array.push _ _).size; rw [Array.size_push]; exact Nat.lt_succ_self _)) _).drew⟩
 ·rw [show (!(decide (h = h') && decide (k = k'))) = true by by_cases h1 : h = h' <;> by_cases h2 : k = k' <;> simp_all]
  clear he
  refine hQ1 _ _ ⟨br _ _, ?_⟩
  generalize ha : Act.put _ _ _ = a9
  simp [Act.put] at ha
  subst ha
  refine Text.wpS_seg 2 _ _ _ _ (by decide) (fun Q2 hQ2 => ?_)
  simp only [T1, T0]
  refine bz rfl (v := .bool true) rfl ?_
  refine aw rfl 34 rfl rfl ba.ut rfl (na h k HH.o) HG1.o ?_
  refine hQ2 _ _ ?_
  simp only [dr1, dr0]
  generalize ha : Act.put _ _ _ = a9
  simp [Act.put] at ha
  subst ha
  refine Text.wpS_one (fun Q3 hQ3 => ?_)
  go_wp2_with fail
  refine (qec h k _ HH.o).mono ?_
  rintro e w2 ⟨rfl, hb2⟩
  have HB2 := Lh hb2
  clear hb2
  obtain ⟨s1, hs1⟩ : ∃ s1 : ByteArray, s1 = ⟨(dc h k).toArray⟩ := ⟨_, rfl⟩
  rw [← hs1]
  have HS1 := Lh hs1
  clear hs1
  go_wp2_with fail
  refine ⟨HB2.o, ?_⟩
  refine Text.wpS_seg 1 _ _ _ _ (by decide) (fun Q4 hQ4 => ?_)
  simp only [T1, T0]
  refine aw rfl 34 rfl rfl ba.ut rfl (na h' k' HH'.o) (fun j u hu => (HB2.o.cell (p := ⟨w.heap.size + 1, 0 + j, none⟩) (by show _ < (Array.push (Array.push _ _) _).size; rw [Array.size_push, Array.size_push]; show w.heap.size + 1 < _; omega)).trans (HG2.o j u hu)) ?_
  refine hQ4 _ _ ?_
  simp only [dr1, dr0]
  generalize ha : Act.put _ _ _ = a9
  simp [Act.put] at ha
  subst ha
  refine Text.wpS_one (fun Q5 hQ5 => ?_)
  go_wp2_with fail
  refine (qec h' k' _ HH'.o).mono ?_
  rintro e w3 ⟨rfl, hb3⟩
  have HB3 := Lh (HB2.o.trans (hb3.mono HB2.o.size))
  clear hb3
  obtain ⟨s2, hs2⟩ : ∃ s2 : ByteArray, s2 = ⟨(dc h' k').toArray⟩ := ⟨_, rfl⟩
  rw [← hs2]
  have HS2 := Lh hs2
  clear hs2
  go_wp2_with fail
  refine ⟨HB3.o, ?_⟩
  have HLE := Lh (show Op.bytesLess s1.toList s2.toList = ij h k h' k' by rw [HS1.o, HS2.o]; unfold ij; simp)
  refine Text.wpS_seg 3 _ _ _ _ (by decide) (fun Q6 hQ6 => ?_)
  simp only [T1, T0]
  go_wp2_with fail
  simp only [dr1, dr0]
  refine ⟨by rfl, ⟨fun _ => ⟨_, _, rfl, HG1.o 0 _ (List.getElem?_eq_getElem (by rw [ae]; omega))⟩, fun _ => ⟨_, _, rfl, HG2.o 0 _ (List.getElem?_eq_getElem (by rw [ae]; omega))⟩, fun _ => ⟨_, _, rfl, HG1.o 0 _ (List.getElem?_eq_getElem (by rw [ae]; omega))⟩, fun _ => ⟨_, _, rfl, HG2.o 0 _ (List.getElem?_eq_getElem (by rw [ae]; omega))⟩, trivial⟩, ?_⟩
  go_wp2_with fail
  go_ret
  refine ⟨rt1 (bu HLE.o), ?_⟩
  exact (((br _ _).alloc (nr _) _).alloc (Nat.le_of_lt (by show _ < (Array.push _ _).size; rw [Array.size_push]; exact Nat.lt_succ_self _)) _).trans ((cg HB3.o).mono (by show _ ≤ (Array.push (Array.push _ _) _).size; rw [Array.size_push, Array.size_push]; omega))
end Go.Proofs.YtplbcbamnjnhlaaGreatDoor
