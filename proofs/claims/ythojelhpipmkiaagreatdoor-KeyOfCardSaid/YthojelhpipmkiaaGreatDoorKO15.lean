/- Texts of this proof joined: Sha1, Sha2, Sha3, Sha4. -/
import Derived.Test.YthojelhpipmkiaaGreatDoorChecked
import Derived.Test.YthojelhpipmkiaaGreatDoorKO14
import Derived.Test.YthojelhpipmkiaaGreatDoorKO04
import Derived.Test.YthojelhpipmkiaaGreatDoorKO01
import Derived.Laws.BitsAllLaws
import Derived.Deep.LoopGhost
import Derived.Test.YthojelhpipmkiaaGreatDoorKO08
import Derived.Laws.CopyOwn
namespace Go.Proofs.YthojelhpipmkiaaGreatDoor
open Go.RowKit

theorem nv_ex (v : W32) : ∃ n : Nat, n = v.toNat := ⟨_, rfl⟩
noncomputable def nv (v : W32) : Nat := Classical.choose (nv_ex v)
theorem nv_eq (v : W32) : nv v = v.toNat := Classical.choose_spec (nv_ex v)
theorem nv_lt (v : W32) : nv v < 4294967296 := by rw [nv_eq]; exact v.isLt
noncomputable abbrev w32v (v : W32) : Value := .int .u32 (nv v : Int)
theorem nv_xor (a b : W32) : bits .xor .u32 (nv a : Int) (nv b : Int) = (nv (a ^^^ b) : Int) := by
 rw [u32_xor_nat _ _ (nv_lt a) (nv_lt b)]
 rw [nv_eq, nv_eq, nv_eq, BitVec.toNat_xor]
theorem nv_and (a b : W32) : bits .and .u32 (nv a : Int) (nv b : Int) = (nv (a &&& b) : Int) := by
 rw [u32_and_nat _ _ (nv_lt a) (nv_lt b)]
 rw [nv_eq, nv_eq, nv_eq, BitVec.toNat_and]
theorem nv_or (a b : W32) : bits .or .u32 (nv a : Int) (nv b : Int) = (nv (a ||| b) : Int) := by
 rw [u32_or_nat _ _ (nv_lt a) (nv_lt b)]
 rw [nv_eq, nv_eq, nv_eq, BitVec.toNat_or]
theorem nv_not (a : W32) : bits .xor .u32 IntKind.u32.max (nv a : Int) = (nv (~~~ a) : Int) := by
 have h : (BitVec.allOnes 32 ^^^ a) = ~~~ a := by rw [BitVec.allOnes_xor]
 have e : ((nv (BitVec.allOnes 32) : Nat) : Int) = IntKind.u32.max := by rw [nv_eq]; decide
 rw [← e, nv_xor, h]
theorem nv_add (a b : W32) : ((nv a : Int) + (nv b : Int)) % 4294967296 = (nv (a + b) : Int) := by
 rw [nv_eq, nv_eq, nv_eq, BitVec.toNat_add]
 omega
theorem nv_shr (v : W32) (n : Nat) : (nv v : Int) / 2 ^ n = (nv (v >>> n) : Int) := by
 rw [nv_eq, nv_eq, BitVec.toNat_ushiftRight, Nat.shiftRight_eq_div_pow]
 simp
theorem nv_shl (v : W32) (n : Nat) : (nv v : Int) * 2 ^ n % 4294967296 = (nv (v <<< n) : Int) := by
 rw [nv_eq, nv_eq, BitVec.toNat_shiftLeft, Nat.shiftLeft_eq]
 simp
set_option maxRecDepth 100000 in
set_option maxHeartbeats 1600000 in
theorem turn_any (v : W32) (n : Nat) (w : World) (hn : n < 32) : Calls Tryz.prog 118 #[w32v v, .int .i64 n] w fun e w' => e = .returned (w32v (rotr v n)) ∧ Below w.heap.size w w' := by
 have hv := nv_lt v
 have HR := Lib.hid (show bits .or .u32 ((nv v : Int) / 2 ^ n) ((nv v : Int) * 2 ^ (32 - n) % 4294967296) = (nv (rotr v n) : Int) by rw [nv_shr, nv_shl, nv_or, rotr_or v hn])
 go_enter Tryz.func118, Tryz.ntmps118
 go_wp2_with fail
 refine Text.wp_text [] (by kernel_rfl) (by kernel_rfl) (fun Q' hQ' => ?_)
 go_wp2_with fail
 refine ⟨by rfl, ?_⟩
 go_wp2_with fail
 go_ret
 exact ⟨rt1 (vint HR.out), (Below.refl _ _).drew⟩
set_option maxHeartbeats 1600000 in
theorem turn04_any (v : W32) (n : Nat) (w : World) (hn : n < 32) : Calls Tryz.prog 84 #[w32v v, .int .i64 n] w fun e w' => e = .returned (w32v (rotr v n)) ∧ Below w.heap.size w w' := by
 go_enter Tryz.func84, Tryz.ntmps84
 go_wp2_with fail
 go_loop [0, 5] (fun v0 v5 => ∃ k : Nat, k ≤ n ∧ v5 = .int .i64 k ∧ v0 = w32v (rotr v k)) (fun _ v5 => n - (intOf v5).toNat)
 case atStart => exact ⟨0, by omega, rfl, by rw [rotr_zero]⟩
 case round =>
  obtain ⟨k, hk, rfl, rfl⟩ := hrel
  by_cases hlt : k < n
  ·have HS := Lib.hid (rotr_succ v (n := k) (by omega))
   generalize rotr v k = x at *
   have hx := nv_lt x
   have HN := Lib.hid (rot1_nat x)
   go_wp2_with fail
   go_round
   case rel => exact ⟨k + 1, by omega, by go_num, by rw [← HS.out]; refine congrArg (Value.int .u32) ?_; have := HN.out; rw [← nv_eq, ← nv_eq] at this; omega⟩
   case measure => simp [intOf]; omega
  ·have hkn : k = n := by omega
   subst hkn
   go_wp2_with fail
   go_ret
   exact ⟨rfl, Below.refl _ _⟩
set_option maxHeartbeats 1600000 in
theorem move04_any (v : W32) (n : Nat) (w : World) (hn : n < 32) : Calls Tryz.prog 109 #[w32v v, .int .i64 n] w fun e w' => e = .returned (w32v (v >>> n)) ∧ Below w.heap.size w w' := by
 go_enter Tryz.func109, Tryz.ntmps109
 go_wp2_with fail
 go_loop [0, 5] (fun v0 v5 => ∃ k : Nat, k ≤ n ∧ v5 = .int .i64 k ∧ v0 = w32v (v >>> k)) (fun _ v5 => n - (intOf v5).toNat)
 case atStart => exact ⟨0, by omega, rfl, by simp⟩
 case round =>
  obtain ⟨k, hk, rfl, rfl⟩ := hrel
  by_cases hlt : k < n
  ·have HS := Lib.hid (show (nv (v >>> k) : Int) / 2 = (nv (v >>> (k + 1)) : Int) by rw [← nv_shr, ← nv_shr, Int.pow_succ, Int.ediv_ediv_of_nonneg (by rw [show (2 : Int) ^ k = ((2 ^ k : Nat) : Int) by simp]; exact Int.natCast_nonneg _)])
   generalize v >>> k = x at *
   have hx := nv_lt x
   go_wp2_with fail
   go_round
   case rel => exact ⟨k + 1, by omega, by go_num, congrArg (Value.int .u32) HS.out⟩
   case measure => simp [intOf]; omega
  ·have hkn : k = n := by omega
   subst hkn
   go_wp2_with fail
   go_ret
   exact ⟨rfl, Below.refl _ _⟩
end Go.Proofs.YthojelhpipmkiaaGreatDoor
namespace Go.Proofs.YthojelhpipmkiaaGreatDoor
open Go.RowKit

def u32s (l : List Nat) : List Value := l.map fun n : Nat => .int .u32 (n : Int)
noncomputable def w32s (l : List W32) : List Value := l.map w32v
def rootVs : List Value := u32s shaRoots
def zeros64 : List Value := u32s (List.replicate 64 0)
def zeros8 : List Value := u32s (List.replicate 8 0)
noncomputable def st8 (s : St8) : List Value := w32s s.list
theorem st8_len (s : St8) : (st8 s).length = 8 := rfl
theorem w32s_one (l : List W32) : ∀ u ∈ w32s l, u.oneCell' = true := fun u hu => by
 obtain ⟨x, _, rfl⟩ := List.mem_map.1 hu
 rfl
theorem u32s_one (l : List Nat) : ∀ u ∈ u32s l, u.oneCell' = true := fun u hu => by
 obtain ⟨x, _, rfl⟩ := List.mem_map.1 hu
 rfl
theorem w32s_get {l : List W32} {i : Nat} (h : i < l.length) : (w32s l)[i]? = some (w32v l[i]) := by
 unfold w32s
 rw [List.getElem?_map, List.getElem?_eq_getElem h]
 rfl
theorem roots_small : ∀ n ∈ shaRoots, n < 4294967296 := by decide
theorem roots_get {i : Nat} (h : i < 64) : rootVs[i]? = some (w32v (rootAt i)) := by
 have hl : i < shaRoots.length := h
 unfold rootVs u32s rootAt w32v
 rw [List.getElem?_map, List.getD_eq_getElem?_getD, List.getElem?_eq_getElem hl]
 have := roots_small _ (List.getElem_mem hl)
 simp only [Option.map_some, Option.getD_some, nv_eq, BitVec.toNat_ofNat]
 rw [Nat.mod_eq_of_lt (by omega)]
theorem a64_u : Tryz.prog.underlying 121 = some (.array 64 74) := by kernel_rfl
theorem a8_u : Tryz.prog.underlying 75 = some (.array 8 74) := by kernel_rfl
theorem a64_s : (Tryz.prog.info? 121).map (·.size) = some 64 := by kernel_rfl
theorem a8_s : (Tryz.prog.info? 75).map (·.size) = some 8 := by kernel_rfl
theorem zero_a64 (w : World) : (zeroValue 121).run Tryz.prog w = .ok (.agg zeros64.toArray) w := by kernel_rfl
theorem zero_a8 (w : World) : (zeroValue 75).run Tryz.prog w = .ok (.agg zeros8.toArray) w := by kernel_rfl
def numbered (l : List Value) : List (Nat × Value) := (List.range l.length).zip l
theorem build_roots (w : World) : (Instr.build 121 (numbered rootVs).toArray).run Tryz.prog w = .ok (.agg rootVs.toArray) w := by kernel_rfl
def beginVs : List Value := u32s [0x6a09e667, 0xbb67ae85, 0x3c6ef372, 0xa54ff53a, 0x510e527f, 0x9b05688c, 0x1f83d9ab, 0x5be0cd19]
theorem begin_eq : beginVs = st8 sha0 := by
 unfold st8 w32s w32v St8.list
 simp only [List.map_cons, List.map_nil, nv_eq]
 rfl
theorem build_begin (w : World) : (Instr.build 75 (numbered beginVs).toArray).run Tryz.prog w = .ok (.agg beginVs.toArray) w := by kernel_rfl
set_option maxRecDepth 100000 in
set_option maxHeartbeats 4000000 in
theorem roots_any (w : World) : Calls Tryz.prog 101 #[] w fun e w' => e = .returned (.agg rootVs.toArray) ∧ Below w.heap.size w w' := by
 go_enter Tryz.func101, Tryz.ntmps101
 go_wp2_with (refine stop_at (some 0) rfl ?_)
 refine Stop.go (wpList_alloc rfl _ rfl zero_a64 (vs := zeros64) rfl ?_)
 have HG := Lib.hid (Go.heap_alloc_new w (.cells zeros64.toArray 121))
 go_wp2_with (refine stop_at (some 1) rfl ?_)
 refine Stop.go (wpList_build rfl 121 rfl (vs := (numbered rootVs).toArray) (by kernel_rfl) (build_roots _) ?_)
 refine wpList_store_agg rfl 121 rfl rfl rfl (store_new (v := .agg rootVs.toArray) (vs := rootVs) rfl a64_s (by kernel_rfl) (u32s_one _)) ?_
 have HN := Lib.hid (Go.heap_alloc_new w (.cells rootVs.toArray 121))
 go_wp2_with fail
 exact bodyPost_ret (v := .agg rootVs.toArray) (results_cell_row rfl _ _ w.heap.size _ rootVs.toArray _ _ rfl HN.out a64_u rfl (by kernel_rfl)) rfl ⟨rfl, (Below.refl _ _).alloc (Nat.le_refl _) _⟩
set_option maxRecDepth 100000 in
set_option maxHeartbeats 4000000 in
theorem known_any (w : World) : Calls Tryz.prog 83 #[] w fun e w' => e = .returned (.agg rootVs.toArray) ∧ Below w.heap.size w w' := by
 go_enter Tryz.func83, Tryz.ntmps83
 go_wp2_with (refine stop_at (some 0) rfl ?_)
 refine Stop.go (wpList_alloc rfl _ rfl zero_a64 (vs := zeros64) rfl ?_)
 have HG := Lib.hid (Go.heap_alloc_new w (.cells zeros64.toArray 121))
 go_wp2_with (refine stop_at (some 1) rfl ?_)
 refine Stop.go (wpList_build rfl 121 rfl (vs := (numbered rootVs).toArray) (by kernel_rfl) (build_roots _) ?_)
 refine wpList_store_agg rfl 121 rfl rfl rfl (store_new (v := .agg rootVs.toArray) (vs := rootVs) rfl a64_s (by kernel_rfl) (u32s_one _)) ?_
 have HN := Lib.hid (Go.heap_alloc_new w (.cells rootVs.toArray 121))
 go_wp2_with fail
 exact bodyPost_ret (v := .agg rootVs.toArray) (results_cell_row rfl _ _ w.heap.size _ rootVs.toArray _ _ rfl HN.out a64_u rfl (by kernel_rfl)) rfl ⟨rfl, (Below.refl _ _).alloc (Nat.le_refl _) _⟩
set_option maxRecDepth 100000 in
set_option maxHeartbeats 4000000 in
theorem begin_any (w : World) : Calls Tryz.prog 62 #[] w fun e w' => e = .returned (.agg beginVs.toArray) ∧ Below w.heap.size w w' := by
 go_enter Tryz.func62, Tryz.ntmps62
 go_wp2_with (refine stop_at (some 0) rfl ?_)
 refine Stop.go (wpList_alloc rfl _ rfl zero_a8 (vs := zeros8) rfl ?_)
 have HG := Lib.hid (Go.heap_alloc_new w (.cells zeros8.toArray 75))
 go_wp2_with (refine stop_at (some 1) rfl ?_)
 refine Stop.go (wpList_build rfl 75 rfl (vs := (numbered beginVs).toArray) (by kernel_rfl) (build_begin _) ?_)
 refine wpList_store_agg rfl 75 rfl rfl rfl (store_new (v := .agg beginVs.toArray) (vs := beginVs) rfl a8_s (by kernel_rfl) (u32s_one _)) ?_
 have HN := Lib.hid (Go.heap_alloc_new w (.cells beginVs.toArray 75))
 go_wp2_with fail
 exact bodyPost_ret (v := .agg beginVs.toArray) (results_cell_row rfl _ _ w.heap.size _ beginVs.toArray _ _ rfl HN.out a8_u rfl (by kernel_rfl)) rfl ⟨rfl, (Below.refl _ _).alloc (Nat.le_refl _) _⟩
set_option maxRecDepth 100000 in
set_option maxHeartbeats 4000000 in
theorem first_any (w : World) : Calls Tryz.prog 41 #[] w fun e w' => e = .returned (.agg beginVs.toArray) ∧ Below w.heap.size w w' := by
 go_enter Tryz.func41, Tryz.ntmps41
 go_wp2_with (refine stop_at (some 0) rfl ?_)
 refine Stop.go (wpList_alloc rfl _ rfl zero_a8 (vs := zeros8) rfl ?_)
 have HG := Lib.hid (Go.heap_alloc_new w (.cells zeros8.toArray 75))
 go_wp2_with (refine stop_at (some 1) rfl ?_)
 refine Stop.go (wpList_build rfl 75 rfl (vs := (numbered beginVs).toArray) (by kernel_rfl) (build_begin _) ?_)
 refine wpList_store_agg rfl 75 rfl rfl rfl (store_new (v := .agg beginVs.toArray) (vs := beginVs) rfl a8_s (by kernel_rfl) (u32s_one _)) ?_
 have HN := Lib.hid (Go.heap_alloc_new w (.cells beginVs.toArray 75))
 go_wp2_with fail
 exact bodyPost_ret (v := .agg beginVs.toArray) (results_cell_row rfl _ _ w.heap.size _ beginVs.toArray _ _ rfl HN.out a8_u rfl (by kernel_rfl)) rfl ⟨rfl, (Below.refl _ _).alloc (Nat.le_refl _) _⟩
end Go.Proofs.YthojelhpipmkiaaGreatDoor
namespace Go.Proofs.YthojelhpipmkiaaGreatDoor
open Go.RowKit

theorem store_rowS {P : Program} {w : World} {g : Nat} {ty : TypeId} {vs : List Value} {v : Value} (hv : v.cells = vs.toArray) (hi : (P.info? ty).map (·.size) = some vs.length) {cur : Array Value} {t : TypeId} (hg : w.heap[g]? = some (.cells cur t (0, 0)))
  (hl : vs.length = cur.size) (h1 : ∀ u ∈ vs, u.oneCell' = true) : (Instr.storeAt ty (.pointer (some ⟨g, 0, none⟩)) v).run P w = .ok () (w.setRow g vs.toArray) := by
 rw [store_agg hv hi hg (by omega) h1]
 congr 2
 simp [List.drop_eq_nil_of_le (show cur.toList.length ≤ vs.length by simp; omega)]
theorem st8_cells {w : World} {g : Nat} {s : St8} {t : TypeId} {fr : Nat × Nat} (h : w.heap[g]? = some (.cells (st8 s).toArray t fr)) :
  w.cell? ⟨g, 0, none⟩ = some (w32v s.a) ∧ w.cell? ⟨g, 1, none⟩ = some (w32v s.b) ∧ w.cell? ⟨g, 2, none⟩ = some (w32v s.c) ∧ w.cell? ⟨g, 3, none⟩ = some (w32v s.d) ∧
  w.cell? ⟨g, 4, none⟩ = some (w32v s.e) ∧ w.cell? ⟨g, 5, none⟩ = some (w32v s.f) ∧ w.cell? ⟨g, 6, none⟩ = some (w32v s.g) ∧ w.cell? ⟨g, 7, none⟩ = some (w32v s.h) := by
 refine ⟨?_, ?_, ?_, ?_, ?_, ?_, ?_, ?_⟩ <;> (rw [cell_of_row _ _ _ _ _ _ h]; rfl)
theorem two_allocs (w : World) (a b : Obj) : ((w.alloc a).alloc b).heap[w.heap.size]? = some a ∧ ((w.alloc a).alloc b).heap[w.heap.size + 1]? = some b ∧ ((w.alloc a).alloc b).heap.size = w.heap.size + 2 ∧ Below w.heap.size w ((w.alloc a).alloc b) := by
 have h1 := Go.heap_alloc_new w a
 have h2 := Go.heap_alloc_new (w.alloc a) b
 rw [World.size_alloc] at h2
 refine ⟨?_, h2, by rw [World.size_alloc, World.size_alloc], ((Below.refl _ _).alloc (Nat.le_refl _) _).alloc (by rw [World.size_alloc]; omega) _⟩
 rw [Below.heap_alloc (w.alloc a) b w.heap.size (by rw [World.size_alloc]; omega)]
 exact h1
theorem build8 (x0 x1 x2 x3 x4 x5 x6 x7 : Int) (w : World) : (Instr.build 75 (numbered [.int .u32 x0, .int .u32 x1, .int .u32 x2, .int .u32 x3, .int .u32 x4, .int .u32 x5, .int .u32 x6, .int .u32 x7]).toArray).run Tryz.prog w = .ok (.agg #[.int .u32 x0, .int .u32 x1, .int .u32 x2, .int .u32 x3, .int .u32 x4, .int .u32 x5, .int .u32 x6, .int .u32 x7]) w := by kernel_rfl
set_option maxRecDepth 100000 in
set_option maxHeartbeats 8000000 in
theorem step_any (s : St8) (r x : W32) (w : World) : Calls Tryz.prog 102 #[.agg (st8 s).toArray, w32v r, w32v x] w fun e w' => e = .returned (.agg (st8 (stepS s r x)).toArray) ∧ Below w.heap.size w w' := by
 go_enter Tryz.func102, Tryz.ntmps102
 go_wp2_with (refine stop_at (some 3) rfl ?_)
 refine Stop.go (wpList_box rfl _ rfl rfl (vs := st8 s) rfl ?_)
 refine wpList_alloc rfl _ rfl zero_a8 (vs := zeros8) rfl ?_
 obtain ⟨hg1, hg2, hs1, hb1⟩ := two_allocs w (.cells (st8 s).toArray 75) (.cells zeros8.toArray 75)
 have HG1 := Lib.hid hg1
 have HG2 := Lib.hid hg2
 have HS1 := Lib.hid hs1
 have HB1 := Lib.hid hb1
 clear hg1 hg2 hs1 hb1
 simp only [World.size_alloc]
 generalize (w.alloc (.cells (st8 s).toArray 75)).alloc (.cells zeros8.toArray 75) = w1 at *
 obtain ⟨B, hB⟩ : ∃ B, B = w.heap.size := ⟨_, rfl⟩
 rw [← hB] at HG1 HG2 HS1 HB1 ⊢
 have HBE := Lib.hid hB
 clear hB
 have HC := Lib.hid (fun (w' : World) (h : w'.heap[B]? = some (.cells (st8 s).toArray 75 (0, 0))) => st8_cells h)
 obtain ⟨sa, sb, sc, sd, se, sf, sg, sh⟩ := s
 simp only at HC
 obtain ⟨c0, c1, c2, c3, c4, c5, c6, c7⟩ := HC.out w1 HG1.out
 generalize hac : Act.put _ _ _ = a9
 simp [Act.put] at hac
 subst hac
 have fx := nv_xor
 have fa := nv_and
 have fs := nv_add
 have fn := nv_not
 have fg : IntKind.u32.signed = false := rfl
 go_wp2_with fail
 refine Text.wp_text [] (by kernel_rfl) (by kernel_rfl) (fun Q' hQ' => ?_)
 go_wp2_with fail
 refine ⟨by rfl, ?_⟩
 go_wp2_with fail
 refine Text.wp_grow [3, 5, 8] [1, 13, 18] [] (by kernel_rfl) (by kernel_rfl) ?_
 refine Text.wpS_seg 3 _ _ _ _ (by decide) (fun Q' hQ' => ?_)
 simp only [List.take_succ_cons, List.take_zero]
 go_wp2_with fail
 try simp only [List.drop_succ_cons, List.drop_zero]
 refine Text.wpS_one (fun Q' hQ' => ?_)
 go_wp2_with fail
 refine (turn_any se 6 _ (by omega)).mono ?_
 rintro e w2 ⟨rfl, hb2⟩
 have HB2 := Lib.hid hb2
 clear hb2
 go_wp2_with fail
 refine ⟨HB2.out, ?_⟩
 refine Text.wpS_seg 1 _ _ _ _ (by decide) (fun Q' hQ' => ?_)
 simp only [List.take_succ_cons, List.take_zero]
 go_wp2_with fail
 try simp only [List.drop_succ_cons, List.drop_zero]
 refine Text.wpS_one (fun Q' hQ' => ?_)
 go_wp2_with fail
 refine (turn_any se 11 _ (by omega)).mono ?_
 rintro e w3 ⟨rfl, hb3⟩
 have HB3 := Lib.hid (HB2.out.trans (hb3.mono HB2.out.size))
 clear hb3
 go_wp2_with fail
 refine ⟨HB3.out, ?_⟩
 refine Text.wpS_seg 2 _ _ _ _ (by decide) (fun Q' hQ' => ?_)
 simp only [List.take_succ_cons, List.take_zero]
 go_wp2_with fail
 try simp only [List.drop_succ_cons, List.drop_zero]
 refine Text.wpS_one (fun Q' hQ' => ?_)
 go_wp2_with fail
 refine (turn_any se 25 _ (by omega)).mono ?_
 rintro e w4 ⟨rfl, hb4⟩
 have HB4 := Lib.hid (HB3.out.trans (hb4.mono HB3.out.size))
 clear hb4
 have HK4 := Lib.hid ((HB4.out.block B (show B < w1.heap.size by have := HS1.out; omega)).trans HG1.out)
 obtain ⟨d0, d1, d2, d3, d4, d5, d6, d7⟩ := HC.out w4 HK4.out
 go_wp2_with fail
 refine ⟨HB4.out, ?_⟩
 refine Text.wpS_seg 18 _ _ _ _ (by decide) (fun Q' hQ' => ?_)
 simp only [List.take_succ_cons, List.take_zero]
 go_wp2_with fail
 refine ⟨by rfl, ?_, ?_⟩
 ·exact ⟨fun _ => ⟨_, _, rfl, c7⟩, fun _ => ⟨_, _, rfl, c5⟩, fun _ => ⟨_, _, rfl, c6⟩, trivial⟩
 clear c0 c1 c2 c3 c4 c5 c6 c7
 have HBW := Lib.hid (HB1.out.trans ((Below.refl w1.heap.size w1).drew.drew.trans HB4.out |>.mono (by have := HS1.out; omega)))
 have HO4 := Lib.hid ((HB4.out.block (B + 1) (show B + 1 < w1.heap.size by have := HS1.out; omega)).trans HG2.out)
 have HS4 := Lib.hid (show B + 2 ≤ w4.heap.size by have := HS1.out; have h2 : w1.heap.size ≤ w4.heap.size := HB4.out.size; omega)
 clear HB2 HB3 HB4 HB1 HG1 HG2 HS1
 obtain ⟨X, hX⟩ : ∃ X, X = sh + (rotr se 6 ^^^ rotr se 11 ^^^ rotr se 25) + (se &&& sf ^^^ ~~~se &&& sg) + r + x := ⟨_, rfl⟩
 simp only [nv_add]
 rw [← hX]
 have HX := Lib.hid hX
 clear hX
 go_wp2_with fail
 refine Text.wp_grow [1, 3, 6] [10, 14, 18, 20] [] (by kernel_rfl) (by kernel_rfl) ?_
 refine Text.wpS_seg 1 _ _ _ _ (by decide) (fun Q' hQ' => ?_)
 simp only [List.take_succ_cons, List.take_zero]
 go_wp2_with fail
 try simp only [List.drop_succ_cons, List.drop_zero]
 refine Text.wpS_one (fun Q' hQ' => ?_)
 go_wp2_with fail
 refine (turn_any sa 2 _ (by omega)).mono ?_
 rintro e w5 ⟨rfl, hb5⟩
 have HB5 := Lib.hid hb5
 clear hb5
 go_wp2_with fail
 refine ⟨HB5.out, ?_⟩
 refine Text.wpS_seg 1 _ _ _ _ (by decide) (fun Q' hQ' => ?_)
 simp only [List.take_succ_cons, List.take_zero]
 go_wp2_with fail
 try simp only [List.drop_succ_cons, List.drop_zero]
 refine Text.wpS_one (fun Q' hQ' => ?_)
 go_wp2_with fail
 refine (turn_any sa 13 _ (by omega)).mono ?_
 rintro e w6 ⟨rfl, hb6⟩
 have HB6 := Lib.hid (HB5.out.trans (hb6.mono HB5.out.size))
 clear hb6
 go_wp2_with fail
 refine ⟨HB6.out, ?_⟩
 refine Text.wpS_seg 2 _ _ _ _ (by decide) (fun Q' hQ' => ?_)
 simp only [List.take_succ_cons, List.take_zero]
 go_wp2_with fail
 try simp only [List.drop_succ_cons, List.drop_zero]
 refine Text.wpS_one (fun Q' hQ' => ?_)
 go_wp2_with fail
 refine (turn_any sa 22 _ (by omega)).mono ?_
 rintro e w7 ⟨rfl, hb7⟩
 have HB7 := Lib.hid (HB6.out.trans (hb7.mono HB6.out.size))
 clear hb7
 have HK7 := Lib.hid ((HB7.out.block B (show B < w4.heap.size by have := HS4.out; omega)).trans HK4.out)
 obtain ⟨c0, c1, c2, c3, c4, c5, c6, c7⟩ := HC.out w7 HK7.out
 go_wp2_with fail
 refine ⟨HB7.out, ?_⟩
 refine Text.wpS_seg 18 _ _ _ _ (by decide) (fun Q' hQ' => ?_)
 simp only [List.take_succ_cons, List.take_zero]
 go_wp2_with fail
 refine ⟨by rfl, ?_, ?_⟩
 ·exact ⟨fun _ => ⟨_, _, rfl, d1⟩, fun _ => ⟨_, _, rfl, d2⟩, fun _ => ⟨_, _, rfl, d1⟩, fun _ => ⟨_, _, rfl, d2⟩, trivial⟩
 clear d0 d1 d2 d3 d4 d5 d6 d7
 have HBV := Lib.hid (HBW.out.trans ((Below.refl w4.heap.size w4).drew.trans HB7.out |>.mono (by have := HS4.out; omega)))
 have HO7 := Lib.hid ((HB7.out.block (B + 1) (show B + 1 < w4.heap.size by have := HS4.out; omega)).trans HO4.out)
 clear HB5 HB6 HB7 HBW HO4 HK4 HS4
 obtain ⟨Y, hY⟩ : ∃ Y, Y = (rotr sa 2 ^^^ rotr sa 13 ^^^ rotr sa 22) + (sa &&& sb ^^^ sa &&& sc ^^^ sb &&& sc) := ⟨_, rfl⟩
 simp only [nv_add]
 rw [← hY]
 have HY := Lib.hid hY
 clear hY
 go_wp2_with (refine stop_at (some 82) rfl ?_)
 simp only [nv_add]
 refine Stop.go (wpList_build rfl 75 rfl (vs := (numbered [w32v (X + Y), w32v sa, w32v sb, w32v sc, w32v (sd + X), w32v se, w32v sf, w32v sg]).toArray) (by rfl) (build8 _ _ _ _ _ _ _ _ _) ?_)
 have HE := Lib.hid (show st8 (stepS ⟨sa, sb, sc, sd, se, sf, sg, sh⟩ r x) = [w32v (X + Y), w32v sa, w32v sb, w32v sc, w32v (sd + X), w32v se, w32v sf, w32v sg] by rw [HX.out, HY.out]; rfl)
 refine wpList_store_agg rfl 75 rfl rfl rfl (store_rowS (vs := [w32v (X + Y), w32v sa, w32v sb, w32v sc, w32v (sd + X), w32v se, w32v sf, w32v sg]) rfl a8_s HO7.out rfl (w32s_one [X + Y, sa, sb, sc, sd + X, se, sf, sg])) ?_
 have HN := Lib.hid (setRow_heap _ _ _ _ _ _ HO7.out : (w7.setRow (B + 1) [w32v (X + Y), w32v sa, w32v sb, w32v sc, w32v (sd + X), w32v se, w32v sf, w32v sg].toArray).heap[B + 1]? = _)
 have HBN := Lib.hid (below_setRow HBV.out (Nat.le_succ B) [w32v (X + Y), w32v sa, w32v sb, w32v sc, w32v (sd + X), w32v se, w32v sf, w32v sg].toArray)
 generalize w7.setRow (B + 1) _ = w8 at *
 clear c0 c1 c2 c3 c4 c5 c6 c7
 go_wp2_with fail
 exact bodyPost_ret (v := .agg #[w32v (X + Y), w32v sa, w32v sb, w32v sc, w32v (sd + X), w32v se, w32v sf, w32v sg]) (results_cell_row rfl _ _ (B + 1) _ _ _ _ rfl HN.out a8_u rfl (by kernel_rfl)) rfl ⟨by rw [HE.out], by rw [← HBE.out]; exact HBN.out⟩
end Go.Proofs.YthojelhpipmkiaaGreatDoor
namespace Go.Proofs.YthojelhpipmkiaaGreatDoor
open Go.RowKit

def padW (l : List W32) : List W32 := l ++ List.replicate (64 - l.length) 0
theorem zero_w : w32v 0 = .int .u32 0 := by
 unfold w32v
 rw [nv_eq]
 rfl
theorem w32s_zeros (n : Nat) : w32s (List.replicate n 0) = u32s (List.replicate n 0) := by
 unfold w32s u32s
 rw [List.map_replicate, List.map_replicate, zero_w]
 rfl
theorem padW_nil : w32s (padW []) = zeros64 := w32s_zeros 64
theorem padW_len {l : List W32} (h : l.length ≤ 64) : (padW l).length = 64 := by
 unfold padW
 rw [List.length_append, List.length_replicate]
 omega
theorem padW_get {l : List W32} {i : Nat} (h : i < l.length) : (w32s (padW l))[i]? = some (w32v (l.getD i 0)) := by
 unfold padW w32s
 rw [List.map_append, List.getElem?_append_left (by rw [List.length_map]; exact h), List.getElem?_map, List.getD_eq_getElem?_getD, List.getElem?_eq_getElem h]
 rfl
theorem padW_set {l : List W32} (h : l.length < 64) (x : W32) : (w32s (padW l)).set l.length (w32v x) = w32s (padW (l ++ [x])) := by
 unfold padW w32s
 obtain ⟨k, hk⟩ : ∃ k, 64 - l.length = k + 1 := ⟨63 - l.length, by omega⟩
 have h2 : 64 - (l ++ [x]).length = k := by rw [List.length_append, List.length_singleton]; omega
 rw [h2, hk, List.replicate_succ, List.map_append, List.map_append, List.map_append, List.set_append_right _ _ (by rw [List.length_map]; exact Nat.le_refl _), List.length_map, Nat.sub_self, List.append_assoc]
 rfl
def ArrT (T : TypeId) (w : World) (g : Nat) (l : List W32) : Prop := w.heap[g]? = some (.cells (w32s (padW l)).toArray T (0, 0))
abbrev ArrW (w : World) (g : Nat) (l : List W32) : Prop := ArrT 121 w g l
theorem ArrT.cell {T : TypeId} {w : World} {g : Nat} {l : List W32} (h : ArrT T w g l) {i : Nat} (hi : i < l.length) : w.cell? ⟨g, i, none⟩ = some (w32v (l.getD i 0)) := by
 rw [cell_of_row _ _ _ _ _ _ h, ← Array.getElem?_toList]
 exact padW_get hi
theorem ArrT.any {T : TypeId} {w : World} {g : Nat} {l : List W32} (h : ArrT T w g l) {i : Nat} (hl : l.length ≤ 64) (hi : i < 64) : ∃ x : W32, w.cell? ⟨g, i, none⟩ = some (w32v x) := by
 have hi2 : i < (padW l).length := by rw [padW_len hl]; exact hi
 refine ⟨(padW l)[i], ?_⟩
 rw [cell_of_row _ _ _ _ _ _ h, ← Array.getElem?_toList]
 exact w32s_get hi2
theorem ArrT.free {T : TypeId} {w : World} {g : Nat} {l : List W32} (h : ArrT T w g l) (i : Nat) : w.frozen? ⟨g, i, none⟩ = false := by simp [World.frozen?, show w.heap[g]? = _ from h]
theorem ArrT.set {T : TypeId} {w : World} {g : Nat} {l : List W32} (h : ArrT T w g l) (hl : l.length < 64) (x : W32) : ArrT T (w.setCell ⟨g, l.length, none⟩ (w32v x)) g (l ++ [x]) := by
 unfold ArrT
 have h0 : w.heap[g]? = _ := h
 simp only [World.setCell, Array.getElem?_modify, if_true, h0, Option.map_some]
 rw [List.setIfInBounds_toArray, padW_set hl]
 rfl
theorem be4_or (n0 n1 n2 n3 : Nat) (h0 : n0 < 256) (h1 : n1 < 256) (h2 : n2 < 256) (h3 : n3 < 256) :
  bits .or .u32 (bits .or .u32 (bits .or .u32 ((n0 : Int) * 16777216) ((n1 : Int) * 65536)) ((n2 : Int) * 256)) (n3 : Int) = ((((n0 * 256 + n1) * 256 + n2) * 256 + n3 : Nat) : Int) := by
 have e0 : (n0 : Int) * 16777216 = ((n0 * 16777216 : Nat) : Int) := by omega
 have e1 : (n1 : Int) * 65536 = ((n1 * 65536 : Nat) : Int) := by omega
 have e2 : (n2 : Int) * 256 = ((n2 * 256 : Nat) : Int) := by omega
 have j24 : ∀ x y : Nat, x % 16777216 = 0 → y < 16777216 → x ||| y = x + y := fun x y h k => nat_join 24 x y h k
 have j16 : ∀ x y : Nat, x % 65536 = 0 → y < 65536 → x ||| y = x + y := fun x y h k => nat_join 16 x y h k
 have j8 : ∀ x y : Nat, x % 256 = 0 → y < 256 → x ||| y = x + y := fun x y h k => nat_join 8 x y h k
 rw [e0, e1, e2, u32_or_nat _ _ (by omega) (by omega), j24 _ _ (by omega) (by omega), u32_or_nat _ _ (by omega) (by omega), j16 _ _ (by omega) (by omega), u32_or_nat _ _ (by omega) (by omega), j8 _ _ (by omega) (by omega)]
 exact congrArg Nat.cast (show _ = _ by omega)
theorem be4_nv (x y z t : UInt8) : nv (be4 x y z t) = ((x.toNat * 256 + y.toNat) * 256 + z.toNat) * 256 + t.toNat := by
 have := x.toNat_lt
 have := y.toNat_lt
 have := z.toNat_lt
 have := t.toNat_lt
 unfold be4
 rw [nv_eq, BitVec.toNat_ofNat, Nat.mod_eq_of_lt (by omega)]
theorem rd_bytes {w : World} {B : Nat} {A : Option Addr} {l : List UInt8} (h : Rd w B A (bcells l)) (hl : 0 < l.length) : ∃ ab ao, A = some ⟨ab, ao, none⟩ ∧ ab < B ∧ ∀ (w' : World), Below B w w' → ∀ k < l.length, w'.cell? ⟨ab, ao + k, none⟩ = some (.int .u8 ((l.getD k 0).toNat : Int)) := by
 obtain ⟨ab, ao, e, hb, -⟩ := h.byte hl
 refine ⟨ab, ao, e, hb, fun w' hb' k hk => ?_⟩
 obtain ⟨ab2, ao2, e2, -, hc⟩ := h.byte hk
 rw [e] at e2
 injection e2 with e2
 injection e2 with e3 e4
 subst e3 e4
 rw [hb'.cell (p := ⟨ab, ao + k, none⟩) hb, hc, List.getD_eq_getElem?_getD, List.getElem?_eq_getElem hk]
 rfl
set_option maxRecDepth 100000 in
set_option maxHeartbeats 16000000 in
theorem words_any (b : List UInt8) (A : Option Addr) (c B' : Nat) (w : World) (hb : Rd w B' A (bcells b)) (hB' : B' ≤ w.heap.size) (hl : b.length = 64) :
  Calls Tryz.prog 100 #[.slice A 64 c] w fun e w' => e = .returned (.agg (w32s (wordsN b 64)).toArray) ∧ Below w.heap.size w w' := by
 go_enter Tryz.func100, Tryz.ntmps100
 go_wp2_with (refine stop_at (some 2) rfl ?_)
 refine Stop.go (wpList_alloc rfl _ rfl zero_a64 (vs := zeros64) rfl ?_)
 go_wp2_with (refine stop_at (some 3) rfl ?_)
 refine Stop.go (wpList_alloc rfl _ rfl zero_a64 (vs := zeros64) rfl ?_)
 obtain ⟨hg1, hg2, hs1, hb1⟩ := two_allocs w (.cells zeros64.toArray 121) (.cells zeros64.toArray 121)
 have HG1 := Lib.hid hg1
 have HG2 := Lib.hid (show ArrW _ (w.heap.size + 1) [] from by unfold ArrW ArrT; rw [padW_nil]; exact hg2)
 have HS1 := Lib.hid hs1
 have HB1 := Lib.hid hb1
 clear hg1 hg2 hs1 hb1
 simp only [World.size_alloc]
 generalize (w.alloc (.cells zeros64.toArray 121)).alloc (.cells zeros64.toArray 121) = w1 at *
 obtain ⟨B, hB⟩ : ∃ B, B = w.heap.size := ⟨_, rfl⟩
 rw [← hB] at HG1 HG2 HS1 HB1 hB' ⊢
 have HBE := Lib.hid hB
 obtain ⟨ab, ao, rfl, hab, hby⟩ := rd_bytes hb (by omega)
 rw [hl] at hby
 have HR := Lib.hid hby
 have HL := Lib.hid hl
 clear hB hb hl hby
 generalize hac : Act.put _ _ _ = a9
 simp [Act.put] at hac
 subst hac
 go_wp2_with fail
 go_loopw [7] (fun v7 wr => ∃ i : Nat, i ≤ 64 ∧ v7 = .int .i64 i ∧ Hid (ArrW wr (B + 1) (wordsN b i)) ∧ Hid (wr.heap[B]? = some (.cells zeros64.toArray 121 (0, 0))) ∧ Hid (Below B w wr)) (fun v7 _ => 64 - (intOf v7).toNat)
 case atStart => exact ⟨0, by omega, rfl, HG2.out, HG1.out, HB1.out⟩
 case round =>
  obtain ⟨i, hi, rfl, HA, HO, HBW⟩ := hrel
  by_cases hlt : i < 64
  ·by_cases h16 : i < 16
   ·have hbw := HBW.out.mono hB'
    have b0 := HR.out wr hbw (4 * i) (by omega)
    have b1 := HR.out wr hbw (4 * i + 1) (by omega)
    have b2 := HR.out wr hbw (4 * i + 2) (by omega)
    have b3 := HR.out wr hbw (4 * i + 3) (by omega)
    have l0 := (b.getD (4 * i) 0).toNat_lt
    have l1 := (b.getD (4 * i + 1) 0).toNat_lt
    have l2 := (b.getD (4 * i + 2) 0).toNat_lt
    have l3 := (b.getD (4 * i + 3) 0).toNat_lt
    have HV := Lib.hid (show bits .or .u32 (bits .or .u32 (bits .or .u32 (((b.getD (4 * i) 0).toNat : Int) * 16777216) (((b.getD (4 * i + 1) 0).toNat : Int) * 65536)) (((b.getD (4 * i + 2) 0).toNat : Int) * 256)) ((b.getD (4 * i + 3) 0).toNat : Int) = (nv (nextW b (wordsN b i)) : Int) by
     rw [be4_or _ _ _ _ (by omega) (by omega) (by omega) (by omega)]
     unfold nextW
     simp only [wordsN_len]
     rw [if_pos h16, be4_nv])
    generalize (b.getD (4 * i) 0).toNat = n0 at *
    generalize (b.getD (4 * i + 1) 0).toNat = n1 at *
    generalize (b.getD (4 * i + 2) 0).toNat = n2 at *
    generalize (b.getD (4 * i + 3) 0).toNat = n3 at *
    have HWL := Lib.hid (wordsN_len b i)
    obtain ⟨old, hcell⟩ := HA.out.any (i := i) (by rw [HWL.out]; omega) hlt
    have hfr := HA.out.free i
    clear hbw
    go_wp2_with fail
    refine Text.wp_text [] (by kernel_rfl) (by kernel_rfl) (fun Q' hQ' => ?_)
    go_wp2_with fail
    refine ⟨by rfl, ?_⟩
    rw [HV.out]
    have HA2 := Lib.hid (show ArrW (wr.setCell ⟨B + 1, i, none⟩ (.int .u32 (nv (nextW b (wordsN b i)) : Int))).drew (B + 1) (wordsN b (i + 1)) from by
     have h := ArrT.set (w := wr) HA.out (by rw [HWL.out]; omega) (nextW b (wordsN b i))
     rw [HWL.out] at h
     exact h)
    have HO2 := Lib.hid (show (wr.setCell ⟨B + 1, i, none⟩ (.int .u32 (nv (nextW b (wordsN b i)) : Int))).drew.heap[B]? = some (.cells zeros64.toArray 121 (0, 0)) from (heap_setCell_other _ _ _ _ (show B ≠ B + 1 by omega)).trans HO.out)
    have HB2 := Lib.hid (show Below B w (wr.setCell ⟨B + 1, i, none⟩ (.int .u32 (nv (nextW b (wordsN b i)) : Int))).drew from (HBW.out.setCell (Nat.le_succ B) _).drew)
    generalize (wr.setCell ⟨B + 1, i, none⟩ _).drew = w3 at *
    clear hcell hfr b0 b1 b2 b3
    go_wp2_with fail
    go_roundw
    case rel => exact ⟨i + 1, by omega, by go_num, HA2.out, HO2.out, HB2.out⟩
    case measure => simp [intOf]; omega
   ·have HWL := Lib.hid (wordsN_len b i)
    obtain ⟨old, hcell⟩ := HA.out.any (i := i) (by rw [HWL.out]; omega) hlt
    have hfr := HA.out.free i
    have g15 := HA.out.cell (i := i - 15) (by rw [HWL.out]; omega)
    have g16 := HA.out.cell (i := i - 16) (by rw [HWL.out]; omega)
    have g7 := HA.out.cell (i := i - 7) (by rw [HWL.out]; omega)
    have g2 := HA.out.cell (i := i - 2) (by rw [HWL.out]; omega)
    have HV := Lib.hid (show nextW b (wordsN b i) = (wordsN b i).getD (i - 16) 0 + sig0 ((wordsN b i).getD (i - 15) 0) + (wordsN b i).getD (i - 7) 0 + sig1 ((wordsN b i).getD (i - 2) 0) by
     unfold nextW
     simp only [wordsN_len]
     rw [if_neg h16])
    have HCELLS := Lib.hid (fun (w' : World) (h : ArrW w' (B + 1) (wordsN b i)) => (⟨h.cell (i := i - 15) (by rw [HWL.out]; omega), h.cell (i := i - 16) (by rw [HWL.out]; omega), h.cell (i := i - 7) (by rw [HWL.out]; omega), h.cell (i := i - 2) (by rw [HWL.out]; omega)⟩ : _ ∧ _ ∧ _ ∧ _))
    generalize (wordsN b i).getD (i - 15) 0 = y15 at *
    generalize (wordsN b i).getD (i - 16) 0 = y16 at *
    generalize (wordsN b i).getD (i - 7) 0 = y7 at *
    generalize (wordsN b i).getD (i - 2) 0 = y2 at *
    have fx := nv_xor
    have fs := nv_add
    have q15 : (nv y15 : Int) / (8 : Int) = (nv (y15 >>> 3) : Int) := by have := nv_shr y15 3; simpa using this
    have q2 : (nv y2 : Int) / (1024 : Int) = (nv (y2 >>> 10) : Int) := by have := nv_shr y2 10; simpa using this
    go_wp2_with fail
    refine Text.wp_grow [4, 9] [3, 8, 14] [] (by kernel_rfl) (by kernel_rfl) ?_
    refine Text.wpS_seg 4 _ _ _ _ (by decide) (fun Q' hQ' => ?_)
    simp only [List.take_succ_cons, List.take_zero]
    go_wp2_with fail
    try simp only [List.drop_succ_cons, List.drop_zero]
    refine Text.wpS_one (fun Q' hQ' => ?_)
    go_wp2_with fail
    refine (turn_any y15 7 _ (by omega)).mono ?_
    rintro e w2 ⟨rfl, hb1⟩
    have HBw2 := Lib.hid hb1
    clear hb1
    have HAw2 := Lib.hid (show ArrW w2 (B + 1) (wordsN b i) from (HBw2.out.block (B + 1) (show B + 1 < wr.heap.size from (Array.getElem?_eq_some_iff.1 HA.out).1)).trans HA.out)
    obtain ⟨p15, p16, p7, p2⟩ := HCELLS.out w2 HAw2.out
    go_wp2_with fail
    refine ⟨HBw2.out, ?_⟩
    refine Text.wpS_seg 4 _ _ _ _ (by decide) (fun Q' hQ' => ?_)
    simp only [List.take_succ_cons, List.take_zero]
    go_wp2_with fail
    try simp only [List.drop_succ_cons, List.drop_zero]
    refine Text.wpS_one (fun Q' hQ' => ?_)
    go_wp2_with fail
    refine (turn_any y15 18 _ (by omega)).mono ?_
    rintro e w3 ⟨rfl, hb1⟩
    have HBw3 := Lib.hid (HBw2.out.trans (hb1.mono HBw2.out.size))
    clear hb1 p15 p16 p7 p2
    have HAw3 := Lib.hid (show ArrW w3 (B + 1) (wordsN b i) from (HBw3.out.block (B + 1) (show B + 1 < wr.heap.size from (Array.getElem?_eq_some_iff.1 HA.out).1)).trans HA.out)
    obtain ⟨p15, p16, p7, p2⟩ := HCELLS.out w3 HAw3.out
    go_wp2_with fail
    refine ⟨HBw3.out, ?_⟩
    refine Text.wpS_seg 8 _ _ _ _ (by decide) (fun Q' hQ' => ?_)
    simp only [List.take_succ_cons, List.take_zero]
    go_wp2_with fail
    refine ⟨by rfl, ?_, ?_⟩
    ·exact ⟨fun _ => ⟨_, _, rfl, g15⟩, fun _ => ⟨_, _, rfl, g15⟩, fun _ => ⟨_, _, rfl, g15⟩, trivial⟩
    rw [show rotr y15 7 ^^^ rotr y15 18 ^^^ y15 >>> 3 = sig0 y15 from rfl]
    obtain ⟨s0, hs0⟩ : ∃ s0, s0 = sig0 y15 := ⟨_, rfl⟩
    rw [← hs0] at HV ⊢
    have HBX := Lib.hid (show Below B w w3 from HBW.out.trans ((Below.refl wr.heap.size wr).drew.trans HBw3.out |>.mono (Nat.le_of_lt (Array.getElem?_eq_some_iff.1 HO.out).1)))
    clear hs0 g15 g16 g7 g2 hcell hfr
    go_wp2_with fail
    refine Text.wp_grow [4, 9] [3, 8, 14] [] (by kernel_rfl) (by kernel_rfl) ?_
    refine Text.wpS_seg 4 _ _ _ _ (by decide) (fun Q' hQ' => ?_)
    simp only [List.take_succ_cons, List.take_zero]
    go_wp2_with fail
    try simp only [List.drop_succ_cons, List.drop_zero]
    refine Text.wpS_one (fun Q' hQ' => ?_)
    go_wp2_with fail
    have r2 := p2
    clear p15 p16 p7 p2
    refine (turn_any y2 17 _ (by omega)).mono ?_
    rintro e w4 ⟨rfl, hb1⟩
    have HBw4 := Lib.hid hb1
    clear hb1
    have HAw4 := Lib.hid (show ArrW w4 (B + 1) (wordsN b i) from (HBw4.out.block (B + 1) (show B + 1 < w3.heap.size from (Array.getElem?_eq_some_iff.1 HAw3.out).1)).trans HAw3.out)
    obtain ⟨p15, p16, p7, p2⟩ := HCELLS.out w4 HAw4.out
    go_wp2_with fail
    refine ⟨HBw4.out, ?_⟩
    refine Text.wpS_seg 4 _ _ _ _ (by decide) (fun Q' hQ' => ?_)
    simp only [List.take_succ_cons, List.take_zero]
    go_wp2_with fail
    try simp only [List.drop_succ_cons, List.drop_zero]
    refine Text.wpS_one (fun Q' hQ' => ?_)
    go_wp2_with fail
    refine (turn_any y2 19 _ (by omega)).mono ?_
    rintro e w5 ⟨rfl, hb1⟩
    have HBw5 := Lib.hid (HBw4.out.trans (hb1.mono HBw4.out.size))
    clear hb1 p15 p16 p7 p2
    have HAw5 := Lib.hid (show ArrW w5 (B + 1) (wordsN b i) from (HBw5.out.block (B + 1) (show B + 1 < w3.heap.size from (Array.getElem?_eq_some_iff.1 HAw3.out).1)).trans HAw3.out)
    obtain ⟨p15, p16, p7, p2⟩ := HCELLS.out w5 HAw5.out
    go_wp2_with fail
    refine ⟨HBw5.out, ?_⟩
    refine Text.wpS_seg 8 _ _ _ _ (by decide) (fun Q' hQ' => ?_)
    simp only [List.take_succ_cons, List.take_zero]
    go_wp2_with fail
    refine ⟨by rfl, ?_, ?_⟩
    ·exact ⟨fun _ => ⟨_, _, rfl, r2⟩, fun _ => ⟨_, _, rfl, r2⟩, fun _ => ⟨_, _, rfl, r2⟩, trivial⟩
    rw [show rotr y2 17 ^^^ rotr y2 19 ^^^ y2 >>> 10 = sig1 y2 from rfl]
    obtain ⟨s1, hs1⟩ : ∃ s1, s1 = sig1 y2 := ⟨_, rfl⟩
    rw [← hs1] at HV ⊢
    have HBY := Lib.hid (show Below B w w5 from HBX.out.trans ((Below.refl w3.heap.size w3).drew.trans HBw5.out |>.mono (Nat.le_of_lt (Nat.lt_trans (Nat.lt_succ_self B) (Array.getElem?_eq_some_iff.1 HAw3.out).1))))
    clear hs1 r2
    obtain ⟨old, hcell⟩ := HAw5.out.any (i := i) (by rw [HWL.out]; omega) hlt
    have hfr := HAw5.out.free i
    have HO5 := Lib.hid (((HBw5.out.block B (show B < w3.heap.size from Nat.lt_trans (Nat.lt_succ_self B) (Array.getElem?_eq_some_iff.1 HAw3.out).1)).trans ((HBw3.out.block B (show B < wr.heap.size from (Array.getElem?_eq_some_iff.1 HO.out).1)).trans HO.out) : w5.heap[B]? = some (.cells zeros64.toArray 121 (0, 0))))
    clear HBw2 HBw3 HBw4 HBw5 HAw2 HAw3 HAw4 HBX
    go_wp2_with fail
    refine Text.wp_text [] (by kernel_rfl) (by kernel_rfl) (fun Q' hQ' => ?_)
    go_wp2_with fail
    refine ⟨by rfl, ?_⟩
    rw [← HV.out]
    have HA2 := Lib.hid (show ArrW (w5.setCell ⟨B + 1, i, none⟩ (.int .u32 (nv (nextW b (wordsN b i)) : Int))).drew (B + 1) (wordsN b (i + 1)) from by
     have h := ArrT.set (w := w5) HAw5.out (by rw [HWL.out]; omega) (nextW b (wordsN b i))
     rw [HWL.out] at h
     exact h)
    have HO2 := Lib.hid (show (w5.setCell ⟨B + 1, i, none⟩ (.int .u32 (nv (nextW b (wordsN b i)) : Int))).drew.heap[B]? = some (.cells zeros64.toArray 121 (0, 0)) from (heap_setCell_other _ _ _ _ (show B ≠ B + 1 by omega)).trans HO5.out)
    have HB2 := Lib.hid (show Below B w (w5.setCell ⟨B + 1, i, none⟩ (.int .u32 (nv (nextW b (wordsN b i)) : Int))).drew from (HBY.out.setCell (Nat.le_succ B) _).drew)
    generalize (w5.setCell ⟨B + 1, i, none⟩ _).drew = w6 at *
    clear hcell hfr p15 p16 p7 p2
    go_wp2_with fail
    go_roundw
    case rel => exact ⟨i + 1, by omega, by go_num, HA2.out, HO2.out, HB2.out⟩
    case measure => simp [intOf]; omega
  ·have hi64 : i = 64 := by omega
   subst hi64
   have HWL := Lib.hid (wordsN_len b 64)
   have HP := Lib.hid (show padW (wordsN b 64) = wordsN b 64 by unfold padW; rw [HWL.out]; simp)
   have HA2 := Lib.hid (show wr.heap[B + 1]? = some (.cells (w32s (wordsN b 64)).toArray 121 (0, 0)) from by have h := HA.out; unfold ArrW ArrT at h; rw [HP.out] at h; exact h)
   have HLN := Lib.hid (show (w32s (wordsN b 64)).length = 64 by unfold w32s; rw [List.length_map, HWL.out])
   obtain ⟨cs, hcs⟩ : ∃ cs, cs = w32s (wordsN b 64) := ⟨_, rfl⟩
   have HONE := Lib.hid (w32s_one (wordsN b 64))
   rw [← hcs] at HA2 HLN HONE
   have HCS := Lib.hid hcs
   clear hcs HA HP
   go_wp2_with (refine stop_at (some 97) rfl ?_)
   refine Stop.go (wpList_load_agg rfl 121 rfl rfl a64_u rfl (cs := cs) (by rw [HLN.out]; exact a64_s) (by have := row_cells HA2.out; simpa using this) ?_)
   refine wpList_store_agg rfl 121 rfl rfl rfl (store_rowS (vs := cs) rfl (by rw [HLN.out]; exact a64_s) HO.out (by rw [HLN.out]; rfl) HONE.out) ?_
   have HN := Lib.hid (setRow_heap _ _ _ _ _ _ HO.out : (wr.setRow B cs.toArray).heap[B]? = _)
   have HBN := Lib.hid (below_setRow HBW.out (Nat.le_refl B) cs.toArray)
   generalize wr.setRow B cs.toArray = w8 at *
   go_wp2_with fail
   exact bodyPost_ret (v := .agg cs.toArray) (results_cell_row rfl _ _ B _ _ _ _ rfl HN.out a64_u rfl (by rw [a64_s, List.size_toArray, HLN.out])) rfl ⟨by rw [HCS.out], by rw [← HBE.out]; exact HBN.out⟩
end Go.Proofs.YthojelhpipmkiaaGreatDoor
