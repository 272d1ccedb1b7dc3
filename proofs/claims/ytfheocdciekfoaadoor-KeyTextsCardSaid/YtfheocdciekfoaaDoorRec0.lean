/- Records as values: how they lie in memory, how they are built; the contract of the law's Plain. -/
import Derived.Test.YtfheocdciekfoaaDoorSeg
import Derived.Test.YtfheocdciekfoaaDoorKey
namespace Go.Proofs.YtfheocdciekfoaaDoor
open Go.RowKit

section
variable {w : World} {g : Nat} {t : TypeId} {fr : Nat × Nat} {kind seq : Int} {kh mh : List UInt8} {kk ms : Int} {v : Value}
/-- a record in block g -/
structure RecAt (w : World) (g : Nat) (t : TypeId) (kind seq : Int) (kh : List UInt8) (kk : Int) (mh : List UInt8) (ms : Int) (v : Value) : Prop where
  blk : w.heap[g]? = some (.cells (recCells kind seq kh kk mh ms v).toArray t (0, 0))
  hk : kh.length = 32
  hm : mh.length = 32
theorem rec_split1 : recCells kind seq kh kk mh ms v = [.int .i64 kind, .int .i64 seq] ++ (hkCells kh kk ++ (hkCells mh ms ++ [v])) := rfl
theorem rec_split2 : recCells kind seq kh kk mh ms v = ([.int .i64 kind, .int .i64 seq] ++ hkCells kh kk) ++ (hkCells mh ms ++ [v]) := by simp [recCells]
theorem rec_split3 : recCells kind seq kh kk mh ms v = ([.int .i64 kind, .int .i64 seq] ++ hkCells kh kk) ++ (bcells mh ++ ([.int .i64 ms] ++ [v])) := by simp [recCells, hkCells]
theorem rec_split4 : recCells kind seq kh kk mh ms v = ([.int .i64 kind, .int .i64 seq] ++ hkCells kh kk ++ bcells mh) ++ ([.int .i64 ms, v] ++ []) := by simp [recCells, hkCells]
theorem rec_split5 : recCells kind seq kh kk mh ms v = ([.int .i64 kind, .int .i64 seq] ++ bcells kh) ++ ([.int .i64 kk] ++ (hkCells mh ms ++ [v])) := by simp [recCells, hkCells]
theorem RecAt.kind_ (h : RecAt w g t kind seq kh kk mh ms v) : w.cell? ⟨g, 0, none⟩ = some (.int .i64 kind) := by rw [cell_of_row _ _ _ _ _ _ h.blk]; rfl
theorem RecAt.seq_ (h : RecAt w g t kind seq kh kk mh ms v) : w.cell? ⟨g, 1, none⟩ = some (.int .i64 seq) := by rw [cell_of_row _ _ _ _ _ _ h.blk]; rfl
theorem RecAt.kk_ (h : RecAt w g t kind seq kh kk mh ms v) : w.cell? ⟨g, 34, none⟩ = some (.int .i64 kk) := by
  have := cell_part h.blk (congrArg List.toArray rec_split5) 0 (.int .i64 kk) rfl
  simpa [bcells_length, h.hk] using this
theorem RecAt.size_ (h : RecAt w g t kind seq kh kk mh ms v) : w.cell? ⟨g, 67, none⟩ = some (.int .i64 ms) := by
  have := cell_part h.blk (congrArg List.toArray rec_split4) 0 (.int .i64 ms) rfl
  simpa [bcells_length, hkCells_length, h.hk, h.hm] using this
theorem RecAt.keys_ (h : RecAt w g t kind seq kh kk mh ms v) : w.cell? ⟨g, 68, none⟩ = some v := by
  have := cell_part h.blk (congrArg List.toArray rec_split4) 1 v rfl
  simpa [bcells_length, hkCells_length, h.hk, h.hm] using this
theorem RecAt.key_ (h : RecAt w g t kind seq kh kk mh ms v) : ∀ j u, (hkCells kh kk)[j]? = some u → w.cell? ⟨g, 2 + j, none⟩ = some u := fun j u hu => cell_part h.blk (congrArg List.toArray rec_split1) j u hu
theorem RecAt.mark_ (h : RecAt w g t kind seq kh kk mh ms v) : ∀ j u, (hkCells mh ms)[j]? = some u → w.cell? ⟨g, 35 + j, none⟩ = some u := fun j u hu => by
  have := cell_part h.blk (congrArg List.toArray rec_split2) j u hu
  rwa [show ([Value.int .i64 kind, .int .i64 seq] ++ hkCells kh kk).length = 35 by simp [hkCells_length, h.hk]] at this
theorem RecAt.hash_ (h : RecAt w g t kind seq kh kk mh ms v) : ∀ j u, (bcells mh)[j]? = some u → w.cell? ⟨g, 35 + j, none⟩ = some u := fun j u hu => by
  have := cell_part h.blk (congrArg List.toArray rec_split3) j u hu
  rwa [show ([Value.int .i64 kind, .int .i64 seq] ++ hkCells kh kk).length = 35 by simp [hkCells_length, h.hk]] at this
theorem RecAt.all_ (h : RecAt w g t kind seq kh kk mh ms v) : ∀ j u, (recCells kind seq kh kk mh ms v)[j]? = some u → w.cell? ⟨g, 0 + j, none⟩ = some u := fun j u hu => by
  rw [Nat.zero_add, cell_of_row _ _ _ _ _ _ h.blk, ← Array.getElem?_toList]
  exact hu
theorem RecAt.lt (h : RecAt w g t kind seq kh kk mh ms v) : g < w.heap.size := (Array.getElem?_eq_some_iff.1 h.blk).1
theorem RecAt.later {w' : World} (h : RecAt w g t kind seq kh kk mh ms v) (hb : Below w.heap.size w w') : RecAt w' g t kind seq kh kk mh ms v := ⟨(hb.block g h.lt).trans h.blk, h.hk, h.hm⟩
theorem RecAt.new (w : World) (hk : kh.length = 32) (hm : mh.length = 32) : RecAt (w.alloc (.cells (recCells kind seq kh kk mh ms v).toArray t)) w.heap.size t kind seq kh kk mh ms v := ⟨Go.heap_alloc_new w _, hk, hm⟩
end
theorem key_size (h : List UInt8) (k : Int) (hh : h.length = 32) : (Tryd.prog.info? 24).map (·.size) = some (hkCells h k).length := by rw [hkCells_length, hh]; kernel_rfl
theorem mark_size (h : List UInt8) (k : Int) (hh : h.length = 32) : (Tryd.prog.info? 26).map (·.size) = some (hkCells h k).length := by rw [hkCells_length, hh]; kernel_rfl
theorem hash_size (h : List UInt8) (hh : h.length = 32) : (Tryd.prog.info? 22).map (·.size) = some (bcells h).length := by rw [bcells_length, hh]; kernel_rfl
theorem rec_size (kind seq : Int) (kh : List UInt8) (kk : Int) (mh : List UInt8) (ms : Int) (v : Value) (hk : kh.length = 32) (hm : mh.length = 32) : (Tryd.prog.info? 29).map (·.size) = some (recCells kind seq kh kk mh ms v).length := by
  rw [recCells_length, hk, hm]; kernel_rfl
theorem rec32_size (kind seq : Int) (kh : List UInt8) (kk : Int) (mh : List UInt8) (ms : Int) (v : Value) (hk : kh.length = 32) (hm : mh.length = 32) : (Tryd.prog.info? 32).map (·.size) = some (recCells kind seq kh kk mh ms v).length := by
  rw [recCells_length, hk, hm]; kernel_rfl
noncomputable def recTy : TypeDesc := .struct (Tryd.prog.fieldsOf 29)
noncomputable def rec32Ty : TypeDesc := .struct (Tryd.prog.fieldsOf 32)
theorem recTy_u : Tryd.prog.underlying 29 = some recTy := by kernel_rfl
theorem rec32Ty_u : Tryd.prog.underlying 32 = some rec32Ty := by kernel_rfl

theorem hkCells_one (l : List UInt8) (k : Int) : ∀ u ∈ hkCells l k, u.oneCell' = true := fun u hu => by
  rcases List.mem_append.1 hu with h | h
  · exact bcells_one l u h
  · rw [List.mem_singleton.1 h]; rfl
theorem recCells_one (kind seq : Int) (kh : List UInt8) (kk : Int) (mh : List UInt8) (ms : Int) (A : Option Addr) (n c : Nat) : ∀ u ∈ recCells kind seq kh kk mh ms (.slice A n c), u.oneCell' = true := fun u hu => by
  rcases List.mem_append.1 hu with h | h
  · rcases List.mem_cons.1 h with rfl | h
    · rfl
    · rw [List.mem_singleton.1 h]; rfl
  rcases List.mem_append.1 h with h | h
  · exact hkCells_one _ _ u h
  rcases List.mem_append.1 h with h | h
  · exact hkCells_one _ _ u h
  · rw [List.mem_singleton.1 h]; rfl

/-! built out of parts -/
theorem zip_fold (off : Nat) : ∀ (vs : List Value) (k : Nat) (pre Z : List Value), pre.length = off + k → vs.length ≤ Z.length →
    (vs.zipIdx k).foldl (fun (cs : Array Value) (x : Value × Nat) => cs.setIfInBounds (off + x.2) x.1) (pre ++ Z).toArray = (pre ++ vs ++ Z.drop vs.length).toArray
  | [], k, pre, Z, _, _ => by simp
  | u :: vs, k, pre, [], _, h => by simp at h
  | u :: vs, k, pre, z :: Z, hp, h => by
    rw [List.zipIdx_cons, List.foldl_cons]
    have e : (pre ++ z :: Z).toArray.setIfInBounds (off + (u, k).2) (u, k).1 = ((pre ++ [u]) ++ Z).toArray := by
      simp only
      rw [List.setIfInBounds_toArray]
      congr 1
      rw [← hp, List.set_append_right _ _ (by omega)]
      simp
    rw [e, zip_fold off vs (k + 1) (pre ++ [u]) Z (by simp; omega) (by simpa using h)]
    simp
theorem fill_step {place : Nat → Option (Nat × Nat)} {i : Nat} {v : Value} {vs : List Value} {rest : List (Nat × Value)} {pre Z : List Value} (hv : v.cells = vs.toArray) (hp : place i = some (pre.length, vs.length)) (hl : vs.length ≤ Z.length) :
    Instr.fill place (pre ++ Z).toArray ((i, v) :: rest) = Instr.fill place ((pre ++ vs) ++ Z.drop vs.length).toArray rest := by
  rw [Instr.fill, hp]
  simp only [hv]
  rw [if_neg (by simp; omega)]
  congr 1
  have h := zip_fold pre.length vs 0 pre Z rfl hl
  rw [← h, ← Array.foldl_toList]
  simp

def z32 : List UInt8 := List.replicate 32 0
theorem z32_len : z32.length = 32 := rfl
theorem zero_rec (w : World) : (zeroValue 29).run Tryd.prog w = .ok (recv 0 0 z32 0 z32 0 (.slice none 0 0)) w := by kernel_rfl
theorem zero_rec32 (w : World) : (zeroValue 32).run Tryd.prog w = .ok (recv 0 0 z32 0 z32 0 (.slice none 0 0)) w := by kernel_rfl
theorem zero_key (w : World) : (zeroValue 24).run Tryd.prog w = .ok (hkv z32 0) w := by kernel_rfl
theorem fields_rec32 (w : World) : ((Tryd.prog.fieldsOf 32).mapM fun (f : Field) => do pure (f.offset, ← sizeOf f.type)).run Tryd.prog w = .ok #[(0, 1), (1, 1), (2, 33), (35, 32), (67, 1), (68, 1)] w := by kernel_rfl
theorem fields_rec (w : World) : ((Tryd.prog.fieldsOf 29).mapM fun (f : Field) => do pure (f.offset, ← sizeOf f.type)).run Tryd.prog w = .ok #[(0, 1), (1, 1), (2, 33), (35, 33), (68, 1)] w := by kernel_rfl
theorem fields_key (w : World) : ((Tryd.prog.fieldsOf 24).mapM fun (f : Field) => do pure (f.offset, ← sizeOf f.type)).run Tryd.prog w = .ok #[(0, 32), (32, 1)] w := by kernel_rfl
theorem build_rec32 (kind seq : Int) (kh : List UInt8) (kk : Int) (mh : List UInt8) (ms : Int) (A : Option Addr) (n c : Nat) (hk : kh.length = 32) (hm : mh.length = 32) (w : World) :
    (Instr.build 32 #[(0, .int .i64 kind), (1, .int .i64 seq), (2, hkv kh kk), (3, hashv mh), (4, .int .i64 ms), (5, .slice A n c)]).run Tryd.prog w = .ok (recv kind seq kh kk mh ms (.slice A n c)) w := by
  have hz : (recCells 0 0 z32 0 z32 0 (.slice none 0 0)).length = 69 := rfl
  unfold Instr.build
  simp only [Sem.run_bind, zero_rec32, Result.andThen_ok, recv_cells, run_underlying rec32Ty_u, rec32Ty, fields_rec32]
  have h0 := fill_step (place := fun i => (#[((0 : Nat), (1 : Nat)), (1, 1), (2, 33), (35, 32), (67, 1), (68, 1)] : Array (Nat × Nat))[i]?) (i := 0) (v := .int .i64 kind) (vs := [.int .i64 kind]) (pre := []) (Z := recCells 0 0 z32 0 z32 0 (.slice none 0 0)) rfl rfl (by simp [hz])
    (rest := [(1, .int .i64 seq), (2, hkv kh kk), (3, hashv mh), (4, .int .i64 ms), (5, .slice A n c)])
  have hf : Instr.fill (fun i => (#[((0 : Nat), (1 : Nat)), (1, 1), (2, 33), (35, 32), (67, 1), (68, 1)] : Array (Nat × Nat))[i]?) (recCells 0 0 z32 0 z32 0 (.slice none 0 0)).toArray [(0, .int .i64 kind), (1, .int .i64 seq), (2, hkv kh kk), (3, hashv mh), (4, .int .i64 ms), (5, .slice A n c)] = some (recCells kind seq kh kk mh ms (.slice A n c)).toArray := by
    rw [List.nil_append] at h0
    rw [h0, fill_step (vs := [.int .i64 seq]) rfl rfl (by simp [hz]), fill_step (vs := hkCells kh kk) rfl (by simp [hkCells_length, hk]) (by simp [hz, hkCells_length, hk]), fill_step (vs := bcells mh) rfl (by simp [hkCells_length, bcells_length, hk, hm]) (by simp [hz, hkCells_length, bcells_length, hk, hm]),
      fill_step (vs := [.int .i64 ms]) rfl (by simp [hkCells_length, bcells_length, hk, hm]) (by simp [hz, hkCells_length, bcells_length, hk, hm]), fill_step (vs := [.slice A n c]) rfl (by simp [hkCells_length, bcells_length, hk, hm]) (by simp [hz, hkCells_length, bcells_length, hk, hm])]
    rw [Instr.fill]
    congr 2
    rw [List.drop_eq_nil_of_le (by simp [hz, hkCells_length, bcells_length, hk, hm])]
    simp [recCells, hkCells]
  rw [hf]
  rfl
end Go.Proofs.YtfheocdciekfoaaDoor
