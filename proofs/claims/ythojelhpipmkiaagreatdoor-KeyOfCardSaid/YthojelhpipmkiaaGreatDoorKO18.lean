/- Texts of this proof joined: Sha10, Sha11. -/
import Derived.Test.YthojelhpipmkiaaGreatDoorKO17
namespace Go.Proofs.YthojelhpipmkiaaGreatDoor
open Go.RowKit

def zeros32 : List Value := bcells (List.replicate 32 0)
theorem a32_u : Tryz.prog.underlying 28 = some (.array 32 5) := by kernel_rfl
theorem a32_s : (Tryz.prog.info? 28).map (·.size) = some 32 := by kernel_rfl
theorem zero_a32 (w : World) : (zeroValue 28).run Tryz.prog w = .ok (.agg zeros32.toArray) w := by kernel_rfl
def padB (l : List UInt8) : List UInt8 := l ++ List.replicate (32 - l.length) 0
theorem padB_len {l : List UInt8} (h : l.length ≤ 32) : (padB l).length = 32 := by
 unfold padB
 rw [List.length_append, List.length_replicate]
 omega
theorem padB_four {l : List UInt8} (h : l.length + 4 ≤ 32) (a b c d : UInt8) : ((((bcells (padB l)).set l.length (bcell a)).set (l.length + 1) (bcell b)).set (l.length + 2) (bcell c)).set (l.length + 3) (bcell d) = bcells (padB (l ++ [a, b, c, d])) := by
 obtain ⟨k, hk⟩ : ∃ k, 32 - l.length = k + 4 := ⟨28 - l.length, by omega⟩
 have h2 : 32 - (l ++ [a, b, c, d]).length = k := by rw [List.length_append]; simp; omega
 unfold padB bcells
 rw [h2, hk, List.map_append, List.map_append, List.map_append]
 have hl : (l.map bcell).length = l.length := List.length_map ..
 have s : ∀ (j : Nat) (r : List Value) (v : Value), (l.map bcell ++ r).set (l.length + j) v = l.map bcell ++ r.set j v := fun j r v => by
  rw [List.set_append_right _ _ (by rw [hl]; omega), hl, Nat.add_sub_cancel_left]
 have s0 := s 0
 rw [Nat.add_zero] at s0
 rw [s0, s, s, s, List.append_assoc]
 rfl
theorem list8_get (s : St8) {i : Nat} (h : i < 8) : (st8 s)[i]? = some (w32v (s.list.getD i 0)) := by
 unfold st8
 rw [w32s_get (show i < s.list.length from h), List.getD_eq_getElem?_getD, List.getElem?_eq_getElem (show i < s.list.length from h)]
 rfl
theorem st8_index (s : St8) {i : Nat} (h : i < 8) (w : World) : (Instr.index 75 (.agg (st8 s).toArray) (.int .i64 (i : Int))).run Tryz.prog w = .ok (w32v (s.list.getD i 0)) w := by
 have hg := list8_get s h
 simp [Instr.index, asIntOf, run_underlying a8_u, go_sem, h, hg]
def bytesFirst (s : St8) (i : Nat) : List UInt8 := (s.list.take i).flatMap bytesW
theorem bytesFirst_len (s : St8) {i : Nat} (h : i ≤ 8) : (bytesFirst s i).length = 4 * i := by
 have hl : (s.list.take i).length = i := by rw [List.length_take]; show min i 8 = i; omega
 have key : ∀ l : List W32, (l.flatMap bytesW).length = 4 * l.length := by
  intro l
  induction l with
  |nil => rfl
  |cons x l ih =>
   rw [List.flatMap_cons, List.length_append, ih, List.length_cons]
   show 4 + _ = _
   omega
 unfold bytesFirst
 rw [key, hl]
theorem bytesFirst_succ (s : St8) {i : Nat} (h : i < 8) : bytesFirst s (i + 1) = bytesFirst s i ++ bytesW (s.list.getD i 0) := by
 unfold bytesFirst
 rw [List.take_succ_eq_append_getElem (show i < s.list.length from h), List.flatMap_append, List.flatMap_singleton, List.getD_eq_getElem?_getD, List.getElem?_eq_getElem (show i < s.list.length from h)]
 rfl
theorem bytesFirst_all (s : St8) : bytesFirst s 8 = bytesS s := by
 unfold bytesFirst bytesS
 rw [List.take_of_length_le (show s.list.length ≤ 8 from Nat.le_refl _)]
theorem bytesS_len (s : St8) : (bytesS s).length = 32 := by rw [← bytesFirst_all, bytesFirst_len s (Nat.le_refl _)]
theorem bcell_nat (n : Nat) : bcell (UInt8.ofNat n) = .int .u8 ((n : Int) % 256) := by
 simp [bcell]
theorem bytesW_nv (v : W32) : bytesW v = [UInt8.ofNat (nv v / 16777216), UInt8.ofNat (nv v / 65536), UInt8.ofNat (nv v / 256), UInt8.ofNat (nv v)] := by
 unfold bytesW
 rw [nv_eq]
def ArrB (w : World) (g : Nat) (l : List UInt8) : Prop := w.heap[g]? = some (.cells (bcells (padB l)).toArray 28 (0, 0))
theorem ArrB.four {w : World} {g : Nat} {l : List UInt8} (h : ArrB w g l) (hl : l.length + 4 ≤ 32) (a b c d : UInt8) :
  ArrB ((((w.setCell ⟨g, l.length, none⟩ (bcell a)).setCell ⟨g, l.length + 1, none⟩ (bcell b)).setCell ⟨g, l.length + 2, none⟩ (bcell c)).setCell ⟨g, l.length + 3, none⟩ (bcell d)) g (l ++ [a, b, c, d]) := by
 have key : ∀ (w : World) (xs : List Value) (o : Nat) (v : Value), w.heap[g]? = some (.cells xs.toArray 28 (0, 0)) → (w.setCell ⟨g, o, none⟩ v).heap[g]? = some (.cells (xs.set o v).toArray 28 (0, 0)) := fun w l o v hh => by
  simp only [World.setCell, Array.getElem?_modify, if_true, hh, Option.map_some]
  rw [List.setIfInBounds_toArray]
  rfl
 unfold ArrB
 rw [← padB_four hl]
 have h0 := key _ _ l.length (bcell a) h
 have h1 := key _ _ (l.length + 1) (bcell b) h0
 have h2 := key _ _ (l.length + 2) (bcell c) h1
 exact key _ _ (l.length + 3) (bcell d) h2
set_option maxRecDepth 100000 in
set_option maxHeartbeats 16000000 in
theorem bytes_any (s : St8) (w : World) : Calls Tryz.prog 65 #[.agg (st8 s).toArray] w fun e w' => e = .returned (.agg (bcells (bytesS s)).toArray) ∧ Below w.heap.size w w' := by
 go_enter Tryz.func65, Tryz.ntmps65
 go_wp2_with (refine stop_at (some 1) rfl ?_)
 refine Stop.go (wpList_box rfl _ rfl rfl (vs := st8 s) rfl ?_)
 refine wpList_alloc rfl _ rfl zero_a32 (vs := zeros32) rfl ?_
 obtain ⟨hg1, hg2, hs1, hb1⟩ := two_allocs w (.cells (st8 s).toArray 75) (.cells zeros32.toArray 28)
 have HG1 := Lib.hid hg1
 have HG2 := Lib.hid hg2
 have HS1 := Lib.hid hs1
 have HB1 := Lib.hid hb1
 clear hg1 hg2 hs1 hb1
 simp only [World.size_alloc]
 generalize (w.alloc (.cells (st8 s).toArray 75)).alloc (.cells zeros32.toArray 28) = w1 at *
 obtain ⟨B, hB⟩ : ∃ B, B = w.heap.size := ⟨_, rfl⟩
 rw [← hB] at HG1 HG2 HS1 HB1 ⊢
 have HBE := Lib.hid hB
 clear hB
 generalize hac : Act.put _ _ _ = a9
 simp [Act.put] at hac
 subst hac
 go_wp2_with (refine stop_at (some 3) rfl ?_)
 refine Stop.go (wpList_alloc rfl _ rfl zero_a32 (vs := zeros32) rfl ?_)
 have hnew := Go.heap_alloc_new w1 (.cells zeros32.toArray 28)
 rw [HS1.out] at hnew ⊢
 have hkeep : ∀ k, k < B + 2 → (w1.alloc (.cells zeros32.toArray 28)).heap[k]? = w1.heap[k]? := fun k hk => Below.heap_alloc w1 _ k (by rw [HS1.out]; exact hk)
 have HA := Lib.hid (show ArrB (w1.alloc (.cells zeros32.toArray 28)) (B + 2) (bytesFirst s 0) from hnew)
 have HD := Lib.hid ((hkeep B (by omega)).trans HG1.out)
 have HE := Lib.hid ((hkeep (B + 1) (by omega)).trans HG2.out)
 have HF := Lib.hid (HB1.out.alloc (by have := HS1.out; omega) (.cells zeros32.toArray 28))
 clear hnew hkeep HG1 HG2 HB1
 generalize w1.alloc (.cells zeros32.toArray 28) = w2 at *
 generalize hac : Act.put _ _ _ = a9
 simp [Act.put] at hac
 subst hac
 go_wp2_with (refine stop_at (some 6) rfl ?_)
 refine Stop.go (wpList_load_agg rfl 75 rfl rfl a8_u rfl (cs := st8 s) a8_s (row_cells (vs := st8 s) HD.out) ?_)
 generalize hac : Act.put _ _ _ = a9
 simp [Act.put] at hac
 subst hac
 go_wp2_with fail
 go_loopw [7] (fun v7 wr => ∃ i : Nat, i ≤ 8 ∧ v7 = .int .i64 i ∧ Hid (ArrB wr (B + 2) (bytesFirst s i)) ∧ Hid (wr.heap[B + 1]? = some (.cells zeros32.toArray 28 (0, 0))) ∧ Hid (Below B w wr)) (fun v7 _ => 8 - (intOf v7).toNat)
 case atStart => exact ⟨0, by omega, rfl, HA.out, HE.out, HF.out⟩
 case round =>
  clear HA HD HE HF
  obtain ⟨i, hi, rfl, HA, HE, HF⟩ := hrel
  by_cases hlt : i < 8
  ·have hix := fun (w : World) => st8_index s hlt w
   have HLN := Lib.hid (bytesFirst_len s (i := i) (by omega))
   have HNX := Lib.hid (bytesFirst_succ s hlt)
   generalize s.list.getD i 0 = v at *
   have hv := nv_lt v
   have hfr : ∀ j, wr.frozen? ⟨B + 2, j, none⟩ = false := fun j => by simp [World.frozen?, show wr.heap[B + 2]? = _ from HA.out]
   have f0 := hfr (4 * i)
   have f1 := hfr (4 * i + 1)
   have f2 := hfr (4 * i + 2)
   have f3 := hfr (4 * i + 3)
   have hcl : ∀ j, j < 32 → ∃ u, wr.cell? ⟨B + 2, j, none⟩ = some u := fun j hj => by
    rw [cell_of_row _ _ _ _ _ _ HA.out, ← Array.getElem?_toList]
    have hjl : j < (bcells (padB (bytesFirst s i))).length := by rw [bcells_length, padB_len (by rw [HLN.out]; omega)]; exact hj
    exact ⟨_, List.getElem?_eq_getElem hjl⟩
   obtain ⟨u0, c0⟩ := hcl (4 * i) (by omega)
   obtain ⟨u1, c1⟩ := hcl (4 * i + 1) (by omega)
   obtain ⟨u2, c2⟩ := hcl (4 * i + 2) (by omega)
   obtain ⟨u3, c3⟩ := hcl (4 * i + 3) (by omega)
   clear hfr hcl
   have e0 : bcell (UInt8.ofNat (nv v / 16777216)) = .int .u8 ((nv v : Int) / 16777216) := by
    rw [bcell_nat]
    refine congrArg (Value.int .u8) ?_
    have := nv_lt v
    omega
   have e1 : bcell (UInt8.ofNat (nv v / 65536)) = .int .u8 ((nv v : Int) / 65536 % 256) := by rw [bcell_nat]; rfl
   have e2 : bcell (UInt8.ofNat (nv v / 256)) = .int .u8 ((nv v : Int) / 256 % 256) := by rw [bcell_nat]; rfl
   have e3 : bcell (UInt8.ofNat (nv v)) = .int .u8 ((nv v : Int) % 256) := bcell_nat _
   have ha4 := HA.out.four (by rw [HLN.out]; omega) (UInt8.ofNat (nv v / 16777216)) (UInt8.ofNat (nv v / 65536)) (UInt8.ofNat (nv v / 256)) (UInt8.ofNat (nv v))
   rw [← bytesW_nv, ← HNX.out, HLN.out, e0, e1, e2, e3] at ha4
   have HA4 := Lib.hid ha4
   have HE4 : Hid (∀ a b c d : Value, ((((wr.setCell ⟨B + 2, 4 * i, none⟩ a).setCell ⟨B + 2, 4 * i + 1, none⟩ b).setCell ⟨B + 2, 4 * i + 2, none⟩ c).setCell ⟨B + 2, 4 * i + 3, none⟩ d).heap[B + 1]? = some (.cells zeros32.toArray 28 (0, 0))) := fun a b c d => by
    rw [heap_setCell_other _ _ _ _ (by show B + 1 ≠ B + 2; omega), heap_setCell_other _ _ _ _ (by show B + 1 ≠ B + 2; omega), heap_setCell_other _ _ _ _ (by show B + 1 ≠ B + 2; omega), heap_setCell_other _ _ _ _ (by show B + 1 ≠ B + 2; omega)]
    exact HE.out
   have HF4 : Hid (∀ a b c d : Value, Below B w ((((wr.setCell ⟨B + 2, 4 * i, none⟩ a).setCell ⟨B + 2, 4 * i + 1, none⟩ b).setCell ⟨B + 2, 4 * i + 2, none⟩ c).setCell ⟨B + 2, 4 * i + 3, none⟩ d)) := fun a b c d =>
    (((HF.out.setCell (by show B ≤ B + 2; omega) a).setCell (by show B ≤ B + 2; omega) b).setCell (by show B ≤ B + 2; omega) c).setCell (by show B ≤ B + 2; omega) d
   clear e0 e1 e2 e3 ha4
   go_wp2_with fail
   exact ⟨⟨i + 1, by omega, by go_num, HA4.out, HE4.out _ _ _ _, HF4.out _ _ _ _⟩, by simp [intOf]; omega⟩
  ·have HA2 := Lib.hid (show wr.heap[B + 2]? = some (.cells (bcells (bytesS s)).toArray 28 (0, 0)) from by
    have h := HA.out
    rw [show i = 8 by omega, bytesFirst_all] at h
    unfold ArrB padB at h
    rw [bytesS_len] at h
    simpa using h)
   have HLS := Lib.hid (show (bcells (bytesS s)).length = 32 by rw [bcells_length, bytesS_len])
   have HONE := Lib.hid (bcells_one (bytesS s))
   obtain ⟨cs, hcs⟩ : ∃ cs, cs = bcells (bytesS s) := ⟨_, rfl⟩
   rw [← hcs] at HA2 HLS HONE
   have HCS := Lib.hid hcs
   clear hcs HA
   go_wp2_with (refine stop_at (some 38) rfl ?_)
   refine Stop.go (wpList_load_agg rfl 28 rfl rfl a32_u rfl (cs := cs) (by rw [HLS.out]; exact a32_s) (row_cells HA2.out) ?_)
   refine wpList_store_agg rfl 28 rfl rfl rfl (store_rowS (vs := cs) rfl (by rw [HLS.out]; exact a32_s) HE.out (by rw [HLS.out]; rfl) HONE.out) ?_
   have HN := Lib.hid (setRow_heap _ _ _ _ _ _ HE.out : (wr.setRow (B + 1) cs.toArray).heap[B + 1]? = _)
   have HBN := Lib.hid (below_setRow HF.out (Nat.le_succ B) cs.toArray)
   generalize wr.setRow (B + 1) cs.toArray = w9 at *
   generalize hac : Act.put _ _ _ = a9
   simp [Act.put] at hac
   subst hac
   go_wp2_with fail
   exact bodyPost_ret (v := .agg cs.toArray) (results_cell_row rfl _ _ (B + 1) _ _ _ _ rfl HN.out a32_u rfl (by rw [a32_s, List.size_toArray, HLS.out])) rfl ⟨by rw [HCS.out], by rw [← HBE.out]; exact HBN.out⟩
end Go.Proofs.YthojelhpipmkiaaGreatDoor
namespace Go.Proofs.YthojelhpipmkiaaGreatDoor
open Go.RowKit

theorem own_emptyS (w : World) (e : TypeId) (size : Nat) : (w.alloc (Obj.cells #[] e)).ownsRow w.heap.size e size (.slice (some ⟨w.heap.size, 0, none⟩) 0 0) 0 [] :=
 ⟨by simp, .inr ⟨w.heap.size, 0, #[], rfl, Nat.le_refl _, heap_alloc_new w _, Nat.le_refl _, Nat.zero_le _, by simp, by simp⟩⟩
theorem blocksS_next (X : List UInt8) {k : Nat} (h : 64 * (k + 1) ≤ X.length) (s : St8) : blocksS s (X.take (64 * (k + 1))) = blockS (blocksS s (X.take (64 * k))) ((X.drop (64 * k)).take 64) := by
 have e : X.take (64 * (k + 1)) = X.take (64 * k) ++ (X.drop (64 * k)).take 64 := by
  rw [Nat.mul_succ, List.take_add]
 have hl : ((X.drop (64 * k)).take 64).length = 64 := by rw [List.length_take, List.length_drop]; omega
 generalize (X.drop (64 * k)).take 64 = Y at *
 rw [e, blocksS_append k s _ _ (by rw [List.length_take]; omega), blocksS_more (by rw [hl]; exact Nat.le_refl _), List.take_of_length_le (l := Y) (by rw [hl]; exact Nat.le_refl _), List.drop_of_length_le (l := Y) (by rw [hl]; exact Nat.le_refl _), blocksS_end (by simp)]
def backTo (l : List UInt8) (v : W32) (k : Nat) : List UInt8 := l ++ (List.replicate (4 - k) 0 ++ (bytesW v).drop (4 - k))
theorem backTo_zero (l : List UInt8) (v : W32) (h : l.length + 4 ≤ 32) : padB (backTo l v 0) = padB l := by
 unfold backTo padB
 obtain ⟨k, hk⟩ : ∃ k, 32 - l.length = k + 4 := ⟨28 - l.length, by omega⟩
 have hd : (bytesW v).drop 4 = [] := rfl
 rw [Nat.sub_zero, hd, List.append_nil, List.length_append, List.length_replicate, hk, show 32 - (l.length + 4) = k by omega, List.append_assoc]
 refine congrArg (l ++ ·) ?_
 rw [List.replicate_append_replicate, Nat.add_comm 4 k]
theorem backTo_four (l : List UInt8) (v : W32) : backTo l v 4 = l ++ bytesW v := rfl
theorem backTo_len (l : List UInt8) (v : W32) {k : Nat} (h : k ≤ 4) : (backTo l v k).length = l.length + 4 := by
 unfold backTo
 rw [List.length_append, List.length_append, List.length_replicate, List.length_drop, show (bytesW v).length = 4 from rfl]
 omega
theorem backTo_succ (l : List UInt8) (v : W32) {k : Nat} (h : k < 4) : (backTo l v k).set (l.length + (3 - k)) (UInt8.ofNat (nv v / 256 ^ k)) = backTo l v (k + 1) := by
 unfold backTo
 rw [List.set_append_right _ _ (by omega), Nat.add_sub_cancel_left, bytesW_nv]
 congr 1
 match k, h with
 |0, _ => simp
 |1, _ => simp
 |2, _ => simp
 |3, _ => simp
theorem ArrB.put {w : World} {g : Nat} {l : List UInt8} (h : ArrB w g l) {o : Nat} (ho : o < l.length) (x : UInt8) : ArrB (w.setCell ⟨g, o, none⟩ (bcell x)) g (l.set o x) := by
 unfold ArrB
 have h0 : w.heap[g]? = _ := h
 simp only [World.setCell, Array.getElem?_modify, if_true, h0, Option.map_some]
 rw [List.setIfInBounds_toArray]
 unfold padB bcells
 rw [List.length_set, List.map_append, List.set_append_left _ _ (by rw [List.length_map]; exact ho), List.map_append, List.map_set]
 rfl
theorem rd_sub {w : World} {B g o : Nat} {X : List UInt8} (h : Rd w B (some ⟨g, o, none⟩) (bcells X)) (i m : Nat) : Rd w B (some ⟨g, o + i, none⟩) (bcells ((X.drop i).take m)) := fun hne => by
 have hx : bcells X ≠ [] := fun e => hne (by
  have : X = [] := by unfold bcells at e; simpa using e
  subst this
  simp [bcells])
 obtain ⟨b, off, e, hb, hc⟩ := h hx
 injection e with e
 injection e with e1 e2
 subst e1 e2
 refine ⟨g, o + i, rfl, hb, fun j u hu => ?_⟩
 rw [Nat.add_assoc]
 refine hc (i + j) u ?_
 unfold bcells at hu ⊢
 rw [List.map_take, List.map_drop, List.getElem?_take] at hu
 split at hu
 ·rw [List.getElem?_drop] at hu
  exact hu
 ·cases hu
set_option maxRecDepth 100000 in
set_option maxHeartbeats 32000000 in
theorem hash04_any (b : List UInt8) (A : Option Addr) (c : Nat) (w : World) (hb : Rd w w.heap.size A (bcells b)) (hl : b.length ≤ 68719476736) :
  Calls Tryz.prog 15 #[.slice A b.length c] w fun e w' => e = .returned (.agg (bcells (shaL b)).toArray) ∧ Below w.heap.size w w' := by
 have HR := Lib.hid hb
 have HBC := Lib.hid (bcells_length b)
 have HB1 := Lib.hid (bcells_one b)
 have HFL := Lib.hid (fillS_length b.length)
 have HMOD := Lib.hid (fillS_len b.length)
 obtain ⟨n, hn⟩ : ∃ n, n = b.length := ⟨_, rfl⟩
 rw [← hn] at HBC HFL HMOD hl ⊢
 have HN := Lib.hid hn
 clear hb hn
 go_enter Tryz.func15, Tryz.ntmps15
 go_wp2_with (refine stop_at (some 2) rfl ?_)
 refine Stop.go (wpList_alloc rfl _ rfl zero_a32 (vs := zeros32) rfl ?_)
 generalize hac : Act.put _ _ _ = a9
 simp [Act.put] at hac
 subst hac
 have HG1 := Lib.hid (Go.heap_alloc_new w (.cells zeros32.toArray 28))
 have HZ1 := Lib.hid (World.size_alloc w (.cells zeros32.toArray 28))
 have HBA := Lib.hid ((Below.refl w.heap.size w).alloc (Nat.le_refl _) (.cells zeros32.toArray 28))
 generalize w.alloc (.cells zeros32.toArray 28) = w1 at *
 go_wp2_with (refine stop_at (some 12) rfl ?_)
 have HO0 := Lib.hid (own_emptyS w1 5 1)
 have HBE := Lib.hid (HBA.out.alloc (by rw [HZ1.out]; omega) (.cells #[] 5))
 have HZE := Lib.hid (World.size_alloc w1 (.cells #[] 5))
 have HGE := Lib.hid ((Below.heap_alloc w1 (.cells #[] 5) w.heap.size (by rw [HZ1.out]; omega)).trans HG1.out)
 generalize w1.alloc (.cells #[] 5) = w2 at *
 obtain ⟨G0, hG0⟩ : ∃ G0, G0 = w1.heap.size := ⟨_, rfl⟩
 rw [← hG0] at HO0 HZE ⊢
 have HGB := Lib.hid (show w.heap.size + 1 = G0 by rw [hG0, HZ1.out])
 clear hG0 HG1
 refine Stop.go (wpList_app (m := n) (n := 0) (news := bcells b) u8_appS rfl rfl rfl rfl HO0.out (HR.out.below HBE.out) (by rw [HBC.out, Nat.mul_one]) HB1.out (by unfold maxLen; omega) (by omega) (by rw [HZE.out]; omega) ?_)
 intro v3 w3 ho3 hg3 hv3 _
 rw [Nat.zero_add, List.nil_append] at ho3
 have HB3 := Lib.hid (show Below w.heap.size w w3 from grown_below HBE.out hg3 HO0.out (by have := HGB.out; omega) (by have := HZE.out; have := HGB.out; omega))
 have HG3 := Lib.hid (show w3.heap[w.heap.size]? = some (.cells zeros32.toArray 28 (0, 0)) from grown_other HO0.out hg3 HGE.out (by decide))
 have HO3 := Lib.hid ho3
 have HS3 := Lib.hid (show w.heap.size < w3.heap.size from (Array.getElem?_eq_some_iff.1 HG3.out).1)
 obtain ⟨A3, c3, rfl, h31, h32⟩ := own_form ho3
 unfold maxLen at h32
 clear ho3 hg3 hv3 HO0 HBE HZE HGE
 generalize hac : Act.put _ _ _ = a9
 simp [Act.put] at hac
 subst hac
 go_wp2_with fail
 refine (fill04_any n w3 (by omega)).mono ?_
 rintro e w4 ⟨v4, rfl, ho4, hb4⟩
 have HO4 := Lib.hid ho4
 have HB4 := Lib.hid (HB3.out.trans (hb4.mono (Nat.le_of_lt HS3.out)))
 have HG4 := Lib.hid ((hb4.block _ HS3.out).trans HG3.out)
 have HP4 := Lib.hid (own_below HO3.out hb4)
 have HS4 := Lib.hid (Nat.lt_of_lt_of_le HS3.out hb4.size)
 obtain ⟨A4, c4, rfl, h41, h42⟩ := own_form ho4
 have HRF := Lib.hid (Rd.of_own ho4)
 unfold maxLen at h42
 have hz := zerosF_lt n
 clear ho4 hb4 HB3 HG3 HO3
 have HFB := Lib.hid (show (bcells (fillS n)).length = (zerosF n + 9) * 1 by rw [bcells_length, HFL.out, Nat.mul_one])
 have HF1 := Lib.hid (bcells_one (fillS n))
 go_wp2_with (refine stop_at (some 17) rfl ?_)
 refine Stop.go (wpList_app (m := zerosF n + 9) (n := n) (news := bcells (fillS n)) u8_appS rfl rfl rfl rfl HP4.out HRF.out HFB.out HF1.out (by unfold maxLen; omega) (by omega) (by have := HGB.out; have := HS4.out; omega) ?_)
 intro v5 w5 ho5 hg5 hv5 _
 have HB5 := Lib.hid (show Below w.heap.size w w5 from grown_below HB4.out hg5 HP4.out (by have := HGB.out; omega) (Nat.le_of_lt HS4.out))
 have HG5 := Lib.hid (show w5.heap[w.heap.size]? = some (.cells zeros32.toArray 28 (0, 0)) from grown_other HP4.out hg5 HG4.out (by decide))
 have HS5 := Lib.hid (show w.heap.size < w5.heap.size from (Array.getElem?_eq_some_iff.1 HG5.out).1)
 obtain ⟨X, hX⟩ : ∃ X, X = b ++ fillS n := ⟨_, rfl⟩
 have ho6 : w5.ownsRow G0 5 1 v5 (n + (zerosF n + 9)) (bcells X) := by rw [hX, bcells_append]; exact ho5
 have HXL := Lib.hid (show X.length = n + (zerosF n + 9) by rw [hX, List.length_append, HFL.out, ← HN.out])
 have HSHA := Lib.hid (show shaL b = bytesS (blocksS sha0 X) by unfold shaL; rw [← HN.out, hX])
 obtain ⟨K, hK⟩ : ∃ K, n + (zerosF n + 9) = 64 * K := ⟨(n + (zerosF n + 9)) / 64, by have h1 := HMOD.out; rw [HFL.out] at h1; omega⟩
 obtain ⟨L, hL⟩ : ∃ L, L = n + (zerosF n + 9) := ⟨_, rfl⟩
 rw [← hL] at ho6 hK HXL
 have hLb : L ≤ 68719476800 := by omega
 have HLK := Lib.hid hK
 have hLpos : 0 < L := by omega
 obtain ⟨g5, c5, rfl⟩ : ∃ g c, v5 = .slice (some ⟨g, 0, none⟩) L c := by
  rcases ho6.2 with ⟨_, h0⟩ | ⟨g, cap, cur, e, _⟩
  ·omega
  ·exact ⟨g, cap, e⟩
 obtain ⟨_, _, e5, h51, h52⟩ := own_form ho6
 injection e5 with e51 e52 e53
 subst e53
 unfold maxLen at h52
 have HR5 := Lib.hid (Rd.of_own ho6)
 clear ho5 ho6 hg5 hv5 hX hK hL hz HP4 HRF HFB HF1 HO4 HB4 HG4 e51 e52
 generalize hac : Act.put _ _ _ = a9
 simp [Act.put] at hac
 subst hac
 go_wp2_with fail
 refine (first_any w5).mono ?_
 rintro e w6 ⟨rfl, hb6⟩
 have HB6 := Lib.hid (HB5.out.trans (hb6.mono (Nat.le_of_lt HS5.out)))
 have HG6 := Lib.hid ((hb6.block _ HS5.out).trans HG5.out)
 have HR6 := Lib.hid ((HR5.out.below hb6).more hb6.size)
 have HS6 := Lib.hid (Nat.lt_of_lt_of_le HS5.out hb6.size)
 clear hb6 HB5 HG5 HR5 HS5
 go_wp2_with (refine stop_at (some 4) rfl ?_)
 refine Stop.go (wpList_alloc rfl _ rfl zero_a8 (vs := zeros8) rfl ?_)
 refine wpList_store_agg rfl 75 rfl rfl rfl (store_new2 (vs := beginVs) rfl rfl a8_s rfl (u32s_one _)) ?_
 generalize hac : Act.put _ _ _ = a9
 simp [Act.put] at hac
 subst hac
 have hnew := Go.heap_alloc_new w6 (.cells beginVs.toArray 75)
 have hb7 := (Below.refl w6.heap.size w6).alloc (Nat.le_refl _) (.cells beginVs.toArray 75)
 obtain ⟨S, hS⟩ : ∃ S, S = w6.heap.size := ⟨_, rfl⟩
 rw [← hS] at hnew hb7 HS6 HR6 ⊢
 have HSE := Lib.hid hS
 have HI := Lib.hid (show (w6.alloc (.cells beginVs.toArray 75)).heap[S]? = some (.cells (st8 (blocksS sha0 (X.take (64 * 0)))).toArray 75 (0, 0)) from by
  rw [Nat.mul_zero, List.take_zero, blocksS_end (by simp), ← begin_eq]
  exact hnew)
 have HB7 := Lib.hid hb7
 clear hnew hb7 hS
 generalize w6.alloc (.cells beginVs.toArray 75) = w7 at *
 go_wp2_with fail
 go_loopw [5] (fun v5 wr => ∃ k i : Nat, k ≤ K ∧ v5 = .int .i64 i ∧ Hid (i = 64 * k) ∧ i ≤ L ∧ Hid (wr.heap[S]? = some (.cells (st8 (blocksS sha0 (X.take (64 * k)))).toArray 75 (0, 0))) ∧ Hid (Below S w6 wr)) (fun v5 _ => L - (intOf v5).toNat)
 case atStart => exact ⟨0, 0, by omega, rfl, rfl, by omega, HI.out, HB7.out⟩
 case round =>
  clear HI HB7
  obtain ⟨k, i, hk, rfl, HIK, hiL, HA, HBW⟩ := hrel
  by_cases hlt : k < K
  ·have hi64 : i + 64 ≤ L := by have := HIK.out; have := HLK.out; omega
   have hne : c5 ≠ i := by omega
   go_wp2_with fail
   refine Text.wp_text [] (by kernel_rfl) (by kernel_rfl) (fun Q' hQ' => ?_)
   go_wp2_with (refine stop_at (some 26) rfl ?_)
   have hrs := rd_sub (HR6.out.below HBW.out) i 64
   rw [Nat.zero_add] at hrs
   have HRS := Lib.hid hrs
   have HSTEP := Lib.hid (show blocksS sha0 (X.take (64 * (k + 1))) = blockS (blocksS sha0 (X.take (64 * k))) ((X.drop i).take 64) by rw [HIK.out]; exact blocksS_next X (by rw [HXL.out]; have := HIK.out; omega) sha0)
   have HYL := Lib.hid (show ((X.drop i).take 64).length = 64 by rw [List.length_take, List.length_drop, HXL.out]; omega)
   generalize (X.drop i).take 64 = Y at *
   generalize blocksS sha0 (X.take (64 * k)) = t at *
   clear hrs
   refine Stop.go (wpList_load_agg rfl 75 rfl rfl a8_u rfl (cs := st8 t) a8_s (row_cells (w := wr.drew) (vs := st8 t) HA.out) ?_)
   go_wp2_with fail
   refine (block04_any t Y (some ⟨g5, i, none⟩) _ S wr.drew (HRS.out.below (Below.refl S wr).drew) (show S ≤ wr.heap.size from Nat.le_of_lt (Array.getElem?_eq_some_iff.1 HA.out).1) HYL.out).mono ?_
   rintro e w8 ⟨rfl, hb8⟩
   have HA8 := Lib.hid ((hb8.block S (show S < wr.heap.size from (Array.getElem?_eq_some_iff.1 HA.out).1)).trans HA.out)
   have HB8 := Lib.hid (show Below S w6 w8 from HBW.out.trans (((Below.refl wr.heap.size wr).drew.trans hb8).mono (Nat.le_of_lt (Array.getElem?_eq_some_iff.1 HA.out).1)))
   rw [← HSTEP.out]
   clear hb8
   obtain ⟨t2, ht2⟩ : ∃ t2, t2 = blocksS sha0 (X.take (64 * (k + 1))) := ⟨_, rfl⟩
   rw [← ht2]
   have HT2 := Lib.hid ht2
   clear ht2
   go_wp2_with (refine stop_at none rfl ?_)
   refine Stop.go (wpList_store_agg rfl 75 rfl rfl rfl (store_rowS (vs := st8 t2) rfl a8_s HA8.out rfl (w32s_one _)) ?_)
   have HA9 := Lib.hid (setRow_heap _ _ _ _ _ _ HA8.out : (w8.setRow S (st8 t2).toArray).heap[S]? = _)
   have HB9 := Lib.hid (below_setRow HB8.out (Nat.le_refl S) (st8 t2).toArray)
   clear HA8 HB8 HA HBW HRS
   generalize w8.setRow S (st8 t2).toArray = w9 at *
   generalize hac : Act.put _ _ _ = a9
   simp [Act.put] at hac
   subst hac
   go_wp2_with fail
   refine ⟨by rfl, ?_⟩
   go_wp2_with fail
   go_roundw
   case rel => exact ⟨k + 1, i + 64, by omega, by go_num, by have := HIK.out; show _ = _; omega, by omega, by have h := HA9.out; rw [HT2.out] at h; exact h, HB9.out⟩
   case measure => simp [intOf]; omega
  ·have hi64 : ¬ (i + 64 ≤ L) := by have := HIK.out; have := HLK.out; omega
   have d64 : decide ((i : Int) + 64 ≤ (L : Int)) = false := by rw [decide_eq_false_iff_not]; omega
   have HA2 := Lib.hid (show wr.heap[S]? = some (.cells (st8 (blocksS sha0 X)).toArray 75 (0, 0)) from by
    have h := HA.out
    rw [List.take_of_length_le (by rw [HXL.out]; have := HLK.out; omega)] at h
    exact h)
   have HG7 := Lib.hid ((HBW.out.block _ HS6.out).trans HG6.out)
   have HBX := Lib.hid (HB6.out.trans (HBW.out.mono (Nat.le_of_lt HS6.out)))
   generalize blocksS sha0 X = t at *
   clear HA HBW
   go_wp2_with (refine stop_at (some 6) rfl ?_)
   refine Stop.go (wpList_alloc rfl _ rfl zero_a32 (vs := zeros32) rfl ?_)
   generalize hac : Act.put _ _ _ = a9
   simp [Act.put] at hac
   subst hac
   have hnew := Go.heap_alloc_new wr (.cells zeros32.toArray 28)
   have hb7 := (Below.refl wr.heap.size wr).alloc (Nat.le_refl _) (.cells zeros32.toArray 28)
   obtain ⟨Z, hZ⟩ : ∃ Z, Z = wr.heap.size := ⟨_, rfl⟩
   have HSZ := Lib.hid (show S < Z by rw [hZ]; exact (Array.getElem?_eq_some_iff.1 HA2.out).1)
   rw [← hZ] at hnew hb7 ⊢
   have HI := Lib.hid (show ArrB (wr.alloc (.cells zeros32.toArray 28)) Z (bytesFirst t 0) from hnew)
   have HA3 := Lib.hid ((hb7.block S HSZ.out).trans HA2.out)
   have HG8 := Lib.hid ((hb7.block w.heap.size (Nat.lt_trans HS6.out HSZ.out)).trans HG7.out)
   have HBY := Lib.hid (HBX.out.trans (hb7.mono (Nat.le_of_lt (Nat.lt_trans HS6.out HSZ.out))))
   clear hnew hb7 hZ HA2 HG7 HBX
   generalize wr.alloc (.cells zeros32.toArray 28) = w9 at *
   go_wp2_with fail
   go_loopw [7] (fun v7 wq => ∃ j : Nat, j ≤ 8 ∧ v7 = .int .i64 j ∧ Hid (ArrB wq Z (bytesFirst t j)) ∧ Hid (wq.heap[S]? = some (.cells (st8 t).toArray 75 (0, 0))) ∧ Hid (wq.heap[w.heap.size]? = some (.cells zeros32.toArray 28 (0, 0))) ∧ Hid (Below w.heap.size w wq)) (fun v7 _ => 8 - (intOf v7).toNat)
   case atStart => exact ⟨0, by omega, rfl, HI.out, HA3.out, HG8.out, HBY.out⟩
   case round =>
    clear HI HA3 HG8 HBY
    obtain ⟨j, hj, rfl, HI, HA3, HG8, HBY⟩ := hrel
    by_cases hj8 : j < 8
    ·have cj := row_w32 (l := t.list) HA3.out (i := j) (x := t.list.getD j 0) (by rw [List.getD_eq_getElem?_getD, List.getElem?_eq_getElem (show j < t.list.length from hj8)]; rfl)
     have HLN := Lib.hid (bytesFirst_len t (i := j) (by omega))
     have HNX := Lib.hid (bytesFirst_succ t hj8)
     generalize t.list.getD j 0 = v at *
     have HI0 := Lib.hid (show ArrB wr Z (backTo (bytesFirst t j) v 0) from by
      unfold ArrB
      rw [backTo_zero _ _ (by rw [HLN.out]; omega)]
      exact HI.out)
     have hv := nv_lt v
     clear HI
     go_wp2_with fail
     go_loopw [9, 8] (fun v9 v8 wq => ∃ q x : Nat, q ≤ 4 ∧ v9 = .int .i64 (3 - (q : Int)) ∧ v8 = .int .u32 x ∧ Hid (x = nv v / 256 ^ q) ∧ x < 4294967296 ∧ Hid (ArrB wq Z (backTo (bytesFirst t j) v q)) ∧ Hid (wq.heap[S]? = some (.cells (st8 t).toArray 75 (0, 0))) ∧ Hid (wq.heap[w.heap.size]? = some (.cells zeros32.toArray 28 (0, 0))) ∧ Hid (Below w.heap.size w wq)) (fun v9 _ _ => (intOf v9 + 1).toNat)
     case atStart => exact ⟨0, nv v, by omega, rfl, rfl, by show _ = _; simp, hv, HI0.out, HA3.out, HG8.out, HBY.out⟩
     case round =>
      clear HI0 HA3 HG8 HBY
      obtain ⟨q, x, hq, rfl, rfl, HX, hx, HI, HA3, HG8, HBY⟩ := hrel
      by_cases hq4 : q < 4
      ·have d0 : decide ((0 : Int) ≤ 3 - (q : Int)) = true := by rw [decide_eq_true_eq]; omega
       have hput := HI.out.put (o := 4 * j + (3 - q)) (by rw [backTo_len _ _ (by omega), HLN.out]; omega) (UInt8.ofNat (nv v / 256 ^ q))
       rw [← HLN.out, backTo_succ _ _ hq4, HLN.out, ← HX.out, bcell_nat] at hput
       have HPUT := Lib.hid hput
       have cf : wr.frozen? ⟨Z, 4 * j + (3 - q), none⟩ = false := by simp [World.frozen?, show wr.heap[Z]? = _ from HI.out]
       obtain ⟨u, cc⟩ : ∃ u, wr.cell? ⟨Z, 4 * j + (3 - q), none⟩ = some u := by
        rw [cell_of_row _ _ _ _ _ _ HI.out, ← Array.getElem?_toList]
        have hjl : 4 * j + (3 - q) < (bcells (padB (backTo (bytesFirst t j) v q))).length := by rw [bcells_length, padB_len (by rw [backTo_len _ _ (by omega), HLN.out]; omega)]; omega
        exact ⟨_, List.getElem?_eq_getElem hjl⟩
       clear hput
       have HX2 := Lib.hid (show x / 256 = nv v / 256 ^ (q + 1) by rw [HX.out, Nat.div_div_eq_div_mul, Nat.pow_succ])
       have HA4 := Lib.hid (show (wr.setCell ⟨Z, 4 * j + (3 - q), none⟩ (.int .u8 ((x : Int) % 256))).heap[S]? = _ from (heap_setCell_other _ _ _ _ (show S ≠ Z by have := HSZ.out; omega)).trans HA3.out)
       have HG9 := Lib.hid (show (wr.setCell ⟨Z, 4 * j + (3 - q), none⟩ (.int .u8 ((x : Int) % 256))).heap[w.heap.size]? = _ from (heap_setCell_other _ _ _ _ (show w.heap.size ≠ Z by have := HSZ.out; have := HS6.out; omega)).trans HG8.out)
       have HBZ := Lib.hid (HBY.out.setCell (p := ⟨Z, 4 * j + (3 - q), none⟩) (show w.heap.size ≤ Z by have := HSZ.out; have := HS6.out; omega) (.int .u8 ((x : Int) % 256)))
       go_wp2_with fail
       exact ⟨⟨q + 1, x / 256, by omega, by go_num, by go_num, HX2.out, by omega, HPUT.out, HA4.out, HG9.out, HBZ.out⟩, by simp [intOf]; omega⟩
      ·have d0 : decide ((0 : Int) ≤ 3 - (q : Int)) = false := by rw [decide_eq_false_iff_not]; omega
       have HI2 := Lib.hid (show ArrB wr Z (bytesFirst t (j + 1)) from by
        have h := HI.out
        rw [show q = 4 by omega, backTo_four, ← HNX.out] at h
        exact h)
       clear HI
       go_wp2_with fail
       go_roundw
       case rel => exact ⟨j + 1, by omega, by go_num, HI2.out, HA3.out, HG8.out, HBY.out⟩
       case measure => simp [intOf]; omega
    ·have HA2 := Lib.hid (show wr.heap[Z]? = some (.cells (bcells (shaL b)).toArray 28 (0, 0)) from by
      have h := HI.out
      rw [show j = 8 by omega, bytesFirst_all] at h
      unfold ArrB padB at h
      rw [bytesS_len, ← HSHA.out] at h
      simpa using h)
     have HLS := Lib.hid (show (bcells (shaL b)).length = 32 by rw [bcells_length, HSHA.out, bytesS_len])
     have HONE := Lib.hid (bcells_one (shaL b))
     obtain ⟨cs, hcs⟩ : ∃ cs, cs = bcells (shaL b) := ⟨_, rfl⟩
     rw [← hcs] at HA2 HLS HONE
     have HCS := Lib.hid hcs
     clear hcs HI
     go_wp2_with (refine stop_at (some 54) rfl ?_)
     refine Stop.go (wpList_load_agg rfl 28 rfl rfl a32_u rfl (cs := cs) (by rw [HLS.out]; exact a32_s) (row_cells HA2.out) ?_)
     refine wpList_store_agg rfl 28 rfl rfl rfl (store_rowS (vs := cs) rfl (by rw [HLS.out]; exact a32_s) HG8.out (by rw [HLS.out]; rfl) HONE.out) ?_
     have HNN := Lib.hid (setRow_heap _ _ _ _ _ _ HG8.out : (wr.setRow w.heap.size cs.toArray).heap[w.heap.size]? = _)
     have HBN := Lib.hid (below_setRow HBY.out (Nat.le_refl _) cs.toArray)
     generalize wr.setRow w.heap.size cs.toArray = w10 at *
     generalize hac : Act.put _ _ _ = a9
     simp [Act.put] at hac
     subst hac
     go_wp2_with fail
     exact bodyPost_ret (v := .agg cs.toArray) (results_cell_row rfl _ _ w.heap.size _ _ _ _ rfl HNN.out a32_u rfl (by rw [a32_s, List.size_toArray, HLS.out])) rfl ⟨by rw [HCS.out], HBN.out⟩
end Go.Proofs.YthojelhpipmkiaaGreatDoor
