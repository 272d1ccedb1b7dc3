/- Texts of this proof joined: Sha12, Sha13. -/
import Derived.Test.YthojelhpipmkiaaGreatDoorKO18
import Derived.Test.YthojelhpipmkiaaGreatDoorKO03
namespace Go.Proofs.YthojelhpipmkiaaGreatDoor
open Go.RowKit

noncomputable def hashC (s : St8) (v : Value) (n : Int) : List Value := st8 s ++ [v, .int .i64 n]
def HashAt (w : World) (g : Nat) (s : St8) (v : Value) (n : Int) : Prop := w.heap[g]? = some (.cells (hashC s v n).toArray 94 (0, 0))
theorem build_hash (x0 x1 x2 x3 x4 x5 x6 x7 : Int) (w : World) : (Instr.build 94 #[(0, .agg #[.int .u32 x0, .int .u32 x1, .int .u32 x2, .int .u32 x3, .int .u32 x4, .int .u32 x5, .int .u32 x6, .int .u32 x7])]).run Tryz.prog w = .ok (.agg #[.int .u32 x0, .int .u32 x1, .int .u32 x2, .int .u32 x3, .int .u32 x4, .int .u32 x5, .int .u32 x6, .int .u32 x7, .slice none 0 0, .int .i64 0]) w := by kernel_rfl
structure Keep1 (g : Nat) (w w' : World) : Prop where
 size : w.heap.size ≤ w'.heap.size
 block : ∀ k < w.heap.size, k ≠ g → w'.heap[k]? = w.heap[k]?
theorem Keep1.trans {g : Nat} {a b c : World} (h : Keep1 g a b) (k : Keep1 g b c) : Keep1 g a c := ⟨Nat.le_trans h.size k.size, fun i hi hg => (k.block i (Nat.lt_of_lt_of_le hi h.size) hg).trans (h.block i hi hg)⟩
theorem Keep1.of_below {g : Nat} {w w' : World} (h : Below w.heap.size w w') : Keep1 g w w' := ⟨h.size, fun k hk _ => h.block k hk⟩
theorem Keep1.setCell (w : World) (g o : Nat) (v : Value) : Keep1 g w (w.setCell ⟨g, o, none⟩ v) := ⟨by simp [World.setCell], fun _ _ hg => heap_setCell_other _ _ _ _ hg⟩
theorem Keep1.setRow (w : World) (g : Nat) (cs : Array Value) : Keep1 g w (w.setRow g cs) := ⟨by simp [World.setRow], fun k _ hg => setRow_other w g k cs hg⟩
def RdN (w : World) (g : Nat) (A : Option Addr) (xs : List Value) : Prop := xs ≠ [] → ∃ b off, A = some ⟨b, off, none⟩ ∧ b < w.heap.size ∧ b ≠ g ∧ ∀ j u, xs[j]? = some u → w.cell? ⟨b, off + j, none⟩ = some u
theorem RdN.rd {w : World} {g : Nat} {A : Option Addr} {xs : List Value} (h : RdN w g A xs) : Rd w w.heap.size A xs := fun hn => by
 obtain ⟨b, off, h1, h2, _, h4⟩ := h hn
 exact ⟨b, off, h1, h2, h4⟩
theorem RdN.keep {w w' : World} {g : Nat} {A : Option Addr} {xs : List Value} (h : RdN w g A xs) (hk : Keep1 g w w') : RdN w' g A xs := fun hn => by
 obtain ⟨b, off, h1, h2, h3, h4⟩ := h hn
 exact ⟨b, off, h1, Nat.lt_of_lt_of_le h2 hk.size, h3, fun j u hu => (World.cell?_of_block (w := w) (hk.block b h2 h3)).trans (h4 j u hu)⟩
theorem RdN.next {w : World} {g : Nat} {A : Option Addr} {X : List UInt8} (h : RdN w g A (bcells X)) (k : Nat) {c : Nat} (hc : k < X.length → c ≠ k) : RdN w g (if c = k then A else A.map (·.add k)) (bcells (X.drop k)) := fun hn => by
 have hl : k < X.length := by
  rcases Nat.lt_or_ge k X.length with h' | h'
  ·exact h'
  ·rw [List.drop_eq_nil_of_le h'] at hn
   exact absurd rfl hn
 obtain ⟨b, off, rfl, hb, hg, hcell⟩ := h (by intro e; have := congrArg List.length e; rw [bcells_length] at this; have h0 : X.length = 0 := this; omega)
 rw [if_neg (hc hl)]
 refine ⟨b, off + k, by simp [Addr.add_lit], hb, hg, fun j u hu => ?_⟩
 rw [Nat.add_assoc]
 refine hcell _ u ?_
 unfold bcells at hu ⊢
 rw [List.map_drop, List.getElem?_drop] at hu
 exact hu
theorem RdN.of_own {w : World} {g base n : Nat} {v : Value} {A : Option Addr} {c : Nat} {xs : List Value} {cs : Array Value} {T : TypeId} {fr : Nat × Nat} (h : w.ownsRow base 5 1 v n xs) (hv : v = .slice A n c) (hg : w.heap[g]? = some (.cells cs T fr)) (hT : T ≠ 5) : RdN w g A xs := fun hn => by
 subst hv
 obtain ⟨b, off, e, hb, hc⟩ := Rd.of_own h hn
 refine ⟨b, off, e, hb, ?_, hc⟩
 rcases h.2 with ⟨h0, h1⟩ | ⟨g', cap, cur, h0, _, hh, _⟩
 ·injection h0 with h0
  rw [h0] at e
  cases e
 ·injection h0 with h0
  rw [h0] at e
  injection e with e
  injection e with e1 _
  rintro rfl
  rw [e1, hg] at hh
  injection hh with hh
  injection hh with _ hh
  exact hT hh
def NewTo (w : World) (e : Ending) (w' : World) : Prop := ∃ g, e = .returned (.pointer (some ⟨g, 0, none⟩)) ∧ HashAt w' g sha0 (.slice none 0 0) 0 ∧ w.heap.size ≤ g ∧ Below w.heap.size w w'
set_option maxRecDepth 100000 in
set_option maxHeartbeats 4000000 in
theorem newHash_any (w : World) : Calls Tryz.prog 30 #[] w (NewTo w) := by
 go_enter Tryz.func30, Tryz.ntmps30
 go_wp2_with fail
 refine (begin_any w).mono ?_
 rintro e w1 ⟨rfl, hb1⟩
 rw [begin_eq]
 have HB1 := Lib.hid hb1
 clear hb1
 go_wp2_with (refine stop_at (some 2) rfl ?_)
 refine Stop.go (wpList_build rfl 94 rfl (vs := #[(0, .agg (st8 sha0).toArray)]) (by rfl) (build_hash _ _ _ _ _ _ _ _ _) ?_)
 refine wpList_box rfl _ rfl rfl (vs := hashC sha0 (.slice none 0 0) 0) rfl ?_
 have HN := Lib.hid (Go.heap_alloc_new w1 (.cells (hashC sha0 (.slice none 0 0) 0).toArray 94))
 have HB2 := Lib.hid (HB1.out.alloc HB1.out.size (.cells (hashC sha0 (.slice none 0 0) 0).toArray 94))
 generalize w1.alloc (.cells (hashC sha0 (.slice none 0 0) 0).toArray 94) = w2 at *
 generalize hac : Act.put _ _ _ = a9
 simp [Act.put] at hac
 subst hac
 go_wp2_with fail
 go_ret
 exact ⟨_, rfl, HN.out, HB1.out.size, HB2.out⟩
theorem HashAt.cells {w : World} {g : Nat} {s : St8} {v : Value} {n : Int} (h : HashAt w g s v n) : (∀ j u, (st8 s)[j]? = some u → w.cell? ⟨g, 0 + j, none⟩ = some u) ∧ w.cell? ⟨g, 8, none⟩ = some v ∧ w.cell? ⟨g, 9, none⟩ = some (.int .i64 n) ∧ (∀ j, w.frozen? ⟨g, j, none⟩ = false) ∧ g < w.heap.size := by
 refine ⟨fun j u hu => ?_, ?_, ?_, fun j => by simp [World.frozen?, show w.heap[g]? = _ from h], (Array.getElem?_eq_some_iff.1 h).1⟩
 ·have hj := (List.getElem?_eq_some_iff.1 hu).1
  rw [Nat.zero_add, cell_of_row _ _ _ _ _ _ h, ← Array.getElem?_toList]
  show (hashC s v n)[j]? = _
  unfold hashC
  rw [List.getElem?_append_left hj]
  exact hu
 ·rw [cell_of_row _ _ _ _ _ _ h]
  rfl
 ·rw [cell_of_row _ _ _ _ _ _ h]
  rfl
theorem HashAt.keep {w w' : World} {g : Nat} {s : St8} {v : Value} {n : Int} (h : HashAt w g s v n) (hb : Below w.heap.size w w') : HashAt w' g s v n := (hb.block g h.cells.2.2.2.2).trans h
theorem HashAt.set {w : World} {g : Nat} {s : St8} {v : Value} {n : Int} (h : HashAt w g s v n) : (∀ v', HashAt (w.setCell ⟨g, 8, none⟩ v') g s v' n) ∧ (∀ m : Int, HashAt (w.setCell ⟨g, 9, none⟩ (.int .i64 m)) g s v m) := by
 have h0 : w.heap[g]? = _ := h
 refine ⟨fun v' => ?_, fun m => ?_⟩
 all_goals
  unfold HashAt
  simp only [World.setCell, Array.getElem?_modify, if_true, h0, Option.map_some]
  rw [List.setIfInBounds_toArray]
  rfl
theorem HashAt.row {w : World} {g : Nat} {s : St8} {v : Value} {n : Int} (h : HashAt w g s v n) (t : St8) : (Instr.storeAt 75 (.pointer (some ⟨g, 0, none⟩)) (.agg (st8 t).toArray)).run Tryz.prog w = .ok () (w.setRow g (hashC t v n).toArray) ∧ HashAt (w.setRow g (hashC t v n).toArray) g t v n := by
 refine ⟨?_, setRow_heap _ _ _ _ _ _ h⟩
 have := store_agg (P := Tryz.prog) (ty := 75) (off := 0) (vs := st8 t) (v := .agg (st8 t).toArray) rfl a8_s h (by simp [hashC, st8_len]) (w32s_one _)
 rw [this]
 rfl
def WriteTo (g N : Nat) (b : List UInt8) (w : World) (e : Ending) (w' : World) : Prop := e = .returned (.tuple #[]) ∧ ∃ A' m c', HashAt w' g (blocksS sha0 b) (.slice A' m c') b.length ∧ m = (leftS b).length ∧ m ≤ c' ∧ c' ≤ 9223372036854775807 ∧ RdN w' g A' (bcells (leftS b)) ∧ Below N w w'
set_option maxRecDepth 100000 in
set_option maxHeartbeats 16000000 in
theorem write_any (g N : Nat) (b : List UInt8) (A : Option Addr) (c : Nat) (w : World) (hg : HashAt w g sha0 (.slice none 0 0) 0) (hb : Rd w g A (bcells b)) (hl : b.length ≤ 68719476736) (hN : N ≤ g) :
  Calls Tryz.prog 31 #[.pointer (some ⟨g, 0, none⟩), .slice A b.length c] w (WriteTo g N b w) := by
 obtain ⟨hc0, hc8, hc9, hcf, hgl⟩ := hg.cells
 have hf8 := hcf 8
 have hf9 := hcf 9
 have HBC := Lib.hid (bcells_length b)
 have HB1 := Lib.hid (bcells_one b)
 obtain ⟨L, hL⟩ : ∃ L, L = b.length := ⟨_, rfl⟩
 rw [← hL] at hl HBC ⊢
 have HLE := Lib.hid hL
 have HS9 := Lib.hid (hg.set.2 (L : Int))
 have HRB := Lib.hid (show Rd (w.setCell ⟨g, 9, none⟩ (.int .i64 (L : Int))) g A (bcells b) from hb.keep fun p hp => World.cell?_of_block (w := w) (heap_setCell_other _ _ _ _ (show p.block ≠ g by omega)))
 have HBS := Lib.hid (show Below N w (w.setCell ⟨g, 9, none⟩ (.int .i64 (L : Int))) from (Below.refl N w).setCell hN _)
 have HSZ := Lib.hid (show (w.setCell ⟨g, 9, none⟩ (.int .i64 (L : Int))).heap.size = w.heap.size by simp [World.setCell])
 clear hL hc0 hcf hg hb
 go_enter Tryz.func31, Tryz.ntmps31
 go_wp2_with (refine stop_at (some 21) rfl ?_)
 refine Stop.go (wpList_app (m := L) (n := 0) u8_appS rfl rfl rfl rfl (World.ownsRow_nil _ w.heap.size _ 1) HRB.out (by rw [HBC.out]; omega) HB1.out (by unfold maxLen; omega) (by omega) (by rw [HSZ.out]; exact Nat.le_refl _) ?_)
 intro v' w7 ho7 hg7 hv7 _
 have hb7 := grown_below (Below.refl w.heap.size (w.setCell ⟨g, 9, none⟩ (.int .i64 (L : Int)))) hg7 (World.ownsRow_nil _ w.heap.size 5 1) (Nat.le_refl _) (by rw [HSZ.out]; exact Nat.le_refl _)
 rw [Nat.zero_add, List.nil_append] at ho7
 obtain ⟨A7, c7, rfl, h71, h72⟩ := own_form ho7
 unfold maxLen at h72
 have hs7 : HashAt w7 g sha0 (.slice none 0 0) L := HS9.out.keep (by rw [HSZ.out]; exact hb7)
 have HR7 := Lib.hid (show RdN w7 g A7 (bcells b) from RdN.of_own ho7 rfl hs7 (by decide))
 have HB7 := Lib.hid (HBS.out.trans (hb7.mono (Nat.le_of_lt (Nat.lt_of_le_of_lt hN hgl))))
 have hc8' := hs7.cells.2.1
 have hf8' := hs7.cells.2.2.2.1 8
 have HS8 := Lib.hid (hs7.set.1 (.slice A7 L c7))
 have HR8 := Lib.hid (HR7.out.keep (Keep1.setCell w7 g 8 (.slice A7 L c7)))
 have HB8 := Lib.hid (HB7.out.setCell (p := ⟨g, 8, none⟩) hN (.slice A7 L c7))
 clear ho7 hg7 hv7 hb7 hs7 HS9 HRB HBS HSZ HR7 HB7 hc8 hc9 hf8 hf9
 generalize hac : Act.put _ _ _ = a9
 simp [Act.put] at hac
 subst hac
 go_wp2_with fail
 go_loopg [] L (fun lft wr => ∃ (k m c' : Nat) (A' : Option Addr), m ≤ lft ∧ Hid (m + 64 * k = L) ∧ m ≤ c' ∧ c' ≤ 9223372036854775807 ∧ m ≤ 68719476736 ∧ Hid (HashAt wr g (blocksS sha0 (b.take (64 * k))) (.slice A' m c') L) ∧ Hid (RdN wr g A' (bcells (b.drop (64 * k)))) ∧ Hid (Below N w wr))
 case atStart => exact ⟨0, L, c7, A7, Nat.le_refl _, by show _ = _; omega, h71, by omega, hl, by rw [Nat.mul_zero, List.take_zero, blocksS_end (by simp)]; exact HS8.out, HR8.out, HB8.out⟩
 case round =>
  clear HS8 HR8 HB8 hc8' hf8'
  obtain ⟨k, m, c', A', hm, HK, hmc, hc', hm6, HG, HR, HBW⟩ := hrel
  have d8 := HG.out.cells.2.1
  have f8 := HG.out.cells.2.2.2.1 8
  by_cases h64 : 64 ≤ m
  ·have d0 : decide ((64 : Int) ≤ (m : Int)) = true := by rw [decide_eq_true_eq]; omega
   go_wp2_with fail
   refine Text.wp_text [] (by kernel_rfl) (by kernel_rfl) (fun Q' hQ' => ?_)
   have HG1 := Lib.hid (show HashAt wr.drew g (blocksS sha0 (b.take (64 * k))) (.slice A' m c') L from HG.out)
   have HR1 := Lib.hid (show RdN wr.drew g A' (bcells (b.drop (64 * k))) from HR.out)
   have HB1 := Lib.hid HBW.out.drew
   clear HG HR HBW d8 f8
   generalize wr.drew = w2 at *
   have d8 := HG1.out.cells.2.1
   have f8 := HG1.out.cells.2.2.2.1 8
   go_wp2_with (refine stop_at (some 35) rfl ?_)
   have HSTEP := Lib.hid (show blocksS sha0 (b.take (64 * (k + 1))) = blockS (blocksS sha0 (b.take (64 * k))) ((b.drop (64 * k)).take 64) from blocksS_next b (by rw [← HLE.out]; have := HK.out; omega) sha0)
   have HXL := Lib.hid (show (b.drop (64 * k)).length = m by rw [List.length_drop, ← HLE.out]; have := HK.out; omega)
   have HNX := Lib.hid (show b.drop (64 * (k + 1)) = (b.drop (64 * k)).drop 64 by rw [List.drop_drop]; congr 1)
   generalize b.drop (64 * k) = X at *
   generalize blocksS sha0 (b.take (64 * k)) = t at *
   have HRY := Lib.hid (show Rd w2 w2.heap.size A' (bcells (X.take 64)) from by
    have h := HR1.out.rd.take_ 64
    unfold bcells at h ⊢
    rwa [← List.map_take] at h)
   have HYL := Lib.hid (show (X.take 64).length = 64 by rw [List.length_take, HXL.out]; omega)
   refine Stop.go (wpList_load_agg rfl 75 rfl rfl a8_u rfl (cs := st8 t) a8_s HG1.out.cells.1 ?_)
   go_wp2_with fail
   refine (block_any t (X.take 64) A' c' w2.heap.size w2 HRY.out (Nat.le_refl _) HYL.out).mono ?_
   rintro e w8 ⟨rfl, hb8⟩
   have HG8 := Lib.hid (HG1.out.keep hb8)
   have HR8 := Lib.hid (HR1.out.keep (Keep1.of_below hb8))
   have HB8 := Lib.hid (HB1.out.trans (hb8.mono (Nat.le_of_lt (Nat.lt_of_le_of_lt hN HG1.out.cells.2.2.2.2))))
   rw [← HSTEP.out]
   clear hb8 HRY HYL HG1 HR1 HB1 d8 f8
   obtain ⟨t2, ht2⟩ : ∃ t2, t2 = blocksS sha0 (b.take (64 * (k + 1))) := ⟨_, rfl⟩
   rw [← ht2]
   have HT2 := Lib.hid ht2
   clear ht2
   go_wp2_with (refine stop_at none rfl ?_)
   refine Stop.go (wpList_store_agg rfl 75 rfl rfl rfl (HG8.out.row t2).1 ?_)
   have HG9 := Lib.hid (HG8.out.row t2).2
   have HR9 := Lib.hid (HR8.out.keep (Keep1.setRow w8 g (hashC t2 (.slice A' m c') L).toArray))
   have HB9 := Lib.hid (below_setRow HB8.out hN (hashC t2 (.slice A' m c') L).toArray)
   clear HG8 HR8 HB8
   generalize w8.setRow g (hashC t2 (.slice A' m c') L).toArray = w9 at *
   generalize hac : Act.put _ _ _ = a9
   simp [Act.put] at hac
   subst hac
   go_wp2_with fail
   refine ⟨by rfl, ?_⟩
   have d9 := HG9.out.cells.2.1
   have f9 := HG9.out.cells.2.2.2.1 8
   have HNR := Lib.hid (HR9.out.next 64 (c := c') (by rw [HXL.out]; omega))
   rw [← HNX.out] at HNR
   rcases Nat.lt_or_ge 64 c' with h65 | h65
   ·have hne : ¬ c' = 64 := by omega
    rw [if_neg hne] at HNR
    go_wp2_with fail
    go_roundg (gk - 1)
    case measure => omega
    case rel => exact ⟨k + 1, m - 64, c' - 64, A'.map (fun x : Addr => x.add 64), by omega, by have := HK.out; show _ = _; omega, by omega, by omega, by omega, by rw [← HT2.out]; exact HG9.out.set.1 _, HNR.out.keep (Keep1.setCell _ _ _ _), HB9.out.setCell (p := ⟨g, 8, none⟩) hN _⟩
   ·obtain rfl : c' = 64 := by omega
    rw [if_pos rfl] at HNR
    go_wp2_with fail
    go_roundg (gk - 1)
    case measure => omega
    case rel => exact ⟨k + 1, 0, 0, A', by omega, by have := HK.out; show _ = _; omega, by omega, by omega, by omega, by rw [← HT2.out]; exact HG9.out.set.1 _, HNR.out.keep (Keep1.setCell _ _ _ _), HB9.out.setCell (p := ⟨g, 8, none⟩) hN _⟩
  ·have d0 : decide ((64 : Int) ≤ (m : Int)) = false := by rw [decide_eq_false_iff_not]; omega
   have HKL := Lib.hid (show 64 * (b.length / 64) = 64 * k by rw [← HLE.out]; have := HK.out; omega)
   have HRES := Lib.hid (show WriteTo g N b w (.returned (.tuple #[])) wr from by
    refine ⟨rfl, A', m, c', ?_, ?_, hmc, hc', ?_, HBW.out⟩
    ·have h := HG.out
     rw [HLE.out] at h
     have e := (blocksS_two sha0 (b.take (64 * k)) (b.drop (64 * k))).1
     rw [List.take_append_drop] at e
     rw [e]
     have hl0 : leftS (b.take (64 * k)) = [] := by
      unfold leftS
      rw [List.length_take, ← HLE.out, Nat.min_eq_left (by have := HK.out; omega), show 64 * (64 * k / 64) = 64 * k by omega]
      exact List.drop_of_length_le (by rw [List.length_take]; omega)
     rw [hl0, List.nil_append, blocksS_end (l := b.drop (64 * k)) (by rw [List.length_drop, ← HLE.out]; have := HK.out; omega)]
     exact h
    ·unfold leftS
     rw [HKL.out, List.length_drop, ← HLE.out]
     have := HK.out
     omega
    ·unfold leftS
     rw [HKL.out]
     exact HR.out)
   go_wp2_with fail
   exact bodyPost_ret (results_none rfl _ _ _) rfl HRES.out
end Go.Proofs.YthojelhpipmkiaaGreatDoor
namespace Go.Proofs.YthojelhpipmkiaaGreatDoor
open Go.RowKit

set_option maxRecDepth 100000 in
set_option maxHeartbeats 32000000 in
theorem sum_any (g : Nat) (s : St8) (R : List UInt8) (A : Option Addr) (m c n : Nat) (w : World) (hg : HashAt w g s (.slice A m c) n) (hm : m = R.length) (hR : Rd w w.heap.size A (bcells R)) (hl : R.length < 64) (hn : n ≤ 68719476736) (hmod : R.length = n % 64) :
  Calls Tryz.prog 32 #[.pointer (some ⟨g, 0, none⟩)] w fun e w' => e = .returned (.agg (bcells (bytesS (blocksS s (R ++ fillS n)))).toArray) ∧ Below w.heap.size w w' := by
 have HR := Lib.hid hR
 have HG := Lib.hid hg
 have HRC := Lib.hid (bcells_length R)
 have HR1 := Lib.hid (bcells_one R)
 have HFL := Lib.hid (fillS_length n)
 have HMOD := Lib.hid (fillS_len n)
 have HRM := Lib.hid (show m = n % 64 by omega)
 have HRL := Lib.hid hm
 rw [← hm] at HRC hl
 obtain ⟨X, hX⟩ : ∃ X, X = R ++ fillS n := ⟨_, rfl⟩
 have HX := Lib.hid hX
 obtain ⟨SB, hSB⟩ : ∃ SB, SB = bcells (bytesS (blocksS s X)) := ⟨_, rfl⟩
 have HSB := Lib.hid hSB
 rw [← hX, ← hSB]
 clear hX hSB
 clear hR hm hmod hg
 go_enter Tryz.func32, Tryz.ntmps32
 go_wp2_with (refine stop_at (some 2) rfl ?_)
 refine Stop.go (wpList_alloc rfl _ rfl zero_a32 (vs := zeros32) rfl ?_)
 generalize hac : Act.put _ _ _ = a9
 simp [Act.put] at hac
 subst hac
 have HG1 := Lib.hid (Go.heap_alloc_new w (.cells zeros32.toArray 28))
 have HZ1 := Lib.hid (World.size_alloc w (.cells zeros32.toArray 28))
 have HBA := Lib.hid ((Below.refl w.heap.size w).alloc (Nat.le_refl _) (.cells zeros32.toArray 28))
 have HH1 := Lib.hid (HG.out.keep HBA.out)
 generalize w.alloc (.cells zeros32.toArray 28) = w1 at *
 have HO0 := Lib.hid (own_emptyS w1 5 1)
 have HBE := Lib.hid (HBA.out.alloc (by rw [HZ1.out]; omega) (.cells #[] 5))
 have HZE := Lib.hid (World.size_alloc w1 (.cells #[] 5))
 have HGE := Lib.hid ((Below.heap_alloc w1 (.cells #[] 5) w.heap.size (by rw [HZ1.out]; omega)).trans HG1.out)
 have HHE := Lib.hid (HG.out.keep HBE.out)
 have d8 := HHE.out.cells.2.1
 go_wp2_with (refine stop_at (some 14) rfl ?_)
 generalize w1.alloc (.cells #[] 5) = w2 at *
 obtain ⟨G0, hG0⟩ : ∃ G0, G0 = w1.heap.size := ⟨_, rfl⟩
 rw [← hG0] at HO0 HZE ⊢
 have HGB := Lib.hid (show w.heap.size + 1 = G0 by rw [hG0, HZ1.out])
 clear hG0 HG1 d8
 refine Stop.go (wpList_app (m := m) (n := 0) (news := bcells R) u8_appS rfl rfl rfl rfl HO0.out (HR.out.below HBE.out) (by rw [HRC.out, Nat.mul_one]) HR1.out (by unfold maxLen; omega) (by omega) (by rw [HZE.out]; omega) ?_)
 intro v3 w3 ho3 hg3 hv3 _
 rw [Nat.zero_add, List.nil_append] at ho3
 have HB3 := Lib.hid (show Below w.heap.size w w3 from grown_below HBE.out hg3 HO0.out (by have := HGB.out; omega) (by have := HZE.out; have := HGB.out; omega))
 have HG3 := Lib.hid (show w3.heap[w.heap.size]? = some (.cells zeros32.toArray 28 (0, 0)) from grown_other HO0.out hg3 HGE.out (by decide))
 have HO3 := Lib.hid ho3
 have HS3 := Lib.hid (show w.heap.size < w3.heap.size from (Array.getElem?_eq_some_iff.1 HG3.out).1)
 have HH3 := Lib.hid (HG.out.keep HB3.out)
 obtain ⟨A3, c3, rfl, h31, h32⟩ := own_form ho3
 unfold maxLen at h32
 clear ho3 hg3 hv3 HO0 HBE HZE HGE HHE HBA HH1
 generalize hac : Act.put _ _ _ = a9
 simp [Act.put] at hac
 subst hac
 have d9 := HH3.out.cells.2.2.1
 go_wp2_with fail
 refine (fill_any n w3 (by omega)).mono ?_
 rintro e w4 ⟨v4, rfl, ho4, hb4⟩
 have HO4 := Lib.hid ho4
 have HB4 := Lib.hid (HB3.out.trans (hb4.mono (Nat.le_of_lt HS3.out)))
 have HG4 := Lib.hid ((hb4.block _ HS3.out).trans HG3.out)
 have HP4 := Lib.hid (own_below HO3.out hb4)
 have HS4 := Lib.hid (Nat.lt_of_lt_of_le HS3.out hb4.size)
 obtain ⟨A4, c4, rfl, h41, h42⟩ := own_form ho4
 have HRF := Lib.hid (Rd.of_own ho4)
 unfold maxLen at h42
 have hz := zerosF_lt n
 clear ho4 hb4 HB3 HG3 HO3 HH3 d9
 have HFB := Lib.hid (show (bcells (fillS n)).length = (zerosF n + 9) * 1 by rw [bcells_length, HFL.out, Nat.mul_one])
 have HF1 := Lib.hid (bcells_one (fillS n))
 go_wp2_with (refine stop_at (some 21) rfl ?_)
 refine Stop.go (wpList_app (m := zerosF n + 9) (n := m) (news := bcells (fillS n)) u8_appS rfl rfl rfl rfl HP4.out HRF.out HFB.out HF1.out (by unfold maxLen; omega) (by omega) (by have := HGB.out; have := HS4.out; omega) ?_)
 intro v5 w5 ho5 hg5 hv5 _
 have HB5 := Lib.hid (show Below w.heap.size w w5 from grown_below HB4.out hg5 HP4.out (by have := HGB.out; omega) (Nat.le_of_lt HS4.out))
 have HG5 := Lib.hid (show w5.heap[w.heap.size]? = some (.cells zeros32.toArray 28 (0, 0)) from grown_other HP4.out hg5 HG4.out (by decide))
 have HS5 := Lib.hid (show w.heap.size < w5.heap.size from (Array.getElem?_eq_some_iff.1 HG5.out).1)
 have HH5 := Lib.hid (HG.out.keep HB5.out)
 have hX := HX.out
 have ho6 : w5.ownsRow G0 5 1 v5 (m + (zerosF n + 9)) (bcells X) := by rw [hX, bcells_append]; exact ho5
 have HXL := Lib.hid (show X.length = m + (zerosF n + 9) by rw [hX, List.length_append, HFL.out, ← HRL.out])
 obtain ⟨K, hK⟩ : ∃ K, m + (zerosF n + 9) = 64 * K := ⟨(m + (zerosF n + 9)) / 64, by have h1 := HMOD.out; rw [HFL.out] at h1; have := HRM.out; omega⟩
 obtain ⟨L, hL⟩ : ∃ L, L = m + (zerosF n + 9) := ⟨_, rfl⟩
 rw [← hL] at ho6 hK HXL
 have hLb : L ≤ 256 := by omega
 have HLK := Lib.hid hK
 obtain ⟨A5, c5, rfl, h51, h52⟩ := own_form ho6
 unfold maxLen at h52
 have HR5 := Lib.hid (Rd.of_own ho6)
 clear ho5 ho6 hg5 hv5 hX hK hL hz HP4 HRF HFB HF1 HO4 HB4 HG4
 generalize hac : Act.put _ _ _ = a9
 simp [Act.put] at hac
 subst hac
 go_wp2_with (refine stop_at (some 25) rfl ?_)
 refine Stop.go (wpList_load_agg rfl 75 rfl rfl a8_u rfl (cs := st8 s) a8_s HH5.out.cells.1 ?_)
 refine wpList_alloc rfl _ rfl zero_a8 (vs := zeros8) rfl ?_
 refine wpList_store_agg rfl 75 rfl rfl rfl (store_new2 (vs := st8 s) rfl rfl a8_s rfl (w32s_one _)) ?_
 generalize hac : Act.put _ _ _ = a9
 simp [Act.put] at hac
 subst hac
 have hnew := Go.heap_alloc_new w5 (.cells (st8 s).toArray 75)
 have hb7 := (Below.refl w5.heap.size w5).alloc (Nat.le_refl _) (.cells (st8 s).toArray 75)
 obtain ⟨S, hS⟩ : ∃ S, S = w5.heap.size := ⟨_, rfl⟩
 rw [← hS] at hnew hb7 HS5 HR5 ⊢
 have HSE := Lib.hid hS
 have HI := Lib.hid (show (w5.alloc (.cells (st8 s).toArray 75)).heap[S]? = some (.cells (st8 (blocksS s (X.take (64 * 0)))).toArray 75 (0, 0)) from by
  rw [Nat.mul_zero, List.take_zero, blocksS_end (by simp)]
  exact hnew)
 have HB7 := Lib.hid hb7
 have HR7 := Lib.hid (HR5.out.below hb7)
 clear hnew hb7 hS HR5 HH5
 generalize w5.alloc (.cells (st8 s).toArray 75) = w7 at *
 go_wp2_with fail
 go_loopg [3] L (fun lft v3 wr => ∃ (k q c' : Nat) (A' : Option Addr), q ≤ lft ∧ v3 = .slice A' q c' ∧ Hid (q + 64 * k = L) ∧ q ≤ c' ∧ c' ≤ 9223372036854775807 ∧ q ≤ 256 ∧ Hid (wr.heap[S]? = some (.cells (st8 (blocksS s (X.take (64 * k)))).toArray 75 (0, 0))) ∧ Hid (Rd wr S A' (bcells (X.drop (64 * k)))) ∧ Hid (Below S w5 wr))
 case atStart => exact ⟨0, L, c5, A5, Nat.le_refl _, rfl, by show _ = _; omega, h51, by omega, hLb, HI.out, HR7.out, HB7.out⟩
 case round =>
  clear HI HB7 HR7
  obtain ⟨k, q, c', A', hq, rfl, HK, hqc, hc', hq2, HA, HR', HBW⟩ := hrel
  by_cases h64 : 64 ≤ q
  ·have d0 : decide ((64 : Int) ≤ (q : Int)) = true := by rw [decide_eq_true_eq]; omega
   go_wp2_with fail
   refine Text.wp_text [] (by kernel_rfl) (by kernel_rfl) (fun Q' hQ' => ?_)
   go_wp2_with (refine stop_at (some 30) rfl ?_)
   have HSTEP := Lib.hid (show blocksS s (X.take (64 * (k + 1))) = blockS (blocksS s (X.take (64 * k))) ((X.drop (64 * k)).take 64) from blocksS_next X (by rw [HXL.out]; have := HK.out; omega) s)
   have HYX := Lib.hid (show (X.drop (64 * k)).length = q by rw [List.length_drop, HXL.out]; have := HK.out; omega)
   have HNX := Lib.hid (show X.drop (64 * (k + 1)) = (X.drop (64 * k)).drop 64 by rw [List.drop_drop]; congr 1)
   generalize X.drop (64 * k) = Z at *
   generalize blocksS s (X.take (64 * k)) = t at *
   have HRY := Lib.hid (show Rd wr S A' (bcells (Z.take 64)) from by
    have h := HR'.out.take_ 64
    unfold bcells at h ⊢
    rwa [← List.map_take] at h)
   have HYL := Lib.hid (show (Z.take 64).length = 64 by rw [List.length_take, HYX.out]; omega)
   refine Stop.go (wpList_load_agg rfl 75 rfl rfl a8_u rfl (cs := st8 t) a8_s (row_cells (w := wr.drew) (vs := st8 t) HA.out) ?_)
   go_wp2_with fail
   refine (block_any t (Z.take 64) A' c' S wr.drew (HRY.out.below (Below.refl S wr).drew) (show S ≤ wr.heap.size from Nat.le_of_lt (Array.getElem?_eq_some_iff.1 HA.out).1) HYL.out).mono ?_
   rintro e w8 ⟨rfl, hb8⟩
   have HA8 := Lib.hid ((hb8.block S (show S < wr.heap.size from (Array.getElem?_eq_some_iff.1 HA.out).1)).trans HA.out)
   have HBX := Lib.hid (show Below S wr w8 from ((Below.refl wr.heap.size wr).drew.trans hb8).mono (Nat.le_of_lt (Array.getElem?_eq_some_iff.1 HA.out).1))
   have HB8 := Lib.hid (show Below S w5 w8 from HBW.out.trans HBX.out)
   have HR8 := Lib.hid (HR'.out.below HBX.out)
   rw [← HSTEP.out]
   clear hb8 HRY HYL HBX
   obtain ⟨t2, ht2⟩ : ∃ t2, t2 = blocksS s (X.take (64 * (k + 1))) := ⟨_, rfl⟩
   rw [← ht2]
   have HT2 := Lib.hid ht2
   clear ht2
   go_wp2_with (refine stop_at none rfl ?_)
   refine Stop.go (wpList_store_agg rfl 75 rfl rfl rfl (store_rowS (vs := st8 t2) rfl a8_s HA8.out rfl (w32s_one _)) ?_)
   have HA9 := Lib.hid (setRow_heap _ _ _ _ _ _ HA8.out : (w8.setRow S (st8 t2).toArray).heap[S]? = _)
   have HB9 := Lib.hid (below_setRow HB8.out (Nat.le_refl S) (st8 t2).toArray)
   have HR9 := Lib.hid (HR8.out.below (below_setRow (Below.refl S w8) (Nat.le_refl S) (st8 t2).toArray))
   clear HA8 HB8 HA HBW HR' HR8
   generalize w8.setRow S (st8 t2).toArray = w9 at *
   generalize hac : Act.put _ _ _ = a9
   simp [Act.put] at hac
   subst hac
   go_wp2_with fail
   refine ⟨by rfl, ?_⟩
   have hnr := HR9.out.drop_ 64 (cap := c') (by rw [bcells_length, HYX.out]; omega)
   have hdr : (bcells Z).drop 64 = bcells (X.drop (64 * (k + 1))) := by rw [HNX.out]; unfold bcells; rw [List.map_drop]
   rw [hdr] at hnr
   have HNR := Lib.hid hnr
   clear hnr hdr
   rcases Nat.lt_or_ge 64 c' with h65 | h65
   ·have hne : ¬ c' = 64 := by omega
    rw [if_neg (by omega)] at HNR
    go_wp2_with fail
    go_roundg (gk - 1)
    case measure => omega
    case rel => exact ⟨k + 1, q - 64, c' - 64, A'.map (fun x : Addr => x.add 64), by omega, rfl, by have := HK.out; show _ = _; omega, by omega, by omega, by omega, by rw [← HT2.out]; exact HA9.out, HNR.out, HB9.out⟩
   ·obtain rfl : c' = 64 := by omega
    obtain rfl : q = 64 := by omega
    rw [if_pos rfl] at HNR
    go_wp2_with fail
    go_roundg (gk - 1)
    case measure => omega
    case rel => exact ⟨k + 1, 0, 0, A', by omega, rfl, by have := HK.out; show _ = _; omega, by omega, by omega, by omega, by rw [← HT2.out]; exact HA9.out, HNR.out, HB9.out⟩
  ·have d0 : decide ((64 : Int) ≤ (q : Int)) = false := by rw [decide_eq_false_iff_not]; omega
   have HS1 := Lib.hid (Nat.lt_trans HS5.out (Array.getElem?_eq_some_iff.1 HA.out).1)
   have HA2 := Lib.hid (show wr.heap[S]? = some (.cells (st8 (blocksS s X)).toArray 75 (0, 0)) from by
    have h := HA.out
    rw [List.take_of_length_le (by rw [HXL.out]; have := HK.out; have := HLK.out; omega)] at h
    exact h)
   have HG7 := Lib.hid ((HBW.out.block _ HS5.out).trans HG5.out)
   have HB8 := Lib.hid (HB5.out.trans (HBW.out.mono (Nat.le_of_lt HS5.out)))
   clear HA HBW HR'
   generalize blocksS s X = t at *
   go_wp2_with (refine stop_at (some 38) rfl ?_)
   refine Stop.go (wpList_load_agg rfl 75 rfl rfl a8_u rfl (cs := st8 t) a8_s (row_cells (vs := st8 t) HA2.out) ?_)
   go_wp2_with fail
   refine (bytes_any t wr).mono ?_
   rintro e w8 ⟨rfl, hb8⟩
   have HG8 := Lib.hid ((hb8.block _ HS1.out).trans HG7.out)
   have HB9 := Lib.hid (HB8.out.trans (hb8.mono (Nat.le_of_lt HS1.out)))
   have HLS := Lib.hid (show SB.length = 32 by rw [HSB.out, bcells_length, bytesS_len])
   have HONE := Lib.hid (show ∀ u ∈ SB, u.oneCell' = true by rw [HSB.out]; exact bcells_one _)
   rw [← HSB.out]
   clear hb8 HG7 HB8 HSB
   go_wp2_with (refine stop_at none rfl ?_)
   refine Stop.go (wpList_store_agg rfl 28 rfl rfl rfl (store_rowS (vs := SB) rfl (by rw [HLS.out]; exact a32_s) HG8.out (by rw [HLS.out]; rfl) HONE.out) ?_)
   have HNN := Lib.hid (setRow_heap _ _ _ _ _ _ HG8.out : (w8.setRow w.heap.size SB.toArray).heap[w.heap.size]? = _)
   have HBN := Lib.hid (below_setRow HB9.out (Nat.le_refl _) SB.toArray)
   generalize w8.setRow w.heap.size SB.toArray = w10 at *
   generalize hac : Act.put _ _ _ = a9
   simp [Act.put] at hac
   subst hac
   go_wp2_with fail
   exact bodyPost_ret (v := .agg SB.toArray) (results_cell_row rfl _ _ w.heap.size _ _ _ _ rfl HNN.out a32_u rfl (by rw [a32_s, List.size_toArray, HLS.out])) rfl ⟨rfl, HBN.out⟩
theorem shaL_two (b : List UInt8) : bytesS (blocksS (blocksS sha0 b) (leftS b ++ fillS b.length)) = shaL b := by
 unfold shaL
 rw [(blocksS_two sha0 b (fillS b.length)).1]
set_option maxRecDepth 100000 in
set_option maxHeartbeats 32000000 in
theorem of1_any (b : List UInt8) (A : Option Addr) (c P c1 : Nat) (w : World) (hb : Rd w w.heap.size A (bcells b)) (hl : b.length ≤ 68719476736) (hP : w.cell? ⟨P, 0, none⟩ = some (.slice A b.length c)) (hPs : P < w.heap.size) (_h1 : 1 ≤ c1) :
  Calls Tryz.prog 12 #[.slice (some ⟨P, 0, none⟩) 1 c1] w fun e w' => e = .returned (.agg (bcells (shaL b)).toArray) ∧ Below w.heap.size w w' := by
 have HB := Lib.hid hb
 have HP := Lib.hid hP
 clear hb hP
 go_enter Tryz.func12, Tryz.ntmps12
 go_wp2_with (refine stop_at (some 2) rfl ?_)
 refine Stop.go (wpList_alloc rfl _ rfl zero_a32 (vs := zeros32) rfl ?_)
 generalize hac : Act.put _ _ _ = a9
 simp [Act.put] at hac
 subst hac
 have HG1 := Lib.hid (Go.heap_alloc_new w (.cells zeros32.toArray 28))
 have HZ1 := Lib.hid (World.size_alloc w (.cells zeros32.toArray 28))
 have HBA := Lib.hid ((Below.refl w.heap.size w).alloc (Nat.le_refl _) (.cells zeros32.toArray 28))
 generalize w.alloc (.cells zeros32.toArray 28) = w1 at *
 go_wp2_with fail
 refine (newHash_any w1).mono ?_
 rintro e w2 ⟨g, rfl, hg2, hgs, hb2⟩
 have HS1 := Lib.hid (show w.heap.size < w1.heap.size by rw [HZ1.out]; omega)
 have HB2 := Lib.hid (HBA.out.trans (hb2.mono (Nat.le_of_lt HS1.out)))
 have HG2 := Lib.hid ((hb2.block _ HS1.out).trans HG1.out)
 have HH2 := Lib.hid hg2
 have HGS := Lib.hid (Nat.lt_of_lt_of_le HS1.out hgs)
 have HS2 := Lib.hid (Nat.lt_of_lt_of_le HS1.out hb2.size)
 have HRB := Lib.hid ((HB.out.below HB2.out).more (Nat.le_of_lt HGS.out))
 have d0 : w2.cell? ⟨P, 0, none⟩ = some (.slice A b.length c) := (HB2.out.cell hPs).trans HP.out
 clear hg2 hgs hb2 HB HP HBA HG1
 go_wp2_with fail
 go_loopg [9] 1 (fun lft v9 wr => ∃ i : Nat, i ≤ 1 ∧ 1 - i ≤ lft ∧ v9 = .int .i64 i ∧ Hid ((i = 0 ∧ wr = w2) ∨ (i = 1 ∧ WriteTo g (w.heap.size + 1) b w2 (.returned (.tuple #[])) wr)))
 case atStart => exact ⟨0, by omega, by omega, rfl, .inl ⟨rfl, rfl⟩⟩
 case round =>
  obtain ⟨i, hi, hlft, rfl, HQ⟩ := hrel
  rcases HQ.out with ⟨rfl, rfl⟩ | ⟨rfl, hw⟩
  ·go_wp2_with fail
   refine (write_any g (w.heap.size + 1) b A c wr HH2.out HRB.out hl HGS.out).mono ?_
   rintro e w3 hw
   obtain rfl := hw.1
   have HW := Lib.hid hw
   clear hw
   go_wp2_with fail
   go_roundg (gk - 1)
   case measure => omega
   case rel => exact ⟨1, by omega, by omega, rfl, .inr ⟨rfl, HW.out⟩⟩
  ·obtain ⟨_, A', m, c', hh, hm, hmc, hc', hr, hb3⟩ := hw
   have HH3 := Lib.hid hh
   have HR3 := Lib.hid hr.rd
   have HB3 := Lib.hid (HB2.out.trans (hb3.mono (Nat.le_succ _)))
   have HG3 := Lib.hid ((hb3.block _ (Nat.lt_succ_self _)).trans HG2.out)
   have HS3 := Lib.hid (Nat.lt_of_lt_of_le HS2.out hb3.size)
   have HML := Lib.hid hm
   clear hh hr hb3 hm HQ HH2 HB2 HG2
   go_wp2_with fail
   refine (sum_any g (blocksS sha0 b) (leftS b) A' m c' b.length wr HH3.out HML.out HR3.out (leftS_lt b) hl (by unfold leftS; rw [List.length_drop]; omega)).mono ?_
   rintro e w8 ⟨rfl, hb8⟩
   rw [shaL_two b]
   have HG8 := Lib.hid ((hb8.block _ HS3.out).trans HG3.out)
   have HB9 := Lib.hid (HB3.out.trans (hb8.mono (Nat.le_of_lt HS3.out)))
   obtain ⟨SB, hSB⟩ : ∃ SB, SB = bcells (shaL b) := ⟨_, rfl⟩
   have HLS := Lib.hid (show SB.length = 32 by rw [hSB, bcells_length]; unfold shaL; rw [bytesS_len])
   have HONE := Lib.hid (show ∀ u ∈ SB, u.oneCell' = true by rw [hSB]; exact bcells_one _)
   rw [← hSB]
   have HSB := Lib.hid hSB
   clear hb8 HG3 HB3 hSB
   go_wp2_with (refine stop_at none rfl ?_)
   refine Stop.go (wpList_store_agg rfl 28 rfl rfl rfl (store_rowS (vs := SB) rfl (by rw [HLS.out]; exact a32_s) HG8.out (by rw [HLS.out]; rfl) HONE.out) ?_)
   have HNN := Lib.hid (setRow_heap _ _ _ _ _ _ HG8.out : (w8.setRow w.heap.size SB.toArray).heap[w.heap.size]? = _)
   have HBN := Lib.hid (below_setRow HB9.out (Nat.le_refl _) SB.toArray)
   generalize w8.setRow w.heap.size SB.toArray = w10 at *
   generalize hac : Act.put _ _ _ = a9
   simp [Act.put] at hac
   subst hac
   go_wp2_with fail
   exact bodyPost_ret (v := .agg SB.toArray) (results_cell_row rfl _ _ w.heap.size _ _ _ _ rfl HNN.out a32_u rfl (by rw [a32_s, List.size_toArray, HLS.out])) rfl ⟨by rw [HSB.out], HBN.out⟩
end Go.Proofs.YthojelhpipmkiaaGreatDoor
