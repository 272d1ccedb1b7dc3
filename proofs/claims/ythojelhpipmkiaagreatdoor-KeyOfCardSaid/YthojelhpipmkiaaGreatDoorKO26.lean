/- Texts of this proof joined: Name1, Name2, KeyAwake, KeyOfLaw. -/
import Derived.Test.YthojelhpipmkiaaGreatDoorKO25
import Derived.Test.YthojelhpipmkiaaGreatDoorKO14
namespace Go.Proofs.YthojelhpipmkiaaGreatDoor
open Go.RowKit

def nmCells (x : NmD) : List Value := [.int .i64 x.kind] ++ (hkCells x.h x.k ++ [.int .i64 x.n])
abbrev nmv (x : NmD) : Value := .agg (nmCells x).toArray
theorem nmv_cells (x : NmD) : (nmv x).cells = (nmCells x).toArray := rfl
theorem nmCells_length (x : NmD) : (nmCells x).length = x.h.length + 3 := by simp [nmCells, hkCells_length]
theorem nmCells_one (x : NmD) : ∀ u ∈ nmCells x, u.oneCell' = true := fun u hu => by
 rcases List.mem_append.1 hu with h | h
 ·rw [List.mem_singleton.1 h]; rfl
 rcases List.mem_append.1 h with h | h
 ·exact hkCells_one _ _ u h
 ·rw [List.mem_singleton.1 h]; rfl
structure NmAt (w : World) (g : Nat) (x : NmD) : Prop where
 blk : ∃ t, w.heap[g]? = some (.cells (nmCells x).toArray t (0, 0))
 hk : x.h.length = 32
section
variable {w : World} {g : Nat} {x : NmD}
theorem NmAt.kind_ (h : NmAt w g x) : w.cell? ⟨g, 0, none⟩ = some (.int .i64 x.kind) := by
 obtain ⟨t, hb⟩ := h.blk
 rw [cell_of_row _ _ _ _ _ _ hb]; rfl
theorem NmAt.n_ (h : NmAt w g x) : w.cell? ⟨g, 34, none⟩ = some (.int .i64 x.n) := by
 obtain ⟨t, hb⟩ := h.blk
 have := cell_part hb (congrArg List.toArray (show nmCells x = ([.int .i64 x.kind] ++ hkCells x.h x.k) ++ ([.int .i64 x.n] ++ []) by simp [nmCells])) 0 (.int .i64 x.n) rfl
 simpa [hkCells_length, h.hk] using this
theorem NmAt.key_ (h : NmAt w g x) : ∀ j u, (hkCells x.h x.k)[j]? = some u → w.cell? ⟨g, 1 + j, none⟩ = some u := fun j u hu => by
 obtain ⟨t, hb⟩ := h.blk
 exact cell_part hb (congrArg List.toArray (show nmCells x = [.int .i64 x.kind] ++ (hkCells x.h x.k ++ [.int .i64 x.n]) from rfl)) j u hu
theorem NmAt.lt (h : NmAt w g x) : g < w.heap.size := by obtain ⟨t, hb⟩ := h.blk; exact (Array.getElem?_eq_some_iff.1 hb).1
theorem NmAt.later {w' : World} (h : NmAt w g x) (hb : Below w.heap.size w w') : NmAt w' g x := by
 obtain ⟨t, hb'⟩ := h.blk
 exact ⟨⟨t, (hb.block g h.lt).trans hb'⟩, h.hk⟩
theorem NmAt.new (w : World) (t : TypeId) (hk : x.h.length = 32) : NmAt (w.alloc (.cells (nmCells x).toArray t)) w.heap.size x := ⟨⟨t, Go.heap_alloc_new w _⟩, hk⟩
end
theorem nm_size (x : NmD) (hk : x.h.length = 32) : (Tryz.prog.info? 39).map (·.size) = some (nmCells x).length := by
 rw [nmCells_length, hk]; kernel_rfl
noncomputable def nmTy : TypeDesc := .struct (Tryz.prog.fieldsOf 39)
theorem nmTy_u : Tryz.prog.underlying 39 = some nmTy := by kernel_rfl
theorem zero_nm (w : World) : (zeroValue 39).run Tryz.prog w = .ok (nmv noName) w := by kernel_rfl
theorem fields_nm (w : World) : ((Tryz.prog.fieldsOf 39).mapM fun (f : Field) => do pure (f.offset, ← sizeOf f.type)).run Tryz.prog w = .ok #[(0, 1), (1, 33), (34, 1)] w := by kernel_rfl
theorem build_nm0 (w : World) : (Instr.build 39 #[]).run Tryz.prog w = .ok (nmv noName) w := by
 unfold Instr.build
 simp only [Sem.run_bind, zero_nm, Result.andThen_ok, nmv_cells, run_underlying nmTy_u, nmTy, fields_nm]
 rfl
theorem build_nmK (k : Int) (w : World) : (Instr.build 39 #[(0, .int .i64 k)]).run Tryz.prog w = .ok (nmv ⟨k, z32, 0, 0⟩) w := by
 unfold Instr.build
 simp only [Sem.run_bind, zero_nm, Result.andThen_ok, nmv_cells, run_underlying nmTy_u, nmTy, fields_nm]
 rfl
theorem front_index1 (w : World) : (Instr.index 80 (.agg #[.string ⟨#[]⟩, .string ⟨#[111, 45]⟩, .string ⟨#[116, 45]⟩, .string ⟨#[113, 45]⟩, .string ⟨#[106, 111, 117, 114, 110, 97, 108]⟩, .string ⟨#[106, 111, 117, 114, 110, 97, 108, 46, 110, 101, 119]⟩]) (.int .i64 1)).run Tryz.prog w = .ok (.string ⟨#[111, 45]⟩) w := by kernel_rfl
theorem front_index2 (w : World) : (Instr.index 80 (.agg #[.string ⟨#[]⟩, .string ⟨#[111, 45]⟩, .string ⟨#[116, 45]⟩, .string ⟨#[113, 45]⟩, .string ⟨#[106, 111, 117, 114, 110, 97, 108]⟩, .string ⟨#[106, 111, 117, 114, 110, 97, 108, 46, 110, 101, 119]⟩]) (.int .i64 2)).run Tryz.prog w = .ok (.string ⟨#[116, 45]⟩) w := by kernel_rfl
theorem front_index3 (w : World) : (Instr.index 80 (.agg #[.string ⟨#[]⟩, .string ⟨#[111, 45]⟩, .string ⟨#[116, 45]⟩, .string ⟨#[113, 45]⟩, .string ⟨#[106, 111, 117, 114, 110, 97, 108]⟩, .string ⟨#[106, 111, 117, 114, 110, 97, 108, 46, 110, 101, 119]⟩]) (.int .i64 3)).run Tryz.prog w = .ok (.string ⟨#[113, 45]⟩) w := by kernel_rfl
theorem front_index4 (w : World) : (Instr.index 80 (.agg #[.string ⟨#[]⟩, .string ⟨#[111, 45]⟩, .string ⟨#[116, 45]⟩, .string ⟨#[113, 45]⟩, .string ⟨#[106, 111, 117, 114, 110, 97, 108]⟩, .string ⟨#[106, 111, 117, 114, 110, 97, 108, 46, 110, 101, 119]⟩]) (.int .i64 4)).run Tryz.prog w = .ok (.string ⟨#[106, 111, 117, 114, 110, 97, 108]⟩) w := by kernel_rfl
theorem front_index5 (w : World) : (Instr.index 80 (.agg #[.string ⟨#[]⟩, .string ⟨#[111, 45]⟩, .string ⟨#[116, 45]⟩, .string ⟨#[113, 45]⟩, .string ⟨#[106, 111, 117, 114, 110, 97, 108]⟩, .string ⟨#[106, 111, 117, 114, 110, 97, 108, 46, 110, 101, 119]⟩]) (.int .i64 5)).run Tryz.prog w = .ok (.string ⟨#[106, 111, 117, 114, 110, 97, 108, 46, 110, 101, 119]⟩) w := by kernel_rfl
set_option maxRecDepth 100000 in
theorem kfront_any (k : Int) (w : World) (hk : 1 ≤ k ∧ k ≤ 5) : Calls Tryz.prog 18 #[.int .i64 k] w fun e w' => e = .returned (.string ⟨(frontL k).toArray⟩) ∧ w' = w := by
 have h : k = 1 ∨ k = 2 ∨ k = 3 ∨ k = 4 ∨ k = 5 := by omega
 clear hk
 rcases h with rfl | rfl | rfl | rfl | rfl
 all_goals
  go_enter Tryz.func18, Tryz.ntmps18
  go_wp2
  first | rw [front_index1] | rw [front_index2] | rw [front_index3] | rw [front_index4] | rw [front_index5]
  simp only [Result.andThen]
  rw [Oper.upon_value]
  go_wp2
  go_ret
  exact ⟨rt1 (vstr (by kernel_rfl)), rfl⟩
theorem nameL_key (x : NmD) (h : x.kind = 1) : nameL x = if kOk x.k then [111, 45] ++ keyText x.h x.k else [] := by unfold nameL; rw [if_pos h]
set_option maxRecDepth 100000 in
set_option maxHeartbeats 1000000 in
theorem kwrite_any (x : NmD) (w : World) (hh : x.h.length = 32) (ht : Tabs w) :
  Calls Tryz.prog 9 #[nmv x] w fun e w' => e = .returned (.string ⟨(nameL x).toArray⟩) ∧ Below w.heap.size w w' := by
 have HT := Lib.hid (ht.alloc (.cells (nmCells x).toArray 39))
 clear ht
 have hb := Lib.hid ((Below.refl _ _).alloc (Nat.le_refl _) (.cells (nmCells x).toArray 39) : Below w.heap.size w (w.alloc (.cells (nmCells x).toArray 39)))
 have hn := NmAt.new w 39 hh
 have c0 := hn.kind_
 have c34 := hn.n_
 have HN := Lib.hid hn
 have HH := Lib.hid hh
 clear hn hh
 by_cases h1 : x.kind = 1
 ·have HL := Lib.hid (nameL_key x h1)
  rw [h1] at c0
  go_enter Tryz.func9, Tryz.ntmps9
  go_wp2_with (refine stop_at (some 1) rfl ?_)
  refine Stop.go (wpList_box rfl _ rfl rfl (nmv_cells x) ?_)
  go_wp2_with (refine stop_at (some 8) rfl ?_)
  refine Stop.go (wpList_seg 1 _ _ _ (fun Q' hQ' => ?_))
  simp only [List.take_succ_cons, List.take_zero]
  go_wp2_with fail
  simp only [List.drop_succ_cons, List.drop_zero]
  refine Stop.go (wpList_load_agg rfl 30 rfl rfl keyTy.ut rfl (key_size _ _ HH.out) HN.out.key_ ?_)
  obtain ⟨S, hS⟩ : ∃ S : ByteArray, S = ⟨(keyText x.h x.k).toArray⟩ := ⟨_, rfl⟩
  have hz : S.size = (keyText x.h x.k).length := by rw [hS]; rfl
  have HS := Lib.hid hS
  clear hS
  cases hk : kOk x.k
  ·have hz0 : S.toList.isEmpty = true := by rw [HS.out, (keyText_ne x.h x.k).2 hk]; simp
   go_wp2_with (go_at_call 22; refine (text_any x.h x.k _ HH.out).mono ?_; rintro e w2 ⟨rfl, hb2⟩; rw [← HS.out])
   go_ret
   refine ⟨rt1 (vstr ?_), hb.out.trans (hb2.mono (Nat.le_of_lt HN.out.lt))⟩
   rw [HL.out, hk]
   rfl
  ·have hz0 : S.toList.isEmpty = false := by rw [HS.out]; have := keyText_ne x.h x.k; rw [hk] at this; simpa using this
   have hz1 : S.size = 66 := by rw [hz, keyText_len _ _ HH.out hk]
   clear hz
   go_wp2_with (go_at_call 22; refine (text_any x.h x.k _ HH.out).mono ?_; rintro e w2 ⟨rfl, hb2⟩; rw [← HS.out])
   refine (kfront_any 1 _ (by decide)).mono ?_
   rintro e w3 ⟨rfl, rfl⟩
   rw [show frontL 1 = [111, 45] from rfl]
   go_wp2_with fail
   go_ret
   refine ⟨rt1 (vstr ?_), hb.out.trans (hb2.mono (Nat.le_of_lt HN.out.lt))⟩
   rw [HL.out, hk, HS.out]
   apply ByteArray.ext
   simp
 ·by_cases h23 : x.kind = 2 ∨ x.kind = 3
  ·by_cases h0 : 0 ≤ x.n
   ·by_cases hm : x.n ≤ 1000000000
    ·have HL := Lib.hid (show nameL x = frontL x.kind ++ Lib.itoa x.n by unfold nameL; rw [if_neg h1, if_pos h23, if_pos ⟨h0, hm⟩])
     have HM := Lib.hid hm
     have hd1 : decide (x.n ≤ 1000000000) = true := decide_eq_true hm
     clear hm
     rcases h23 with h2 | h2
     all_goals
      rw [h2] at c0 HL
      clear h1
      go_enter Tryz.func9, Tryz.ntmps9
      go_wp2_with (refine stop_at (some 1) rfl ?_)
      refine Stop.go (wpList_box rfl _ rfl rfl (nmv_cells x) ?_)
      go_wp2_with fail
      refine Text.wp_grow [2, 5] [1, 4] [] (by kernel_rfl) (by kernel_rfl) ?_
      refine Text.wpS_seg 2 _ _ _ _ (by decide) (fun Q' hQ' => ?_)
      simp only [List.take_succ_cons, List.take_zero]
      go_wp2_with fail
      try simp only [Nat.zero_add, List.drop_succ_cons, List.drop_zero]
      refine Text.wpS_one (fun Q' hQ' => ?_)
      go_wp2_with fail
      refine (kfront_any _ _ (by decide)).mono ?_
      rintro e w2 ⟨rfl, rfl⟩
      go_wp2_with fail
      refine ⟨Below.refl _ _, ?_⟩
      refine Text.wpS_seg 2 _ _ _ _ (by decide) (fun Q' hQ' => ?_)
      simp only [List.take_succ_cons, List.take_zero]
      go_wp2_with fail
      try simp only [List.drop_succ_cons, List.drop_zero]
      refine Text.wpS_one (fun Q' hQ' => ?_)
      go_wp2_with fail
      refine (itoa_any x.n _ h0 HM.out HT.out.drew).mono ?_
      rintro e w3 ⟨rfl, hb3⟩
      have HB3 := Lib.hid hb3
      clear hb3
      obtain ⟨S, hS⟩ : ∃ S : ByteArray, S = ⟨(Lib.itoa x.n).toArray⟩ := ⟨_, rfl⟩
      have hz1 : S.size ≤ 21 := by rw [hS]; exact Lib.itoa_length_le x.n (by have := HM.out; omega) (by have := HM.out; omega)
      rw [← hS]
      have HS := Lib.hid hS
      clear hS
      obtain ⟨F, hF⟩ : ∃ F : ByteArray, F = ⟨(frontL x.kind).toArray⟩ := ⟨_, rfl⟩
      have hz2 : F.size = 2 := by rw [hF, h2]; rfl
      rw [h2] at hF
      rw [← hF]
      have HF := Lib.hid hF
      clear hF
      go_wp2_with fail
      refine ⟨HB3.out, ?_⟩
      refine Text.wpS_seg 2 _ _ _ _ (by decide) (fun Q' hQ' => ?_)
      simp only [List.take_succ_cons, List.take_zero]
      go_wp2_with fail
      refine ⟨by rfl, ⟨fun _ => ⟨_, _, rfl, c0⟩, fun _ => ⟨_, _, rfl, c34⟩, trivial⟩, ?_⟩
      go_wp2
      go_ret
      refine ⟨rt1 (vstr ?_), hb.out.trans ((below_drew HB3.out).mono (Nat.le_of_lt HN.out.lt))⟩
      rw [HL.out, HS.out, HF.out]
      apply ByteArray.ext
      simp
    ·have HL := Lib.hid (show nameL x = [] by unfold nameL; rw [if_neg h1, if_pos h23, if_neg (fun h => hm h.2)])
     have hd1 : decide (x.n ≤ 1000000000) = false := decide_eq_false hm
     clear hm
     rcases h23 with h2 | h2
     all_goals
      rw [h2] at c0
      clear h1
      go_enter Tryz.func9, Tryz.ntmps9
      go_wp2_with (refine stop_at (some 1) rfl ?_)
      refine Stop.go (wpList_box rfl _ rfl rfl (nmv_cells x) ?_)
      go_wp2_with fail
      go_ret
      exact ⟨rt1 (vstr (by rw [HL.out])), hb.out⟩
   ·have HL := Lib.hid (show nameL x = [] by unfold nameL; rw [if_neg h1, if_pos h23, if_neg (fun h => h0 h.1)])
    rcases h23 with h2 | h2
    all_goals
     rw [h2] at c0
     clear h1
     go_enter Tryz.func9, Tryz.ntmps9
     go_wp2_with (refine stop_at (some 1) rfl ?_)
     refine Stop.go (wpList_box rfl _ rfl rfl (nmv_cells x) ?_)
     go_wp2_with fail
     go_ret
     exact ⟨rt1 (vstr (by rw [HL.out])), hb.out⟩
  ·by_cases h45 : x.kind = 4 ∨ x.kind = 5
   ·have HL := Lib.hid (show nameL x = frontL x.kind by rcases h45 with h | h <;> (unfold nameL; rw [if_neg h1, if_neg h23, h]; rfl))
    rcases h45 with h2 | h2
    all_goals
     rw [h2] at c0 HL
     clear h1 h23
     go_enter Tryz.func9, Tryz.ntmps9
     go_wp2_with (refine stop_at (some 1) rfl ?_)
     refine Stop.go (wpList_box rfl _ rfl rfl (nmv_cells x) ?_)
     go_wp2_with (go_at_call 18; refine (kfront_any _ _ (by decide)).mono ?_; rintro e w2 ⟨rfl, rfl⟩)
     go_ret
     exact ⟨rt1 (vstr (by rw [HL.out])), hb.out⟩
   ·have HL := Lib.hid (show nameL x = [] by unfold nameL; rw [if_neg h1, if_neg h23, if_neg (fun h => h45 (.inl h)), if_neg (fun h => h45 (.inr h))])
    have h2 : ¬ x.kind = 2 := fun h => h23 (.inl h)
    have h3 : ¬ x.kind = 3 := fun h => h23 (.inr h)
    have h4 : ¬ x.kind = 4 := fun h => h45 (.inl h)
    have h5 : ¬ x.kind = 5 := fun h => h45 (.inr h)
    clear h23 h45
    go_enter Tryz.func9, Tryz.ntmps9
    go_wp2_with (refine stop_at (some 1) rfl ?_)
    refine Stop.go (wpList_box rfl _ rfl rfl (nmv_cells x) ?_)
    go_wp2_with fail
    go_ret
    exact ⟨rt1 (vstr (by rw [HL.out])), hb.out⟩
end Go.Proofs.YthojelhpipmkiaaGreatDoor
namespace Go.Proofs.YthojelhpipmkiaaGreatDoor
open Go.RowKit

def ReadRel (l : List UInt8) (w0 : World) (k : Int) (wr : World) : Prop :=
 (∀ j : Int, 1 ≤ j → j < k → tryL j l = none) ∧ wr.heap[w0.heap.size]? = some (.cells (nmCells noName).toArray 39 (0, 0)) ∧ Below w0.heap.size w0 wr ∧ Tabs wr
theorem readL_of (l : List UInt8) (k : Int) (x : NmD) (h1 : l ≠ jour) (h2 : l ≠ jnew) (hk : 1 ≤ k ∧ k ≤ 3) (hb : ∀ j : Int, 1 ≤ j → j < k → tryL j l = none) (hx : tryL k l = some x) : readL l = x := by
 have h : k = 1 ∨ k = 2 ∨ k = 3 := by omega
 unfold readL
 rw [if_neg h1, if_neg h2]
 rcases h with rfl | rfl | rfl
 ·rw [hx]
 ·rw [hb 1 (by decide) (by decide), hx]
 ·rw [hb 1 (by decide) (by decide), hb 2 (by decide) (by decide), hx]
theorem readL_none (l : List UInt8) (h1 : l ≠ jour) (h2 : l ≠ jnew) (hb : ∀ j : Int, 1 ≤ j → j < 4 → tryL j l = none) : readL l = noName := by
 unfold readL
 rw [if_neg h1, if_neg h2, hb 1 (by decide) (by decide), hb 2 (by decide) (by decide), hb 3 (by decide) (by decide)]
theorem nm_row_key (k : Int) (b : List UInt8) (kk : Int) (hb : b.length = 32) :
  ((nmCells ⟨k, z32, 0, 0⟩).toArray.toList.take 1 ++ hkCells b kk ++ (nmCells ⟨k, z32, 0, 0⟩).toArray.toList.drop (1 + (hkCells b kk).length)).toArray = (nmCells ⟨k, b, kk, 0⟩).toArray := by
 rw [hkCells_length, hb]
 have e1 : (nmCells ⟨k, z32, 0, 0⟩).toArray.toList.take 1 = [.int .i64 k] := rfl
 have e2 : (nmCells ⟨k, z32, 0, 0⟩).toArray.toList.drop (1 + (32 + 1)) = [.int .i64 0] := rfl
 rw [e1, e2]
 simp [nmCells]
theorem nm_row_n (k : Int) (n : Int) :
  ((nmCells ⟨k, z32, 0, 0⟩).toArray.toList.take 34 ++ [Value.int .i64 n] ++ (nmCells ⟨k, z32, 0, 0⟩).toArray.toList.drop (34 + 1)).toArray = (nmCells ⟨k, z32, 0, n⟩).toArray := rfl
theorem ret_nm {fn : Func} {p : Tmp} {Q : Ending → World → Prop} (h : fn.results = #[.cell p 39]) {a : Act} {w : World} {g : Nat} {x : NmD} {fr : Nat × Nat} {t : TypeId} (hl : x.h.length = 32) (hd : a.defers = [])
  (hp : a.tmps.getD p undef = .pointer (some ⟨g, 0, none⟩)) (hg : w.heap[g]? = some (.cells (nmCells x).toArray t fr)) (hq : Q (.returned (nmv x)) w) : bodyPost Tryz.prog fn Q .ret a w :=
 bodyPost_ret (results_cell_row h _ _ g t (nmCells x).toArray fr _ hp hg nmTy_u rfl (nm_size x hl)) hd hq
theorem KeyTo.cand {w : World} {T : List UInt8} {e : Ending} {w' : World} (h : KeyTo w (keyOf T) e w') :
  ∃ b kk o, e = .returned (.tuple #[hkv b kk, .bool o]) ∧ b.length = 32 ∧ candL 1 T = ⟨1, b, kk, 0⟩ ∧ Below w.heap.size w w' := by
 unfold KeyTo at h
 unfold candL
 cases hk : keyOf T with
 |none =>
  rw [hk] at h
  exact ⟨z32, 0, false, h.1, rfl, rfl, h.2⟩
 |some p =>
  obtain ⟨b, kk⟩ := p
  rw [hk] at h
  exact ⟨b, kk, true, h.1.2, h.1.1, rfl, h.2⟩
set_option maxRecDepth 100000 in
set_option maxHeartbeats 1000000 in
theorem kread_any (l : List UInt8) (w : World) (hl : l.length ≤ 1099511627776) (ht : Tabs w) :
  Calls Tryz.prog 8 #[.string ⟨l.toArray⟩] w fun e w' => e = .returned (nmv (readL l)) ∧ Below w.heap.size w w' := by
 obtain ⟨s, hs⟩ : ∃ s : ByteArray, s = ⟨l.toArray⟩ := ⟨_, rfl⟩
 have hsz : s.size = l.length := by rw [hs]; rfl
 have htl : s.toList = l := by rw [hs]; simp
 rw [← hs]
 have HS := Lib.hid hs
 have HTL := Lib.hid htl
 clear hs htl
 have HG := Lib.hid (Go.heap_alloc_new w (.cells (nmCells noName).toArray 39))
 have HB := Lib.hid ((Below.refl _ _).alloc (Nat.le_refl _) _ : Below w.heap.size w (w.alloc (.cells (nmCells noName).toArray 39)))
 have HT := Lib.hid (ht.alloc (.cells (nmCells noName).toArray 39))
 have HTW := Lib.hid ht
 clear ht
 go_enter Tryz.func8, Tryz.ntmps8
 go_wp2_with (refine stop_at (some 2) rfl ?_)
 refine Stop.go (wpList_alloc rfl _ rfl zero_nm rfl ?_)
 by_cases h1 : l = jour
 ·have h1' : s.toList = frontL 4 := by rw [HTL.out, h1]; rfl
  go_wp2_with (first | (go_at_call 18; refine (kfront_any _ _ (by decide)).mono ?_; rintro e w2 ⟨rfl, rfl⟩) | refine stop_at (some 10) rfl ?_)
  have HR := Lib.hid (show readL l = ⟨4, z32, 0, 0⟩ by unfold readL; rw [if_pos h1])
  refine Stop.go (wpList_build rfl 39 rfl (vs := #[(0, .int .i64 4)]) (by rfl) (build_nmK 4 _) ?_)
  refine wpList_store_agg rfl 39 rfl rfl rfl (store_row (nmv_cells _) (nm_size _ rfl) HG.out rfl (nmCells_one _)) ?_
  go_wp2_with fail
  refine ret_nm rfl rfl rfl rfl (setRow_heap _ _ _ _ _ _ HG.out) ?_
  exact ⟨by rw [HR.out], below_setRow HB.out (Nat.le_refl _) _⟩
 ·have h1' : (s.toList == frontL 4) = false := by rw [HTL.out, beq_eq_false_iff_ne]; exact h1
  have H1 := Lib.hid h1
  clear h1
  by_cases h2 : l = jnew
  ·have h2' : s.toList = frontL 5 := by rw [HTL.out, h2]; rfl
   have HR := Lib.hid (show readL l = ⟨5, z32, 0, 0⟩ by unfold readL; rw [if_neg H1.out, if_pos h2])
   clear h2
   go_wp2_with (first | (go_at_call 18; refine (kfront_any _ _ (by decide)).mono ?_; rintro e w2 ⟨rfl, rfl⟩) | refine stop_at (some 14) rfl ?_)
   refine Stop.go (wpList_build rfl 39 rfl (vs := #[(0, .int .i64 5)]) (by rfl) (build_nmK 5 _) ?_)
   refine wpList_store_agg rfl 39 rfl rfl rfl (store_row (nmv_cells _) (nm_size _ rfl) HG.out rfl (nmCells_one _)) ?_
   go_wp2_with fail
   refine ret_nm rfl rfl rfl rfl (setRow_heap _ _ _ _ _ _ HG.out) ?_
   exact ⟨by rw [HR.out], below_setRow HB.out (Nat.le_refl _) _⟩
  ·have h2' : (s.toList == frontL 5) = false := by rw [HTL.out, beq_eq_false_iff_ne]; exact h2
   have H2 := Lib.hid h2
   clear h2
   go_wp2_with (go_at_call 18; refine (kfront_any _ _ (by decide)).mono ?_; rintro e w2 ⟨rfl, rfl⟩)
   go_loopw [3] (fun v3 wr => ∃ k : Int, 1 ≤ k ∧ k ≤ 4 ∧ v3 = .int .i64 k ∧ Hid (ReadRel l w k wr)) (fun v3 _ => 4 - (intOf v3).toNat)
   case atStart => exact ⟨1, by decide, by decide, rfl, ⟨fun j h3 h4 => absurd h4 (by omega), HG.out, HB.out, HT.out⟩⟩
   case round =>
    obtain ⟨k, hk1, hk4, rfl, HRR⟩ := hrel
    obtain ⟨hnone, hg, hbr, htr⟩ := HRR.out
    have HNONE := Lib.hid hnone
    have HGR := Lib.hid hg
    have HBR := Lib.hid hbr
    have HTR := Lib.hid htr
    clear hnone hg hbr htr HRR
    by_cases hk3 : k ≤ 3
    ·have HCP := Lib.hid (show Lib.hasPrefix s.data.toList (frontL k) = Lib.hasPrefix l (frontL k) ∧ Lib.trimPrefix s.data.toList (frontL k) = Lib.trimPrefix l (frontL k) from by rw [HS.out]; exact ⟨rfl, rfl⟩)
     cases hpre : Lib.hasPrefix l (frontL k)
     ·go_wp2_with (first | (go_at_call 18; refine (kfront_any _ _ (by omega)).mono ?_; rintro e w2 ⟨rfl, rfl⟩) | (go_at_call 19; refine (Tryz.strings_CutPrefix _ _ _).mono ?_; rintro e w2 ⟨rfl, rfl⟩; simp only [HCP.out.1, HCP.out.2, hpre]))
      refine ⟨⟨k + 1, by omega, by omega, rfl, ⟨fun j h3 h4 => ?_, HGR.out, HBR.out, HTR.out⟩⟩, by simp [intOf]; omega⟩
      by_cases hj : j = k
      ·subst hj
       unfold tryL
       rw [hpre]
       rfl
      ·exact HNONE.out j h3 (by omega)
     ·go_wp2_with (first | (go_at_call 18; refine (kfront_any _ _ (by omega)).mono ?_; rintro e w2 ⟨rfl, rfl⟩) | (go_at_call 19; refine (Tryz.strings_CutPrefix _ _ _).mono ?_; rintro e w2 ⟨rfl, rfl⟩; simp only [HCP.out.1, HCP.out.2, hpre]) | refine stop_at (some 29) rfl ?_)
      refine Stop.go (wpList_build rfl 39 rfl (vs := #[(0, .int .i64 k)]) (by rfl) (build_nmK k _) ?_)
      refine wpList_alloc rfl 39 rfl zero_nm rfl ?_
      refine wpList_store_agg rfl 39 rfl rfl rfl (store_new2 (g := w2.heap.size) rfl (nmv_cells _) (nm_size _ rfl) rfl (nmCells_one _)) ?_
      have HTLN := Lib.hid (show (Lib.trimPrefix l (frontL k)).length ≤ 1099511627776 from Nat.le_trans (Lib.trimPrefix_le _ _) hl)
      obtain ⟨T, hT⟩ : ∃ T, T = Lib.trimPrefix l (frontL k) := ⟨_, rfl⟩
      rw [← hT] at HTLN ⊢
      have HTT := Lib.hid hT
      clear hT
      have hbn : Below w2.heap.size w2 (w2.alloc (.cells (nmCells ⟨k, z32, 0, 0⟩).toArray 39)) := (Below.refl _ _).alloc (Nat.le_refl _) _
      have HG3 := Lib.hid ((hbn.block _ (Array.getElem?_eq_some_iff.1 HGR.out).1).trans HGR.out)
      have HM3 := Lib.hid (Go.heap_alloc_new w2 (.cells (nmCells ⟨k, z32, 0, 0⟩).toArray 39))
      have HB3 := Lib.hid (HBR.out.trans (hbn.mono HBR.out.size))
      have HT3 := Lib.hid (HTR.out.below hbn)
      have HLT := Lib.hid (Array.getElem?_eq_some_iff.1 HGR.out).1
      have HSZ := Lib.hid HBR.out.size
      clear hbn HTR HBR HGR HG HB HT
      generalize w2.alloc (.cells (nmCells ⟨k, z32, 0, 0⟩).toArray 39) = w3 at *
      generalize w2.heap.size = m at *
      by_cases hk1' : k = 1
      ·subst hk1'
       go_wp2_with (refine stop_at (some 34) rfl ?_)
       refine Stop.go (wpList_seg 5 _ _ _ (fun Q' hQ' => ?_))
       simp only [List.take_succ_cons, List.take_zero]
       go_wp2_with (go_at_call 20; refine (keyParse_any T _ HTLN.out).mono ?_; intro e w4 hp; obtain ⟨b, kk, o, rfl, hbl, hcand, hb4⟩ := hp.cand)
       simp only [List.drop_succ_cons, List.drop_zero]
       have HM4 := Lib.hid ((hb4.block _ (Array.getElem?_eq_some_iff.1 HM3.out).1).trans HM3.out)
       have HG4 := Lib.hid ((hb4.block _ (Array.getElem?_eq_some_iff.1 HG3.out).1).trans HG3.out)
       have HB4 := Lib.hid (HB3.out.trans (hb4.mono HB3.out.size))
       have HT4 := Lib.hid (HT3.out.below hb4)
       have HBL := Lib.hid hbl
       clear hp hb4 HM3 HG3 HB3 HT3
       have hst : (Instr.storeAt 30 (.pointer (some ⟨m, 1, none⟩)) (hkv b kk)).run Tryz.prog w4 = .ok () (w4.setRow m (nmCells ⟨1, b, kk, 0⟩).toArray) := by
        rw [store_agg (hkv_cells b kk) (key_size b kk hbl) HM4.out (by rw [hkCells_length, hbl]; decide) (hkCells_one _ _)]
        exact congrArg (fun r => Result.ok () (w4.setRow m r)) (nm_row_key 1 b kk hbl)
       refine Stop.go (wpList_store_agg rfl 30 rfl rfl rfl hst ?_)
       have hx : candL 1 (Lib.trimPrefix l (frontL 1)) = ⟨1, b, kk, 0⟩ := by rw [← HTT.out]; exact hcand
       clear hst hcand hbl
       obtain ⟨x, hxd⟩ : ∃ x : NmD, x = ⟨1, b, kk, 0⟩ := ⟨_, rfl⟩
       rw [← hxd] at hx ⊢
       have HXL := Lib.hid (show x.h.length = 32 by rw [hxd]; exact HBL.out)
       have HX := Lib.hid hx
       clear hx hxd
       have HM5 := Lib.hid (setRow_heap w4 m _ (nmCells x).toArray _ _ HM4.out)
       have HG5 := Lib.hid ((setRow_other w4 m w.heap.size (nmCells x).toArray (Nat.ne_of_lt HLT.out)).trans HG4.out)
       have HB5 := Lib.hid (below_setRow HB4.out (Nat.le_of_lt HLT.out) (nmCells x).toArray : Below w.heap.size w (w4.setRow m _))
       have HT5 := Lib.hid (HTW.out.below HB5.out)
       clear HM4 HG4 HB4 HT4
       generalize w4.setRow m (nmCells x).toArray = w5 at *
       go_wp2_with (refine stop_at (some 44) rfl ?_)
       refine Stop.go (wpList_load_agg rfl 39 rfl rfl nmTy_u rfl (nm_size x HXL.out) (row_cells HM5.out) ?_)
       obtain ⟨X, hX⟩ : ∃ X : ByteArray, X = ⟨(nameL x).toArray⟩ := ⟨_, rfl⟩
       have hXl : X.toList = nameL x := by rw [hX]; simp
       have HXS := Lib.hid hX
       have HXT := Lib.hid hXl
       clear hX hXl
       by_cases hq : nameL x = l
       ·have hE : (X.toList == s.toList) = true := by rw [HTL.out, HXT.out, hq]; simp
        have HTRY := Lib.hid (show tryL 1 l = some x by unfold tryL; rw [hpre, if_pos rfl, HX.out, if_pos hq])
        have HR := Lib.hid (readL_of l 1 x H1.out H2.out ⟨hk1, hk3⟩ HNONE.out HTRY.out)
        clear hq
        go_wp2_with (first | (go_at_call 9; refine (kwrite_any x _ HXL.out HT5.out).mono ?_; rintro e w6 ⟨rfl, hb6⟩; rw [← HXS.out]) | refine stop_at (some 48) rfl ?_)
        have HM6 := Lib.hid ((hb6.block _ (Array.getElem?_eq_some_iff.1 HM5.out).1).trans HM5.out)
        have HG6 := Lib.hid ((hb6.block _ (Array.getElem?_eq_some_iff.1 HG5.out).1).trans HG5.out)
        have HB6 := Lib.hid (HB5.out.trans (hb6.mono HB5.out.size))
        clear hb6
        refine Stop.go (wpList_load_agg rfl 39 rfl rfl nmTy_u rfl (nm_size x HXL.out) (row_cells HM6.out) ?_)
        refine wpList_store_agg rfl 39 rfl rfl rfl (store_row (nmv_cells _) (nm_size _ HXL.out) HG6.out (by rw [nmCells_length, HXL.out]; rfl) (nmCells_one _)) ?_
        go_wp2_with fail
        refine ret_nm rfl HXL.out rfl rfl (setRow_heap _ _ _ _ _ _ HG6.out) ?_
        exact ⟨by rw [HR.out], below_setRow HB6.out (Nat.le_refl _) _⟩
       ·have hE : (X.toList == s.toList) = false := by rw [HTL.out, HXT.out, beq_eq_false_iff_ne]; exact hq
        have HTRY := Lib.hid (show tryL 1 l = none by unfold tryL; rw [hpre, if_pos rfl, HX.out, if_neg hq])
        clear hq
        go_wp2_with (go_at_call 9; refine (kwrite_any x _ HXL.out HT5.out).mono ?_; rintro e w6 ⟨rfl, hb6⟩; rw [← HXS.out])
        have HG6 := Lib.hid ((hb6.block _ (Array.getElem?_eq_some_iff.1 HG5.out).1).trans HG5.out)
        have HB6 := Lib.hid (HB5.out.trans (hb6.mono HB5.out.size))
        refine ⟨⟨1 + 1, by omega, by omega, rfl, ⟨fun j h3 h4 => ?_, HG6.out, HB6.out, HTW.out.below HB6.out⟩⟩, by simp [intOf]⟩
        by_cases hj : j = 1
        ·subst hj
         exact HTRY.out
        ·exact HNONE.out j h3 (by omega)
      ·go_wp2_with (refine stop_at (some 40) rfl ?_)
       refine Stop.go (wpList_seg 5 _ _ _ (fun Q' hQ' => ?_))
       simp only [List.take_succ_cons, List.take_zero]
       go_wp2_with (go_at_call 21; refine (atoi_any T _ HTLN.out HT3.out).mono ?_; rintro e w4 ⟨ev, rfl, hb4⟩)
       simp only [List.drop_succ_cons, List.drop_zero]
       have HM4 := Lib.hid ((hb4.block _ (Array.getElem?_eq_some_iff.1 HM3.out).1).trans HM3.out)
       have HG4 := Lib.hid ((hb4.block _ (Array.getElem?_eq_some_iff.1 HG3.out).1).trans HG3.out)
       have HB4 := Lib.hid (HB3.out.trans (hb4.mono HB3.out.size))
       have HT4 := Lib.hid (HT3.out.below hb4)
       clear hb4 HM3 HG3 HB3 HT3
       have hst : (Instr.storeAt 3 (.pointer (some ⟨m, 34, none⟩)) (.int .i64 (atoiV T))).run Tryz.prog w4 = .ok () (w4.setRow m (nmCells ⟨k, z32, 0, atoiV T⟩).toArray) := by
        rw [store_agg (vs := [.int .i64 (atoiV T)]) rfl (by kernel_rfl) HM4.out (by rw [List.size_toArray, nmCells_length]; exact Nat.le_refl _) (fun u hu => by rw [List.mem_singleton.1 hu]; rfl)]
        exact congrArg (fun r => Result.ok () (w4.setRow m r)) (nm_row_n k (atoiV T))
       refine Stop.go (wpList_store_agg rfl 3 rfl rfl rfl hst ?_)
       have hx : candL k (Lib.trimPrefix l (frontL k)) = ⟨k, z32, 0, atoiV T⟩ := by rw [← HTT.out]; unfold candL; rw [if_neg hk1']
       clear hst
       obtain ⟨x, hxd⟩ : ∃ x : NmD, x = ⟨k, z32, 0, atoiV T⟩ := ⟨_, rfl⟩
       rw [← hxd] at hx ⊢
       have HXL := Lib.hid (show x.h.length = 32 by rw [hxd]; exact rfl)
       have HX := Lib.hid hx
       clear hx hxd
       have HM5 := Lib.hid (setRow_heap w4 m _ (nmCells x).toArray _ _ HM4.out)
       have HG5 := Lib.hid ((setRow_other w4 m w.heap.size (nmCells x).toArray (Nat.ne_of_lt HLT.out)).trans HG4.out)
       have HB5 := Lib.hid (below_setRow HB4.out (Nat.le_of_lt HLT.out) (nmCells x).toArray : Below w.heap.size w (w4.setRow m _))
       have HT5 := Lib.hid (HTW.out.below HB5.out)
       clear HM4 HG4 HB4 HT4
       generalize w4.setRow m (nmCells x).toArray = w5 at *
       go_wp2_with (refine stop_at (some 44) rfl ?_)
       refine Stop.go (wpList_load_agg rfl 39 rfl rfl nmTy_u rfl (nm_size x HXL.out) (row_cells HM5.out) ?_)
       obtain ⟨X, hX⟩ : ∃ X : ByteArray, X = ⟨(nameL x).toArray⟩ := ⟨_, rfl⟩
       have hXl : X.toList = nameL x := by rw [hX]; simp
       have HXS := Lib.hid hX
       have HXT := Lib.hid hXl
       clear hX hXl
       by_cases hq : nameL x = l
       ·have hE : (X.toList == s.toList) = true := by rw [HTL.out, HXT.out, hq]; simp
        have HTRY := Lib.hid (show tryL k l = some x by unfold tryL; rw [hpre, if_pos rfl, HX.out, if_pos hq])
        have HR := Lib.hid (readL_of l k x H1.out H2.out ⟨hk1, hk3⟩ HNONE.out HTRY.out)
        clear hq
        go_wp2_with (first | (go_at_call 9; refine (kwrite_any x _ HXL.out HT5.out).mono ?_; rintro e w6 ⟨rfl, hb6⟩; rw [← HXS.out]) | refine stop_at (some 48) rfl ?_)
        have HM6 := Lib.hid ((hb6.block _ (Array.getElem?_eq_some_iff.1 HM5.out).1).trans HM5.out)
        have HG6 := Lib.hid ((hb6.block _ (Array.getElem?_eq_some_iff.1 HG5.out).1).trans HG5.out)
        have HB6 := Lib.hid (HB5.out.trans (hb6.mono HB5.out.size))
        clear hb6
        refine Stop.go (wpList_load_agg rfl 39 rfl rfl nmTy_u rfl (nm_size x HXL.out) (row_cells HM6.out) ?_)
        refine wpList_store_agg rfl 39 rfl rfl rfl (store_row (nmv_cells _) (nm_size _ HXL.out) HG6.out (by rw [nmCells_length, HXL.out]; rfl) (nmCells_one _)) ?_
        go_wp2_with fail
        refine ret_nm rfl HXL.out rfl rfl (setRow_heap _ _ _ _ _ _ HG6.out) ?_
        exact ⟨by rw [HR.out], below_setRow HB6.out (Nat.le_refl _) _⟩
       ·have hE : (X.toList == s.toList) = false := by rw [HTL.out, HXT.out, beq_eq_false_iff_ne]; exact hq
        have HTRY := Lib.hid (show tryL k l = none by unfold tryL; rw [hpre, if_pos rfl, HX.out, if_neg hq])
        clear hq
        go_wp2_with (go_at_call 9; refine (kwrite_any x _ HXL.out HT5.out).mono ?_; rintro e w6 ⟨rfl, hb6⟩; rw [← HXS.out])
        have HG6 := Lib.hid ((hb6.block _ (Array.getElem?_eq_some_iff.1 HG5.out).1).trans HG5.out)
        have HB6 := Lib.hid (HB5.out.trans (hb6.mono HB5.out.size))
        refine ⟨⟨k + 1, by omega, by omega, rfl, ⟨fun j h3 h4 => ?_, HG6.out, HB6.out, HTW.out.below HB6.out⟩⟩, by simp [intOf]; omega⟩
        by_cases hj : j = k
        ·subst hj
         exact HTRY.out
        ·exact HNONE.out j h3 (by omega)
    ·obtain rfl : k = 4 := by omega
     have HR := Lib.hid (readL_none l H1.out H2.out HNONE.out)
     go_wp2_with (refine stop_at (some 49) rfl ?_)
     refine Stop.go (wpList_build rfl 39 rfl (vs := #[]) (by rfl) (build_nm0 _) ?_)
     refine wpList_store_agg rfl 39 rfl rfl rfl (store_row (nmv_cells _) (nm_size _ rfl) HGR.out rfl (nmCells_one _)) ?_
     go_wp2_with fail
     refine ret_nm rfl rfl rfl rfl (setRow_heap _ _ _ _ _ _ HGR.out) ?_
     exact ⟨by rw [HR.out], below_setRow HBR.out (Nat.le_refl _) _⟩
end Go.Proofs.YthojelhpipmkiaaGreatDoor
namespace Go.Proofs.YthojelhpipmkiaaGreatDoor
open Go.RowKit

theorem nm4_name : nameL ⟨4, z32, 0, 0⟩ = jour := rfl
set_option maxRecDepth 100000 in
set_option maxHeartbeats 1000000 in
theorem awake17_any (w : World) (ht : Tabs w) : Calls Tryz.prog 5 #[] w fun e w' => e = .returned (.bool true) ∧ Below w.heap.size w w' := by
 have HT := Lib.hid ht
 clear ht
 go_enter Tryz.func5, Tryz.ntmps5
 go_wp2_with (refine stop_at (some 3) rfl ?_)
 refine Stop.go (wpList_seg 1 _ _ _ (fun Q' hQ' => ?_))
 simp only [List.take_succ_cons, List.take_zero]
 go_wp2_with (go_at_call 8; refine (kread_any [116, 45, 55] _ (by decide) HT.out).mono ?_; rintro e w1 ⟨rfl, hb1⟩; rw [read_t7])
 simp only [List.drop_succ_cons, List.drop_zero]
 refine Stop.go (wpList_alloc rfl 39 rfl zero_nm rfl ?_)
 refine wpList_store_agg rfl 39 rfl rfl rfl (store_new2 (g := w1.heap.size) rfl (nmv_cells _) (nm_size _ rfl) rfl (nmCells_one _)) ?_
 have hb2 : Below w.heap.size w (w1.alloc (.cells (nmCells ⟨2, z32, 0, 7⟩).toArray 39)) := hb1.trans ((Below.refl _ _).alloc hb1.size _)
 have HN1 := Lib.hid (NmAt.new w1 39 (x := ⟨2, z32, 0, 7⟩) rfl)
 have HB2 := Lib.hid hb2
 have HT2 := Lib.hid (HT.out.below hb2)
 clear hb1 hb2
 generalize w1.alloc (.cells (nmCells ⟨2, z32, 0, 7⟩).toArray 39) = w2 at *
 generalize w1.heap.size = m1 at *
 go_wp2_with (refine stop_at (some 4) rfl ?_)
 refine Stop.go (wpList_seg 1 _ _ _ (fun Q' hQ' => ?_))
 simp only [List.take_succ_cons, List.take_zero]
 go_wp2_with (go_at_call 8; refine (kread_any [116, 45, 48, 55] _ (by decide) HT2.out).mono ?_; rintro e w3 ⟨rfl, hb3⟩; rw [read_t07])
 simp only [List.drop_succ_cons, List.drop_zero]
 refine Stop.go (wpList_alloc rfl 39 rfl zero_nm rfl ?_)
 refine wpList_store_agg rfl 39 rfl rfl rfl (store_new2 (g := w3.heap.size) rfl (nmv_cells _) (nm_size _ rfl) rfl (nmCells_one _)) ?_
 have hb4 : Below w2.heap.size w2 (w3.alloc (.cells (nmCells noName).toArray 39)) := hb3.trans ((Below.refl _ _).alloc hb3.size _)
 have HB4 := Lib.hid (HB2.out.trans (hb4.mono HB2.out.size))
 have HN2 := Lib.hid (HN1.out.later hb4)
 have HN3 := Lib.hid (NmAt.new w3 39 (x := noName) rfl)
 have HT4 := Lib.hid (HT2.out.below hb4)
 clear hb3 hb4 HB2 HN1 HT2
 generalize w3.alloc (.cells (nmCells noName).toArray 39) = w4 at *
 generalize w3.heap.size = m2 at *
 have c1 := HN2.out.kind_
 have c2 := HN2.out.n_
 have c3 := HN3.out.kind_
 have c4 := HN3.out.n_
 simp only [noName] at c1 c2 c3 c4
 go_wp2_with (go_at_call 9; refine (kwrite_any ⟨4, z32, 0, 0⟩ _ rfl HT4.out).mono ?_; rintro e w5 ⟨rfl, hb5⟩; rw [nm4_name])
 go_ret
 exact ⟨rt1 (vbool (by decide)), HB4.out.trans (hb5.mono HB4.out.size)⟩
end Go.Proofs.YthojelhpipmkiaaGreatDoor
namespace Go.Proofs.YthojelhpipmkiaaGreatDoor
open Go.RowKit

theorem keyTo_val (r : Option (List UInt8 × Int)) (hr : ∀ b k, r = some (b, k) → b.length = 32) : ∃ (H : List UInt8) (K : Int) (b : Bool), H.length = 32 ∧ ∀ w e w', KeyTo w r e w' → e = .returned (.tuple #[hkv H K, .bool b]) ∧ Below w.heap.size w w' := by
 cases r with
 |none => exact ⟨z32, 0, false, z32_len, fun w e w' h => h⟩
 |some p =>
  obtain ⟨b, k⟩ := p
  exact ⟨b, k, true, hr b k rfl, fun w e w' h => ⟨h.1.2, h.2⟩⟩
theorem keyG_len {g : Gram} {k : Int} : ∀ b x, keyG g k = some (b, x) → b.length = 32 := fun b x h => by
 unfold keyG at h
 split at h
 ·injection h with h
  injection h with h1 h2
  rw [← h1]
  exact shaL_len _
 ·cases h
set_option maxRecDepth 100000 in
set_option maxHeartbeats 8000000 in
theorem keyOf_any (v1 v2 v3 : Value) (g : Gram) (k : Int) (w : World) (h1 : SlR eStr w w.heap.size v1 g.1) (h2 : SlR eStr w w.heap.size v2 g.2.1) (h3 : SlR eRule w w.heap.size v3 g.2.2) (ht : Tabs w) :
  Calls Tryz.prog 3 #[.agg #[v1, v2, v3], .int .i64 k] w fun e w' => e = .returned (.bool true) ∧ Below w.heap.size w w' := by
 have hbl : Below w.heap.size w (w.alloc (.cells #[v1, v2, v3] 25)) := (Below.refl _ _).alloc (Nat.le_refl _) _
 obtain ⟨A1, c1, rfl, _, _⟩ := h1.form
 obtain ⟨A2, c2, rfl, _, _⟩ := h2.form
 obtain ⟨A3, c3, rfl, _, _⟩ := h3.form
 have HT := Lib.hid ht
 have HFEW := Lib.hid (few14_any (.slice A1 g.1.length c1) (.slice A2 g.2.1.length c2) (.slice A3 g.2.2.length c3) g.1 g.2.1 g.2.2 _ (h1.fut hbl (Nat.le_refl _) hbl.size) (h2.fut hbl (Nat.le_refl _) hbl.size) (h3.fut hbl (Nat.le_refl _) hbl.size))
 have H1 := Lib.hid h1
 have H2 := Lib.hid h2
 have H3 := Lib.hid h3
 have HBL := Lib.hid hbl
 have HG1 := Lib.hid (Go.heap_alloc_new w (.cells #[.slice A1 g.1.length c1, .slice A2 g.2.1.length c2, .slice A3 g.2.2.length c3] 25))
 clear h1 h2 h3 hbl ht
 obtain ⟨n, hn⟩ : ∃ n, n = g.1.length := ⟨_, rfl⟩
 obtain ⟨m, hm⟩ : ∃ m, m = g.2.1.length := ⟨_, rfl⟩
 obtain ⟨q, hq⟩ : ∃ q, q = g.2.2.length := ⟨_, rfl⟩
 rw [← hn, ← hm, ← hq] at HFEW HG1 HBL ⊢
 rw [← hn] at H1
 rw [← hm] at H2
 rw [← hq] at H3
 have HN := Lib.hid hn
 have HM := Lib.hid hm
 have HQ := Lib.hid hq
 clear hn hm hq
 go_enter Tryz.func3, Tryz.ntmps3
 go_wp2_with fail
 generalize w.alloc (.cells #[.slice A1 n c1, .slice A2 m c2, .slice A3 q c3] 25) = w1 at *
 refine HFEW.out.mono ?_
 rintro e w2 ⟨z, rfl, hz, hb2⟩
 have HS1 := Lib.hid (show w.heap.size < w1.heap.size from (Array.getElem?_eq_some_iff.1 HG1.out).1)
 have HB2 := Lib.hid (HBL.out.trans (hb2.mono (Nat.le_of_lt HS1.out)))
 have HG2 := Lib.hid ((hb2.block _ HS1.out).trans HG1.out)
 have HS2 := Lib.hid (Nat.lt_of_lt_of_le HS1.out hb2.size)
 have HT2 := Lib.hid (HT.out.below HB2.out)
 clear hb2 HFEW HBL HG1 HS1
 rcases hz with rfl | ⟨rfl, hs1, hs2, hs3⟩
 ·go_wp2_with fail
  refine (awake17_any _ HT2.out).mono ?_
  rintro e w3 ⟨rfl, hb3⟩
  go_wp2_with fail
  go_ret
  exact ⟨rfl, HB2.out.trans (hb3.mono (Nat.le_of_lt HS2.out))⟩
 ·obtain ⟨H, K, b, hl, hval⟩ := keyTo_val (keyG g k) keyG_len
  have HL := Lib.hid hl
  have HVAL := Lib.hid hval
  have HKO := Lib.hid (keyOfG_any (.slice A1 n c1) (.slice A2 m c2) (.slice A3 q c3) g k w2 (by rw [← HN.out, ← HM.out] at *; omega) (H1.out.fut HB2.out (Nat.le_refl _) (Nat.le_of_lt HS2.out)) (H2.out.fut HB2.out (Nat.le_refl _) (Nat.le_of_lt HS2.out)) (H3.out.fut HB2.out (Nat.le_refl _) (Nat.le_of_lt HS2.out)))
  have HSM := Lib.hid (show g.1.length ≤ 1048576 ∧ g.2.1.length ≤ 1048576 ∧ g.2.2.length ≤ 1048576 from ⟨by omega, by omega, by omega⟩)
  clear hl hval hs1 hs2 hs3
  obtain ⟨p0, p1, p2⟩ := rowC_cells HG2.out
  go_wp2_with (refine stop_at (some 14) rfl ?_)
  refine Stop.go (wpList_seg 6 _ _ _ (fun Q' hQ' => ?_))
  simp only [List.take_succ_cons, List.take_zero]
  go_wp2_with fail
  refine HKO.out.mono ?_
  intro e w3 hk
  obtain ⟨rfl, hb3⟩ := HVAL.out _ _ _ hk
  have HB3 := Lib.hid (HB2.out.trans (hb3.mono (Nat.le_of_lt HS2.out)))
  have HG3 := Lib.hid ((hb3.block _ HS2.out).trans HG2.out)
  have HS3 := Lib.hid (Nat.lt_of_lt_of_le HS2.out hb3.size)
  clear hk hb3 HKO HB2 HG2 HS2 HT2 p0 p1 p2
  go_wp2_with fail
  try simp only [List.drop_succ_cons, List.drop_zero]
  refine Stop.go (wpList_alloc rfl 30 rfl zero_key (vs := hkCells z32 0) rfl ?_)
  refine wpList_store_agg rfl 30 rfl rfl rfl (store_new2 (g := w3.heap.size) rfl (hkv_cells _ _) (key_size _ _ HL.out) (by simp [hkCells_length, HL.out, z32_len]) (hkCells_one _ _)) ?_
  have hb4 := (Below.refl w3.heap.size w3).alloc (Nat.le_refl _) (.cells (hkCells H K).toArray 30)
  have HK4 := Lib.hid (Go.heap_alloc_new w3 (.cells (hkCells H K).toArray 30))
  have HG4 := Lib.hid ((hb4.block _ HS3.out).trans HG3.out)
  have HB4 := Lib.hid (HB3.out.trans (hb4.mono (Nat.le_of_lt HS3.out)))
  have HS4 := Lib.hid (Nat.lt_of_lt_of_le HS3.out hb4.size)
  obtain ⟨g5, hg5⟩ : ∃ g5, g5 = w3.heap.size := ⟨_, rfl⟩
  rw [← hg5] at HK4 ⊢
  clear hb4 HB3 HG3 HS3 hg5
  generalize w3.alloc (.cells (hkCells H K).toArray 30) = w4 at *
  generalize hac : Act.put _ _ _ = a9
  simp [Act.put] at hac
  subst hac
  have HK17 := Lib.hid (key17_any (.slice A1 n c1) (.slice A2 m c2) (.slice A3 q c3) g k w4 HSM.out (H1.out.fut HB4.out (Nat.le_refl _) (Nat.le_of_lt HS4.out)) (H2.out.fut HB4.out (Nat.le_refl _) (Nat.le_of_lt HS4.out)) (H3.out.fut HB4.out (Nat.le_refl _) (Nat.le_of_lt HS4.out)))
  obtain ⟨p0, p1, p2⟩ := rowC_cells HG4.out
  go_wp2_with (refine stop_at (some 20) rfl ?_)
  refine Stop.go (wpList_seg 6 _ _ _ (fun Q' hQ' => ?_))
  simp only [List.take_succ_cons, List.take_zero]
  go_wp2_with fail
  refine HK17.out.mono ?_
  intro e w5 hk
  obtain ⟨rfl, hb5⟩ := HVAL.out _ _ _ hk
  have HB5 := Lib.hid (HB4.out.trans (hb5.mono (Nat.le_of_lt HS4.out)))
  have HK5 := Lib.hid ((hb5.block g5 (Array.getElem?_eq_some_iff.1 HK4.out).1).trans HK4.out)
  have HS5 := Lib.hid (Nat.lt_of_lt_of_le HS4.out hb5.size)
  clear hk hb5 HK17 HB4 HG4 HS4 HK4 p0 p1 p2
  go_wp2_with fail
  try simp only [List.drop_succ_cons, List.drop_zero]
  refine Stop.go (wpList_alloc rfl 30 rfl zero_key (vs := hkCells z32 0) rfl ?_)
  refine wpList_store_agg rfl 30 rfl rfl rfl (store_new2 (g := w5.heap.size) rfl (hkv_cells _ _) (key_size _ _ HL.out) (by simp [hkCells_length, HL.out, z32_len]) (hkCells_one _ _)) ?_
  have hb6 := (Below.refl w5.heap.size w5).alloc (Nat.le_refl _) (.cells (hkCells H K).toArray 30)
  have HK7 := Lib.hid (Go.heap_alloc_new w5 (.cells (hkCells H K).toArray 30))
  have HK6 := Lib.hid ((hb6.block g5 (Array.getElem?_eq_some_iff.1 HK5.out).1).trans HK5.out)
  have HB6 := Lib.hid (HB5.out.trans (hb6.mono (Nat.le_of_lt HS5.out)))
  have HS6 := Lib.hid (Nat.lt_of_lt_of_le HS5.out hb6.size)
  obtain ⟨g7, hg7⟩ : ∃ g7, g7 = w5.heap.size := ⟨_, rfl⟩
  rw [← hg7] at HK7 ⊢
  clear hb6 HB5 HS5 HK5 hg7
  generalize w5.alloc (.cells (hkCells H K).toArray 30) = w6 at *
  generalize hac : Act.put _ _ _ = a9
  simp [Act.put] at hac
  subst hac
  have HT6 := Lib.hid (HT.out.below HB6.out)
  go_wp2_with (refine stop_at (some 27) rfl ?_)
  have hbb : (b == b) = true := by simp
  refine Stop.go (wpList_seg 2 _ _ _ (fun Q' hQ' => ?_))
  simp only [List.take_succ_cons, List.take_zero]
  go_wp2_with fail
  try simp only [List.drop_succ_cons, List.drop_zero]
  refine Stop.go (wpList_load_aggG (by rfl) 30 rfl rfl keyTy.ut rfl (key_size H K HL.out) (row_cells HK6.out) ?_)
  refine wpList_load_aggG (by rfl) 30 rfl rfl keyTy.ut rfl (key_size H K HL.out) (row_cells HK7.out) ?_
  refine wpList_binG (by rfl) .eql 30 rfl rfl rfl (hkv_guard keyTy.gd ..) (hkv_eql keyTy HL.out HL.out) ?_
  rw [show (decide (H = H) && decide (K = K)) = true by simp]
  generalize hac : Act.put _ _ _ = a9
  simp [Act.put] at hac
  subst hac
  go_wp2_with fail
  refine (awake17_any _ HT6.out).mono ?_
  rintro e w7 ⟨rfl, hb7⟩
  go_wp2_with fail
  go_ret
  exact ⟨rfl, HB6.out.trans (hb7.mono (Nat.le_of_lt HS6.out))⟩
end Go.Proofs.YthojelhpipmkiaaGreatDoor
