/- Names as values; contracts of key.front and key.Write, every world. -/
import Derived.Test.YtfheocdciekfoaaDoorNames
import Derived.Test.YtfheocdciekfoaaDoorTabs
import Derived.Test.YtfheocdciekfoaaDoorRec0
import Derived.Test.YtfheocdciekfoaaDoorKey2
namespace Go.Proofs.YtfheocdciekfoaaDoor
open Go.RowKit

/-- a name's cells -/
def nmCells (x : NmD) : List Value := [.int .i64 x.kind] ++ (hkCells x.h x.k ++ [.int .i64 x.n])
abbrev nmv (x : NmD) : Value := .agg (nmCells x).toArray
theorem nmv_cells (x : NmD) : (nmv x).cells = (nmCells x).toArray := rfl
theorem nmCells_length (x : NmD) : (nmCells x).length = x.h.length + 3 := by simp [nmCells, hkCells_length]
theorem nmCells_one (x : NmD) : ∀ u ∈ nmCells x, u.oneCell' = true := fun u hu => by
  rcases List.mem_append.1 hu with h | h
  · rw [List.mem_singleton.1 h]; rfl
  rcases List.mem_append.1 h with h | h
  · exact hkCells_one _ _ u h
  · rw [List.mem_singleton.1 h]; rfl
structure NmAt (w : World) (g : Nat) (x : NmD) : Prop where
  blk : ∃ t, w.heap[g]? = some (.cells (nmCells x).toArray t (0, 0))
  hk : x.h.length = 32
section
variable {w : World} {g : Nat} {x : NmD}
theorem NmAt.kind_ (h : NmAt w g x) : w.cell? ⟨g, 0, none⟩ = some (.int .i64 x.kind) := by
  obtain ⟨t, hb⟩ := h.blk
  rw [cell_of_row _ _ _ _ _ _ hb]; rfl
theorem NmAt.n_ (h : NmAt w g x) : w.cell? ⟨g, 34, none⟩ = some (.int .i64 x.n) := by
  obtain ⟨t, hb⟩ := h.blk
  have := cell_part hb (congrArg List.toArray (show nmCells x = ([.int .i64 x.kind] ++ hkCells x.h x.k) ++ ([.int .i64 x.n] ++ []) by simp [nmCells])) 0 (.int .i64 x.n) rfl
  simpa [hkCells_length, h.hk] using this
theorem NmAt.key_ (h : NmAt w g x) : ∀ j u, (hkCells x.h x.k)[j]? = some u → w.cell? ⟨g, 1 + j, none⟩ = some u := fun j u hu => by
  obtain ⟨t, hb⟩ := h.blk
  exact cell_part hb (congrArg List.toArray (show nmCells x = [.int .i64 x.kind] ++ (hkCells x.h x.k ++ [.int .i64 x.n]) from rfl)) j u hu
theorem NmAt.all_ (h : NmAt w g x) : ∀ j u, (nmCells x)[j]? = some u → w.cell? ⟨g, 0 + j, none⟩ = some u := fun j u hu => by
  obtain ⟨t, hb⟩ := h.blk
  exact row_cells hb j u hu
theorem NmAt.lt (h : NmAt w g x) : g < w.heap.size := by obtain ⟨t, hb⟩ := h.blk; exact (Array.getElem?_eq_some_iff.1 hb).1
theorem NmAt.later {w' : World} (h : NmAt w g x) (hb : Below w.heap.size w w') : NmAt w' g x := by
  obtain ⟨t, hb'⟩ := h.blk
  exact ⟨⟨t, (hb.block g h.lt).trans hb'⟩, h.hk⟩
theorem NmAt.new (w : World) (t : TypeId) (hk : x.h.length = 32) : NmAt (w.alloc (.cells (nmCells x).toArray t)) w.heap.size x := ⟨⟨t, Go.heap_alloc_new w _⟩, hk⟩
end
theorem nm_size (x : NmD) (hk : x.h.length = 32) : (Tryd.prog.info? 68).map (·.size) = some (nmCells x).length := by
  rw [nmCells_length, hk]; kernel_rfl
noncomputable def nmTy : TypeDesc := .struct (Tryd.prog.fieldsOf 68)
theorem nmTy_u : Tryd.prog.underlying 68 = some nmTy := by kernel_rfl
theorem zero_nm (w : World) : (zeroValue 68).run Tryd.prog w = .ok (nmv noName) w := by kernel_rfl
theorem fields_nm (w : World) : ((Tryd.prog.fieldsOf 68).mapM fun (f : Field) => do pure (f.offset, ← sizeOf f.type)).run Tryd.prog w = .ok #[(0, 1), (1, 33), (34, 1)] w := by kernel_rfl
theorem build_nm0 (w : World) : (Instr.build 68 #[]).run Tryd.prog w = .ok (nmv noName) w := by
  unfold Instr.build
  simp only [Sem.run_bind, zero_nm, Result.andThen_ok, nmv_cells, run_underlying nmTy_u, nmTy, fields_nm]
  rfl
theorem build_nmK (k : Int) (w : World) : (Instr.build 68 #[(0, .int .i64 k)]).run Tryd.prog w = .ok (nmv ⟨k, z32, 0, 0⟩) w := by
  unfold Instr.build
  simp only [Sem.run_bind, zero_nm, Result.andThen_ok, nmv_cells, run_underlying nmTy_u, nmTy, fields_nm]
  rfl
theorem build_nm3 (k : Int) (h : List UInt8) (kk n : Int) (hh : h.length = 32) (w : World) : (Instr.build 68 #[(0, .int .i64 k), (1, hkv h kk), (2, .int .i64 n)]).run Tryd.prog w = .ok (nmv ⟨k, h, kk, n⟩) w := by
  have hz : (nmCells noName).length = 35 := rfl
  unfold Instr.build
  simp only [Sem.run_bind, zero_nm, Result.andThen_ok, nmv_cells, run_underlying nmTy_u, nmTy, fields_nm]
  have h0 := fill_step (place := fun i => (#[((0 : Nat), (1 : Nat)), (1, 33), (34, 1)] : Array (Nat × Nat))[i]?) (i := 0) (v := .int .i64 k) (vs := [.int .i64 k]) (pre := []) (Z := nmCells noName) rfl rfl (by simp [hz])
    (rest := [(1, hkv h kk), (2, .int .i64 n)])
  have hf : Instr.fill (fun i => (#[((0 : Nat), (1 : Nat)), (1, 33), (34, 1)] : Array (Nat × Nat))[i]?) (nmCells noName).toArray [(0, .int .i64 k), (1, hkv h kk), (2, .int .i64 n)] = some (nmCells ⟨k, h, kk, n⟩).toArray := by
    rw [List.nil_append] at h0
    rw [h0, fill_step (vs := hkCells h kk) rfl (by simp [hkCells_length, hh]) (by simp [hz, hkCells_length, hh]), fill_step (vs := [.int .i64 n]) rfl (by simp [hkCells_length, hh]) (by simp [hz, hkCells_length, hh])]
    rw [Instr.fill]
    congr 2
    rw [List.drop_eq_nil_of_le (by simp [hz, hkCells_length, hh])]
    simp [nmCells]
  rw [hf]
  rfl

theorem front_index1 (w : World) : (Instr.index 140 (.agg #[.string ⟨#[]⟩, .string ⟨#[111, 45]⟩, .string ⟨#[116, 45]⟩, .string ⟨#[113, 45]⟩, .string ⟨#[106, 111, 117, 114, 110, 97, 108]⟩, .string ⟨#[106, 111, 117, 114, 110, 97, 108, 46, 110, 101, 119]⟩]) (.int .i64 1)).run Tryd.prog w = .ok (.string ⟨#[111, 45]⟩) w := by kernel_rfl
theorem front_index2 (w : World) : (Instr.index 140 (.agg #[.string ⟨#[]⟩, .string ⟨#[111, 45]⟩, .string ⟨#[116, 45]⟩, .string ⟨#[113, 45]⟩, .string ⟨#[106, 111, 117, 114, 110, 97, 108]⟩, .string ⟨#[106, 111, 117, 114, 110, 97, 108, 46, 110, 101, 119]⟩]) (.int .i64 2)).run Tryd.prog w = .ok (.string ⟨#[116, 45]⟩) w := by kernel_rfl
theorem front_index3 (w : World) : (Instr.index 140 (.agg #[.string ⟨#[]⟩, .string ⟨#[111, 45]⟩, .string ⟨#[116, 45]⟩, .string ⟨#[113, 45]⟩, .string ⟨#[106, 111, 117, 114, 110, 97, 108]⟩, .string ⟨#[106, 111, 117, 114, 110, 97, 108, 46, 110, 101, 119]⟩]) (.int .i64 3)).run Tryd.prog w = .ok (.string ⟨#[113, 45]⟩) w := by kernel_rfl
theorem front_index4 (w : World) : (Instr.index 140 (.agg #[.string ⟨#[]⟩, .string ⟨#[111, 45]⟩, .string ⟨#[116, 45]⟩, .string ⟨#[113, 45]⟩, .string ⟨#[106, 111, 117, 114, 110, 97, 108]⟩, .string ⟨#[106, 111, 117, 114, 110, 97, 108, 46, 110, 101, 119]⟩]) (.int .i64 4)).run Tryd.prog w = .ok (.string ⟨#[106, 111, 117, 114, 110, 97, 108]⟩) w := by kernel_rfl
theorem front_index5 (w : World) : (Instr.index 140 (.agg #[.string ⟨#[]⟩, .string ⟨#[111, 45]⟩, .string ⟨#[116, 45]⟩, .string ⟨#[113, 45]⟩, .string ⟨#[106, 111, 117, 114, 110, 97, 108]⟩, .string ⟨#[106, 111, 117, 114, 110, 97, 108, 46, 110, 101, 119]⟩]) (.int .i64 5)).run Tryd.prog w = .ok (.string ⟨#[106, 111, 117, 114, 110, 97, 108, 46, 110, 101, 119]⟩) w := by kernel_rfl
set_option maxRecDepth 100000 in
theorem kfront_any (k : Int) (w : World) (hk : 1 ≤ k ∧ k ≤ 5) : Calls Tryd.prog 61 #[.int .i64 k] w fun e w' => e = .returned (.string ⟨(frontL k).toArray⟩) ∧ w' = w := by
  have h : k = 1 ∨ k = 2 ∨ k = 3 ∨ k = 4 ∨ k = 5 := by omega
  clear hk
  rcases h with rfl | rfl | rfl | rfl | rfl
  all_goals
    go_enter Tryd.func61, Tryd.ntmps61
    go_wp2
    first | rw [front_index1] | rw [front_index2] | rw [front_index3] | rw [front_index4] | rw [front_index5]
    simp only [Result.andThen]
    rw [Oper.upon_value]
    go_wp2
    go_ret
    exact ⟨rt1 (vstr (by kernel_rfl)), rfl⟩
theorem nameL_key (x : NmD) (h : x.kind = 1) : nameL x = if kOk x.k then [111, 45] ++ keyText x.h x.k else [] := by unfold nameL; rw [if_pos h]
set_option maxRecDepth 100000 in
set_option maxHeartbeats 1000000 in
theorem kwrite_any (x : NmD) (w : World) (hh : x.h.length = 32) (ht : Tabs w) :
    Calls Tryd.prog 30 #[nmv x] w fun e w' => e = .returned (.string ⟨(nameL x).toArray⟩) ∧ Below w.heap.size w w' := by
  have HT := Lib.hid (ht.alloc (.cells (nmCells x).toArray 68))
  clear ht
  have hb := Lib.hid ((Below.refl _ _).alloc (Nat.le_refl _) (.cells (nmCells x).toArray 68) : Below w.heap.size w (w.alloc (.cells (nmCells x).toArray 68)))
  have hn := NmAt.new w 68 hh
  have c0 := hn.kind_
  have c34 := hn.n_
  have HN := Lib.hid hn
  have HH := Lib.hid hh
  clear hn hh
  by_cases h1 : x.kind = 1
  · have HL := Lib.hid (nameL_key x h1)
    rw [h1] at c0
    go_enter Tryd.func30, Tryd.ntmps30
    go_wp2_with (refine stop_at (some 1) rfl ?_)
    refine Stop.go (wpList_box rfl _ rfl rfl (nmv_cells x) ?_)
    go_wp2_with (refine stop_at (some 8) rfl ?_)
    refine Stop.go (wpList_seg 1 _ _ _ (fun Q' hQ' => ?_))
    simp only [List.take_succ_cons, List.take_zero]
    go_wp2_with fail
    simp only [List.drop_succ_cons, List.drop_zero]
    refine Stop.go (wpList_load_agg rfl 24 rfl rfl keyTy.ut rfl (key_size _ _ HH.out) HN.out.key_ ?_)
    obtain ⟨S, hS⟩ : ∃ S : ByteArray, S = ⟨(keyText x.h x.k).toArray⟩ := ⟨_, rfl⟩
    have hz : S.size = (keyText x.h x.k).length := by rw [hS]; rfl
    have HS := Lib.hid hS
    clear hS
    cases hk : kOk x.k
    · have hz0 : S.toList.isEmpty = true := by rw [HS.out, (keyText_ne x.h x.k).2 hk]; simp
      go_wp2_with (go_at_call 29; refine (text_any x.h x.k _ HH.out).mono ?_; rintro e w2 ⟨rfl, hb2⟩; rw [← HS.out])
      go_ret
      refine ⟨rt1 (vstr ?_), hb.out.trans (hb2.mono (Nat.le_of_lt HN.out.lt))⟩
      rw [HL.out, hk]
      rfl
    · have hz0 : S.toList.isEmpty = false := by rw [HS.out]; have := keyText_ne x.h x.k; rw [hk] at this; simpa using this
      have hz1 : S.size = 66 := by rw [hz, keyText_len _ _ HH.out hk]
      clear hz
      go_wp2_with (go_at_call 29; refine (text_any x.h x.k _ HH.out).mono ?_; rintro e w2 ⟨rfl, hb2⟩; rw [← HS.out])
      refine (kfront_any 1 _ (by decide)).mono ?_
      rintro e w3 ⟨rfl, rfl⟩
      rw [show frontL 1 = [111, 45] from rfl]
      go_wp2_with fail
      go_ret
      refine ⟨rt1 (vstr ?_), hb.out.trans (hb2.mono (Nat.le_of_lt HN.out.lt))⟩
      rw [HL.out, hk, HS.out]
      apply ByteArray.ext
      simp
  · by_cases h23 : x.kind = 2 ∨ x.kind = 3
    · by_cases h0 : 0 ≤ x.n
      · by_cases hm : x.n ≤ 1000000000
        · have HL := Lib.hid (show nameL x = frontL x.kind ++ Lib.itoa x.n by unfold nameL; rw [if_neg h1, if_pos h23, if_pos ⟨h0, hm⟩])
          have HM := Lib.hid hm
          have hd1 : decide (x.n ≤ 1000000000) = true := decide_eq_true hm
          clear hm
          rcases h23 with h2 | h2
          all_goals
            rw [h2] at c0 HL
            clear h1
            go_enter Tryd.func30, Tryd.ntmps30
            go_wp2_with (refine stop_at (some 1) rfl ?_)
            refine Stop.go (wpList_box rfl _ rfl rfl (nmv_cells x) ?_)
            go_wp2_with fail
            refine Text.wp_grow [2, 5] [1, 4] [] (by kernel_rfl) (by kernel_rfl) ?_
            refine Text.wpS_seg 2 _ _ _ _ (by decide) (fun Q' hQ' => ?_)
            simp only [List.take_succ_cons, List.take_zero]
            go_wp2_with fail
            try simp only [Nat.zero_add, List.drop_succ_cons, List.drop_zero]
            refine Text.wpS_one (fun Q' hQ' => ?_)
            go_wp2_with fail
            refine (kfront_any _ _ (by decide)).mono ?_
            rintro e w2 ⟨rfl, rfl⟩
            go_wp2_with fail
            refine ⟨Below.refl _ _, ?_⟩
            refine Text.wpS_seg 2 _ _ _ _ (by decide) (fun Q' hQ' => ?_)
            simp only [List.take_succ_cons, List.take_zero]
            go_wp2_with fail
            try simp only [List.drop_succ_cons, List.drop_zero]
            refine Text.wpS_one (fun Q' hQ' => ?_)
            go_wp2_with fail
            refine (itoa_any x.n _ h0 HM.out HT.out.drew).mono ?_
            rintro e w3 ⟨rfl, hb3⟩
            have HB3 := Lib.hid hb3
            clear hb3
            obtain ⟨S, hS⟩ : ∃ S : ByteArray, S = ⟨(Lib.itoa x.n).toArray⟩ := ⟨_, rfl⟩
            have hz1 : S.size ≤ 21 := by rw [hS]; exact Lib.itoa_length_le x.n (by have := HM.out; omega) (by have := HM.out; omega)
            rw [← hS]
            have HS := Lib.hid hS
            clear hS
            obtain ⟨F, hF⟩ : ∃ F : ByteArray, F = ⟨(frontL x.kind).toArray⟩ := ⟨_, rfl⟩
            have hz2 : F.size = 2 := by rw [hF, h2]; rfl
            rw [h2] at hF
            rw [← hF]
            have HF := Lib.hid hF
            clear hF
            go_wp2_with fail
            refine ⟨HB3.out, ?_⟩
            refine Text.wpS_seg 2 _ _ _ _ (by decide) (fun Q' hQ' => ?_)
            simp only [List.take_succ_cons, List.take_zero]
            go_wp2_with fail
            refine ⟨by rfl, ⟨fun _ => ⟨_, _, rfl, c0⟩, fun _ => ⟨_, _, rfl, c34⟩, trivial⟩, ?_⟩
            go_wp2
            go_ret
            refine ⟨rt1 (vstr ?_), hb.out.trans ((below_drew HB3.out).mono (Nat.le_of_lt HN.out.lt))⟩
            rw [HL.out, HS.out, HF.out]
            apply ByteArray.ext
            simp
        · have HL := Lib.hid (show nameL x = [] by unfold nameL; rw [if_neg h1, if_pos h23, if_neg (fun h => hm h.2)])
          have hd1 : decide (x.n ≤ 1000000000) = false := decide_eq_false hm
          clear hm
          rcases h23 with h2 | h2
          all_goals
            rw [h2] at c0
            clear h1
            go_enter Tryd.func30, Tryd.ntmps30
            go_wp2_with (refine stop_at (some 1) rfl ?_)
            refine Stop.go (wpList_box rfl _ rfl rfl (nmv_cells x) ?_)
            go_wp2_with fail
            go_ret
            exact ⟨rt1 (vstr (by rw [HL.out])), hb.out⟩
      · have HL := Lib.hid (show nameL x = [] by unfold nameL; rw [if_neg h1, if_pos h23, if_neg (fun h => h0 h.1)])
        rcases h23 with h2 | h2
        all_goals
          rw [h2] at c0
          clear h1
          go_enter Tryd.func30, Tryd.ntmps30
          go_wp2_with (refine stop_at (some 1) rfl ?_)
          refine Stop.go (wpList_box rfl _ rfl rfl (nmv_cells x) ?_)
          go_wp2_with fail
          go_ret
          exact ⟨rt1 (vstr (by rw [HL.out])), hb.out⟩
    · by_cases h45 : x.kind = 4 ∨ x.kind = 5
      · have HL := Lib.hid (show nameL x = frontL x.kind by rcases h45 with h | h <;> (unfold nameL; rw [if_neg h1, if_neg h23, h]; rfl))
        rcases h45 with h2 | h2
        all_goals
          rw [h2] at c0 HL
          clear h1 h23
          go_enter Tryd.func30, Tryd.ntmps30
          go_wp2_with (refine stop_at (some 1) rfl ?_)
          refine Stop.go (wpList_box rfl _ rfl rfl (nmv_cells x) ?_)
          go_wp2_with (go_at_call 61; refine (kfront_any _ _ (by decide)).mono ?_; rintro e w2 ⟨rfl, rfl⟩)
          go_ret
          exact ⟨rt1 (vstr (by rw [HL.out])), hb.out⟩
      · have HL := Lib.hid (show nameL x = [] by unfold nameL; rw [if_neg h1, if_neg h23, if_neg (fun h => h45 (.inl h)), if_neg (fun h => h45 (.inr h))])
        have h2 : ¬ x.kind = 2 := fun h => h23 (.inl h)
        have h3 : ¬ x.kind = 3 := fun h => h23 (.inr h)
        have h4 : ¬ x.kind = 4 := fun h => h45 (.inl h)
        have h5 : ¬ x.kind = 5 := fun h => h45 (.inr h)
        clear h23 h45
        go_enter Tryd.func30, Tryd.ntmps30
        go_wp2_with (refine stop_at (some 1) rfl ?_)
        refine Stop.go (wpList_box rfl _ rfl rfl (nmv_cells x) ?_)
        go_wp2_with fail
        go_ret
        exact ⟨rt1 (vstr (by rw [HL.out])), hb.out⟩
end Go.Proofs.YtfheocdciekfoaaDoor
