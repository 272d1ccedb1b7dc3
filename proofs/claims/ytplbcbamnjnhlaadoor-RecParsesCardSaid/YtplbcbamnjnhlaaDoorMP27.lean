/- Texts of this proof joined: KeyRef, Ref32t, RefAt. -/
import Derived.Test.YtplbcbamnjnhlaaDoorMP14
import Derived.Test.YtplbcbamnjnhlaaDoorMP26
import Derived.Test.YtplbcbamnjnhlaaDoorMP20
import Derived.Test.YtplbcbamnjnhlaaDoorMP25
import Derived.Test.YtplbcbamnjnhlaaDoorMP24
import Derived.Test.YtplbcbamnjnhlaaDoorMP21
/- Contracts of the reference's value and Parse (17), every world. -/
namespace Go.Proofs.YtplbcbamnjnhlaaDoor
open Go.RowKit

/-- a digit's number, or -1 -/
def dig17 (n : Nat) : Int := if 48 ≤ n ∧ n ≤ 57 then (n : Int) - 48 else if 97 ≤ n ∧ n ≤ 102 then (n : Int) - 87 else -1
theorem dig17_ok (b : UInt8) (h : dB b = true) : dig17 b.toNat = (dN b : Nat) ∧ dN b < 16 := by
  unfold dB digValB at h
  unfold dig17 dN digValN
  simp at h
  by_cases h1 : 48 ≤ b.toNat ∧ b.toNat ≤ 57
  · rw [if_pos h1, if_pos (by omega)]; omega
  · rw [if_neg h1, if_pos (by omega), if_neg (by omega), if_pos (by omega)]; omega
theorem dig17_no (b : UInt8) (h : dB b = false) : dig17 b.toNat = -1 := by
  unfold dB digValB at h
  unfold dig17
  simp at h
  rw [if_neg (by omega), if_neg (by omega)]
def RefRel (l : List UInt8) (g2 g4 N : Nat) (w0 : World) (i : Nat) (wr : World) : Prop :=
  ∃ t : List UInt8, t.length = i ∧ i ≤ 32 ∧ unhex (l.take 64) = (unhex ((l.take 64).drop (2 * i))).map (t ++ ·) ∧
    wr.heap[g4]? = some (.cells (hkCells (t ++ List.replicate (32 - i) 0) 0).toArray 26 (0, 0)) ∧ wr.heap[g2]? = some (.cells (hkCells z32 0).toArray 26 (0, 0)) ∧ Below N w0 wr
theorem key_row (t : List UInt8) (i da db : Nat) (ht : t.length = i) (hi : i < 32) (hb : 16 * da + db < 256) :
    ((hkCells (t ++ List.replicate (32 - i) 0) 0).toArray.toList.take i ++ [Value.int .u8 (16 * (da : Int) + (db : Int))] ++ (hkCells (t ++ List.replicate (32 - i) 0) 0).toArray.toList.drop (i + 1)).toArray =
      (hkCells ((t ++ [UInt8.ofNat (16 * da + db)]) ++ List.replicate (32 - (i + 1)) 0) 0).toArray := by
  have e0 : List.replicate (32 - i) (0 : UInt8) = 0 :: List.replicate (32 - (i + 1)) 0 := by
    rw [show 32 - i = (32 - (i + 1)) + 1 by omega, List.replicate_succ]
  have e1 : hkCells (t ++ List.replicate (32 - i) 0) 0 = bcells t ++ (bcell 0 :: (bcells (List.replicate (32 - (i + 1)) 0) ++ [.int .i64 0])) := by
    rw [e0]
    simp [hkCells, bcells]
  have hl : (bcells t).length = i := by rw [bcells_length, ht]
  simp only [e1]
  rw [List.take_append_of_le_length (by omega), List.take_of_length_le (by omega), List.drop_append, List.drop_eq_nil_of_le (by omega), hl, show i + 1 - i = 1 by omega]
  have e2 : Value.int .u8 (16 * (da : Int) + (db : Int)) = bcell (UInt8.ofNat (16 * da + db)) := by
    unfold bcell
    rw [UInt8.toNat_ofNat', Nat.mod_eq_of_lt (by omega)]
    push_cast
    rfl
  rw [e2]
  simp [hkCells, bcells]
end Go.Proofs.YtplbcbamnjnhlaaDoor
/- Contract of the reference's take (32). -/
namespace Go.Proofs.YtplbcbamnjnhlaaDoor
open Go.RowKit

theorem key_row2 (t : List UInt8) (i : Nat) (b : UInt8) (ht : t.length = i) (hi : i < 32) :
    ((hkCells (t ++ List.replicate (32 - i) 0) 0).toArray.toList.take i ++ [Value.int .u8 (b.toNat : Nat)] ++ (hkCells (t ++ List.replicate (32 - i) 0) 0).toArray.toList.drop (i + 1)).toArray =
      (hkCells ((t ++ [b]) ++ List.replicate (32 - (i + 1)) 0) 0).toArray := by
  have := key_row t i (b.toNat / 16) (b.toNat % 16) ht hi (by have := b.toNat_lt; omega)
  have e : 16 * ((b.toNat / 16 : Nat) : Int) + ((b.toNat % 16 : Nat) : Int) = ((b.toNat : Nat) : Int) := by omega
  have e2 : 16 * (b.toNat / 16) + b.toNat % 16 = b.toNat := by omega
  rw [e, e2] at this
  simpa using this
theorem key_last (t : List UInt8) (x : Int) (ht : t.length = 32) : ((hkCells t 0).toArray.toList.take 32 ++ [Value.int .i64 x] ++ (hkCells t 0).toArray.toList.drop (32 + 1)).toArray = (hkCells t x).toArray := by
  have hlt : (bcells t).length = 32 := by rw [bcells_length, ht]
  have e1 : (hkCells t 0).take 32 = bcells t := by unfold hkCells; rw [List.take_append_of_le_length (by omega), List.take_of_length_le (by omega)]
  have e2 : (hkCells t 0).drop 33 = [] := List.drop_eq_nil_of_le (by rw [hkCells_length, ht]; exact Nat.le_refl _)
  simp only [e1, e2, List.append_nil]
  rfl
set_option maxRecDepth 100000 in
set_option maxHeartbeats 1000000 in
theorem take32_any (l : List UInt8) (A : Option Addr) (c B a : Nat) (w : World) (hr : Rd w B A (bcells l)) (hB : B ≤ w.heap.size) (hl : a + 33 ≤ l.length) (hl2 : l.length ≤ 1099511627776) :
    Calls Tryd.prog 18 #[.slice A l.length c, .int .i64 a] w fun e w' => e = .returned (hkv ((l.drop a).take 32) (beVal ((l.drop (a + 32)).take 1) : Nat)) ∧ Below w.heap.size w w' := by
  have HR := Lib.hid hr
  have HG2 := Lib.hid (Go.heap_alloc2_old w (.cells (hkCells z32 0).toArray 26) (.cells (hkCells z32 0).toArray 26))
  have HG4 := Lib.hid (Go.heap_alloc2_new w (.cells (hkCells z32 0).toArray 26) (.cells (hkCells z32 0).toArray 26))
  have HB := Lib.hid (((Below.refl _ _).alloc (Nat.le_refl _) _).alloc (Nat.le_of_lt (by show _ < (Array.push _ _).size; rw [Array.size_push]; exact Nat.lt_succ_self _)) _ : Below w.heap.size w ((w.alloc (.cells (hkCells z32 0).toArray 26)).alloc (.cells (hkCells z32 0).toArray 26)))
  have HBW := Lib.hid hB
  clear hr hB
  go_enter Tryd.func18, Tryd.ntmps18
  go_wp2_with (refine stop_at (some 4) rfl ?_)
  refine Stop.go (wpList_alloc rfl _ rfl zero_key rfl ?_)
  go_wp2_with (refine stop_at (some 5) rfl ?_)
  refine Stop.go (wpList_alloc rfl _ rfl zero_key rfl ?_)
  go_wp2_with fail
  go_loopw [6] (fun v6 wr => ∃ i : Nat, i ≤ 32 ∧ v6 = .int .i64 i ∧ Hid (wr.heap[w.heap.size + 1]? = some (.cells (hkCells ((l.drop a).take i ++ List.replicate (32 - i) 0) 0).toArray 26 (0, 0))) ∧ Hid (wr.heap[w.heap.size]? = some (.cells (hkCells z32 0).toArray 26 (0, 0))) ∧ Hid (Below w.heap.size w wr)) (fun v6 _ => 32 - (intOf v6).toNat)
  case atStart => exact ⟨0, by omega, rfl, HG4.out, HG2.out, HB.out⟩
  case round =>
    obtain ⟨i, hi, rfl, H4, H2, HW⟩ := hrel
    by_cases hlt : i < 32
    · have hin : a + i < l.length := by omega
      obtain ⟨ab, ao, rfl, hab, hcell⟩ := (HR.out.below (HW.out.mono HBW.out)).byte hin
      have HT := Lib.hid (show ((l.drop a).take i).length = i by rw [List.length_take, List.length_drop]; omega)
      have HS := Lib.hid (show (l.drop a).take (i + 1) = (l.drop a).take i ++ [l[a + i]] by
        rw [List.take_succ_eq_append_getElem (by rw [List.length_drop]; omega), List.getElem_drop])
      have hst : (Instr.storeAt 5 (.pointer (some ⟨w.heap.size + 1, i, none⟩)) (.int .u8 (l[a + i].toNat : Nat))).run Tryd.prog wr = .ok () (wr.setRow (w.heap.size + 1) (hkCells ((l.drop a).take (i + 1) ++ List.replicate (32 - (i + 1)) 0) 0).toArray) := by
        rw [store_agg (vs := [.int .u8 (l[a + i].toNat : Nat)]) rfl (by kernel_rfl) H4.out (by rw [List.size_toArray, hkCells_length, List.length_append, HT.out, List.length_replicate]; simp) (fun u hu => by rw [List.mem_singleton.1 hu]; rfl)]
        exact congrArg (fun r => Result.ok () (wr.setRow (w.heap.size + 1) r)) (by rw [HS.out]; exact key_row2 _ i _ HT.out hlt)
      have H4b := Lib.hid (setRow_heap wr (w.heap.size + 1) _ (hkCells ((l.drop a).take (i + 1) ++ List.replicate (32 - (i + 1)) 0) 0).toArray _ _ H4.out)
      have H2b := Lib.hid ((setRow_other wr (w.heap.size + 1) w.heap.size (hkCells ((l.drop a).take (i + 1) ++ List.replicate (32 - (i + 1)) 0) 0).toArray (by omega)).trans H2.out)
      have HWb := Lib.hid (below_setRow HW.out (Nat.le_succ _) (hkCells ((l.drop a).take (i + 1) ++ List.replicate (32 - (i + 1)) 0) 0).toArray : Below w.heap.size w (wr.setRow (w.heap.size + 1) _))
      have HST := Lib.hid hst
      obtain ⟨d, hd⟩ : ∃ d, d = l[a + i].toNat := ⟨_, rfl⟩
      rw [← hd] at hcell HST
      obtain ⟨b, hb⟩ : ∃ b, b = a + i := ⟨_, rfl⟩
      have hbi : (a : Int) + (i : Int) = (b : Int) := by omega
      rw [show ao + (a + i) = ao + b by omega] at hcell
      have hbl : b < l.length := by omega
      generalize wr.setRow (w.heap.size + 1) _ = w9 at HST H4b H2b HWb
      clear hst hd hb HS hin
      go_wp2_with (refine stop_at (some 15) rfl ?_)
      refine Stop.go (wpList_seg 5 _ _ _ (fun Q' hQ' => ?_))
      simp only [List.take_succ_cons, List.take_zero]
      go_wp2_with fail
      simp only [List.drop_succ_cons, List.drop_zero]
      refine Stop.go (wpList_store_agg rfl 5 rfl rfl rfl HST.out ?_)
      go_wp2_with fail
      refine ⟨⟨i + 1, by omega, rfl, H4b, H2b, HWb⟩, ?_⟩
      simp [intOf]; omega
    · obtain rfl : i = 32 := by omega
      have hin : a + 32 < l.length := by omega
      obtain ⟨ab, ao, rfl, hab, hcell⟩ := (HR.out.below (HW.out.mono HBW.out)).byte hin
      have HT := Lib.hid (show ((l.drop a).take 32).length = 32 by rw [List.length_take, List.length_drop]; omega)
      have HV := Lib.hid (show beVal ((l.drop (a + 32)).take 1) = l[a + 32].toNat by rw [List.drop_eq_getElem_cons hin, List.take_succ_cons]; simp [beVal])
      have h4 := H4.out
      rw [show (l.drop a).take 32 ++ List.replicate (32 - 32) 0 = (l.drop a).take 32 by simp] at h4
      have H4c := Lib.hid h4
      clear h4 H4
      have hst : (Instr.storeAt 3 (.pointer (some ⟨w.heap.size + 1, 32, none⟩)) (.int .i64 (l[a + 32].toNat : Nat))).run Tryd.prog wr = .ok () (wr.setRow (w.heap.size + 1) (hkCells ((l.drop a).take 32) (l[a + 32].toNat : Nat)).toArray) := by
        rw [store_agg (vs := [.int .i64 (l[a + 32].toNat : Nat)]) rfl (by kernel_rfl) H4c.out (by simp only [List.size_toArray, hkCells_length, HT.out]; exact Nat.le_refl _) (fun u hu => by rw [List.mem_singleton.1 hu]; rfl)]
        exact congrArg (fun r => Result.ok () (wr.setRow (w.heap.size + 1) r)) (key_last _ _ HT.out)
      have H4b := Lib.hid (setRow_heap wr (w.heap.size + 1) _ (hkCells ((l.drop a).take 32) (l[a + 32].toNat : Nat)).toArray _ _ H4c.out)
      have H2b := Lib.hid ((setRow_other wr (w.heap.size + 1) w.heap.size (hkCells ((l.drop a).take 32) (l[a + 32].toNat : Nat)).toArray (by omega)).trans H2.out)
      have HWb := Lib.hid (below_setRow HW.out (Nat.le_succ _) (hkCells ((l.drop a).take 32) (l[a + 32].toNat : Nat)).toArray : Below w.heap.size w (wr.setRow (w.heap.size + 1) _))
      have HST := Lib.hid hst
      have hd8 : l[a + 32].toNat < 256 := l[a + 32].toNat_lt
      obtain ⟨d, hd⟩ : ∃ d, d = l[a + 32].toNat := ⟨_, rfl⟩
      rw [← hd] at hcell HST hd8 H4b H2b HWb
      have HV2 := Lib.hid (HV.out.trans hd.symm)
      generalize wr.setRow (w.heap.size + 1) _ = w9 at HST H4b H2b HWb
      obtain ⟨b, hb⟩ : ∃ b, b = a + 32 := ⟨_, rfl⟩
      have hbi : (a : Int) + 32 = (b : Int) := by omega
      rw [show ao + (a + 32) = ao + b by omega] at hcell
      have hbl : b < l.length := by omega
      clear hst hd hb HV hin
      go_wp2_with (refine stop_at (some 22) rfl ?_)
      refine Stop.go (wpList_seg 5 _ _ _ (fun Q' hQ' => ?_))
      simp only [List.take_succ_cons, List.take_zero]
      go_wp2_with fail
      simp only [List.drop_succ_cons, List.drop_zero]
      refine Stop.go (wpList_store_agg rfl 3 rfl rfl rfl HST.out ?_)
      go_wp2_with (refine stop_at (some 27) rfl ?_)
      refine Stop.go (wpList_load_agg rfl 26 rfl rfl keyTy.ut rfl (key_size _ _ HT.out) (row_cells H4b.out) ?_)
      refine wpList_store_agg rfl 26 rfl rfl rfl (store_row (hkv_cells _ _) (key_size _ _ HT.out) H2b.out (by simp [hkCells_length, HT.out, z32_len]) (hkCells_one _ _)) ?_
      go_wp2_with fail
      refine ret_key1 rfl HT.out rfl rfl (setRow_heap _ _ _ _ _ _ H2b.out) ?_
      exact ⟨by rw [HV2.out], below_setRow HWb.out (Nat.le_refl _) _⟩
end Go.Proofs.YtplbcbamnjnhlaaDoor
/- The memory of the reference's Parse (32), under way. -/
namespace Go.Proofs.YtplbcbamnjnhlaaDoor
open Go.RowKit

theorem ret_rec32 {fn : Func} {p u : Tmp} {x : Value} {Q : Ending → World → Prop} (h : fn.results = #[.cell p 36, .tmp u]) {a : Act} {w : World} {g : Nat} {k s : Int} {kh : List UInt8} {kk : Int} {mh : List UInt8} {ms : Int} {v : Value} {fr : Nat × Nat} {t : TypeId} (l1 : kh.length = 32) (l2 : mh.length = 32) (hd : a.defers = [])
    (hp : a.tmps.getD p undef = .pointer (some ⟨g, 0, none⟩)) (hu : a.tmps.getD u undef = x) (hg : w.heap[g]? = some (.cells (recCells k s kh kk mh ms v).toArray t fr)) (hq : Q (.returned (.tuple #[recv k s kh kk mh ms v, x])) w) : bodyPost Tryd.prog fn Q .ret a w := by
  refine bodyPost_ret (v := .tuple #[recv k s kh kk mh ms v, x]) ?_ hd hq
  rw [results_cell_tmp h, hp, hu]
  simp [asAddr, Result.andThen, run_loadVar_row w g t 36 (recCells k s kh kk mh ms v).toArray fr _ hg rec32Ty_u rfl (rec32_size k s kh kk mh ms v l1 l2)]
theorem build_zero32 (w : World) : (Instr.build 36 #[]).run Tryd.prog w = .ok (rv zeroD (.slice none 0 0)) w := by
  unfold Instr.build
  simp only [Sem.run_bind, zero_rec32, Result.andThen_ok, recv_cells, run_underlying rec32Ty_u, rec32Ty, fields_rec32]
  rfl
theorem build_kind32 (k : Int) (w : World) : (Instr.build 36 #[(0, .int .i64 k)]).run Tryd.prog w = .ok (recv k 0 z32 0 z32 0 (.slice none 0 0)) w := by
  unfold Instr.build
  simp only [Sem.run_bind, zero_rec32, Result.andThen_ok, recv_cells, run_underlying rec32Ty_u, rec32Ty, fields_rec32]
  rfl
/-- what the reference's Parse answers -/
def RefParseTo (l : List UInt8) (w : World) (e : Ending) (w' : World) : Prop :=
  Below w.heap.size w w' ∧ ((parseL l = none ∧ e = .returned (.tuple #[rv zeroD (.slice none 0 0), .bool false])) ∨ ∃ r v, parseL l = some r ∧ e = .returned (.tuple #[rv r v, .bool true]) ∧ KeysOwn w' w.heap.size v r.keys)
theorem refParseTo_no {l : List UInt8} {w w' : World} {e : Ending} (h : parseL l = none) (he : e = .returned (.tuple #[rv zeroD (.slice none 0 0), .bool false])) (hb : Below w.heap.size w w') : RefParseTo l w e w' := ⟨hb, .inl ⟨h, he⟩⟩
theorem refParseTo_yes {l : List UInt8} {w w' : World} {e : Ending} {r : RecD} {v : Value} (h : parseL l = some r) (he : e = .returned (.tuple #[rv r v, .bool true])) (hs : KeysOwn w' w.heap.size v r.keys) (hb : Below w.heap.size w w') : RefParseTo l w e w' := ⟨hb, .inr ⟨r, v, h, he, hs⟩⟩
structure At32 (w wc : World) (m : Nat) (AL : Option Addr) (l : List UInt8) (r : RecD) (v : Value) : Prop where
  rec_ : RecAt wc m 36 r.kind r.seq r.kh r.kk r.mh r.ms v
  keys : KeysOwn wc (m + 1) v r.keys
  ld : Rd wc m AL (bcells l)
  row : wc.heap[w.heap.size]? = some (.cells (recCells 0 0 z32 0 z32 0 (.slice none 0 0)).toArray 36 (0, 0))
  below : Below w.heap.size w wc
  m_ : w.heap.size < m
section
variable {w wc w' : World} {m : Nat} {AL : Option Addr} {l : List UInt8} {r r' : RecD} {v : Value}
theorem At32.later (h : At32 w wc m AL l r v) (hb : Below wc.heap.size wc w') : At32 w w' m AL l r v :=
  ⟨h.rec_.later hb, h.keys.later hb, h.ld.below (hb.mono (Nat.le_of_lt h.rec_.lt)), (hb.block _ (Array.getElem?_eq_some_iff.1 h.row).1).trans h.row, h.below.trans (hb.mono h.below.size), h.m_⟩
theorem At32.stored (h : At32 w wc m AL l r v) (hs : Hs r') (hk : r'.keys = r.keys)
    (hm : w'.heap[m]? = some (.cells (recCells r'.kind r'.seq r'.kh r'.kk r'.mh r'.ms v).toArray 36 (0, 0))) (ho : ∀ k, k ≠ m → w'.heap[k]? = wc.heap[k]?) (hb : Below m wc w') : At32 w w' m AL l r' v :=
  ⟨⟨hm, hs.1, hs.2⟩, hk ▸ h.keys.other (Nat.lt_succ_self _) ho, h.ld.below hb, (ho _ (by have := h.m_; omega)).trans h.row, h.below.trans (hb.mono (Nat.le_of_lt h.m_)), h.m_⟩
theorem At32.pushed {w8 w9 : World} {v8 : Value} {ks : List KeyD} (h : At32 w wc m AL l r v) (h8 : Below (m + 1) wc w8) (hk8 : KeysOwn w8 (m + 1) v8 ks)
    (hm : w9.heap[m]? = some (.cells (recCells r.kind r.seq r.kh r.kk r.mh r.ms v8).toArray 36 (0, 0))) (ho : ∀ k, k ≠ m → w9.heap[k]? = w8.heap[k]?) (hb : Below m w8 w9) : At32 w w9 m AL l ⟨r.kind, r.seq, r.kh, r.kk, r.mh, r.ms, ks⟩ v8 :=
  ⟨⟨hm, h.rec_.hk, h.rec_.hm⟩, hk8.other (Nat.lt_succ_self _) ho, h.ld.below ((h8.mono (Nat.le_succ _)).trans hb), (ho _ (by have := h.m_; omega)).trans ((h8.block _ (by have := h.m_; omega)).trans h.row),
    h.below.trans ((h8.mono (by have := h.m_; omega)).trans (hb.mono (Nat.le_of_lt h.m_))), h.m_⟩
end
/-! rows, one byte or one number changed -/
section
variable (k s : Int) (kh : List UInt8) (kk : Int) (ms : Int) (v : Value)
theorem row_hash1 (t : List UInt8) (i : Nat) (b : UInt8) (hk : kh.length = 32) (ht : t.length = i) (hi : i < 32) :
    ((recCells k s kh kk (t ++ List.replicate (32 - i) 0) ms v).toArray.toList.take (35 + i) ++ [Value.int .u8 (b.toNat : Nat)] ++ (recCells k s kh kk (t ++ List.replicate (32 - i) 0) ms v).toArray.toList.drop (35 + i + 1)).toArray =
      (recCells k s kh kk ((t ++ [b]) ++ List.replicate (32 - (i + 1)) 0) ms v).toArray := by
  have e0 : List.replicate (32 - i) (0 : UInt8) = 0 :: List.replicate (32 - (i + 1)) 0 := by
    rw [show 32 - i = (32 - (i + 1)) + 1 by omega, List.replicate_succ]
  have e1 : recCells k s kh kk (t ++ List.replicate (32 - i) 0) ms v = (([.int .i64 k, .int .i64 s] ++ hkCells kh kk) ++ bcells t) ++ (bcell 0 :: (bcells (List.replicate (32 - (i + 1)) 0) ++ ([.int .i64 ms] ++ [v]))) := by
    rw [e0]
    simp [recCells, hkCells, bcells]
  have hl : (([.int .i64 k, .int .i64 s] ++ hkCells kh kk) ++ bcells t : List Value).length = 35 + i := by
    simp [hkCells_length, bcells_length, hk, ht]
    omega
  simp only [e1]
  rw [List.take_append_of_le_length (by omega), List.take_of_length_le (by omega), List.drop_append, List.drop_eq_nil_of_le (by omega), hl, show 35 + i + 1 - (35 + i) = 1 by omega]
  simp [recCells, hkCells, bcells, bcell]
theorem row_ms (mh : List UInt8) (ms' : Int) (hk : kh.length = 32) (hm : mh.length = 32) : ((recCells k s kh kk mh ms v).toArray.toList.take 67 ++ [Value.int .i64 ms'] ++ (recCells k s kh kk mh ms v).toArray.toList.drop (67 + 1)).toArray = (recCells k s kh kk mh ms' v).toArray := by
  have e1 : recCells k s kh kk mh ms v = (([.int .i64 k, .int .i64 s] ++ hkCells kh kk) ++ bcells mh) ++ (Value.int .i64 ms :: [v]) := by simp [recCells, hkCells]
  have hl : (([.int .i64 k, .int .i64 s] ++ hkCells kh kk) ++ bcells mh : List Value).length = 67 := by
    simp [hkCells_length, bcells_length, hk, hm]
  simp only [e1]
  rw [List.take_append_of_le_length (by omega), List.take_of_length_le (by omega), List.drop_append, List.drop_eq_nil_of_le (by omega), hl, show 67 + 1 - 67 = 1 by omega]
  simp [recCells, hkCells]
end
end Go.Proofs.YtplbcbamnjnhlaaDoor
