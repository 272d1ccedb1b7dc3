import Derived.Test.YtplbcbamnjnhlaaGreatDoorMB25
import Derived.Test.YtplbcbamnjnhlaaGreatDoorMB32
namespace Go.Proofs.YtplbcbamnjnhlaaGreatDoor
open Go.RowKit

def WriteTo (g : Nat) (b : BookD) (r : RecD) (w : World) (e : Ending) (w' : World) : Prop := e = .returned (.bool (mayD b r)) ∧ BookAt w' g (applyD b r) ∧ Beside g w w'
theorem writeTo_yes {g : Nat} {b b' : BookD} {r : RecD} {w w' : World} (hm : mayD b r = true) (hb : b' = writeD b r) (h : BookAt w' g b') (hs : Beside g w w') : WriteTo g b r w (.returned (.bool true)) w' := by
  refine ⟨by rw [hm], ?_, hs⟩
  unfold applyD
  rw [if_pos hm, ← hb]
  exact h
structure MidW (g : Nat) (b : BookD) (kind seq : Int) (kx mx : K32) (keys : List KeyD) (v : Value) (w w2 : World) (lm lp : List (K32 × Value)) (li : List (Int × Value)) : Prop where
  book : BookIn w2 g b lm lp li
  rec_ : RecAt w2 w.heap.size 38 kind seq kx.1.1 kx.1.2 mx.1.1 mx.1.2 v
  keys_ : SlR eKey w2 w.heap.size v keys
  below : Beside g w w2
  size : w.heap.size + 1 ≤ w2.heap.size
  lt : g + 3 < w.heap.size
theorem midW_drew {g : Nat} {b : BookD} {kind seq : Int} {kx mx : K32} {keys : List KeyD} {v : Value} {w w2 : World} {lm lp : List (K32 × Value)} {li : List (Int × Value)} (h : MidW g b kind seq kx mx keys v w w2 lm lp li) : MidW g b kind seq kx mx keys v w w2.drew lm lp li :=
  ⟨⟨h.book.row, h.book.live.drew, h.book.pins.drew, h.book.ints.drew, h.book.lm_, h.book.lp_, h.book.li_⟩, h.rec_.later (Below.refl _ _).drew, h.keys_.below (Below.refl _ _).drew, h.below.trans (Beside.of_below (Below.refl _ _).drew), h.size, h.lt⟩
theorem MidW.later {g : Nat} {b : BookD} {kind seq : Int} {kx mx : K32} {keys : List KeyD} {v : Value} {w w2 w3 : World} {lm lp : List (K32 × Value)} {li : List (Int × Value)} (h : MidW g b kind seq kx mx keys v w w2 lm lp li) (hb : Below w2.heap.size w2 w3) : MidW g b kind seq kx mx keys v w w3 lm lp li :=
  have hl := h.book.row_lt
  ⟨⟨(hb.block _ hl).trans h.book.row, h.book.live.below hb (by omega), h.book.pins.below hb (by omega), h.book.ints.below hb (by omega), h.book.lm_, h.book.lp_, h.book.li_⟩, h.rec_.later hb, h.keys_.below (hb.mono (by have := h.size; omega)), h.below.trans (Beside.of_below hb), Nat.le_trans h.size hb.size, h.lt⟩
theorem MidW.map_ {g : Nat} {b b' : BookD} {kind seq : Int} {kx mx : K32} {keys : List KeyD} {v : Value} {w w2 w3 : World} {lm lp lm' lp' : List (K32 × Value)} {li li' : List (Int × Value)} (h : MidW g b kind seq kx mx keys v w w2 lm lp li) (hb : BookIn w3 g b' lm' lp' li') {q : Nat}
    (hg : w2.grownBy w3 (some q)) (h1 : g ≤ q) (h2 : q < g + 3) : MidW g b' kind seq kx mx keys v w w3 lm' lp' li' := by
  have hs := h.size
  have hl := h.lt
  have hbs : Beside g w2 w3 := (Beside.refl g w2).grown hg fun k hk => by injection hk with hk; omega
  refine ⟨hb, ⟨(hg.block _ (by omega) (fun e => by injection e with e; omega)).trans h.rec_.blk, h.rec_.hk, h.rec_.hm⟩, keys_beside hbs ⟨_, _, _, h.book⟩ ⟨_, _, _, hb⟩ (by omega) h.keys_, h.below.trans hbs, Nat.le_trans hs hg.size, hl⟩
theorem write_1 {b : BookD} {r : RecD} (h : r.kind = 1) : { b with head := true } = writeD b r := by unfold writeD; rw [if_pos h]
theorem write_2 {b : BookD} {r : RecD} (h : r.kind = 2) : { b with ints := b.ints ++ [(r.seq, (rkey r, rmark r))], next := r.seq + 1 } = writeD b r := by unfold writeD; rw [if_neg (by omega), if_pos h]
theorem write_3 {b : BookD} {r : RecD} {i : Int × (K32 × K32)} (h : r.kind = 3) (hi : findI b.ints r.seq = some i) : { b with live := putL i.2.1 i.2.2 b.live, ints := dropI b.ints r.seq } = writeD b r := by unfold writeD; rw [if_neg (by omega), if_neg (by omega), if_pos h, hi]
theorem write_4 {b : BookD} {r : RecD} (h : r.kind = 4) : { b with live := putL (rkey r) (rmark r) b.live } = writeD b r := by unfold writeD; rw [if_neg (by omega), if_neg (by omega), if_neg (by omega), if_pos h]
theorem write_5 {b : BookD} {r : RecD} (h : r.kind = 5) : { b with pins := pinL (rkey r) b.pins } = writeD b r := by unfold writeD; rw [if_neg (by omega), if_neg (by omega), if_neg (by omega), if_neg (by omega), if_pos h]
theorem write_6 {b : BookD} {r : RecD} (h : r.kind = 6) : { b with pins := unpinL b.pins (rkey r) } = writeD b r := by unfold writeD; rw [if_neg (by omega), if_neg (by omega), if_neg (by omega), if_neg (by omega), if_neg (by omega), if_pos h]
theorem write_7 {b : BookD} {r : RecD} (h : r.kind = 7) : { b with live := r.keys.foldl (fun l k => outL l (k32 k)) b.live } = writeD b r := by unfold writeD; rw [if_neg (by omega), if_neg (by omega), if_neg (by omega), if_neg (by omega), if_neg (by omega), if_neg (by omega)]
theorem rkey_mk (kind seq : Int) (kx mx : K32) (keys : List KeyD) : rkey ⟨kind, seq, kx.1.1, kx.1.2, mx.1.1, mx.1.2, keys⟩ = kx := k32_mk kx
theorem rmark_mk (kind seq : Int) (kx mx : K32) (keys : List KeyD) : rmark ⟨kind, seq, kx.1.1, kx.1.2, mx.1.1, mx.1.2, keys⟩ = mx := k32_mk mx
theorem heap_setCell_ne {w : World} {p : Addr} {v : Value} {k : Nat} (h : k ≠ p.block) : (w.setCell p v).heap[k]? = w.heap[k]? := by
  simp [World.setCell, Array.getElem?_modify, Ne.symm h]
theorem heap_setCell_row {w : World} {q o : Nat} {v : Value} {cs : Array Value} {t : TypeId} {fr : Nat × Nat} (h : w.heap[q]? = some (.cells cs t fr)) : (w.setCell ⟨q, o, none⟩ v).heap[q]? = some (.cells (cs.setIfInBounds o v) t fr) := by
  simp [World.setCell, Array.getElem?_modify, h]
theorem setRow_cell {w : World} {g : Nat} {b : BookD} {v : Value} {t : TypeId} (h : w.heap[g + 3]? = some (.cells (bookCells b g) t (0, 0))) :
    w.setRow (g + 3) ((bookCells b g).toList.take 4 ++ [v] ++ (bookCells b g).toList.drop (4 + [v].length)).toArray = w.setCell ⟨g + 3, 4, none⟩ v := by
  refine world_eq ?_ rfl rfl rfl rfl
  apply Array.ext_getElem?
  intro k
  by_cases hk : k = g + 3
  · subst hk
    rw [setRow_heap _ _ _ _ _ _ h, heap_setCell_row h]
    rfl
  · rw [setRow_other _ _ _ _ hk, heap_setCell_ne hk]
noncomputable def intentD : TypeDesc := .struct (Tryz.prog.fieldsOf 76)
theorem intent_u : Tryz.prog.underlying 76 = some intentD := by kernel_rfl
theorem fields_intent (w : World) : ((Tryz.prog.fieldsOf 76).mapM fun (f : Field) => do pure (f.offset, ← sizeOf f.type)).run Tryz.prog w = .ok #[(0, 33), (33, 33)] w := by kernel_rfl
theorem exec_mapEntry {P : Program} {a : Act} {o : Oper} {t : TypeId} {m k : Operand} {vm vk r : Value} {w w' : World} (ho : o.op = .mapEntry t m k) (hm : a.eval m = vm) (hk : a.eval k = vk) (h : (Instr.mapEntry t vm vk).run P w = .ok r w') : (execOp a.eval o).run P w = .ok (.value r) w' := by
  unfold execOp
  simp only [ho, hm, hk, Sem.run_bind, h, Result.andThen_ok, Sem.run_pure]
theorem exec_entryStore {P : Program} {a : Act} {o : Oper} {t : TypeId} {m s x : Operand} {vm vs vx : Value} {w w' : World} (ho : o.op = .entryStore t m s x) (hm : a.eval m = vm) (hs : a.eval s = vs) (hx : a.eval x = vx) (h : (Instr.entryStore t vm vs vx).run P w = .ok () w') : (execOp a.eval o).run P w = .ok Next.skip w' := by
  unfold execOp
  simp only [ho, hm, hs, hx, Sem.run_bind, h, Result.andThen_ok, Sem.run_pure]
theorem exec_store {P : Program} {a : Act} {o : Oper} {t : TypeId} {m x : Operand} {vm vx : Value} {w w' : World} (ho : o.op = .store t m x) (hm : a.eval m = vm) (hx : a.eval x = vx) (h : (Instr.storeAt t vm vx).run P w = .ok () w') : (execOp a.eval o).run P w = .ok Next.skip w' := by
  unfold execOp
  simp only [ho, hm, hx, Sem.run_bind, h, Result.andThen_ok, Sem.run_pure]
theorem build_intent (k m : K32) (w : World) {a : Act} {o : Oper} (h : o.op = .build 76 #[(0, .tmp 29), (1, .tmp 31)]) (h1 : a.eval (.tmp 29) = kv k) (h2 : a.eval (.tmp 31) = kv m) : (execOp a.eval o).run Tryz.prog w = .ok (.value (iv (k, m))) w := by
  have hb : (Instr.build 76 #[(0, kv k), (1, kv m)]).run Tryz.prog w = .ok (iv (k, m)) w := by
    unfold Instr.build
    have hz : (ivCells (zk32, zk32)).length = 66 := ivCells_len _
    simp only [Sem.run_bind, zero_intent, Result.andThen_ok, run_underlying intent_u, intentD, fields_intent]
    have h0 := fill_step (place := fun i => (#[((0 : Nat), (33 : Nat)), (33, 33)] : Array (Nat × Nat))[i]?) (i := 0) (v := kv k) (vs := encK k) (pre := []) (Z := ivCells (zk32, zk32)) rfl (by simp [encK_len]) (by rw [hz, encK_len]; omega) (rest := [(1, kv m)])
    have hf : Instr.fill (fun i => (#[((0 : Nat), (33 : Nat)), (33, 33)] : Array (Nat × Nat))[i]?) (ivCells (zk32, zk32)).toArray [(0, kv k), (1, kv m)] = some (ivCells (k, m)).toArray := by
      rw [List.nil_append] at h0
      rw [h0, fill_step (vs := encK m) rfl (by simp [encK_len]) (by simp [hz, encK_len])]
      rw [Instr.fill]
      congr 2
      rw [List.drop_eq_nil_of_le (by simp [hz, encK_len])]
      simp [ivCells, encK]
    rw [show (iv (zk32, zk32)).cells = (ivCells (zk32, zk32)).toArray from rfl, hf]
    rfl
  unfold execOp
  simp only [h, Sem.run_bind, List.map_toArray, List.map_cons, List.map_nil, h1, h2, hb, Result.andThen_ok, Sem.run_pure]
set_option maxRecDepth 100000 in
set_option maxHeartbeats 40000000 in
theorem write33_any (g : Nat) (b : BookD) (r : RecD) (A : Option Addr) (n c B : Nat) (w : World) (h : BookAt w g b) (hg : Good b) (hr : Hs r) (h1 : SlR eKey w B (.slice A n c) r.keys) (hB : B ≤ w.heap.size) :
    Calls Tryz.prog 9 #[bptr g, rv r (.slice A n c)] w (WriteTo g b r w) := by
  have HN := Lib.hid h1.n_eq
  have HCL := Lib.hid h1.n_le
  have HGD := Lib.hid hg
  have hglt := h.lt
  have HR := Lib.hid hr
  have hb1 : Below w.heap.size w (w.alloc (.cells (recCells r.kind r.seq r.kh r.kk r.mh r.ms (.slice A n c)).toArray 38)) := (Below.refl _ _).alloc (Nat.le_refl _) _
  have HB1 := Lib.hid hb1
  have HS1 := Lib.hid (show (w.alloc (.cells (recCells r.kind r.seq r.kh r.kk r.mh r.ms (.slice A n c)).toArray 38)).heap.size = w.heap.size + 1 from Array.size_push _)
  have HG1 := Lib.hid (RecAt.new (t := 38) (kind := r.kind) (seq := r.seq) (kk := r.kk) (ms := r.ms) (v := .slice A n c) w hr.1 hr.2)
  have HK1 := Lib.hid (h1.fut hb1 hB hB)
  have H1 := Lib.hid (h.below hb1 hglt)
  have HW := Lib.hid h
  clear h hg hr h1 hb1 hB
  go_enter Tryz.func9, Tryz.ntmps9
  go_wp2_with (refine stop_at (some 3) rfl ?_)
  refine Stop.go (wpList_box rfl _ rfl rfl (recv_cells ..) ?_)
  generalize (w.alloc (.cells (recCells r.kind r.seq r.kh r.kk r.mh r.ms (.slice A n c)).toArray 38)) = w1 at *
  generalize hac : Act.put _ _ _ = a9
  simp [Act.put] at hac
  subst hac
  go_wp2_with (refine stop_at (some 9) rfl ?_)
  refine Stop.go (wpList_load_agg rfl 38 rfl rfl recTy_u rfl (rec_size _ _ _ _ _ _ _ HR.out.1 HR.out.2) HG1.out.all_ ?_)
  generalize hac : Act.put _ _ _ = a9
  simp [Act.put] at hac
  subst hac
  go_wp2_with fail
  refine (may33_any g b r A n c w.heap.size w1 H1.out HGD.out HR.out HK1.out (by rw [HS1.out]; omega)).mono ?_
  rintro e w2 ⟨rfl, hb2⟩
  have HG2 := Lib.hid (HG1.out.later hb2)
  have HK2 := Lib.hid (HK1.out.below (hb2.mono (by rw [HS1.out]; omega)))
  have HB2 := Lib.hid (HB1.out.trans (hb2.mono HB1.out.size))
  have HBK2 := Lib.hid (H1.out.below hb2 (by rw [HS1.out]; omega))
  have HS2 := Lib.hid (show w.heap.size + 1 ≤ w2.heap.size by rw [← HS1.out]; exact hb2.size)
  clear hb2 HG1 HK1 HB1 H1 HS1
  rcases Bool.eq_false_or_eq_true (mayD b r) with hM | hM
  rotate_left
  · have HM := Lib.hid hM
    rw [hM]
    clear hM
    go_wp2_with fail
    go_ret
    refine ⟨rt1 (vbool HM.out.symm), ?_, Beside.of_below HB2.out⟩
    unfold applyD
    rw [HM.out, if_neg (by simp)]
    exact HBK2.out
  have HM := Lib.hid hM
  rw [hM]
  clear hM
  obtain ⟨lm, lp, li, hI⟩ := HBK2.out
  obtain ⟨kind, seq, kh, kk, mh, ms, keys⟩ := r
  obtain ⟨kx, rfl, rfl⟩ : ∃ kx : K32, kx.1.1 = kh ∧ kx.1.2 = kk := ⟨⟨(kh, kk), HR.out.1⟩, rfl, rfl⟩
  obtain ⟨mx, rfl, rfl⟩ : ∃ mx : K32, mx.1.1 = mh ∧ mx.1.2 = ms := ⟨⟨(mh, ms), HR.out.2⟩, rfl, rfl⟩
  have HMW := Lib.hid (show MidW g b kind seq kx mx keys (.slice A n c) w w2 lm lp li from ⟨hI, HG2.out, HK2.out, Beside.of_below HB2.out, HS2.out, hglt⟩)
  have hkc := HMW.out.rec_.kind_
  have HRT := Lib.hid (show rightB ⟨kind, seq, kx.1.1, kx.1.2, mx.1.1, mx.1.2, keys⟩ = true by
    have := HM.out
    unfold mayD at this
    simp only [Bool.and_eq_true] at this
    exact this.1.1)
  have HK7 := Lib.hid (right_parts HRT.out)
  clear hI HG2 HK2 HB2 HS2 HBK2
  obtain ⟨R, hRd⟩ : ∃ R : RecD, R = ⟨kind, seq, kx.1.1, kx.1.2, mx.1.1, mx.1.2, keys⟩ := ⟨_, rfl⟩
  rw [← hRd] at HM HRT HK7
  have HRK := Lib.hid (show R.kind = kind ∧ R.seq = seq ∧ R.keys = keys ∧ rkey R = kx ∧ rmark R = mx by rw [hRd]; exact ⟨rfl, rfl, rfl, rkey_mk .., rmark_mk ..⟩)
  have HPO := Lib.hid (show ∀ (b' : BookD) (w' : World), b' = writeD b R → BookAt w' g b' → Beside g w w' → WriteTo g b ⟨kind, seq, kx.1.1, kx.1.2, mx.1.1, mx.1.2, keys⟩ w (.returned (.bool true)) w' from fun b' w' hb h hs => by
    rw [← hRd]
    exact writeTo_yes HM.out hb h hs)
  clear hRd
  rcases Bool.eq_false_or_eq_true (kind == 1) with hk1 | hk1
  · have HK := Lib.hid hk1
    have HRO := Lib.hid HMW.out.book.row
    obtain ⟨w3, hst3, hg3, hot3, hbl3⟩ := store_field (P := Tryz.prog) w2 (g := g + 3) (off := 0) (vs := [.bool true]) (v := .bool true) (ty := 4) rfl (by kernel_rfl) HRO.out (new := bookCells { b with head := true } g) (by simp [bookCells]) (fun u hu => by rw [List.mem_singleton.1 hu]; rfl) (by simp [bookCells])
    have HST3 := Lib.hid hst3
    have HP := Lib.hid (HPO.out _ w3 (write_1 (by rw [HRK.out.1]; simpa using HK.out)) ⟨lm, lp, li, HMW.out.book.turn hg3 hot3 rfl rfl rfl⟩ (by
      have := hbl3 g w2 (Below.refl _ _) (by omega)
      exact HMW.out.below.trans ⟨this.os, this.tape, this.output, this.size, fun k _ ho => hot3 k (by omega)⟩))
    clear hst3 hg3 hot3 hbl3
    go_wp2_with (refine stop_at none rfl ?_)
    refine Stop.go (wpList_store_agg rfl 4 rfl rfl rfl HST3.out ?_)
    generalize hac : Act.put _ _ _ = a9
    simp [Act.put] at hac
    subst hac
    go_wp2_with fail
    go_ret
    exact HP.out
  have HN1 := Lib.hid hk1
  rcases Bool.eq_false_or_eq_true (kind == 2) with hk2 | hk2
  · have HK := Lib.hid hk2
    have hq : (b.head == (R.kind == 1)) = false := by
      cases h : (b.head == (R.kind == 1)) with
      | false => rfl
      | true => have := may_false2 h; rw [HM.out] at this; cases this
    have hsq : b.next ≤ seq := by
      have h3 := may_2 HRT.out hq (by rw [HRK.out.1]; exact HK.out)
      rw [HM.out, HRK.out.2.1] at h3
      simpa using h3.symm
    have HFR := Lib.hid (show ∀ p ∈ b.ints, p.1 ≠ seq from fun p hp => by have := (HGD.out.iok p hp).1; omega)
    have hsb : 0 ≤ seq ∧ seq ≤ 1099511627776 := by
      have := HK7.out.1 (Or.inl (by rw [HRK.out.1]; simpa using HK.out))
      rwa [HRK.out.2.1] at this
    clear hq hsq
    go_wp2_with fail
    have HM3 := Lib.hid (midW_drew HMW.out)
    have hrl := HMW.out.book.row_lt
    refine wpK_comm [15, 17] [3, 5, 8, 10, 11, 13] [] [] 20 (fun w' => RecAt w' w.heap.size 38 kind seq kx.1.1 kx.1.2 mx.1.1 mx.1.2 (.slice A n c) ∧ ∃ nx, w'.heap[g + 3]? = some (.cells (bookCells { b with next := nx } g) 74 (0, 0))) (fun w' => w'.setCell ⟨g + 3, 4, none⟩ (.int .i64 (seq + 1))) ⟨?_, fun w' _ => setCell_twice _ _ _⟩ ⟨HM3.out.rec_, b.next, HM3.out.book.row⟩ (by kernel_rfl) (by kernel_rfl) ?_
    · rintro w' ⟨h1, nx, h2⟩
      refine ⟨⟨?_, h1.hk, h1.hm⟩, seq + 1, ?_⟩
      · rw [heap_setCell_ne (by show w.heap.size ≠ g + 3; omega)]; exact h1.blk
      · rw [heap_setCell_row h2]; rfl
    have HLS := Lib.hid (show ∀ w', (RecAt w' w.heap.size 38 kind seq kx.1.1 kx.1.2 mx.1.1 mx.1.2 (.slice A n c) ∧ ∃ nx, w'.heap[g + 3]? = some (.cells (bookCells { b with next := nx } g) 74 (0, 0))) →
        (Instr.loadAt 72 (.pointer (some ⟨g + 3, 3, none⟩))).run Tryz.prog w' = .ok (.map (some (g + 2))) w' ∧ (Instr.loadAt 3 (.pointer (some ⟨w.heap.size, 1, none⟩))).run Tryz.prog w' = .ok (.int .i64 seq) w' ∧
        (Instr.loadAt 34 (.pointer (some ⟨w.heap.size, 2, none⟩))).run Tryz.prog w' = .ok (kv kx) w' ∧ (Instr.loadAt 36 (.pointer (some ⟨w.heap.size, 35, none⟩))).run Tryz.prog w' = .ok (kv mx) w' ∧
        (Instr.storeAt 3 (.pointer (some ⟨g + 3, 4, none⟩)) (.int .i64 (seq + 1))).run Tryz.prog w' = .ok () (w'.setCell ⟨g + 3, 4, none⟩ (.int .i64 (seq + 1))) from by
      rintro w' ⟨h1, nx, h2⟩
      refine ⟨load_map map_ints ?_, load_int (k := .i64) (by kernel_rfl) h1.seq_, load_agg keyTy.ut rfl (key_size _ _ kx.2) h1.key_, load_agg markTy.ut rfl (mark_size _ _ mx.2) h1.mark_, ?_⟩
      · rw [cell_of_row _ _ _ _ _ _ h2]; rfl
      · rw [store_agg (vs := [.int .i64 (seq + 1)]) rfl (by kernel_rfl) h2 (by simp [bookCells]) (fun u hu => by rw [List.mem_singleton.1 hu]; rfl), setRow_cell h2])
    have HI3 := Lib.hid (show RecAt w2.drew w.heap.size 38 kind seq kx.1.1 kx.1.2 mx.1.1 mx.1.2 (.slice A n c) ∧ ∃ nx, w2.drew.heap[g + 3]? = some (.cells (bookCells { b with next := nx } g) 74 (0, 0)) from ⟨HM3.out.rec_, b.next, HM3.out.book.row⟩)
    generalize w2.drew = w3 at *
    obtain ⟨es, ck, hes, hep, hst⟩ := HM3.out.book.ints
    have HES := Lib.hid hes
    have HEP := Lib.hid hep
    have HST := Lib.hid hst
    clear hes hep hst hrl
    refine wpK_seg 3 (by decide) (fun Q0 hQ0 => ?_)
    simp only [List.take_succ_cons, List.take_zero]
    go_wp2_with fail
    try simp only [List.drop_succ_cons, List.drop_zero]
    refine wpK_old (by decide) rfl rfl rfl (fun w' hI => exec_load rfl rfl (HLS.out w' hI).1) ?_
    generalize hac : Act.put _ _ _ = a9
    simp [Act.put] at hac
    subst hac
    refine wpK_seg 1 (by decide) (fun Q0 hQ0 => ?_)
    simp only [List.take_succ_cons, List.take_zero]
    go_wp2_with fail
    try simp only [List.drop_succ_cons, List.drop_zero]
    refine wpK_old (by decide) rfl rfl rfl (fun w' hI => exec_load rfl rfl (HLS.out w' hI).2.1) ?_
    generalize hac : Act.put _ _ _ = a9
    simp [Act.put] at hac
    subst hac
    refine wpK_seg 2 (by decide) (fun Q0 hQ0 => ?_)
    simp only [List.take_succ_cons, List.take_zero]
    go_wp2_with fail
    try simp only [List.drop_succ_cons, List.drop_zero]
    refine wpK_old (by decide) rfl rfl rfl (fun w' hI => exec_load rfl rfl (HLS.out w' hI).2.2.1) ?_
    generalize hac : Act.put _ _ _ = a9
    simp [Act.put] at hac
    subst hac
    refine wpK_seg 1 (by decide) (fun Q0 hQ0 => ?_)
    simp only [List.take_succ_cons, List.take_zero]
    go_wp2_with fail
    try simp only [List.drop_succ_cons, List.drop_zero]
    refine wpK_old (by decide) rfl rfl rfl (fun w' hI => exec_load rfl rfl (HLS.out w' hI).2.2.2.1) ?_
    generalize hac : Act.put _ _ _ = a9
    simp [Act.put] at hac
    subst hac
    refine wpK_old (by decide) rfl rfl rfl (v := iv (kx, mx)) (fun w' _ => build_intent kx mx w' rfl rfl rfl) ?_
    generalize hac : Act.put _ _ _ = a9
    simp [Act.put] at hac
    subst hac
    refine wpK_seg 1 (by decide) (fun Q0 hQ0 => ?_)
    simp only [List.take_succ_cons, List.take_zero]
    go_wp2_with fail
    try simp only [List.drop_succ_cons, List.drop_zero]
    refine wpK_old (by decide) rfl rfl rfl (fun w' hI => exec_load rfl rfl (HLS.out w' hI).2.1) ?_
    generalize hac : Act.put _ _ _ = a9
    simp [Act.put] at hac
    subst hac
    refine wpK_seg 1 (by decide) (fun Q0 hQ0 => ?_)
    simp only [List.take_succ_cons, List.take_zero]
    go_wp2_with fail
    try simp only [List.drop_succ_cons, List.drop_zero]
    have hne : (⟨g + 3, 4, none⟩ : Addr).block ≠ g + 2 := by show g + 3 ≠ g + 2; omega
    have HFL := Lib.hid (show ∀ p ∈ li, p.1 ≠ seq from fun p hp he => by
      obtain ⟨i, hi, hpi⟩ := List.mem_map.1 (HM3.out.book.li_.mem_iff.1 hp)
      exact HFR.out i hi (by rw [← he, ← hpi]))
    have HEST := Lib.hid (show (w3.setCell ⟨g + 3, 4, none⟩ (.int .i64 (seq + 1))).heap[g + 2]? = some (.map es ck) by rw [heap_setCell_ne (by show g + 2 ≠ g + 3; omega)]; exact HES.out)
    have r1 := mapEntry_new intsK HES.out HEP.out zero_intent HFL.out
    have r2 := mapEntry_new intsK HEST.out HEP.out zero_intent HFL.out
    rw [← setO_cell _ hne] at r2
    have HW4 := Lib.hid (setO_at (o := .map (es.push { key := .int .i64 seq, val := iv (zk32, zk32), born := ck }) (ck + 1)) HES.out)
    have HG4 := Lib.hid (setO_grown w3 (g + 2) (.map (es.push { key := .int .i64 seq, val := iv (zk32, zk32), born := ck }) (ck + 1)))
    have HI4 := Lib.hid (show RecAt (setO w3 (g + 2) (.map (es.push { key := .int .i64 seq, val := iv (zk32, zk32), born := ck }) (ck + 1))) w.heap.size 38 kind seq kx.1.1 kx.1.2 mx.1.1 mx.1.2 (.slice A n c) ∧ ∃ nx, (setO w3 (g + 2) (.map (es.push { key := .int .i64 seq, val := iv (zk32, zk32), born := ck }) (ck + 1))).heap[g + 3]? = some (.cells (bookCells { b with next := nx } g) 74 (0, 0)) from by
      obtain ⟨h1, nx, h2⟩ := HI3.out
      exact ⟨⟨(setO_other (by omega)).trans h1.blk, h1.hk, h1.hm⟩, nx, (setO_other (by omega)).trans h2⟩)
    refine wpK_two (by decide) rfl (.inl rfl) (exec_mapEntry rfl rfl rfl r1) (exec_mapEntry rfl rfl rfl r2) HI4.out ?_
    clear r1 r2
    generalize hw4 : setO w3 (g + 2) (.map (es.push { key := .int .i64 seq, val := iv (zk32, zk32), born := ck }) (ck + 1)) = w4 at *
    clear hw4
    generalize hac : Act.put _ _ _ = a9
    simp [Act.put] at hac
    subst hac
    refine wpK_seg 1 (by decide) (fun Q0 hQ0 => ?_)
    simp only [List.take_succ_cons, List.take_zero]
    go_wp2_with fail
    try simp only [List.drop_succ_cons, List.drop_zero]
    have HW4T := Lib.hid (show (w4.setCell ⟨g + 3, 4, none⟩ (.int .i64 (seq + 1))).heap[g + 2]? = some (.map (es.push { key := .int .i64 seq, val := iv (zk32, zk32), born := ck }) (ck + 1)) by rw [heap_setCell_ne (by show g + 2 ≠ g + 3; omega)]; exact HW4.out)
    have r1 := entryStore_new (P := Tryz.prog) (mt := 72) (v := iv (kx, mx)) HW4.out HST.out.1
    have r2 := entryStore_new (P := Tryz.prog) (mt := 72) (v := iv (kx, mx)) HW4T.out HST.out.1
    rw [← setO_cell _ hne] at r2
    have HW5 := Lib.hid (setO_at (o := .map (es.push { key := .int .i64 seq, val := iv (kx, mx), born := ck }) (ck + 1)) HW4.out)
    have HG5 := Lib.hid (grown_trans HG4.out (setO_grown w4 (g + 2) (.map (es.push { key := .int .i64 seq, val := iv (kx, mx), born := ck }) (ck + 1))))
    have HI5 := Lib.hid (show RecAt (setO w4 (g + 2) (.map (es.push { key := .int .i64 seq, val := iv (kx, mx), born := ck }) (ck + 1))) w.heap.size 38 kind seq kx.1.1 kx.1.2 mx.1.1 mx.1.2 (.slice A n c) ∧ ∃ nx, (setO w4 (g + 2) (.map (es.push { key := .int .i64 seq, val := iv (kx, mx), born := ck }) (ck + 1))).heap[g + 3]? = some (.cells (bookCells { b with next := nx } g) 74 (0, 0)) from by
      obtain ⟨h1, nx, h2⟩ := HI4.out
      exact ⟨⟨(setO_other (by omega)).trans h1.blk, h1.hk, h1.hm⟩, nx, (setO_other (by omega)).trans h2⟩)
    refine wpK_two (by decide) rfl (.inr ⟨rfl, rfl⟩) (exec_entryStore rfl rfl rfl rfl r1) (exec_entryStore rfl rfl rfl rfl r2) HI5.out ?_
    clear r1 r2
    generalize hw5 : setO w4 (g + 2) (.map (es.push { key := .int .i64 seq, val := iv (kx, mx), born := ck }) (ck + 1)) = w5 at *
    clear hw5
    generalize hac : Act.put _ _ _ = a9
    simp [Act.put] at hac
    subst hac
    refine wpK_seg 2 (by decide) (fun Q0 hQ0 => ?_)
    simp only [List.take_succ_cons, List.take_zero]
    go_wp2_with fail
    try simp only [List.drop_succ_cons, List.drop_zero]
    have hwr : IntKind.i64.wrap (seq + 1) = seq + 1 := by simp [IntKind.wrap, IntKind.bits, IntKind.signed]; omega
    refine wpK_float (v := undef) (.inr ⟨rfl, rfl⟩) (fun w' hI => exec_store rfl rfl rfl (HLS.out w' hI).2.2.2.2) ?_
    generalize hac : Act.put _ _ _ = a9
    simp [Act.put] at hac
    subst hac
    have hB5 : BookIn w5 g { b with ints := b.ints ++ [(seq, (kx, mx))] } lm lp (li ++ [(seq, iv (kx, mx))]) := HM3.out.book.turn_ints (mapS_new HW5.out HEP.out HST.out) HG5.out (by
      rw [show intsP (b.ints ++ [(seq, (kx, mx))]) = intsP b.ints ++ [(seq, iv (kx, mx))] by simp [intsP]]
      exact HM3.out.book.li_.append_right _)
    have hB6 : BookIn (w5.setCell ⟨g + 3, 4, none⟩ (.int .i64 (seq + 1))) g { b with ints := b.ints ++ [(seq, (kx, mx))], next := seq + 1 } lm lp (li ++ [(seq, iv (kx, mx))]) :=
      hB5.turn (by rw [heap_setCell_row hB5.row]; rfl) (fun k hk => heap_setCell_ne hk) rfl rfl rfl
    have HP := Lib.hid (HPO.out _ _ (by
      have := write_2 (b := b) (r := R) (by rw [HRK.out.1]; simpa using HK.out)
      rw [HRK.out.2.1, HRK.out.2.2.2.1, HRK.out.2.2.2.2] at this
      exact this) ⟨_, _, _, hB6⟩ ((HM3.out.below.grown HG5.out (fun k hk => by injection hk with hk; omega)).trans ⟨rfl, rfl, rfl, by rw [World.size_setCell]; exact Nat.le_refl _, fun k _ ho => heap_setCell_ne (by show k ≠ g + 3; omega)⟩))
    clear hB5 hB6
    generalize w5.setCell ⟨g + 3, 4, none⟩ (.int .i64 (seq + 1)) = w6 at *
    refine wpK_end ⟨by rfl, trivial, ?_⟩
    go_wp2_with fail
    go_ret
    exact HP.out
  have HN2 := Lib.hid hk2
  rcases Bool.eq_false_or_eq_true (kind == 3) with hk3 | hk3
  · have HK := Lib.hid hk3
    obtain ⟨ix, hix⟩ : ∃ ix, findI b.ints seq = some ix := by
      have hq : (b.head == (R.kind == 1)) = false := by
        cases h : (b.head == (R.kind == 1)) with
        | false => rfl
        | true => have := may_false2 h; rw [HM.out] at this; cases this
      have h3 := may_3 HRT.out hq (by rw [HRK.out.1]; exact HK.out)
      rw [HM.out, HRK.out.2.1] at h3
      exact Option.isSome_iff_exists.1 h3.symm
    have HIX := Lib.hid hix
    have HAS := Lib.hid (show (assoc li seq).getD (iv (zk32, zk32)) = iv ix.2 by rw [assoc_ints HGD.out HMW.out.book.li_ seq, hix]; rfl)
    clear hix
    go_wp2_with fail
    refine wpF_float [6, 7] [3, 5] [] (fun w' => Below w2.drew.heap.size w2.drew w') 7 _ (Below.refl _ _) (by kernel_rfl) rfl rfl (by kernel_rfl) ?_
    have HM3 := Lib.hid (midW_drew HMW.out)
    generalize w2.drew = w3 at *
    have hpc := HM3.out.book.ints_cell
    have hsc := HM3.out.rec_.seq_
    have HLD := Lib.hid (show ∀ w', Below w3.heap.size w3 w' → (Instr.loadAt 72 (.pointer (some ⟨g + 3, 3, none⟩))).run Tryz.prog w' = .ok (.map (some (g + 2))) w' ∧ (Instr.loadAt 3 (.pointer (some ⟨w.heap.size, 1, none⟩))).run Tryz.prog w' = .ok (.int .i64 seq) w' from fun w' hb =>
      ⟨load_map map_ints (HM3.out.later hb).book.ints_cell, load_int (k := .i64) (by kernel_rfl) (HM3.out.later hb).rec_.seq_⟩)
    have HZ := Lib.hid (show Below w3.heap.size w3 (w3.alloc (.cells (ivCells (zk32, zk32)).toArray 76)) from (Below.refl _ _).alloc (Nat.le_refl _) _)
    refine wpF_seg 6 (by decide) (fun Q0 hQ0 => ?_)
    simp only [List.take_succ_cons, List.take_zero]
    go_wp2_with fail
    simp only [List.drop_succ_cons, List.drop_zero]
    refine wpF_one (by decide) rfl (fun Q1 hQ1 => ?_) (fun Q1 hQ1 => ?_)
    · refine wpList_alloc rfl 76 rfl zero_intent (vs := ivCells (zk32, zk32)) rfl ?_
      refine hQ1 _ _ ⟨HZ.out, ?_⟩
      generalize hac : Act.put _ _ _ = a9
      simp [Act.put] at hac
      subst hac
      refine wpX_one (by decide) (fun Q2 hQ2 => ?_)
      refine wpList_lookupS intsK rfl rfl rfl rfl (HM3.out.later HZ.out).book.ints zero_intent ?_
      rw [HAS.out]
      refine hQ2 _ _ ⟨HZ.out, ?_⟩
      generalize hac : Act.put _ _ _ = a9
      simp [Act.put] at hac
      subst hac
      refine wpX_skip ?_
      refine wpX_seg 1 (by decide) (fun Q4 hQ4 => ?_)
      simp only [List.take_succ_cons, List.take_zero]
      refine wpList_store_agg rfl 76 rfl rfl rfl (store_new2 (g := w3.heap.size) rfl (v := iv ix.2) (vs := ivCells ix.2) rfl (intent_size ix.2) (by rw [ivCells_len, List.size_toArray, ivCells_len]) (ivCells_one _)) ?_
      refine hQ4 _ _ ?_
      simp only [List.drop_succ_cons, List.drop_zero]
      generalize hac : Act.put _ _ _ = a9
      simp [Act.put] at hac
      subst hac
      refine wpX_end ⟨by rfl, ⟨fun _ => ⟨_, fun w' hb => (HLD.out w' hb).1⟩, fun _ => ⟨_, fun w' hb => (HLD.out w' hb).2⟩, trivial⟩, ?_⟩
      have hb4 : Below w3.heap.size w3 (w3.alloc (.cells (ivCells ix.2).toArray 76)) := (Below.refl _ _).alloc (Nat.le_refl _) _
      have HM4 := Lib.hid (HM3.out.later hb4)
      have HG4 := Lib.hid (Go.heap_alloc_new w3 (.cells (ivCells ix.2).toArray 76))
      have HS3 := Lib.hid (show w.heap.size + 1 ≤ w3.heap.size from HM3.out.size)
      clear hb4 HZ HLD hpc hsc
      generalize w3.alloc (.cells (ivCells ix.2).toArray 76) = w4 at *
      generalize w3.heap.size = q at *
      go_wp2_with fail
      refine Text.wp_text [] (by kernel_rfl) (by kernel_rfl) (fun Q5 hQ5 => ?_)
      have HM5 := Lib.hid (midW_drew HM4.out)
      have HG5 := Lib.hid (show w4.drew.heap[q]? = some (.cells (ivCells ix.2).toArray 76 (0, 0)) from HG4.out)
      generalize w4.drew = w5 at *
      have hpc := HM5.out.book.ints_cell
      have hsc := HM5.out.rec_.seq_
      refine wpList_seg 6 _ _ _ (fun Q6 hQ6 => ?_)
      simp only [List.take_succ_cons, List.take_zero]
      go_wp2_with fail
      try simp only [List.drop_succ_cons, List.drop_zero]
      refine Stop.go (wpList_deleteS intsK rfl rfl rfl (k := seq) rfl HM5.out.book.ints ?_)
      intro w6 hm6 hg6 hs6
      have HM6 := Lib.hid (HM5.out.map_ (HM5.out.book.turn_ints hm6 hg6 (del_ints HM5.out.book.li_ HGD.out.ints seq)) hg6 (by omega) (by omega))
      have HG6 := Lib.hid ((hg6.block q (Array.getElem?_eq_some_iff.1 HG5.out).1 (fun e => by injection e with e; have := HS3.out; omega)).trans HG5.out)
      clear hm6 hg6 hs6 hpc hsc
      generalize hac : Act.put _ _ _ = a9
      simp [Act.put] at hac
      subst hac
      go_wp2_with fail
      refine ⟨by rfl, ?_⟩
      go_wp2_with fail
      refine Text.wp_text [] (by kernel_rfl) (by kernel_rfl) (fun Q7 hQ7 => ?_)
      have HM7 := Lib.hid (midW_drew HM6.out)
      have HG7 := Lib.hid (show w6.drew.heap[q]? = some (.cells (ivCells ix.2).toArray 76 (0, 0)) from HG6.out)
      generalize w6.drew = w7 at *
      have hpc := HM7.out.book.live_cell
      have HK7c := Lib.hid (show ∀ j u, (encK ix.2.1)[j]? = some u → w7.cell? ⟨q, 0 + j, none⟩ = some u from fun j u hu => cell_part (xs := []) (ys := encK ix.2.1) (zs := encK ix.2.2) HG7.out rfl j u hu)
      have HM7c := Lib.hid (show ∀ j u, (encK ix.2.2)[j]? = some u → w7.cell? ⟨q, 33 + j, none⟩ = some u from fun j u hu => by
        have := cell_part (xs := encK ix.2.1) (ys := encK ix.2.2) (zs := []) HG7.out (by rw [List.append_nil]; rfl) j u hu
        rwa [encK_len] at this)
      go_wp2_with (refine stop_at (some 60) rfl ?_)
      refine Stop.go (wpList_load_agg rfl 34 rfl rfl keyTy.ut rfl (cs := encK ix.2.1) (key_size _ _ ix.2.1.2) HK7c.out ?_)
      generalize hac : Act.put _ _ _ = a9
      simp [Act.put] at hac
      subst hac
      refine wpList_seg 1 _ _ _ (fun Q8 hQ8 => ?_)
      simp only [List.take_succ_cons, List.take_zero]
      go_wp2_with fail
      try simp only [List.drop_succ_cons, List.drop_zero]
      refine Stop.go (wpList_load_agg rfl 36 rfl rfl markTy.ut rfl (cs := encK ix.2.2) (mark_size _ _ ix.2.2.2) HM7c.out ?_)
      refine wpList_updateS liveK rfl rfl rfl (k := ix.2.1) (v := kv ix.2.2) rfl rfl HM7.out.book.live ?_
      intro w8 hm8 hg8 hs8
      generalize hac : Act.put _ _ _ = a9
      simp [Act.put] at hac
      subst hac
      have hnd := live_nodup HGD.out
      have HP := Lib.hid (HPO.out _ w8 (write_3 (i := ix) (by rw [HRK.out.1]; simpa using HK.out) (by rw [HRK.out.2.1]; exact HIX.out)) ⟨_, _, _, by
        have := HM7.out.book.turn_live hm8 hg8 (put_live HM7.out.book.lm_ hnd ix.2.1 ix.2.2)
        rw [HRK.out.2.1]
        exact this⟩ (HM7.out.below.grown hg8 (fun k hk => by injection hk with hk; omega)))
      clear hm8 hg8 hs8 hnd
      go_wp2_with fail
      refine ⟨by rfl, ?_⟩
      go_wp2_with fail
      go_ret
      exact HP.out
    · refine wpList_lookupS intsK rfl rfl rfl rfl HM3.out.book.ints zero_intent ?_
      rw [HAS.out]
      refine hQ1 _ _ ⟨Below.refl _ _, ?_⟩
      generalize hac : Act.put _ _ _ = a9
      simp [Act.put] at hac
      subst hac
      refine wpF_at ?_
      refine wpI_one (fun Q3 hQ3 => ?_)
      refine wpList_alloc rfl 76 rfl zero_intent (vs := ivCells (zk32, zk32)) rfl ?_
      refine hQ3 _ _ ⟨HZ.out, ?_⟩
      generalize hac : Act.put _ _ _ = a9
      simp [Act.put] at hac
      subst hac
      refine wpI_seg 1 (by decide) (fun Q4 hQ4 => ?_)
      simp only [List.take_succ_cons, List.take_zero]
      refine wpList_store_agg rfl 76 rfl rfl rfl (store_new2 (g := w3.heap.size) rfl (v := iv ix.2) (vs := ivCells ix.2) rfl (intent_size ix.2) (by rw [ivCells_len, List.size_toArray, ivCells_len]) (ivCells_one _)) ?_
      refine hQ4 _ _ ?_
      simp only [List.drop_succ_cons, List.drop_zero]
      generalize hac : Act.put _ _ _ = a9
      simp [Act.put] at hac
      subst hac
      refine wpI_end ⟨by rfl, ⟨fun _ => ⟨_, fun w' hb => (HLD.out w' hb).1⟩, fun _ => ⟨_, fun w' hb => (HLD.out w' hb).2⟩, trivial⟩, ?_⟩
      have hb4 : Below w3.heap.size w3 (w3.alloc (.cells (ivCells ix.2).toArray 76)) := (Below.refl _ _).alloc (Nat.le_refl _) _
      have HM4 := Lib.hid (HM3.out.later hb4)
      have HG4 := Lib.hid (Go.heap_alloc_new w3 (.cells (ivCells ix.2).toArray 76))
      have HS3 := Lib.hid (show w.heap.size + 1 ≤ w3.heap.size from HM3.out.size)
      clear hb4 HZ HLD hpc hsc
      generalize w3.alloc (.cells (ivCells ix.2).toArray 76) = w4 at *
      generalize w3.heap.size = q at *
      go_wp2_with fail
      refine Text.wp_text [] (by kernel_rfl) (by kernel_rfl) (fun Q5 hQ5 => ?_)
      have HM5 := Lib.hid (midW_drew HM4.out)
      have HG5 := Lib.hid (show w4.drew.heap[q]? = some (.cells (ivCells ix.2).toArray 76 (0, 0)) from HG4.out)
      generalize w4.drew = w5 at *
      have hpc := HM5.out.book.ints_cell
      have hsc := HM5.out.rec_.seq_
      refine wpList_seg 6 _ _ _ (fun Q6 hQ6 => ?_)
      simp only [List.take_succ_cons, List.take_zero]
      go_wp2_with fail
      try simp only [List.drop_succ_cons, List.drop_zero]
      refine Stop.go (wpList_deleteS intsK rfl rfl rfl (k := seq) rfl HM5.out.book.ints ?_)
      intro w6 hm6 hg6 hs6
      have HM6 := Lib.hid (HM5.out.map_ (HM5.out.book.turn_ints hm6 hg6 (del_ints HM5.out.book.li_ HGD.out.ints seq)) hg6 (by omega) (by omega))
      have HG6 := Lib.hid ((hg6.block q (Array.getElem?_eq_some_iff.1 HG5.out).1 (fun e => by injection e with e; have := HS3.out; omega)).trans HG5.out)
      clear hm6 hg6 hs6 hpc hsc
      generalize hac : Act.put _ _ _ = a9
      simp [Act.put] at hac
      subst hac
      go_wp2_with fail
      refine ⟨by rfl, ?_⟩
      go_wp2_with fail
      refine Text.wp_text [] (by kernel_rfl) (by kernel_rfl) (fun Q7 hQ7 => ?_)
      have HM7 := Lib.hid (midW_drew HM6.out)
      have HG7 := Lib.hid (show w6.drew.heap[q]? = some (.cells (ivCells ix.2).toArray 76 (0, 0)) from HG6.out)
      generalize w6.drew = w7 at *
      have hpc := HM7.out.book.live_cell
      have HK7c := Lib.hid (show ∀ j u, (encK ix.2.1)[j]? = some u → w7.cell? ⟨q, 0 + j, none⟩ = some u from fun j u hu => cell_part (xs := []) (ys := encK ix.2.1) (zs := encK ix.2.2) HG7.out rfl j u hu)
      have HM7c := Lib.hid (show ∀ j u, (encK ix.2.2)[j]? = some u → w7.cell? ⟨q, 33 + j, none⟩ = some u from fun j u hu => by
        have := cell_part (xs := encK ix.2.1) (ys := encK ix.2.2) (zs := []) HG7.out (by rw [List.append_nil]; rfl) j u hu
        rwa [encK_len] at this)
      go_wp2_with (refine stop_at (some 60) rfl ?_)
      refine Stop.go (wpList_load_agg rfl 34 rfl rfl keyTy.ut rfl (cs := encK ix.2.1) (key_size _ _ ix.2.1.2) HK7c.out ?_)
      generalize hac : Act.put _ _ _ = a9
      simp [Act.put] at hac
      subst hac
      refine wpList_seg 1 _ _ _ (fun Q8 hQ8 => ?_)
      simp only [List.take_succ_cons, List.take_zero]
      go_wp2_with fail
      try simp only [List.drop_succ_cons, List.drop_zero]
      refine Stop.go (wpList_load_agg rfl 36 rfl rfl markTy.ut rfl (cs := encK ix.2.2) (mark_size _ _ ix.2.2.2) HM7c.out ?_)
      refine wpList_updateS liveK rfl rfl rfl (k := ix.2.1) (v := kv ix.2.2) rfl rfl HM7.out.book.live ?_
      intro w8 hm8 hg8 hs8
      generalize hac : Act.put _ _ _ = a9
      simp [Act.put] at hac
      subst hac
      have hnd := live_nodup HGD.out
      have HP := Lib.hid (HPO.out _ w8 (write_3 (i := ix) (by rw [HRK.out.1]; simpa using HK.out) (by rw [HRK.out.2.1]; exact HIX.out)) ⟨_, _, _, by
        have := HM7.out.book.turn_live hm8 hg8 (put_live HM7.out.book.lm_ hnd ix.2.1 ix.2.2)
        rw [HRK.out.2.1]
        exact this⟩ (HM7.out.below.grown hg8 (fun k hk => by injection hk with hk; omega)))
      clear hm8 hg8 hs8 hnd
      go_wp2_with fail
      refine ⟨by rfl, ?_⟩
      go_wp2_with fail
      go_ret
      exact HP.out
  have HN3 := Lib.hid hk3
  rcases Bool.eq_false_or_eq_true (kind == 4) with hk4 | hk4
  · have HK := Lib.hid hk4
    go_wp2_with fail
    refine Text.wp_text [] (by kernel_rfl) (by kernel_rfl) (fun Q' hQ' => ?_)
    have HM3 := Lib.hid (midW_drew HMW.out)
    generalize w2.drew = w3 at *
    have hpc := HM3.out.book.live_cell
    go_wp2_with (refine stop_at (some 70) rfl ?_)
    refine Stop.go (wpList_load_agg rfl 34 rfl rfl keyTy.ut rfl (cs := encK kx) (key_size _ _ kx.2) HM3.out.rec_.key_ ?_)
    generalize hac : Act.put _ _ _ = a9
    simp [Act.put] at hac
    subst hac
    refine wpList_seg 1 _ _ _ (fun Q2 hQ2 => ?_)
    simp only [List.take_succ_cons, List.take_zero]
    go_wp2_with fail
    try simp only [List.drop_succ_cons, List.drop_zero]
    refine Stop.go (wpList_load_agg rfl 36 rfl rfl markTy.ut rfl (cs := encK mx) (mark_size _ _ mx.2) HM3.out.rec_.mark_ ?_)
    refine wpList_updateS liveK rfl rfl rfl (k := kx) (v := kv mx) rfl rfl HM3.out.book.live ?_
    intro w4 hm4 hg4 hs4
    generalize hac : Act.put _ _ _ = a9
    simp [Act.put] at hac
    subst hac
    have HP := Lib.hid (HPO.out _ w4 (write_4 (by rw [HRK.out.1]; simpa using HK.out)) ⟨_, _, _, HM3.out.book.turn_live hm4 hg4 (by rw [HRK.out.2.2.2.1, HRK.out.2.2.2.2]; exact put_live HM3.out.book.lm_ (live_nodup HGD.out) kx mx)⟩
      (HM3.out.below.grown hg4 (fun k hk => by injection hk with hk; omega)))
    clear hm4 hg4 hs4
    go_wp2_with fail
    refine ⟨by rfl, ?_⟩
    go_wp2_with fail
    go_ret
    exact HP.out
  have HN4 := Lib.hid hk4
  rcases Bool.eq_false_or_eq_true (kind == 5) with hk5 | hk5
  · have HK := Lib.hid hk5
    go_wp2_with fail
    refine Text.wp_text [] (by kernel_rfl) (by kernel_rfl) (fun Q' hQ' => ?_)
    have HM3 := Lib.hid (midW_drew HMW.out)
    generalize w2.drew = w3 at *
    have hpc := HM3.out.book.pins_cell
    go_wp2_with (refine stop_at (some 80) rfl ?_)
    refine Stop.go (wpList_load_agg rfl 34 rfl rfl keyTy.ut rfl (cs := encK kx) (key_size _ _ kx.2) HM3.out.rec_.key_ ?_)
    refine wpList_updateS pinsK rfl rfl rfl (k := kx) (v := .int .i64 1) rfl rfl HM3.out.book.pins ?_
    intro w4 hm4 hg4 hs4
    generalize hac : Act.put _ _ _ = a9
    simp [Act.put] at hac
    subst hac
    have HP := Lib.hid (HPO.out _ w4 (write_5 (by rw [HRK.out.1]; simpa using HK.out)) ⟨_, _, _, HM3.out.book.turn_pins hm4 hg4 (by rw [HRK.out.2.2.2.1]; exact put_pins HM3.out.book.lp_ (pins_nodup HGD.out) kx)⟩
      (HM3.out.below.grown hg4 (fun k hk => by injection hk with hk; omega)))
    clear hm4 hg4 hs4
    go_wp2_with fail
    refine ⟨by rfl, ?_⟩
    go_wp2_with fail
    go_ret
    exact HP.out
  have HN5 := Lib.hid hk5
  rcases Bool.eq_false_or_eq_true (kind == 6) with hk6 | hk6
  · have HK := Lib.hid hk6
    go_wp2_with fail
    refine Text.wp_text [] (by kernel_rfl) (by kernel_rfl) (fun Q' hQ' => ?_)
    have HM3 := Lib.hid (midW_drew HMW.out)
    generalize w2.drew = w3 at *
    have hpc := HM3.out.book.pins_cell
    go_wp2_with (refine stop_at (some 88) rfl ?_)
    refine Stop.go (wpList_load_agg rfl 34 rfl rfl keyTy.ut rfl (cs := encK kx) (key_size _ _ kx.2) HM3.out.rec_.key_ ?_)
    refine wpList_deleteS pinsK rfl rfl rfl (k := kx) rfl HM3.out.book.pins ?_
    intro w4 hm4 hg4 hs4
    generalize hac : Act.put _ _ _ = a9
    simp [Act.put] at hac
    subst hac
    have HP := Lib.hid (HPO.out _ w4 (write_6 (by rw [HRK.out.1]; simpa using HK.out)) ⟨_, _, _, HM3.out.book.turn_pins hm4 hg4 (by rw [HRK.out.2.2.2.1]; exact del_pins HM3.out.book.lp_ (pins_nodup HGD.out) kx)⟩
      (HM3.out.below.grown hg4 (fun k hk => by injection hk with hk; omega)))
    clear hm4 hg4 hs4
    go_wp2_with fail
    refine ⟨by rfl, ?_⟩
    go_wp2_with fail
    go_ret
    exact HP.out
  have HN6 := Lib.hid hk6
  rcases Bool.eq_false_or_eq_true (kind == 7) with hk7 | hk7
  · have HK := Lib.hid hk7
    have hksl := HMW.out.rec_.keys_
    have hcl := HCL.out
    go_wp2_with (refine stop_at (some 92) rfl ?_)
    refine Stop.go (wpList_val rfl (v := .slice A n c) (exec_load rfl rfl (load_slice Tryz.underlying28 hksl)) ?_)
    clear hksl
    generalize hac : Act.put _ _ _ = a9
    simp [Act.put] at hac
    subst hac
    go_wp2_with fail
    go_loopw [94] (fun v94 wr => ∃ i : Nat, i ≤ n ∧ v94 = .int .i64 i ∧ Hid (∃ lm', MidW g { b with live := (keys.take i).foldl (fun l k => outL l (k32 k)) b.live } kind seq kx mx keys (.slice A n c) w wr lm' lp li)) (fun v94 _ => n - (intOf v94).toNat)
    case atStart => exact ⟨0, Nat.zero_le _, rfl, lm, HMW.out⟩
    case round =>
      obtain ⟨i, hi, rfl, HX⟩ := hrel
      by_cases hlt : i < n
      · obtain ⟨lm', hMW⟩ := HX.out
        have HMW2 := Lib.hid hMW
        have hlt2 : i < keys.length := by rw [← HN.out]; exact hlt
        obtain ⟨b1, o1, rfl, _, _, l1, e1⟩ := keys_at hMW.keys_ hlt2
        have HE1 := Lib.hid e1
        obtain ⟨kq, hkq⟩ : ∃ kq : K32, kq.1 = keys[i] := ⟨⟨keys[i], l1⟩, rfl⟩
        rw [← hkq] at HE1
        have HKQ := Lib.hid hkq
        clear hMW e1 hkq HX
        go_wp2_with (refine stop_at (some 97) rfl ?_)
        refine Stop.go (wpList_load_agg rfl 34 rfl rfl keyTy.ut rfl (cs := encK kq) (key_size _ _ kq.2) HE1.out ?_)
        refine wpList_alloc rfl 34 rfl zero_key rfl ?_
        refine wpList_store_agg rfl 34 rfl rfl rfl (store_new2 (g := wr.heap.size) rfl (v := kv kq) (vs := encK kq) rfl (key_size _ _ kq.2) (by rw [encK_len]; simp [hkCells_length, z32_len]) (hkCells_one _ _)) ?_
        have HM3 := Lib.hid (HMW2.out.later (w3 := wr.alloc (.cells (encK kq).toArray 34)) ((Below.refl _ _).alloc (Nat.le_refl _) _))
        have HG3 := Lib.hid (row_cells (vs := encK kq) (Go.heap_alloc_new wr (.cells (encK kq).toArray 34)))
        generalize wr.alloc (.cells (encK kq).toArray 34) = w3 at *
        generalize hac : Act.put _ _ _ = a9
        simp [Act.put] at hac
        subst hac
        go_wp2_with fail
        refine Text.wp_text [] (by kernel_rfl) (by kernel_rfl) (fun Q' hQ' => ?_)
        have HM4 := Lib.hid (midW_drew HM3.out)
        have HG4 := Lib.hid (show ∀ j u, (encK kq)[j]? = some u → w3.drew.cell? ⟨wr.heap.size, 0 + j, none⟩ = some u from HG3.out)
        generalize w3.drew = w4 at *
        have hpc := HM4.out.book.live_cell
        go_wp2_with (refine stop_at (some 102) rfl ?_)
        refine Stop.go (wpList_load_agg rfl 34 rfl rfl keyTy.ut rfl (cs := encK kq) (key_size _ _ kq.2) HG4.out ?_)
        refine wpList_deleteS liveK rfl rfl rfl (k := kq) rfl HM4.out.book.live ?_
        intro w5 hm5 hg5 hs5
        have hnd : (((keys.take i).foldl (fun l k => outL l (k32 k)) b.live).map (·.1)).Nodup := ((foldOut_sub _ _).map _).nodup (live_nodup HGD.out)
        have HP5 := Lib.hid (HM4.out.map_ (HM4.out.book.turn_live hm5 hg5 (del_live HM4.out.book.lm_ hnd kq)) hg5 (Nat.le_refl _) (by omega))
        clear hm5 hg5 hs5 hpc hnd
        generalize hac : Act.put _ _ _ = a9
        simp [Act.put] at hac
        subst hac
        go_wp2_with fail
        refine ⟨by rfl, ?_⟩
        go_wp2_with fail
        go_roundw
        case rel =>
          refine ⟨i + 1, by omega, by go_num, ?_⟩
          have hlt2 : i < keys.length := by rw [← HN.out]; exact hlt
          have := HP5.out
          rw [List.take_succ_eq_append_getElem hlt2, List.foldl_append]
          simp only [List.foldl_cons, List.foldl_nil]
          rw [← HKQ.out, k32_self]
          exact ⟨_, this⟩
        case measure => simp [intOf]; omega
      · have hin : i = n := by omega
        subst hin
        obtain ⟨lm', hMW⟩ := HX.out
        have hB : BookIn wr g { b with live := R.keys.foldl (fun l k => outL l (k32 k)) b.live } lm' lp li := by
          have := hMW.book
          rw [HN.out, List.take_length] at this
          rw [HRK.out.2.2.1]
          exact this
        have HP := Lib.hid (HPO.out _ wr (write_7 (by rw [HRK.out.1]; simpa using HK.out)) ⟨_, _, _, hB⟩ hMW.below)
        clear hMW
        go_wp2_with fail
        go_ret
        exact HP.out
  have HN7 := Lib.hid hk7
  exfalso
  obtain ⟨_, _, _, _, q1, q2⟩ := HK7.out
  rw [HRK.out.1] at q1 q2
  have n1 : ¬ kind = 1 := by simpa using HN1.out
  have n2 : ¬ kind = 2 := by simpa using HN2.out
  have n3 : ¬ kind = 3 := by simpa using HN3.out
  have n4 : ¬ kind = 4 := by simpa using HN4.out
  have n5 : ¬ kind = 5 := by simpa using HN5.out
  have n6 : ¬ kind = 6 := by simpa using HN6.out
  have n7 : ¬ kind = 7 := by simpa using HN7.out
  omega
end Go.Proofs.YtplbcbamnjnhlaaGreatDoor
