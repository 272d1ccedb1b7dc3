import Derived.Test.YtplbcbamnjnhlaaGreatDoorMB11
namespace Go.Proofs.YtplbcbamnjnhlaaGreatDoor
open Go.RowKit

def zeroD : RecD := ⟨0, 0, z32, 0, z32, 0, []⟩
def seqOk (r : RecD) : Bool := decide (0 ≤ r.seq ∧ r.seq ≤ 1099511627776)
def markOk (r : RecD) : Bool := decide (0 ≤ r.ms ∧ r.ms ≤ 1048576)
def onlyD (r : RecD) : RecD :=
  if r.kind = 2 then ⟨2, r.seq, r.kh, r.kk, r.mh, r.ms, []⟩ else if r.kind = 3 then ⟨3, r.seq, z32, 0, z32, 0, []⟩
  else if r.kind = 4 then ⟨4, 0, r.kh, r.kk, r.mh, r.ms, []⟩ else if r.kind = 5 ∨ r.kind = 6 then ⟨r.kind, 0, r.kh, r.kk, z32, 0, []⟩
  else if r.kind = 7 then ⟨7, 0, z32, 0, z32, 0, r.keys⟩ else ⟨r.kind, 0, z32, 0, z32, 0, []⟩
def onlyOk (r : RecD) : Bool :=
  if r.kind = 1 then true else if r.kind = 2 then seqOk r && markOk r && kOk r.kk else if r.kind = 3 then seqOk r
  else if r.kind = 4 then markOk r && kOk r.kk else if r.kind = 5 ∨ r.kind = 6 then kOk r.kk else if r.kind = 7 then risingB r.keys else false
theorem build_rec0 (w : World) : (Instr.build 38 #[]).run Tryz.prog w = .ok (rv zeroD (.slice none 0 0)) w := by
  unfold Instr.build
  simp only [Sem.run_bind, zero_rec, Result.andThen_ok, recv_cells, run_underlying recTy_u, recTy, fields_rec]
  rfl
theorem build_recK (k : Int) (w : World) : (Instr.build 38 #[(0, .int .i64 k)]).run Tryz.prog w = .ok (recv k 0 z32 0 z32 0 (.slice none 0 0)) w := by
  unfold Instr.build
  simp only [Sem.run_bind, zero_rec, Result.andThen_ok, recv_cells, run_underlying recTy_u, recTy, fields_rec]
  rfl
section
variable (k s : Int) (kh : List UInt8) (kk : Int) (mh : List UInt8) (ms : Int) (v : Value)
theorem row_seq (s' : Int) : ((recCells k s kh kk mh ms v).toArray.toList.take 1 ++ [Value.int .i64 s'] ++ (recCells k s kh kk mh ms v).toArray.toList.drop (1 + 1)).toArray = (recCells k s' kh kk mh ms v).toArray := rfl
theorem row_key (kh' : List UInt8) (kk' : Int) (h : kh.length = 32) (h' : kh'.length = 32) : ((recCells k s kh kk mh ms v).toArray.toList.take 2 ++ hkCells kh' kk' ++ (recCells k s kh kk mh ms v).toArray.toList.drop (2 + (hkCells kh' kk').length)).toArray = (recCells k s kh' kk' mh ms v).toArray := by
  have e : recCells k s kh kk mh ms v = ([.int .i64 k, .int .i64 s] ++ hkCells kh kk) ++ (hkCells mh ms ++ [v]) := rec_split2
  have l : ([.int .i64 k, .int .i64 s] ++ hkCells kh kk : List Value).length = 2 + (hkCells kh' kk').length := by simp [hkCells_length, h, h']
  have e2 : (recCells k s kh kk mh ms v).drop (2 + (hkCells kh' kk').length) = hkCells mh ms ++ [v] := by rw [e, ← l, List.drop_left]
  simp only [e2]
  simp [recCells]
theorem row_mark (mh' : List UInt8) (ms' : Int) (hk : kh.length = 32) (h : mh.length = 32) (h' : mh'.length = 32) : ((recCells k s kh kk mh ms v).toArray.toList.take 35 ++ hkCells mh' ms' ++ (recCells k s kh kk mh ms v).toArray.toList.drop (35 + (hkCells mh' ms').length)).toArray = (recCells k s kh kk mh' ms' v).toArray := by
  have e : recCells k s kh kk mh ms v = ([.int .i64 k, .int .i64 s] ++ hkCells kh kk) ++ (hkCells mh ms ++ [v]) := rec_split2
  have l0 : ([.int .i64 k, .int .i64 s] ++ hkCells kh kk : List Value).length = 35 := by simp [hkCells_length, hk]
  have e1 : (recCells k s kh kk mh ms v).take 35 = [.int .i64 k, .int .i64 s] ++ hkCells kh kk := by rw [e, ← l0, List.take_left]
  have e' : recCells k s kh kk mh ms v = (([.int .i64 k, .int .i64 s] ++ hkCells kh kk) ++ hkCells mh ms) ++ [v] := by rw [e]; simp
  have l : (([.int .i64 k, .int .i64 s] ++ hkCells kh kk) ++ hkCells mh ms : List Value).length = 35 + (hkCells mh' ms').length := by rw [List.length_append, l0, hkCells_length, hkCells_length, h, h']
  have e2 : (recCells k s kh kk mh ms v).drop (35 + (hkCells mh' ms').length) = [v] := by rw [e', ← l, List.drop_left]
  simp only [e1, e2]
  simp [recCells]
theorem row_keys (v' : Value) (hk : kh.length = 32) (h : mh.length = 32) : ((recCells k s kh kk mh ms v).toArray.toList.take 68 ++ [v'] ++ (recCells k s kh kk mh ms v).toArray.toList.drop (68 + 1)).toArray = (recCells k s kh kk mh ms v').toArray := by
  have e' : recCells k s kh kk mh ms v = (([.int .i64 k, .int .i64 s] ++ hkCells kh kk) ++ hkCells mh ms) ++ [v] := by simp [recCells]
  have l : (([.int .i64 k, .int .i64 s] ++ hkCells kh kk) ++ hkCells mh ms : List Value).length = 68 := by simp [hkCells_length, hk, h]
  have e1 : (recCells k s kh kk mh ms v).take 68 = ([.int .i64 k, .int .i64 s] ++ hkCells kh kk) ++ hkCells mh ms := by rw [e', ← l, List.take_left]
  have e2 : (recCells k s kh kk mh ms v).drop (68 + 1) = [] := List.drop_eq_nil_of_le (by rw [recCells_length, hk, h]; exact Nat.le_refl _)
  simp only [e1, e2]
  simp [recCells]
end
theorem store_field {P : Program} (w : World) {g off : Nat} {ty : TypeId} {vs : List Value} {v : Value} (hv : v.cells = vs.toArray) (hi : (P.info? ty).map (·.size) = some vs.length) {cur new : Array Value} {t : TypeId} (hg : w.heap[g]? = some (.cells cur t (0, 0)))
    (hl : off + vs.length ≤ cur.size) (h1 : ∀ u ∈ vs, u.oneCell' = true) (hn : (cur.toList.take off ++ vs ++ cur.toList.drop (off + vs.length)).toArray = new) :
    ∃ w', (Instr.storeAt ty (.pointer (some ⟨g, off, none⟩)) v).run P w = .ok () w' ∧ w'.heap[g]? = some (.cells new t (0, 0)) ∧ (∀ k, k ≠ g → w'.heap[k]? = w.heap[k]?) ∧ ∀ B w0, Below B w0 w → B ≤ g → Below B w0 w' := by
  subst hn
  exact ⟨_, store_agg hv hi hg hl h1, setRow_heap _ _ _ _ _ _ hg, fun k hk => setRow_other _ _ _ _ hk, fun B w0 hb hB => below_setRow hb hB _⟩
theorem ret_rec {fn : Func} {p u : Tmp} {x : Value} {Q : Ending → World → Prop} (h : fn.results = #[.cell p 38, .tmp u]) {a : Act} {w : World} {g : Nat} {k s : Int} {kh : List UInt8} {kk : Int} {mh : List UInt8} {ms : Int} {v : Value} {fr : Nat × Nat} {t : TypeId} (l1 : kh.length = 32) (l2 : mh.length = 32) (hd : a.defers = [])
    (hp : a.tmps.getD p undef = .pointer (some ⟨g, 0, none⟩)) (hu : a.tmps.getD u undef = x) (hg : w.heap[g]? = some (.cells (recCells k s kh kk mh ms v).toArray t fr)) (hq : Q (.returned (.tuple #[recv k s kh kk mh ms v, x])) w) : bodyPost Tryz.prog fn Q .ret a w := by
  refine bodyPost_ret (v := .tuple #[recv k s kh kk mh ms v, x]) ?_ hd hq
  rw [results_cell_tmp h, hp, hu]
  simp [asAddr, Result.andThen, run_loadVar_row w g t 38 (recCells k s kh kk mh ms v).toArray fr _ hg recTy_u rfl (rec_size k s kh kk mh ms v l1 l2)]
def OnlyTo (w : World) (r : RecD) (B : Nat) (e : Ending) (w' : World) : Prop :=
  ∃ v, e = .returned (.tuple #[rv (onlyD r) v, .bool (onlyOk r)]) ∧ SlR eKey w' B v (onlyD r).keys ∧ Below w.heap.size w w'
set_option maxRecDepth 100000 in
set_option maxHeartbeats 40000000 in
theorem only_any (r : RecD) (A : Option Addr) (n c B : Nat) (w : World) (hr : Hs r) (h1 : SlR eKey w B (.slice A n c) r.keys) (hB : B ≤ w.heap.size) :
    Calls Tryz.prog 74 #[rv r (.slice A n c)] w (OnlyTo w r B) := by
  obtain ⟨kind, seq, kh, kk, mh, ms, keys⟩ := r
  obtain ⟨hk, hm⟩ := hr
  simp only at hk hm h1
  obtain ⟨b1, hb1⟩ : ∃ b, b = decide (0 ≤ seq) := ⟨_, rfl⟩
  obtain ⟨b2, hb2⟩ : ∃ b, b = decide (seq ≤ 1099511627776) := ⟨_, rfl⟩
  obtain ⟨b3, hb3⟩ : ∃ b, b = decide (0 ≤ ms) := ⟨_, rfl⟩
  obtain ⟨b4, hb4⟩ : ∃ b, b = decide (ms ≤ 1048576) := ⟨_, rfl⟩
  have HSQ := Lib.hid (show seqOk ⟨kind, seq, kh, kk, mh, ms, keys⟩ = (b1 && b2) by rw [hb1, hb2]; unfold seqOk; by_cases h : 0 ≤ seq <;> simp [h])
  have HMK := Lib.hid (show markOk ⟨kind, seq, kh, kk, mh, ms, keys⟩ = (b3 && b4) by rw [hb3, hb4]; unfold markOk; by_cases h : 0 ≤ ms <;> simp [h])
  have hb1' := hb1.symm
  have hb3' := hb3.symm
  have HB2 := Lib.hid hb2
  have HB4 := Lib.hid hb4
  clear hb1 hb2 hb3 hb4
  have hr1 : RecAt ((w.alloc (.cells (recCells kind seq kh kk mh ms (.slice A n c)).toArray 38)).alloc (.cells (recCells 0 0 z32 0 z32 0 (.slice none 0 0)).toArray 38)) w.heap.size 38 kind seq kh kk mh ms (.slice A n c) :=
    (RecAt.new w hk hm).later ((Below.refl _ _).alloc (Nat.le_refl _) _)
  have hg2 := Go.heap_alloc2_new w (.cells (recCells kind seq kh kk mh ms (.slice A n c)).toArray 38) (.cells (recCells 0 0 z32 0 z32 0 (.slice none 0 0)).toArray 38)
  have hbw : Below w.heap.size w ((w.alloc (.cells (recCells kind seq kh kk mh ms (.slice A n c)).toArray 38)).alloc (.cells (recCells 0 0 z32 0 z32 0 (.slice none 0 0)).toArray 38)) :=
    ((Below.refl _ _).alloc (Nat.le_refl _) _).alloc (Nat.le_of_lt (by show _ < (Array.push _ _).size; rw [Array.size_push]; exact Nat.lt_succ_self _)) _
  go_enter Tryz.func74, Tryz.ntmps74
  go_wp2_with (refine stop_at (some 1) rfl ?_)
  refine Stop.go (wpList_box rfl _ rfl rfl rfl (wpList_alloc rfl _ rfl zero_rec rfl ?_))
  rw [show (w.alloc (.cells (recCells kind seq kh kk mh ms (.slice A n c)).toArray 38)).heap.size = w.heap.size + 1 from Array.size_push _]
  have hs2 : ((w.alloc (.cells (recCells kind seq kh kk mh ms (.slice A n c)).toArray 38)).alloc (.cells (recCells 0 0 z32 0 z32 0 (.slice none 0 0)).toArray 38)).heap.size = w.heap.size + 2 := by
    show (Array.push (Array.push _ _) _).size = _
    rw [Array.size_push, Array.size_push]
  generalize ((w.alloc (.cells (recCells kind seq kh kk mh ms (.slice A n c)).toArray 38)).alloc (.cells (recCells 0 0 z32 0 z32 0 (.slice none 0 0)).toArray 38)) = w1 at *
  have c0 := hr1.kind_
  go_wp2_with (refine stop_at (some 7) rfl ?_)
  refine Stop.go (wpList_seg 2 _ _ _ (fun Q' hQ' => ?_))
  simp only [List.take_succ_cons, List.take_zero]
  go_wp2_with fail
  try simp only [List.drop_succ_cons, List.drop_zero]
  refine Stop.go (wpList_build rfl 38 rfl (vs := #[(0, .int .i64 kind)]) (by rfl) (build_recK kind _) ?_)
  refine wpList_alloc rfl 38 rfl zero_rec rfl ?_
  refine wpList_store_agg rfl 38 rfl rfl rfl (store_new2 (g := w1.heap.size) rfl (recv_cells ..) (rec_size _ _ _ _ _ _ _ rfl rfl) rfl (recCells_one _ _ _ _ _ _ _ _ _)) ?_
  have hb2 : Below w1.heap.size w1 (w1.alloc (.cells (recCells kind 0 z32 0 z32 0 (.slice none 0 0)).toArray 38)) := (Below.refl _ _).alloc (Nat.le_refl _) _
  have hg3 := Go.heap_alloc_new w1 (.cells (recCells kind 0 z32 0 z32 0 (.slice none 0 0)).toArray 38)
  have HR1 := Lib.hid (hr1.later hb2)
  have HBW := Lib.hid (hbw.trans (hb2.mono hbw.size))
  have HG2 := Lib.hid ((hb2.block _ (Array.getElem?_eq_some_iff.1 hg2).1).trans hg2)
  have HK1 := Lib.hid (h1.fut HBW.out hB (Nat.le_refl B))
  rw [hs2] at hg3 ⊢
  have HG3 := Lib.hid hg3
  have HSB := Lib.hid hB
  clear hr1 c0 hbw hg2 hg3 hb2 hs2 h1 hB
  generalize w1.alloc (.cells (recCells kind 0 z32 0 z32 0 (.slice none 0 0)).toArray 38) = w2 at *
  have c0 := HR1.out.kind_
  have c1 := HR1.out.seq_
  have c67 := HR1.out.size_
  have c68 := HR1.out.keys_
  go_wp2_with (refine stop_at (some 10) rfl ?_)
  refine Stop.go (wpList_seg 4 _ _ _ (fun Q' hQ' => ?_))
  simp only [List.take_succ_cons, List.take_zero]
  go_wp2_with fail
  try simp only [List.drop_succ_cons, List.drop_zero]
  refine Stop.go (wpList_gd (b := b1) (v := .pointer (some ⟨w.heap.size, 1, none⟩)) (by cases b1 <;> rfl) (fun _ => rfl) ?_)
  refine wpList_gd (b := b1) (v := .int .i64 seq) (by cases b1 <;> rfl) (fun h => by subst h; exact exec_load rfl rfl (load_int Tryz.underlying3 c1)) ?_
  refine wpList_gd (b := b1) (v := .bool b2) (by cases b1 <;> rfl) (fun h => by subst h; rw [HB2.out]; rfl) ?_
  refine wpList_val rfl (v := .bool (b1 && b2)) (by cases b1 <;> rfl) ?_
  refine wpList_val rfl (v := .bool (b1 && b2)) (by rfl) ?_
  generalize hac : Act.put _ _ _ = a9
  simp [Act.put] at hac
  subst hac
  generalize hx14 : (if b1 = true then Value.pointer (some ⟨w.heap.size, 1, none⟩) else undef) = x14
  generalize hx15 : (if b1 = true then Value.int .i64 seq else undef) = x15
  generalize hx16 : (if b1 = true then Value.bool b2 else undef) = x16
  generalize (b1 && b2) = sq at *
  clear hx14 hx15 hx16 hb1' HB2
  go_wp2_with (refine stop_at (some 18) rfl ?_)
  refine Stop.go (wpList_seg 5 _ _ _ (fun Q' hQ' => ?_))
  simp only [List.take_succ_cons, List.take_zero]
  go_wp2_with fail
  try simp only [List.drop_succ_cons, List.drop_zero]
  refine Stop.go (wpList_gd (b := b3) (v := .pointer (some ⟨w.heap.size, 35, none⟩)) (by cases b3 <;> rfl) (fun _ => rfl) ?_)
  refine wpList_gd (b := b3) (v := .pointer (some ⟨w.heap.size, 67, none⟩)) (by cases b3 <;> rfl) (fun h => by subst h; rfl) ?_
  refine wpList_gd (b := b3) (v := .int .i64 ms) (by cases b3 <;> rfl) (fun h => by subst h; exact exec_load rfl rfl (load_int Tryz.underlying3 c67)) ?_
  refine wpList_gd (b := b3) (v := .bool b4) (by cases b3 <;> rfl) (fun h => by subst h; rw [HB4.out]; rfl) ?_
  refine wpList_val rfl (v := .bool (b3 && b4)) (by cases b3 <;> rfl) ?_
  refine wpList_val rfl (v := .bool (b3 && b4)) (by rfl) ?_
  generalize hac : Act.put _ _ _ = a9
  simp [Act.put] at hac
  subst hac
  generalize hx23 : (if b3 = true then Value.pointer (some ⟨w.heap.size, 35, none⟩) else undef) = x23
  generalize hx24 : (if b3 = true then Value.pointer (some ⟨w.heap.size, 67, none⟩) else undef) = x24
  generalize hx25 : (if b3 = true then Value.int .i64 ms else undef) = x25
  generalize hx26 : (if b3 = true then Value.bool b4 else undef) = x26
  generalize (b3 && b4) = mk at *
  clear hx23 hx24 hx25 hx26 hb3' HB4
  by_cases k1 : kind = 1
  · subst k1
    have HO := Lib.hid (show onlyD ⟨1, seq, kh, kk, mh, ms, keys⟩ = ⟨1, 0, z32, 0, z32, 0, []⟩ from by unfold onlyD; simp)
    have HOK := Lib.hid (show onlyOk ⟨1, seq, kh, kk, mh, ms, keys⟩ = (true) from by unfold onlyOk; simp)
    go_wp2_with (refine stop_at (some 32) rfl ?_)
    refine Stop.go (wpList_load_agg rfl 38 rfl rfl recTy_u rfl (rec_size _ _ _ _ _ _ _ rfl rfl) (row_cells HG3.out) ?_)
    refine wpList_store_agg rfl 38 rfl rfl rfl (store_row (recv_cells ..) (rec_size _ _ _ _ _ _ _ rfl rfl) HG2.out (by simp [recCells_length, z32_len]) (recCells_one _ _ _ _ _ _ _ _ _)) ?_
    have HBX := HBW
    go_wp2_with fail
    refine ret_rec rfl rfl rfl rfl rfl rfl (setRow_heap _ _ _ _ _ _ HG2.out) ?_
    exact ⟨.slice none 0 0, by rw [HO.out, HOK.out]; rfl, by rw [HO.out]; exact SlR.nil_, below_setRow HBX.out (Nat.le_succ _) _⟩
  by_cases k2 : kind = 2
  · subst k2
    have HO := Lib.hid (show onlyD ⟨2, seq, kh, kk, mh, ms, keys⟩ = ⟨2, seq, kh, kk, mh, ms, []⟩ from by unfold onlyD; simp)
    have HOK := Lib.hid (show onlyOk ⟨2, seq, kh, kk, mh, ms, keys⟩ = (sq && mk && kOk kk) from by unfold onlyOk; simp [HSQ.out, HMK.out])
    go_wp2_with fail
    refine TextI.wp_inv [7, 9, 11] [1, 3, 5] [] (fun w' => w'.heap[w.heap.size]? = some (.cells (recCells 2 seq kh kk mh ms (.slice A n c)).toArray 38 (0, 0))) HR1.out.blk (by kernel_rfl) (by kernel_rfl) ?_
    refine TextI.wpS_seg 3 _ _ _ _ (by decide) (fun Q2 hQ2 => ?_)
    simp only [List.take_succ_cons, List.take_zero]
    go_wp2_with fail
    try simp only [List.drop_succ_cons, List.drop_zero]
    refine TextI.wpS_seg 1 _ _ _ _ (by decide) (fun Q2 hQ2 => ?_)
    simp only [List.take_succ_cons, List.take_zero]
    refine wpList_load_agg rfl 34 rfl rfl keyTy.ut rfl (key_size _ _ hk) HR1.out.key_ ?_
    refine hQ2 _ _ ?_
    simp only [List.drop_succ_cons, List.drop_zero]
    generalize hac : Act.put _ _ _ = a9
    simp [Act.put] at hac
    subst hac
    refine TextI.wpS_seg 1 _ _ _ _ (by decide) (fun Q2 hQ2 => ?_)
    simp only [List.take_succ_cons, List.take_zero]
    go_wp2_with fail
    try simp only [List.drop_succ_cons, List.drop_zero]
    refine TextI.wpS_seg 1 _ _ _ _ (by decide) (fun Q2 hQ2 => ?_)
    simp only [List.take_succ_cons, List.take_zero]
    refine wpList_load_agg rfl 36 rfl rfl markTy.ut rfl (mark_size _ _ hm) HR1.out.mark_ ?_
    refine hQ2 _ _ ?_
    simp only [List.drop_succ_cons, List.drop_zero]
    generalize hac : Act.put _ _ _ = a9
    simp [Act.put] at hac
    subst hac
    refine TextI.wpS_seg 1 _ _ _ _ (by decide) (fun Q2 hQ2 => ?_)
    simp only [List.take_succ_cons, List.take_zero]
    go_wp2_with fail
    try simp only [List.drop_succ_cons, List.drop_zero]
    obtain ⟨w3, hst1, hg4, hot1, hbl1⟩ := store_field w2.drew (g := w.heap.size + 2) (off := 1) (vs := [.int .i64 seq]) (v := .int .i64 seq) (ty := 3) rfl (by kernel_rfl) HG3.out (by simp [recCells_length, z32_len]) (fun u hu => by rw [List.mem_singleton.1 hu]; rfl) (row_seq 2 0 z32 0 z32 0 (.slice none 0 0) seq)
    have HG4 := Lib.hid hg4
    have HOT1 := Lib.hid hot1
    have HBL1 := Lib.hid hbl1
    have HST1 := Lib.hid hst1
    clear hg4 hot1 hbl1 hst1
    obtain ⟨w4, hst2, hg5, hot2, hbl2⟩ := store_field w3 (g := w.heap.size + 2) (off := 2) (vs := hkCells kh kk) (v := hkv kh kk) (ty := 34) (hkv_cells _ _) (key_size _ _ hk) HG4.out (by simp [recCells_length, hkCells_length, hk, z32_len]) (hkCells_one _ _) (row_key 2 seq z32 0 z32 0 (.slice none 0 0) kh kk rfl hk)
    have HG5 := Lib.hid hg5
    have HOT2 := Lib.hid hot2
    have HBL2 := Lib.hid hbl2
    have HST2 := Lib.hid hst2
    clear hg5 hot2 hbl2 hst2
    obtain ⟨w5, hst3, hg6, hot3, hbl3⟩ := store_field w4 (g := w.heap.size + 2) (off := 35) (vs := hkCells mh ms) (v := hkv mh ms) (ty := 36) (hkv_cells _ _) (mark_size _ _ hm) HG5.out (by simp [recCells_length, hkCells_length, hk, hm, z32_len]) (hkCells_one _ _) (row_mark 2 seq kh kk z32 0 (.slice none 0 0) mh ms hk rfl hm)
    have HG6 := Lib.hid hg6
    have HOT3 := Lib.hid hot3
    have HBL3 := Lib.hid hbl3
    have HST3 := Lib.hid hst3
    clear hg6 hot3 hbl3 hst3
    refine TextI.wpS_one (fun Q1 hQ1 => ?_)
    refine wpList_store_agg rfl 3 rfl rfl rfl HST1.out ?_
    refine hQ1 _ _ ⟨(HOT1.out _ (by omega)).trans HR1.out.blk, ?_⟩
    generalize hac : Act.put _ _ _ = a9
    simp [Act.put] at hac
    subst hac
    refine TextI.wpS_seg 1 _ _ _ _ (by decide) (fun Q2 hQ2 => ?_)
    simp only [List.take_succ_cons, List.take_zero]
    go_wp2_with fail
    try simp only [List.drop_succ_cons, List.drop_zero]
    refine TextI.wpS_one (fun Q1 hQ1 => ?_)
    refine wpList_store_agg rfl 34 rfl rfl rfl HST2.out ?_
    refine hQ1 _ _ ⟨(HOT2.out _ (by omega)).trans ((HOT1.out _ (by omega)).trans HR1.out.blk), ?_⟩
    generalize hac : Act.put _ _ _ = a9
    simp [Act.put] at hac
    subst hac
    refine TextI.wpS_seg 1 _ _ _ _ (by decide) (fun Q2 hQ2 => ?_)
    simp only [List.take_succ_cons, List.take_zero]
    go_wp2_with fail
    try simp only [List.drop_succ_cons, List.drop_zero]
    refine TextI.wpS_one (fun Q1 hQ1 => ?_)
    refine wpList_store_agg rfl 36 rfl rfl rfl HST3.out ?_
    refine hQ1 _ _ ⟨(HOT3.out _ (by omega)).trans ((HOT2.out _ (by omega)).trans ((HOT1.out _ (by omega)).trans HR1.out.blk)), ?_⟩
    generalize hac : Act.put _ _ _ = a9
    simp [Act.put] at hac
    subst hac
    refine ⟨by rfl, ⟨fun _ => ⟨_, fun w' hI => load_int Tryz.underlying3 (show w'.cell? ⟨w.heap.size, 1, none⟩ = some (.int .i64 seq) from (show RecAt w' w.heap.size 38 2 seq kh kk mh ms (.slice A n c) from ⟨hI, hk, hm⟩).seq_)⟩, fun _ => ⟨_, fun w' hI => load_agg keyTy.ut rfl (key_size _ _ hk) (show RecAt w' w.heap.size 38 2 seq kh kk mh ms (.slice A n c) from ⟨hI, hk, hm⟩).key_⟩, fun _ => ⟨_, fun w' hI => load_agg markTy.ut rfl (mark_size _ _ hm) (show RecAt w' w.heap.size 38 2 seq kh kk mh ms (.slice A n c) from ⟨hI, hk, hm⟩).mark_⟩, trivial⟩, ?_⟩
    have HR5 := Lib.hid (show RecAt w5 w.heap.size 38 2 seq kh kk mh ms (.slice A n c) from ⟨(HOT3.out _ (by omega)).trans ((HOT2.out _ (by omega)).trans ((HOT1.out _ (by omega)).trans HR1.out.blk)), hk, hm⟩)
    have HG25 := Lib.hid ((HOT3.out (w.heap.size + 1) (by omega)).trans ((HOT2.out _ (by omega)).trans ((HOT1.out _ (by omega)).trans HG2.out)))
    have HBX := Lib.hid (HBL3.out _ _ (HBL2.out _ _ (HBL1.out _ _ HBW.out.drew (by omega)) (by omega)) (by omega))
    have c68' := HR5.out.keys_
    clear HOT1 HOT2 HOT3 HBL1 HBL2 HBL3 HST1 HST2 HST3 HG4 HG5 c0 c1 c67 c68
    have HGW := HG6
    cases sq
    · go_wp2_with fail
      refine Text.wp_grow [8] [0, 7] [] (by kernel_rfl) (by kernel_rfl) ?_
      refine Text.wpS_seg 1 _ _ _ _ (by decide) (fun Q2 hQ2 => ?_)
      simp only [List.take_succ_cons, List.take_zero]
      refine wpList_load_agg rfl 38 rfl rfl recTy_u rfl (rec_size _ _ _ _ _ _ _ hk hm) (row_cells HGW.out) ?_
      refine hQ2 _ _ ?_
      simp only [List.drop_succ_cons, List.drop_zero]
      generalize hac : Act.put _ _ _ = a9
      simp [Act.put] at hac
      subst hac
      refine Text.wpS_seg 6 _ _ _ _ (by decide) (fun Q2 hQ2 => ?_)
      simp only [List.take_succ_cons, List.take_zero]
      go_wp2_with fail
      try simp only [List.drop_succ_cons, List.drop_zero]
      refine Text.wpS_seg 1 _ _ _ _ (by decide) (fun Q2 hQ2 => ?_)
      simp only [List.take_succ_cons, List.take_zero]
      go_wp2_with fail
      try simp only [List.drop_succ_cons, List.drop_zero]
      refine Text.wpS_one (fun Q1 hQ1 => ?_)
      go_wp2_with fail
      refine ⟨Below.refl _ _, ?_⟩
      have HG26 := HG25
      have HBY := Lib.hid HBX.out.drew
      refine Text.wpS_seg 1 _ _ _ _ (by decide) (fun Q2 hQ2 => ?_)
      simp only [List.take_succ_cons, List.take_zero]
      go_wp2_with fail
      try simp only [List.drop_succ_cons, List.drop_zero]
      refine Text.wpS_seg 1 _ _ _ _ (by decide) (fun Q2 hQ2 => ?_)
      simp only [List.take_succ_cons, List.take_zero]
      refine wpList_store_agg rfl 38 rfl rfl rfl (store_row (recv_cells ..) (rec_size _ _ _ _ _ _ _ hk hm) HG26.out (by simp [recCells_length, hk, hm, z32_len]) (recCells_one _ _ _ _ _ _ _ _ _)) ?_
      refine hQ2 _ _ ?_
      simp only [List.drop_succ_cons, List.drop_zero]
      generalize hac : Act.put _ _ _ = a9
      simp [Act.put] at hac
      subst hac
      refine Text.wpS_seg 1 _ _ _ _ (by decide) (fun Q2 hQ2 => ?_)
      simp only [List.take_succ_cons, List.take_zero]
      go_wp2_with fail
      try simp only [List.drop_succ_cons, List.drop_zero]
      refine ⟨by rfl, ⟨(fun _ => ⟨_, _, rfl, row_cells HGW.out 0 _ rfl⟩), Text.no_want rfl, trivial⟩, ?_⟩
      go_wp2_with fail
      refine ret_rec rfl hk hm rfl rfl rfl (setRow_heap _ _ _ _ _ _ HG26.out) ?_
      refine ⟨.slice none 0 0, by rw [HO.out, HOK.out]; rfl, ?_, below_setRow HBY.out (Nat.le_succ _) _⟩
      rw [HO.out]
      exact SlR.nil_
    · cases mk
      · go_wp2_with fail
        refine Text.wp_grow [8] [0, 7] [] (by kernel_rfl) (by kernel_rfl) ?_
        refine Text.wpS_seg 1 _ _ _ _ (by decide) (fun Q2 hQ2 => ?_)
        simp only [List.take_succ_cons, List.take_zero]
        refine wpList_load_agg rfl 38 rfl rfl recTy_u rfl (rec_size _ _ _ _ _ _ _ hk hm) (row_cells HGW.out) ?_
        refine hQ2 _ _ ?_
        simp only [List.drop_succ_cons, List.drop_zero]
        generalize hac : Act.put _ _ _ = a9
        simp [Act.put] at hac
        subst hac
        refine Text.wpS_seg 6 _ _ _ _ (by decide) (fun Q2 hQ2 => ?_)
        simp only [List.take_succ_cons, List.take_zero]
        go_wp2_with fail
        try simp only [List.drop_succ_cons, List.drop_zero]
        refine Text.wpS_seg 1 _ _ _ _ (by decide) (fun Q2 hQ2 => ?_)
        simp only [List.take_succ_cons, List.take_zero]
        go_wp2_with fail
        try simp only [List.drop_succ_cons, List.drop_zero]
        refine Text.wpS_one (fun Q1 hQ1 => ?_)
        go_wp2_with fail
        refine ⟨Below.refl _ _, ?_⟩
        have HG26 := HG25
        have HBY := Lib.hid HBX.out.drew
        refine Text.wpS_seg 1 _ _ _ _ (by decide) (fun Q2 hQ2 => ?_)
        simp only [List.take_succ_cons, List.take_zero]
        go_wp2_with fail
        try simp only [List.drop_succ_cons, List.drop_zero]
        refine Text.wpS_seg 1 _ _ _ _ (by decide) (fun Q2 hQ2 => ?_)
        simp only [List.take_succ_cons, List.take_zero]
        refine wpList_store_agg rfl 38 rfl rfl rfl (store_row (recv_cells ..) (rec_size _ _ _ _ _ _ _ hk hm) HG26.out (by simp [recCells_length, hk, hm, z32_len]) (recCells_one _ _ _ _ _ _ _ _ _)) ?_
        refine hQ2 _ _ ?_
        simp only [List.drop_succ_cons, List.drop_zero]
        generalize hac : Act.put _ _ _ = a9
        simp [Act.put] at hac
        subst hac
        refine Text.wpS_seg 1 _ _ _ _ (by decide) (fun Q2 hQ2 => ?_)
        simp only [List.take_succ_cons, List.take_zero]
        go_wp2_with fail
        try simp only [List.drop_succ_cons, List.drop_zero]
        refine ⟨by rfl, ⟨(fun _ => ⟨_, _, rfl, row_cells HGW.out 0 _ rfl⟩), Text.no_want rfl, trivial⟩, ?_⟩
        go_wp2_with fail
        refine ret_rec rfl hk hm rfl rfl rfl (setRow_heap _ _ _ _ _ _ HG26.out) ?_
        refine ⟨.slice none 0 0, by rw [HO.out, HOK.out]; rfl, ?_, below_setRow HBY.out (Nat.le_succ _) _⟩
        rw [HO.out]
        exact SlR.nil_
      · go_wp2_with fail
        refine Text.wp_grow [8] [0, 7] [] (by kernel_rfl) (by kernel_rfl) ?_
        refine Text.wpS_seg 1 _ _ _ _ (by decide) (fun Q2 hQ2 => ?_)
        simp only [List.take_succ_cons, List.take_zero]
        refine wpList_load_agg rfl 38 rfl rfl recTy_u rfl (rec_size _ _ _ _ _ _ _ hk hm) (row_cells HGW.out) ?_
        refine hQ2 _ _ ?_
        simp only [List.drop_succ_cons, List.drop_zero]
        generalize hac : Act.put _ _ _ = a9
        simp [Act.put] at hac
        subst hac
        refine Text.wpS_seg 6 _ _ _ _ (by decide) (fun Q2 hQ2 => ?_)
        simp only [List.take_succ_cons, List.take_zero]
        go_wp2_with fail
        try simp only [List.drop_succ_cons, List.drop_zero]
        refine Text.wpS_seg 1 _ _ _ _ (by decide) (fun Q2 hQ2 => ?_)
        simp only [List.take_succ_cons, List.take_zero]
        refine wpList_load_aggG (by rfl) 34 rfl rfl keyTy.ut rfl (key_size _ _ hk) HR5.out.key_ ?_
        refine hQ2 _ _ ?_
        simp only [List.drop_succ_cons, List.drop_zero]
        generalize hac : Act.put _ _ _ = a9
        simp [Act.put] at hac
        subst hac
        refine Text.wpS_one (fun Q1 hQ1 => ?_)
        go_wp2_with fail
        refine (keyed_any kh kk _ hk).mono ?_
        rintro e w6 ⟨rfl, hb6⟩
        have HB6 := Lib.hid hb6
        have HG26 := Lib.hid (((below_drew hb6).block _ (Array.getElem?_eq_some_iff.1 HG25.out).1).trans HG25.out)
        have HBY := Lib.hid (HBX.out.trans ((below_drew hb6).mono HBX.out.size))
        clear hb6
        go_wp2_with fail
        refine ⟨HB6.out, ?_⟩
        refine Text.wpS_seg 1 _ _ _ _ (by decide) (fun Q2 hQ2 => ?_)
        simp only [List.take_succ_cons, List.take_zero]
        go_wp2_with fail
        try simp only [List.drop_succ_cons, List.drop_zero]
        refine Text.wpS_seg 1 _ _ _ _ (by decide) (fun Q2 hQ2 => ?_)
        simp only [List.take_succ_cons, List.take_zero]
        refine wpList_store_agg rfl 38 rfl rfl rfl (store_row (recv_cells ..) (rec_size _ _ _ _ _ _ _ hk hm) HG26.out (by simp [recCells_length, hk, hm, z32_len]) (recCells_one _ _ _ _ _ _ _ _ _)) ?_
        refine hQ2 _ _ ?_
        simp only [List.drop_succ_cons, List.drop_zero]
        generalize hac : Act.put _ _ _ = a9
        simp [Act.put] at hac
        subst hac
        refine Text.wpS_seg 1 _ _ _ _ (by decide) (fun Q2 hQ2 => ?_)
        simp only [List.take_succ_cons, List.take_zero]
        go_wp2_with fail
        try simp only [List.drop_succ_cons, List.drop_zero]
        refine ⟨by rfl, ⟨(fun _ => ⟨_, _, rfl, row_cells HGW.out 0 _ rfl⟩), (fun _ => ⟨_, _, rfl, HR5.out.key_ 0 _ (List.getElem?_eq_getElem (by rw [hkCells_length]; omega))⟩), trivial⟩, ?_⟩
        go_wp2_with fail
        refine ret_rec rfl hk hm rfl rfl rfl (setRow_heap _ _ _ _ _ _ HG26.out) ?_
        refine ⟨.slice none 0 0, by rw [HO.out, HOK.out]; rfl, ?_, below_setRow HBY.out (Nat.le_succ _) _⟩
        rw [HO.out]
        exact SlR.nil_
  by_cases k3 : kind = 3
  · subst k3
    have HO := Lib.hid (show onlyD ⟨3, seq, kh, kk, mh, ms, keys⟩ = ⟨3, seq, z32, 0, z32, 0, []⟩ from by unfold onlyD; simp)
    have HOK := Lib.hid (show onlyOk ⟨3, seq, kh, kk, mh, ms, keys⟩ = (sq) from by unfold onlyOk; simp [HSQ.out])
    go_wp2_with (refine stop_at (some 56) rfl ?_)
    refine Stop.go (wpList_seg 3 _ _ _ (fun Q' hQ' => ?_))
    simp only [List.take_succ_cons, List.take_zero]
    go_wp2_with fail
    try simp only [List.drop_succ_cons, List.drop_zero]
    obtain ⟨w3, hst1, hg4, hot1, hbl1⟩ := store_field w2 (g := w.heap.size + 2) (off := 1) (vs := [.int .i64 seq]) (v := .int .i64 seq) (ty := 3) rfl (by kernel_rfl) HG3.out (by simp [recCells_length, z32_len]) (fun u hu => by rw [List.mem_singleton.1 hu]; rfl) (row_seq 3 0 z32 0 z32 0 (.slice none 0 0) seq)
    have HG4 := Lib.hid hg4
    have HOT1 := Lib.hid hot1
    have HBL1 := Lib.hid hbl1
    have HST1 := Lib.hid hst1
    clear hg4 hot1 hbl1 hst1
    refine Stop.go (wpList_store_agg rfl 3 rfl rfl rfl HST1.out ?_)
    have HBX := Lib.hid (HBL1.out _ _ HBW.out (by omega))
    have HG25 := Lib.hid ((HOT1.out (w.heap.size + 1) (by omega)).trans HG2.out)
    go_wp2_with (refine stop_at (some 59) rfl ?_)
    refine Stop.go (wpList_load_agg rfl 38 rfl rfl recTy_u rfl (rec_size _ _ _ _ _ _ _ rfl rfl) (row_cells HG4.out) ?_)
    refine wpList_seg 1 _ _ _ (fun Q' hQ' => ?_)
    simp only [List.take_succ_cons, List.take_zero]
    go_wp2_with fail
    try simp only [List.drop_succ_cons, List.drop_zero]
    refine Stop.go (wpList_store_agg rfl 38 rfl rfl rfl (store_row (recv_cells ..) (rec_size _ _ _ _ _ _ _ rfl rfl) HG25.out (by simp [recCells_length, z32_len]) (recCells_one _ _ _ _ _ _ _ _ _)) ?_)
    go_wp2_with fail
    refine ret_rec rfl rfl rfl rfl rfl rfl (setRow_heap _ _ _ _ _ _ HG25.out) ?_
    exact ⟨.slice none 0 0, by rw [HO.out, HOK.out]; rfl, by rw [HO.out]; exact SlR.nil_, below_setRow HBX.out (Nat.le_succ _) _⟩
  by_cases k4 : kind = 4
  · subst k4
    have HO := Lib.hid (show onlyD ⟨4, seq, kh, kk, mh, ms, keys⟩ = ⟨4, 0, kh, kk, mh, ms, []⟩ from by unfold onlyD; simp)
    have HOK := Lib.hid (show onlyOk ⟨4, seq, kh, kk, mh, ms, keys⟩ = (mk && kOk kk) from by unfold onlyOk; simp [HMK.out])
    go_wp2_with fail
    refine TextI.wp_inv [5, 7] [1, 3] [] (fun w' => w'.heap[w.heap.size]? = some (.cells (recCells 4 seq kh kk mh ms (.slice A n c)).toArray 38 (0, 0))) HR1.out.blk (by kernel_rfl) (by kernel_rfl) ?_
    refine TextI.wpS_seg 1 _ _ _ _ (by decide) (fun Q2 hQ2 => ?_)
    simp only [List.take_succ_cons, List.take_zero]
    go_wp2_with fail
    try simp only [List.drop_succ_cons, List.drop_zero]
    refine TextI.wpS_seg 1 _ _ _ _ (by decide) (fun Q2 hQ2 => ?_)
    simp only [List.take_succ_cons, List.take_zero]
    refine wpList_load_agg rfl 34 rfl rfl keyTy.ut rfl (key_size _ _ hk) HR1.out.key_ ?_
    refine hQ2 _ _ ?_
    simp only [List.drop_succ_cons, List.drop_zero]
    generalize hac : Act.put _ _ _ = a9
    simp [Act.put] at hac
    subst hac
    refine TextI.wpS_seg 1 _ _ _ _ (by decide) (fun Q2 hQ2 => ?_)
    simp only [List.take_succ_cons, List.take_zero]
    go_wp2_with fail
    try simp only [List.drop_succ_cons, List.drop_zero]
    refine TextI.wpS_seg 1 _ _ _ _ (by decide) (fun Q2 hQ2 => ?_)
    simp only [List.take_succ_cons, List.take_zero]
    refine wpList_load_agg rfl 36 rfl rfl markTy.ut rfl (mark_size _ _ hm) HR1.out.mark_ ?_
    refine hQ2 _ _ ?_
    simp only [List.drop_succ_cons, List.drop_zero]
    generalize hac : Act.put _ _ _ = a9
    simp [Act.put] at hac
    subst hac
    refine TextI.wpS_seg 1 _ _ _ _ (by decide) (fun Q2 hQ2 => ?_)
    simp only [List.take_succ_cons, List.take_zero]
    go_wp2_with fail
    try simp only [List.drop_succ_cons, List.drop_zero]
    obtain ⟨w3, hst1, hg4, hot1, hbl1⟩ := store_field w2.drew (g := w.heap.size + 2) (off := 2) (vs := hkCells kh kk) (v := hkv kh kk) (ty := 34) (hkv_cells _ _) (key_size _ _ hk) HG3.out (by simp [recCells_length, hkCells_length, hk, z32_len]) (hkCells_one _ _) (row_key 4 0 z32 0 z32 0 (.slice none 0 0) kh kk rfl hk)
    have HG4 := Lib.hid hg4
    have HOT1 := Lib.hid hot1
    have HBL1 := Lib.hid hbl1
    have HST1 := Lib.hid hst1
    clear hg4 hot1 hbl1 hst1
    obtain ⟨w4, hst2, hg5, hot2, hbl2⟩ := store_field w3 (g := w.heap.size + 2) (off := 35) (vs := hkCells mh ms) (v := hkv mh ms) (ty := 36) (hkv_cells _ _) (mark_size _ _ hm) HG4.out (by simp [recCells_length, hkCells_length, hk, hm, z32_len]) (hkCells_one _ _) (row_mark 4 0 kh kk z32 0 (.slice none 0 0) mh ms hk rfl hm)
    have HG5 := Lib.hid hg5
    have HOT2 := Lib.hid hot2
    have HBL2 := Lib.hid hbl2
    have HST2 := Lib.hid hst2
    clear hg5 hot2 hbl2 hst2
    refine TextI.wpS_one (fun Q1 hQ1 => ?_)
    refine wpList_store_agg rfl 34 rfl rfl rfl HST1.out ?_
    refine hQ1 _ _ ⟨(HOT1.out _ (by omega)).trans HR1.out.blk, ?_⟩
    generalize hac : Act.put _ _ _ = a9
    simp [Act.put] at hac
    subst hac
    refine TextI.wpS_seg 1 _ _ _ _ (by decide) (fun Q2 hQ2 => ?_)
    simp only [List.take_succ_cons, List.take_zero]
    go_wp2_with fail
    try simp only [List.drop_succ_cons, List.drop_zero]
    refine TextI.wpS_one (fun Q1 hQ1 => ?_)
    refine wpList_store_agg rfl 36 rfl rfl rfl HST2.out ?_
    refine hQ1 _ _ ⟨(HOT2.out _ (by omega)).trans ((HOT1.out _ (by omega)).trans HR1.out.blk), ?_⟩
    generalize hac : Act.put _ _ _ = a9
    simp [Act.put] at hac
    subst hac
    refine ⟨by rfl, ⟨fun _ => ⟨_, fun w' hI => load_agg keyTy.ut rfl (key_size _ _ hk) (show RecAt w' w.heap.size 38 4 seq kh kk mh ms (.slice A n c) from ⟨hI, hk, hm⟩).key_⟩, fun _ => ⟨_, fun w' hI => load_agg markTy.ut rfl (mark_size _ _ hm) (show RecAt w' w.heap.size 38 4 seq kh kk mh ms (.slice A n c) from ⟨hI, hk, hm⟩).mark_⟩, trivial⟩, ?_⟩
    have HR5 := Lib.hid (show RecAt w4 w.heap.size 38 4 seq kh kk mh ms (.slice A n c) from ⟨(HOT2.out _ (by omega)).trans ((HOT1.out _ (by omega)).trans HR1.out.blk), hk, hm⟩)
    have HG25 := Lib.hid ((HOT2.out (w.heap.size + 1) (by omega)).trans ((HOT1.out _ (by omega)).trans HG2.out))
    have HBX := Lib.hid (HBL2.out _ _ (HBL1.out _ _ HBW.out.drew (by omega)) (by omega))
    have HGW := HG5
    clear HOT1 HOT2 HBL1 HBL2 HST1 HST2 HG4 c0 c1 c67 c68
    cases mk
    · go_wp2_with fail
      refine Text.wp_grow [5] [0, 4] [] (by kernel_rfl) (by kernel_rfl) ?_
      refine Text.wpS_seg 1 _ _ _ _ (by decide) (fun Q2 hQ2 => ?_)
      simp only [List.take_succ_cons, List.take_zero]
      refine wpList_load_agg rfl 38 rfl rfl recTy_u rfl (rec_size _ _ _ _ _ _ _ hk hm) (row_cells HGW.out) ?_
      refine hQ2 _ _ ?_
      simp only [List.drop_succ_cons, List.drop_zero]
      generalize hac : Act.put _ _ _ = a9
      simp [Act.put] at hac
      subst hac
      refine Text.wpS_seg 3 _ _ _ _ (by decide) (fun Q2 hQ2 => ?_)
      simp only [List.take_succ_cons, List.take_zero]
      go_wp2_with fail
      try simp only [List.drop_succ_cons, List.drop_zero]
      refine Text.wpS_seg 1 _ _ _ _ (by decide) (fun Q2 hQ2 => ?_)
      simp only [List.take_succ_cons, List.take_zero]
      go_wp2_with fail
      try simp only [List.drop_succ_cons, List.drop_zero]
      refine Text.wpS_one (fun Q1 hQ1 => ?_)
      go_wp2_with fail
      refine ⟨Below.refl _ _, ?_⟩
      have HG26 := HG25
      have HBY := Lib.hid HBX.out.drew
      refine Text.wpS_seg 1 _ _ _ _ (by decide) (fun Q2 hQ2 => ?_)
      simp only [List.take_succ_cons, List.take_zero]
      go_wp2_with fail
      try simp only [List.drop_succ_cons, List.drop_zero]
      refine Text.wpS_seg 1 _ _ _ _ (by decide) (fun Q2 hQ2 => ?_)
      simp only [List.take_succ_cons, List.take_zero]
      refine wpList_store_agg rfl 38 rfl rfl rfl (store_row (recv_cells ..) (rec_size _ _ _ _ _ _ _ hk hm) HG26.out (by simp [recCells_length, hk, hm, z32_len]) (recCells_one _ _ _ _ _ _ _ _ _)) ?_
      refine hQ2 _ _ ?_
      simp only [List.drop_succ_cons, List.drop_zero]
      generalize hac : Act.put _ _ _ = a9
      simp [Act.put] at hac
      subst hac
      refine Text.wpS_seg 1 _ _ _ _ (by decide) (fun Q2 hQ2 => ?_)
      simp only [List.take_succ_cons, List.take_zero]
      go_wp2_with fail
      try simp only [List.drop_succ_cons, List.drop_zero]
      refine ⟨by rfl, ⟨(fun _ => ⟨_, _, rfl, row_cells HGW.out 0 _ rfl⟩), Text.no_want rfl, trivial⟩, ?_⟩
      go_wp2_with fail
      refine ret_rec rfl hk hm rfl rfl rfl (setRow_heap _ _ _ _ _ _ HG26.out) ?_
      refine ⟨.slice none 0 0, by rw [HO.out, HOK.out]; rfl, ?_, below_setRow HBY.out (Nat.le_succ _) _⟩
      rw [HO.out]
      exact SlR.nil_
    · go_wp2_with fail
      refine Text.wp_grow [5] [0, 4] [] (by kernel_rfl) (by kernel_rfl) ?_
      refine Text.wpS_seg 1 _ _ _ _ (by decide) (fun Q2 hQ2 => ?_)
      simp only [List.take_succ_cons, List.take_zero]
      refine wpList_load_agg rfl 38 rfl rfl recTy_u rfl (rec_size _ _ _ _ _ _ _ hk hm) (row_cells HGW.out) ?_
      refine hQ2 _ _ ?_
      simp only [List.drop_succ_cons, List.drop_zero]
      generalize hac : Act.put _ _ _ = a9
      simp [Act.put] at hac
      subst hac
      refine Text.wpS_seg 3 _ _ _ _ (by decide) (fun Q2 hQ2 => ?_)
      simp only [List.take_succ_cons, List.take_zero]
      go_wp2_with fail
      try simp only [List.drop_succ_cons, List.drop_zero]
      refine Text.wpS_seg 1 _ _ _ _ (by decide) (fun Q2 hQ2 => ?_)
      simp only [List.take_succ_cons, List.take_zero]
      refine wpList_load_aggG (by rfl) 34 rfl rfl keyTy.ut rfl (key_size _ _ hk) HR5.out.key_ ?_
      refine hQ2 _ _ ?_
      simp only [List.drop_succ_cons, List.drop_zero]
      generalize hac : Act.put _ _ _ = a9
      simp [Act.put] at hac
      subst hac
      refine Text.wpS_one (fun Q1 hQ1 => ?_)
      go_wp2_with fail
      refine (keyed_any kh kk _ hk).mono ?_
      rintro e w6 ⟨rfl, hb6⟩
      have HB6 := Lib.hid hb6
      have HG26 := Lib.hid (((below_drew hb6).block _ (Array.getElem?_eq_some_iff.1 HG25.out).1).trans HG25.out)
      have HBY := Lib.hid (HBX.out.trans ((below_drew hb6).mono HBX.out.size))
      clear hb6
      go_wp2_with fail
      refine ⟨HB6.out, ?_⟩
      refine Text.wpS_seg 1 _ _ _ _ (by decide) (fun Q2 hQ2 => ?_)
      simp only [List.take_succ_cons, List.take_zero]
      go_wp2_with fail
      try simp only [List.drop_succ_cons, List.drop_zero]
      refine Text.wpS_seg 1 _ _ _ _ (by decide) (fun Q2 hQ2 => ?_)
      simp only [List.take_succ_cons, List.take_zero]
      refine wpList_store_agg rfl 38 rfl rfl rfl (store_row (recv_cells ..) (rec_size _ _ _ _ _ _ _ hk hm) HG26.out (by simp [recCells_length, hk, hm, z32_len]) (recCells_one _ _ _ _ _ _ _ _ _)) ?_
      refine hQ2 _ _ ?_
      simp only [List.drop_succ_cons, List.drop_zero]
      generalize hac : Act.put _ _ _ = a9
      simp [Act.put] at hac
      subst hac
      refine Text.wpS_seg 1 _ _ _ _ (by decide) (fun Q2 hQ2 => ?_)
      simp only [List.take_succ_cons, List.take_zero]
      go_wp2_with fail
      try simp only [List.drop_succ_cons, List.drop_zero]
      refine ⟨by rfl, ⟨(fun _ => ⟨_, _, rfl, row_cells HGW.out 0 _ rfl⟩), (fun _ => ⟨_, _, rfl, HR5.out.key_ 0 _ (List.getElem?_eq_getElem (by rw [hkCells_length]; omega))⟩), trivial⟩, ?_⟩
      go_wp2_with fail
      refine ret_rec rfl hk hm rfl rfl rfl (setRow_heap _ _ _ _ _ _ HG26.out) ?_
      refine ⟨.slice none 0 0, by rw [HO.out, HOK.out]; rfl, ?_, below_setRow HBY.out (Nat.le_succ _) _⟩
      rw [HO.out]
      exact SlR.nil_
  by_cases k5 : kind = 5
  · subst k5
    have HO := Lib.hid (show onlyD ⟨5, seq, kh, kk, mh, ms, keys⟩ = ⟨5, 0, kh, kk, z32, 0, []⟩ from by unfold onlyD; simp)
    have HOK := Lib.hid (show onlyOk ⟨5, seq, kh, kk, mh, ms, keys⟩ = (kOk kk) from by unfold onlyOk; simp)
    go_wp2_with (refine stop_at (some 79) rfl ?_)
    refine Stop.go (wpList_seg 1 _ _ _ (fun Q' hQ' => ?_))
    simp only [List.take_succ_cons, List.take_zero]
    go_wp2_with fail
    try simp only [List.drop_succ_cons, List.drop_zero]
    refine Stop.go (wpList_load_agg rfl 34 rfl rfl keyTy.ut rfl (key_size _ _ hk) HR1.out.key_ ?_)
    refine wpList_seg 1 _ _ _ (fun Q' hQ' => ?_)
    simp only [List.take_succ_cons, List.take_zero]
    go_wp2_with fail
    try simp only [List.drop_succ_cons, List.drop_zero]
    obtain ⟨w3, hst1, hg4, hot1, hbl1⟩ := store_field w2 (g := w.heap.size + 2) (off := 2) (vs := hkCells kh kk) (v := hkv kh kk) (ty := 34) (hkv_cells _ _) (key_size _ _ hk) HG3.out (by simp [recCells_length, hkCells_length, hk, z32_len]) (hkCells_one _ _) (row_key 5 0 z32 0 z32 0 (.slice none 0 0) kh kk rfl hk)
    have HG4 := Lib.hid hg4
    have HOT1 := Lib.hid hot1
    have HBL1 := Lib.hid hbl1
    have HST1 := Lib.hid hst1
    clear hg4 hot1 hbl1 hst1
    refine Stop.go (wpList_store_agg rfl 34 rfl rfl rfl HST1.out ?_)
    have HR5 := Lib.hid (show RecAt w3 w.heap.size 38 5 seq kh kk mh ms (.slice A n c) from ⟨(HOT1.out _ (by omega)).trans HR1.out.blk, hk, hm⟩)
    have HG25 := Lib.hid ((HOT1.out (w.heap.size + 1) (by omega)).trans HG2.out)
    have HBX := Lib.hid (HBL1.out _ _ HBW.out (by omega))
    have HGW := HG4
    clear HOT1 HBL1 HST1 c0 c1 c67 c68
    go_wp2_with fail
    refine Text.wp_grow [3] [0, 2] [] (by kernel_rfl) (by kernel_rfl) ?_
    refine Text.wpS_seg 1 _ _ _ _ (by decide) (fun Q2 hQ2 => ?_)
    simp only [List.take_succ_cons, List.take_zero]
    refine wpList_load_agg rfl 38 rfl rfl recTy_u rfl (rec_size _ _ _ _ _ _ _ hk rfl) (row_cells HGW.out) ?_
    refine hQ2 _ _ ?_
    simp only [List.drop_succ_cons, List.drop_zero]
    generalize hac : Act.put _ _ _ = a9
    simp [Act.put] at hac
    subst hac
    refine Text.wpS_seg 1 _ _ _ _ (by decide) (fun Q2 hQ2 => ?_)
    simp only [List.take_succ_cons, List.take_zero]
    go_wp2_with fail
    try simp only [List.drop_succ_cons, List.drop_zero]
    refine Text.wpS_seg 1 _ _ _ _ (by decide) (fun Q2 hQ2 => ?_)
    simp only [List.take_succ_cons, List.take_zero]
    refine wpList_load_agg rfl 34 rfl rfl keyTy.ut rfl (key_size _ _ hk) HR5.out.key_ ?_
    refine hQ2 _ _ ?_
    simp only [List.drop_succ_cons, List.drop_zero]
    generalize hac : Act.put _ _ _ = a9
    simp [Act.put] at hac
    subst hac
    refine Text.wpS_one (fun Q1 hQ1 => ?_)
    go_wp2_with fail
    refine (keyed_any kh kk _ hk).mono ?_
    rintro e w6 ⟨rfl, hb6⟩
    have HB6 := Lib.hid hb6
    have HG26 := Lib.hid (((below_drew hb6).block _ (Array.getElem?_eq_some_iff.1 HG25.out).1).trans HG25.out)
    have HBY := Lib.hid (HBX.out.trans ((below_drew hb6).mono HBX.out.size))
    clear hb6
    go_wp2_with fail
    refine ⟨HB6.out, ?_⟩
    refine Text.wpS_seg 1 _ _ _ _ (by decide) (fun Q2 hQ2 => ?_)
    simp only [List.take_succ_cons, List.take_zero]
    refine wpList_store_agg rfl 38 rfl rfl rfl (store_row (recv_cells ..) (rec_size _ _ _ _ _ _ _ hk rfl) HG26.out (by simp [recCells_length, hk, z32_len]) (recCells_one _ _ _ _ _ _ _ _ _)) ?_
    refine hQ2 _ _ ?_
    simp only [List.drop_succ_cons, List.drop_zero]
    generalize hac : Act.put _ _ _ = a9
    simp [Act.put] at hac
    subst hac
    refine Text.wpS_seg 1 _ _ _ _ (by decide) (fun Q2 hQ2 => ?_)
    simp only [List.take_succ_cons, List.take_zero]
    go_wp2_with fail
    try simp only [List.drop_succ_cons, List.drop_zero]
    refine ⟨by rfl, ⟨(fun _ => ⟨_, _, rfl, row_cells HGW.out 0 _ rfl⟩), (fun _ => ⟨_, _, rfl, HR5.out.key_ 0 _ (List.getElem?_eq_getElem (by rw [hkCells_length]; omega))⟩), trivial⟩, ?_⟩
    go_wp2_with fail
    refine ret_rec rfl hk rfl rfl rfl rfl (setRow_heap _ _ _ _ _ _ HG26.out) ?_
    refine ⟨.slice none 0 0, by rw [HO.out, HOK.out]; rfl, ?_, below_setRow HBY.out (Nat.le_succ _) _⟩
    rw [HO.out]
    exact SlR.nil_
  by_cases k6 : kind = 6
  · subst k6
    have HO := Lib.hid (show onlyD ⟨6, seq, kh, kk, mh, ms, keys⟩ = ⟨6, 0, kh, kk, z32, 0, []⟩ from by unfold onlyD; simp)
    have HOK := Lib.hid (show onlyOk ⟨6, seq, kh, kk, mh, ms, keys⟩ = (kOk kk) from by unfold onlyOk; simp)
    go_wp2_with (refine stop_at (some 79) rfl ?_)
    refine Stop.go (wpList_seg 1 _ _ _ (fun Q' hQ' => ?_))
    simp only [List.take_succ_cons, List.take_zero]
    go_wp2_with fail
    try simp only [List.drop_succ_cons, List.drop_zero]
    refine Stop.go (wpList_load_agg rfl 34 rfl rfl keyTy.ut rfl (key_size _ _ hk) HR1.out.key_ ?_)
    refine wpList_seg 1 _ _ _ (fun Q' hQ' => ?_)
    simp only [List.take_succ_cons, List.take_zero]
    go_wp2_with fail
    try simp only [List.drop_succ_cons, List.drop_zero]
    obtain ⟨w3, hst1, hg4, hot1, hbl1⟩ := store_field w2 (g := w.heap.size + 2) (off := 2) (vs := hkCells kh kk) (v := hkv kh kk) (ty := 34) (hkv_cells _ _) (key_size _ _ hk) HG3.out (by simp [recCells_length, hkCells_length, hk, z32_len]) (hkCells_one _ _) (row_key 6 0 z32 0 z32 0 (.slice none 0 0) kh kk rfl hk)
    have HG4 := Lib.hid hg4
    have HOT1 := Lib.hid hot1
    have HBL1 := Lib.hid hbl1
    have HST1 := Lib.hid hst1
    clear hg4 hot1 hbl1 hst1
    refine Stop.go (wpList_store_agg rfl 34 rfl rfl rfl HST1.out ?_)
    have HR5 := Lib.hid (show RecAt w3 w.heap.size 38 6 seq kh kk mh ms (.slice A n c) from ⟨(HOT1.out _ (by omega)).trans HR1.out.blk, hk, hm⟩)
    have HG25 := Lib.hid ((HOT1.out (w.heap.size + 1) (by omega)).trans HG2.out)
    have HBX := Lib.hid (HBL1.out _ _ HBW.out (by omega))
    have HGW := HG4
    clear HOT1 HBL1 HST1 c0 c1 c67 c68
    go_wp2_with fail
    refine Text.wp_grow [3] [0, 2] [] (by kernel_rfl) (by kernel_rfl) ?_
    refine Text.wpS_seg 1 _ _ _ _ (by decide) (fun Q2 hQ2 => ?_)
    simp only [List.take_succ_cons, List.take_zero]
    refine wpList_load_agg rfl 38 rfl rfl recTy_u rfl (rec_size _ _ _ _ _ _ _ hk rfl) (row_cells HGW.out) ?_
    refine hQ2 _ _ ?_
    simp only [List.drop_succ_cons, List.drop_zero]
    generalize hac : Act.put _ _ _ = a9
    simp [Act.put] at hac
    subst hac
    refine Text.wpS_seg 1 _ _ _ _ (by decide) (fun Q2 hQ2 => ?_)
    simp only [List.take_succ_cons, List.take_zero]
    go_wp2_with fail
    try simp only [List.drop_succ_cons, List.drop_zero]
    refine Text.wpS_seg 1 _ _ _ _ (by decide) (fun Q2 hQ2 => ?_)
    simp only [List.take_succ_cons, List.take_zero]
    refine wpList_load_agg rfl 34 rfl rfl keyTy.ut rfl (key_size _ _ hk) HR5.out.key_ ?_
    refine hQ2 _ _ ?_
    simp only [List.drop_succ_cons, List.drop_zero]
    generalize hac : Act.put _ _ _ = a9
    simp [Act.put] at hac
    subst hac
    refine Text.wpS_one (fun Q1 hQ1 => ?_)
    go_wp2_with fail
    refine (keyed_any kh kk _ hk).mono ?_
    rintro e w6 ⟨rfl, hb6⟩
    have HB6 := Lib.hid hb6
    have HG26 := Lib.hid (((below_drew hb6).block _ (Array.getElem?_eq_some_iff.1 HG25.out).1).trans HG25.out)
    have HBY := Lib.hid (HBX.out.trans ((below_drew hb6).mono HBX.out.size))
    clear hb6
    go_wp2_with fail
    refine ⟨HB6.out, ?_⟩
    refine Text.wpS_seg 1 _ _ _ _ (by decide) (fun Q2 hQ2 => ?_)
    simp only [List.take_succ_cons, List.take_zero]
    refine wpList_store_agg rfl 38 rfl rfl rfl (store_row (recv_cells ..) (rec_size _ _ _ _ _ _ _ hk rfl) HG26.out (by simp [recCells_length, hk, z32_len]) (recCells_one _ _ _ _ _ _ _ _ _)) ?_
    refine hQ2 _ _ ?_
    simp only [List.drop_succ_cons, List.drop_zero]
    generalize hac : Act.put _ _ _ = a9
    simp [Act.put] at hac
    subst hac
    refine Text.wpS_seg 1 _ _ _ _ (by decide) (fun Q2 hQ2 => ?_)
    simp only [List.take_succ_cons, List.take_zero]
    go_wp2_with fail
    try simp only [List.drop_succ_cons, List.drop_zero]
    refine ⟨by rfl, ⟨(fun _ => ⟨_, _, rfl, row_cells HGW.out 0 _ rfl⟩), (fun _ => ⟨_, _, rfl, HR5.out.key_ 0 _ (List.getElem?_eq_getElem (by rw [hkCells_length]; omega))⟩), trivial⟩, ?_⟩
    go_wp2_with fail
    refine ret_rec rfl hk rfl rfl rfl rfl (setRow_heap _ _ _ _ _ _ HG26.out) ?_
    refine ⟨.slice none 0 0, by rw [HO.out, HOK.out]; rfl, ?_, below_setRow HBY.out (Nat.le_succ _) _⟩
    rw [HO.out]
    exact SlR.nil_
  by_cases k7 : kind = 7
  · subst k7
    have HO := Lib.hid (show onlyD ⟨7, seq, kh, kk, mh, ms, keys⟩ = ⟨7, 0, z32, 0, z32, 0, keys⟩ from by unfold onlyD; simp)
    have HOK := Lib.hid (show onlyOk ⟨7, seq, kh, kk, mh, ms, keys⟩ = (risingB keys) from by unfold onlyOk; simp)
    go_wp2_with (refine stop_at (some 88) rfl ?_)
    refine Stop.go (wpList_seg 3 _ _ _ (fun Q' hQ' => ?_))
    simp only [List.take_succ_cons, List.take_zero]
    go_wp2_with fail
    try simp only [List.drop_succ_cons, List.drop_zero]
    obtain ⟨w3, hst1, hg4, hot1, hbl1⟩ := store_field w2 (g := w.heap.size + 2) (off := 68) (vs := [.slice A n c]) (v := .slice A n c) (ty := 28) rfl (by kernel_rfl) HG3.out (by simp [recCells_length, z32_len]) (fun u hu => by rw [List.mem_singleton.1 hu]; rfl) (row_keys 7 0 z32 0 z32 0 (.slice none 0 0) (.slice A n c) rfl rfl)
    have HG4 := Lib.hid hg4
    have HOT1 := Lib.hid hot1
    have HBL1 := Lib.hid hbl1
    have HST1 := Lib.hid hst1
    clear hg4 hot1 hbl1 hst1
    refine Stop.go (wpList_store_agg rfl 28 rfl rfl rfl HST1.out ?_)
    have HR5 := Lib.hid (show RecAt w3 w.heap.size 38 7 seq kh kk mh ms (.slice A n c) from ⟨(HOT1.out _ (by omega)).trans HR1.out.blk, hk, hm⟩)
    have HG25 := Lib.hid ((HOT1.out (w.heap.size + 1) (by omega)).trans HG2.out)
    have HBX := Lib.hid (HBL1.out _ _ HBW.out (by omega))
    have HK5 := Lib.hid (HK1.out.keep (w' := w3) (fun p hp => by
      have hne : p.block ≠ w.heap.size + 2 := by have := HSB.out; omega
      unfold World.cell?
      rw [HOT1.out p.block hne]))
    have HGW := HG4
    have c68' := HR5.out.keys_
    clear HOT1 HBL1 HST1 c0 c1 c67 c68
    go_wp2_with fail
    refine Text.wp_grow [3] [0, 2] [] (by kernel_rfl) (by kernel_rfl) ?_
    refine Text.wpS_seg 1 _ _ _ _ (by decide) (fun Q2 hQ2 => ?_)
    simp only [List.take_succ_cons, List.take_zero]
    refine wpList_load_agg rfl 38 rfl rfl recTy_u rfl (rec_size _ _ _ _ _ _ _ rfl rfl) (row_cells HGW.out) ?_
    refine hQ2 _ _ ?_
    simp only [List.drop_succ_cons, List.drop_zero]
    generalize hac : Act.put _ _ _ = a9
    simp [Act.put] at hac
    subst hac
    refine Text.wpS_seg 1 _ _ _ _ (by decide) (fun Q2 hQ2 => ?_)
    simp only [List.take_succ_cons, List.take_zero]
    go_wp2_with fail
    try simp only [List.drop_succ_cons, List.drop_zero]
    refine Text.wpS_seg 1 _ _ _ _ (by decide) (fun Q2 hQ2 => ?_)
    simp only [List.take_succ_cons, List.take_zero]
    go_wp2_with fail
    try simp only [List.drop_succ_cons, List.drop_zero]
    refine Text.wpS_one (fun Q1 hQ1 => ?_)
    go_wp2_with fail
    refine (rising_any A c B n keys _ (HK5.out.below (Below.refl _ _).drew) (Nat.le_trans HSB.out HBX.out.size)).mono ?_
    rintro e w6 ⟨rfl, hb6⟩
    have HB6 := Lib.hid hb6
    have HG26 := Lib.hid (((below_drew hb6).block _ (Array.getElem?_eq_some_iff.1 HG25.out).1).trans HG25.out)
    have HBY := Lib.hid (HBX.out.trans ((below_drew hb6).mono HBX.out.size))
    clear hb6
    go_wp2_with fail
    refine ⟨HB6.out, ?_⟩
    refine Text.wpS_seg 1 _ _ _ _ (by decide) (fun Q2 hQ2 => ?_)
    simp only [List.take_succ_cons, List.take_zero]
    refine wpList_store_agg rfl 38 rfl rfl rfl (store_row (recv_cells ..) (rec_size _ _ _ _ _ _ _ rfl rfl) HG26.out (by simp [recCells_length, z32_len]) (recCells_one _ _ _ _ _ _ _ _ _)) ?_
    refine hQ2 _ _ ?_
    simp only [List.drop_succ_cons, List.drop_zero]
    generalize hac : Act.put _ _ _ = a9
    simp [Act.put] at hac
    subst hac
    refine Text.wpS_seg 1 _ _ _ _ (by decide) (fun Q2 hQ2 => ?_)
    simp only [List.take_succ_cons, List.take_zero]
    go_wp2_with fail
    try simp only [List.drop_succ_cons, List.drop_zero]
    refine ⟨by rfl, ⟨(fun _ => ⟨_, _, rfl, row_cells HGW.out 0 _ rfl⟩), (fun _ => ⟨_, _, rfl, c68'⟩), trivial⟩, ?_⟩
    go_wp2_with fail
    refine ret_rec rfl rfl rfl rfl rfl rfl (setRow_heap _ _ _ _ _ _ HG26.out) ?_
    refine ⟨.slice A n c, by rw [HO.out, HOK.out]; rfl, ?_, below_setRow HBY.out (Nat.le_succ _) _⟩
    rw [HO.out]
    exact SlR.keep (HK5.out.below ((below_drew HB6.out).mono (Nat.le_trans HSB.out HBX.out.size))) (fun p hp => by
      have hne : p.block ≠ w.heap.size + 1 := by have := HSB.out; omega
      unfold World.cell?
      rw [setRow_other _ _ _ _ hne])
  have HO := Lib.hid (show onlyD ⟨kind, seq, kh, kk, mh, ms, keys⟩ = ⟨kind, 0, z32, 0, z32, 0, []⟩ from by unfold onlyD; simp [k2, k3, k4, k5, k6, k7])
  have HOK := Lib.hid (show onlyOk ⟨kind, seq, kh, kk, mh, ms, keys⟩ = false from by unfold onlyOk; simp [k1, k2, k3, k4, k5, k6, k7])
  go_wp2_with (refine stop_at (some 95) rfl ?_)
  refine Stop.go (wpList_load_agg rfl 38 rfl rfl recTy_u rfl (rec_size _ _ _ _ _ _ _ rfl rfl) (row_cells HG3.out) ?_)
  refine wpList_store_agg rfl 38 rfl rfl rfl (store_row (recv_cells ..) (rec_size _ _ _ _ _ _ _ rfl rfl) HG2.out (by simp [recCells_length, z32_len]) (recCells_one _ _ _ _ _ _ _ _ _)) ?_
  have HBX := HBW
  go_wp2_with fail
  refine ret_rec rfl rfl rfl rfl rfl rfl (setRow_heap _ _ _ _ _ _ HG2.out) ?_
  exact ⟨.slice none 0 0, by rw [HO.out, HOK.out]; rfl, by rw [HO.out]; exact SlR.nil_, below_setRow HBX.out (Nat.le_succ _) _⟩
end Go.Proofs.YtplbcbamnjnhlaaGreatDoor
