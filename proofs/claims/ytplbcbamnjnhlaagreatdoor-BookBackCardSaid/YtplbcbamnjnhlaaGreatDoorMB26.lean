import Derived.Test.YtplbcbamnjnhlaaGreatDoorMB25
import Derived.Test.YtplbcbamnjnhlaaGreatDoorMB16
import Derived.Test.YtplbcbamnjnhlaaGreatDoorMB24
namespace Go.Proofs.YtplbcbamnjnhlaaGreatDoor
open Go.RowKit

theorem fill_at {place : Nat → Option (Nat × Nat)} {i off : Nat} {v : Value} {vs : List Value} {rest : List (Nat × Value)} {cs cs' : List Value} (hv : v.cells = vs.toArray) (hp : place i = some (off, vs.length)) (hl : off + vs.length ≤ cs.length) (he : cs.take off ++ vs ++ cs.drop (off + vs.length) = cs') :
    Instr.fill place cs.toArray ((i, v) :: rest) = Instr.fill place cs'.toArray rest := by
  subst he
  have h := fill_step (place := place) (i := i) (v := v) (vs := vs) (rest := rest) (pre := cs.take off) (Z := cs.drop off) hv (by rw [hp, List.length_take, Nat.min_eq_left (by omega)]) (by rw [List.length_drop]; omega)
  rw [List.take_append_drop, List.drop_drop] at h
  exact h
abbrev rplace : Nat → Option (Nat × Nat) := fun i => (#[((0 : Nat), (1 : Nat)), (1, 1), (2, 33), (35, 33), (68, 1)] : Array (Nat × Nat))[i]?
theorem build_head (w : World) : (Instr.build 38 #[(0, .int .i64 1)]).run Tryz.prog w = .ok (rv headR (.slice none 0 0)) w := by
  unfold Instr.build
  simp only [Sem.run_bind, zero_rec, Result.andThen_ok, recv_cells, run_underlying recTy_u, recTy, fields_rec]
  rfl
theorem build_live (p : K32 × K32) (w : World) : (Instr.build 38 #[(0, .int .i64 4), (2, kv p.1), (3, kv p.2)]).run Tryz.prog w = .ok (rv (liveR p) (.slice none 0 0)) w := by
  unfold Instr.build
  simp only [Sem.run_bind, zero_rec, Result.andThen_ok, recv_cells, run_underlying recTy_u, recTy, fields_rec]
  have h0 := fill_at (place := rplace) (i := 0) (off := 0) (v := .int .i64 4) (vs := [.int .i64 4]) (rest := [(2, kv p.1), (3, kv p.2)]) (cs := recCells 0 0 z32 0 z32 0 (.slice none 0 0)) (cs' := [.int .i64 4, .int .i64 0] ++ (hkCells z32 0 ++ (hkCells z32 0 ++ [.slice none 0 0]))) rfl rfl (by decide) rfl
  have h1 := fill_at (place := rplace) (i := 2) (off := 2) (v := kv p.1) (vs := encK p.1) (rest := [(3, kv p.2)]) (cs := [.int .i64 4, .int .i64 0] ++ (hkCells z32 0 ++ (hkCells z32 0 ++ [.slice none 0 0]))) (cs' := [.int .i64 4, .int .i64 0] ++ (encK p.1 ++ (hkCells z32 0 ++ [.slice none 0 0]))) rfl (by rw [encK_len]; rfl) (by rw [encK_len]; decide) (by rw [encK_len]; rfl)
  have h2 := fill_at (place := rplace) (i := 3) (off := 35) (v := kv p.2) (vs := encK p.2) (rest := []) (cs := [.int .i64 4, .int .i64 0] ++ (encK p.1 ++ (hkCells z32 0 ++ [.slice none 0 0]))) (cs' := [.int .i64 4, .int .i64 0] ++ (encK p.1 ++ (encK p.2 ++ [.slice none 0 0]))) rfl (by rw [encK_len]; rfl) (by simp [encK_len, hkCells_length, z32_len]) (by
    rw [← List.append_assoc, List.take_append_of_le_length (by simp [encK_len]), List.take_of_length_le (by simp [encK_len]), encK_len, List.drop_append, List.drop_of_length_le (by simp [encK_len])]
    simp [encK_len]
    rfl)
  rw [h1, h2] at h0
  rw [show (recCells 0 0 z32 0 z32 0 (.slice none 0 0)).toArray = (recCells 0 0 z32 0 z32 0 (.slice none 0 0)).toArray from rfl, h0]
  rfl
theorem build_pin (k : K32) (w : World) : (Instr.build 38 #[(0, .int .i64 5), (2, kv k)]).run Tryz.prog w = .ok (rv (pinR k) (.slice none 0 0)) w := by
  unfold Instr.build
  simp only [Sem.run_bind, zero_rec, Result.andThen_ok, recv_cells, run_underlying recTy_u, recTy, fields_rec]
  have h0 := fill_at (place := rplace) (i := 0) (off := 0) (v := .int .i64 5) (vs := [.int .i64 5]) (rest := [(2, kv k)]) (cs := recCells 0 0 z32 0 z32 0 (.slice none 0 0)) (cs' := [.int .i64 5, .int .i64 0] ++ (hkCells z32 0 ++ (hkCells z32 0 ++ [.slice none 0 0]))) rfl rfl (by decide) rfl
  have h1 := fill_at (place := rplace) (i := 2) (off := 2) (v := kv k) (vs := encK k) (rest := []) (cs := [.int .i64 5, .int .i64 0] ++ (hkCells z32 0 ++ (hkCells z32 0 ++ [.slice none 0 0]))) (cs' := [.int .i64 5, .int .i64 0] ++ (encK k ++ (hkCells z32 0 ++ [.slice none 0 0]))) rfl (by rw [encK_len]; rfl) (by rw [encK_len]; decide) (by rw [encK_len]; rfl)
  rw [h1] at h0
  rw [h0]
  rfl
structure TwoOff (w w' : World) (r1 r2 : Option Nat) : Prop where
  os : w'.os = w.os
  tape : w'.tape = w.tape
  output : w'.output = w.output
  size : w.heap.size ≤ w'.heap.size
  block : ∀ k, k < w.heap.size → some k ≠ r1 → some k ≠ r2 → w'.heap[k]? = w.heap[k]?
theorem TwoOff.below {w w' : World} {r1 r2 : Option Nat} (h : TwoOff w w' r1 r2) {N : Nat} {w0 : World} (hb : Below N w0 w) (hs : N ≤ w.heap.size) (h1 : ∀ k, r1 = some k → N ≤ k) (h2 : ∀ k, r2 = some k → N ≤ k) : Below N w0 w' :=
  hb.trans ⟨h.os, h.tape, h.output, h.size, fun k hk => h.block k (Nat.lt_of_lt_of_le hk hs) (fun e => by have := h1 k e.symm; omega) (fun e => by have := h2 k e.symm; omega)⟩
theorem TwoOff.own {w w' : World} {r1 r2 : Option Nat} (h : TwoOff w w' r1 r2) {base : Nat} {e : TypeId} {size n : Nat} {v : Value} {xs : List Value} (ho : w.ownsRow base e size v n xs) (h1 : v.ownBlock = none ∨ v.ownBlock ≠ r1) (h2 : v.ownBlock = none ∨ v.ownBlock ≠ r2) : w'.ownsRow base e size v n xs := by
  refine ⟨ho.1, ?_⟩
  rcases ho.2 with h' | ⟨g, cap, cur, rfl, hb, hh, r⟩
  · exact .inl h'
  · refine .inr ⟨g, cap, cur, rfl, hb, (h.block g (Array.getElem?_eq_some_iff.1 hh).1 ?_ ?_).trans hh, r⟩
    · rcases h1 with h1 | h1
      · cases h1
      · exact h1
    · rcases h2 with h2 | h2
      · cases h2
      · exact h2
def PutTo (g : Nat) (base : Nat) (v0 : Value) (l : List UInt8) (w : World) (e : Ending) (w' : World) : Prop :=
  e = .returned (.tuple #[]) ∧ ∃ v, w'.heap[g]? = some (.cells #[v] 44 (0, 0)) ∧ w'.ownsRow base 5 1 v l.length (bcells l) ∧ TwoOff w w' (some g) v0.ownBlock
set_option maxRecDepth 100000 in
set_option maxHeartbeats 4000000 in
theorem putLine_any (g base : Nat) (v : Value) (l : List UInt8) (r : RecD) (w : World) (hg : w.heap[g]? = some (.cells #[v] 44 (0, 0))) (hv : w.ownsRow base 5 1 v l.length (bcells l)) (hr : GoodR r) (hk : r.keys = []) (hl : l.length ≤ 1000000000) (hb : base ≤ w.heap.size) :
    Calls Tryz.prog 36 #[rv r (.slice none 0 0), .pointer (some ⟨g, 0, none⟩)] w (PutTo g base v (l ++ lineL r) w) := by
  have HG := Lib.hid hg
  have HV := Lib.hid hv
  have HR := Lib.hid hr
  have HK := Lib.hid hk
  clear hg hv hr hk
  have hgl : g < w.heap.size := (Array.getElem?_eq_some_iff.1 HG.out).1
  go_enter Tryz.func36, Tryz.ntmps36
  go_wp2_with (refine stop_at (some 2) rfl ?_)
  refine Stop.go (wpList_box rfl _ rfl rfl (recv_cells ..) ?_)
  have hb1 : Below w.heap.size w (w.alloc (.cells (recCells r.kind r.seq r.kh r.kk r.mh r.ms (.slice none 0 0)).toArray 38)) := (Below.refl _ _).alloc (Nat.le_refl _) _
  have HB1 := Lib.hid hb1
  have HC1 := Lib.hid (row_cells (Go.heap_alloc_new w (.cells (recCells r.kind r.seq r.kh r.kk r.mh r.ms (.slice none 0 0)).toArray 38)))
  generalize w.alloc (.cells (recCells r.kind r.seq r.kh r.kk r.mh r.ms (.slice none 0 0)).toArray 38) = w1 at *
  clear hb1
  generalize hac : Act.put _ _ _ = a9
  simp [Act.put] at hac
  subst hac
  go_wp2_with (refine stop_at (some 6) rfl ?_)
  refine Stop.go (wpList_load_agg rfl 38 rfl rfl recTy_u rfl (rec_size _ _ _ _ _ _ _ HR.out.2.1.1 HR.out.2.1.2) HC1.out ?_)
  generalize hac : Act.put _ _ _ = a9
  simp [Act.put] at hac
  subst hac
  go_wp2_with fail
  refine (line_any r none 0 0 w1.heap.size w1 HR.out.2.1 (by rw [HK.out]; exact SlR.nil_) (Nat.le_refl _) HR.out.2.2).mono ?_
  rintro e w2 ⟨hl2, hb2⟩
  unfold LineTo at hl2
  rw [if_pos HR.out.1] at hl2
  obtain ⟨v2, rfl, ho2⟩ := hl2
  obtain ⟨A2, c2, rfl, _, _⟩ := own_form ho2
  have HB2 := Lib.hid (HB1.out.trans (hb2.mono HB1.out.size))
  have HG2 := Lib.hid ((HB2.out.block g hgl).trans HG.out)
  have HV2 := Lib.hid (own_below HV.out HB2.out)
  have HR2 := Lib.hid (Rd.of_own ho2)
  have hll := line_le HR.out
  clear hb2 ho2 HB1 HC1
  have hgc : w2.cell? ⟨g, 0, none⟩ = some v := by rw [cell_of_row _ _ _ _ _ _ HG2.out]; rfl
  go_wp2_with (refine stop_at (some 10) rfl ?_)
  refine Stop.go (wpList_val rfl (v := v) (exec_load rfl rfl (load_slice Tryz.underlying44 hgc)) ?_)
  clear hgc
  generalize hac : Act.put _ _ _ = a9
  simp [Act.put] at hac
  subst hac
  refine wpList_seg 1 _ _ _ (fun Q' hQ' => ?_)
  simp only [List.take_succ_cons, List.take_zero]
  go_wp2_with fail
  simp only [List.drop_succ_cons, List.drop_zero]
  have hbw : base ≤ w2.heap.size := Nat.le_trans hb HB2.out.size
  refine Stop.go (wpList_app u8_ty rfl rfl rfl rfl HV2.out HR2.out (m := (lineL r).length) (by rw [bcells_length]; omega) (bcells_one _) ?h63 ?hby ?hbase ?_)
  case h63 => simp only [maxLen]; omega
  case hby => omega
  case hbase => exact hbw
  intro v3 w3 hown3 hg3 _ _
  have hgne : (some g : Option Nat) ≠ v.ownBlock := fun he => own_not2 HV2.out HG2.out (by decide) he.symm
  have HG3 := Lib.hid ((hg3.block g (Nat.lt_of_lt_of_le hgl HB2.out.size) hgne).trans HG2.out)
  obtain ⟨A3, c3, rfl, _, _⟩ := own_form hown3
  have HN3 := Lib.hid (show w.grownBy w3 v.ownBlock from ⟨hg3.os.trans HB2.out.os, hg3.tape.trans HB2.out.tape, hg3.output.trans HB2.out.output, Nat.le_trans HB2.out.size hg3.size, fun k hk hne => (hg3.block k (Nat.lt_of_lt_of_le hk HB2.out.size) hne).trans (HB2.out.block k hk)⟩)
  have HO3 := Lib.hid hown3
  have hlt3 := (hown3.lt)
  clear hown3 hg3 hgne
  obtain ⟨w4, hst4, hg4, hot4, hbl4⟩ := store_field (P := Tryz.prog) w3 (g := g) (off := 0) (vs := [.slice A3 (l.length + (lineL r).length) c3]) (v := .slice A3 (l.length + (lineL r).length) c3) (ty := 44) rfl (by kernel_rfl) HG3.out (new := #[.slice A3 (l.length + (lineL r).length) c3]) (by simp) (fun u hu => by rw [List.mem_singleton.1 hu]; rfl) (by simp)
  have HST4 := Lib.hid hst4
  have HP := Lib.hid (show PutTo g base v (l ++ lineL r) w (.returned (.tuple #[])) w4 from ⟨rfl, _, hg4, by
    rw [List.length_append, bcells_append]
    have h0 := hbl4 0 w3 (Below.refl _ _) (Nat.zero_le _)
    exact HO3.out.kept (row := some g) ⟨h0.os, h0.tape, h0.output, h0.size, fun k _ hne => hot4 k (fun e => hne (by rw [e]))⟩ (Or.inr (own_not2 HO3.out HG3.out (by decide))), by
    have h0 := hbl4 0 w3 (Below.refl _ _) (Nat.zero_le _)
    exact ⟨h0.os.trans HN3.out.os, h0.tape.trans HN3.out.tape, h0.output.trans HN3.out.output, Nat.le_trans HN3.out.size h0.size, fun k hk h1 h2 => (hot4 k (fun e => h1 (by rw [e]))).trans (HN3.out.block k hk h2)⟩⟩)
  clear hst4 hg4 hot4 hbl4 hlt3
  generalize hac : Act.put _ _ _ = a9
  simp [Act.put] at hac
  subst hac
  refine wpList_store_agg rfl 44 rfl rfl rfl HST4.out ?_
  generalize hac : Act.put _ _ _ = a9
  simp [Act.put] at hac
  subst hac
  go_wp2_with fail
  go_end0
  exact HP.out
theorem kcell_at {w : World} {base : Nat} {A : Option Addr} {c : Nat} {ks : List K32} (h : w.ownsRow base 34 33 (.slice A ks.length c) ks.length (kcells ks)) {i : Nat} (hi : i < ks.length) :
    ∃ q, A = some ⟨q, 0, none⟩ ∧ ∀ j u, (encK ks[i])[j]? = some u → w.cell? ⟨q, i * 33 + j, none⟩ = some u := by
  obtain ⟨q, off, e, hq, hc⟩ := Rd.of_own h (by
    intro e
    have := congrArg List.length e
    rw [kcells_len] at this
    simp only [List.length_nil] at this
    omega)
  rcases h.2 with ⟨hn, _⟩ | ⟨g, cap, cur, hv, _⟩
  · injection hn with e1 _ _
    rw [e] at e1
    cases e1
  · injection hv with e1 _ _
    rw [e] at e1
    injection e1 with e1
    injection e1 with e1 e2 _
    subst e1 e2
    refine ⟨_, e, fun j u hu => ?_⟩
    have hj : j < 33 := by
      have := (List.getElem?_eq_some_iff.1 hu).1
      rwa [encK_len] at this
    have hg : (kcells ks)[i * 33 + j]? = some u := by
      rw [kcells_get ks (i * 33 + j) (by omega)]
      have h1 : (i * 33 + j) / 33 = i := by omega
      have h2 : (i * 33 + j) % 33 = j := by omega
      rw [h1, h2]
      have hl : j < (encK ks[i]).length := by rw [encK_len]; exact hj
      have := (List.getElem?_eq_some_iff.1 hu).2
      simp [hi, hl, this]
    have := hc _ _ hg
    rwa [Nat.zero_add] at this
theorem find_key {l : List (K32 × K32)} (hn : (l.map (·.1)).Nodup) {p : K32 × K32} (hp : p ∈ l) : l.find? (fun q => decide (q.1 = p.1)) = some p := by
  induction l with
  | nil => cases hp
  | cons x r ih =>
    rw [List.map_cons, List.nodup_cons] at hn
    rw [List.find?_cons]
    rcases List.mem_cons.1 hp with rfl | hp
    · simp
    · have : x.1 ≠ p.1 := fun e => hn.1 (List.mem_map.2 ⟨p, hp, e.symm⟩)
      simp only [this, decide_false]
      exact ih hn.2 hp
theorem markAt_of {b : BookD} (h : Good b) {p : K32 × K32} (hp : p ∈ b.live) : markAt b p.1 = some p.2 := by unfold markAt; rw [find_key (live_nodup h) hp]; rfl
structure LinesMid (w : World) (q : Nat) (kA : Option Addr) (kc : Nat) (ks : List K32) (l : List UInt8) (wr : World) : Prop where
  row : ∃ v, wr.heap[q]? = some (.cells #[v] 44 (0, 0)) ∧ wr.ownsRow w.heap.size 5 1 v l.length (bcells l)
  keys : wr.ownsRow w.heap.size 34 33 (.slice kA ks.length kc) ks.length (kcells ks)
  below : Below w.heap.size w wr
  qlo : w.heap.size ≤ q
  qhi : q < wr.heap.size
theorem LinesMid.later {w wr wr' : World} {q : Nat} {kA : Option Addr} {kc : Nat} {ks : List K32} {l : List UInt8} (h : LinesMid w q kA kc ks l wr) (hb : Below wr.heap.size wr wr') : LinesMid w q kA kc ks l wr' := by
  obtain ⟨v, h1, h2⟩ := h.row
  exact ⟨⟨v, (hb.block q h.qhi).trans h1, own_below h2 hb⟩, own_below h.keys hb, h.below.trans (hb.mono h.below.size), h.qlo, Nat.lt_of_lt_of_le h.qhi hb.size⟩
theorem LinesMid.put {w wr wr' : World} {q : Nat} {kA : Option Addr} {kc : Nat} {ks : List K32} {l l' : List UInt8} {v0 : Value} {e : Ending} (h : LinesMid w q kA kc ks l wr) (h1 : wr.heap[q]? = some (.cells #[v0] 44 (0, 0))) (h2 : wr.ownsRow w.heap.size 5 1 v0 l.length (bcells l))
    (hp : PutTo q w.heap.size v0 l' wr e wr') : LinesMid w q kA kc ks l' wr' := by
  obtain ⟨_, v, g1, g2, g3⟩ := hp
  refine ⟨⟨v, g1, g2⟩, g3.own h.keys ?_ ?_, g3.below h.below h.below.size (fun k hk => by injection hk with hk; rw [← hk]; exact h.qlo) (fun k hk => (h2.lt k hk).1), h.qlo, Nat.lt_of_lt_of_le h.qhi g3.size⟩
  · exact Or.inr (own_not2 h.keys h1 (by decide))
  · rcases h2.2 with ⟨rfl, _⟩ | ⟨q2, cap, cur, rfl, _, hh, _⟩
    · rcases h.keys.2 with ⟨e2, _⟩ | ⟨q3, cap3, cur3, e3, _⟩
      · exact Or.inl (by rw [e2]; rfl)
      · exact Or.inr (by rw [e3]; simp [Value.ownBlock])
    · exact Or.inr (own_not2 h.keys hh (by decide))
def Lines33To (b : BookD) (w : World) (e : Ending) (w' : World) : Prop := ∃ v, e = .returned v ∧ w'.ownsRow w.heap.size 5 1 v (linesD b).length (bcells (linesD b)) ∧ Below w.heap.size w w'
theorem lives_len (b : BookD) (i : Nat) : ((headR :: (b.live.take i).map liveR).flatMap lineL).length ≤ 20000 * (i + 1) ∨ ¬ Good b := by
  by_cases h : Good b
  · left
    have := lines_le (headR :: (b.live.take i).map liveR) (fun r hr => recs_right h r (by
      rcases List.mem_cons.1 hr with rfl | hr
      · simp [recsD]
      · obtain ⟨p, hp, rfl⟩ := List.mem_map.1 hr
        simp only [recsD, List.mem_cons, List.mem_append, List.mem_map]
        exact Or.inr (Or.inl ⟨p, List.mem_of_mem_take hp, rfl⟩)))
    refine Nat.le_trans this ?_
    simp
    omega
  · exact Or.inr h
theorem pins_len {b : BookD} (h : Good b) (i : Nat) : ((headR :: (b.live.map liveR ++ (b.pins.take i).map pinR)).flatMap lineL).length ≤ 20000 * (b.live.length + i + 1) := by
  have := lines_le (headR :: (b.live.map liveR ++ (b.pins.take i).map pinR)) (fun r hr => recs_right h r (by
    simp only [recsD, List.mem_cons, List.mem_append, List.mem_map] at hr ⊢
    rcases hr with hr | hr | ⟨k, hk, rfl⟩
    · exact Or.inl hr
    · exact Or.inr (Or.inl hr)
    · exact Or.inr (Or.inr ⟨k, List.mem_of_mem_take hk, rfl⟩)))
  refine Nat.le_trans this ?_
  simp
  omega
set_option maxRecDepth 100000 in
set_option maxHeartbeats 8000000 in
theorem lines33_any (g : Nat) (b : BookD) (w : World) (h : BookAt w g b) (hg : Good b) (hl : b.live.length ≤ 10000) (hp : b.pins.length ≤ 10000) :
    Calls Tryz.prog 12 #[bptr g] w (Lines33To b w) := by
  have HGD := Lib.hid hg
  have hglt := h.lt
  have H := Lib.hid h
  have HLL := Lib.hid hl
  have HLP := Lib.hid hp
  clear h hg hl hp
  go_enter Tryz.func12, Tryz.ntmps12
  go_wp2_with (refine stop_at (some 13) rfl ?_)
  refine Stop.go (wpList_build rfl 38 rfl (vs := #[(0, .int .i64 1)]) (by rfl) (build_head _) ?_)
  generalize hac : Act.put _ _ _ = a9
  simp [Act.put] at hac
  subst hac
  go_wp2_with fail
  refine (line_any headR none 0 0 w.heap.size w head_right.2.1 SlR.nil_ (Nat.le_refl _) head_right.2.2).mono ?_
  rintro e w1 ⟨hl1, hb1⟩
  unfold LineTo at hl1
  rw [if_pos head_right.1] at hl1
  obtain ⟨v1, rfl, ho1⟩ := hl1
  obtain ⟨A1, c1, rfl, _, _⟩ := own_form ho1
  have HO1 := Lib.hid ho1
  have HB1 := Lib.hid hb1
  clear hb1 ho1
  go_wp2_with fail
  have hb2 : Below w1.heap.size w1 (w1.alloc (.cells #[Value.slice A1 (lineL headR).length c1] 44)) := (Below.refl _ _).alloc (Nat.le_refl _) _
  have HG2 := Lib.hid (Go.heap_alloc_new w1 (.cells #[Value.slice A1 (lineL headR).length c1] 44))
  have HS2 := Lib.hid (World.size_alloc w1 (.cells #[Value.slice A1 (lineL headR).length c1] 44))
  have HO2 := Lib.hid (own_below HO1.out hb2)
  have HB2 := Lib.hid (HB1.out.trans (hb2.mono HB1.out.size))
  have HQ := Lib.hid (show w.heap.size ≤ w1.heap.size from HB1.out.size)
  clear hb2 HO1 HB1
  generalize w1.alloc (.cells #[Value.slice A1 (lineL headR).length c1] 44) = w2 at *
  generalize w1.heap.size = q at *
  refine (live_any g b w2 (H.out.below HB2.out hglt) HGD.out (by have := HLL.out; omega)).mono ?_
  rintro e w3 ⟨v3, rfl, ho3, hb3⟩
  obtain ⟨A3, c3, rfl, hc3, _⟩ := own_form ho3
  have HX3 := Lib.hid (show LinesMid w q A3 c3 (b.live.map (·.1)) ((headR :: (b.live.take 0).map liveR).flatMap lineL) w3 from
    ⟨⟨_, (hb3.block q (by rw [HS2.out]; omega)).trans HG2.out, by simpa using own_below HO2.out hb3⟩, own_more ho3 HB2.out.size, HB2.out.trans (hb3.mono HB2.out.size), HQ.out, Nat.lt_of_lt_of_le (by rw [HS2.out]; omega) hb3.size⟩)
  clear ho3 hb3 HG2 HS2 HO2 HB2
  have HN := Lib.hid (show (b.live.map (·.1)).length = b.live.length from List.length_map _)
  obtain ⟨n, hn⟩ : ∃ n, n = (b.live.map (·.1)).length := ⟨_, rfl⟩
  rw [← hn] at hc3
  rw [← hn]
  have HNE := Lib.hid hn
  clear hn
  have hnle : n ≤ 10000 := by rw [HNE.out, HN.out]; exact HLL.out
  go_wp2_with fail
  go_loopw [21] (fun v21 wr => ∃ i : Nat, i ≤ n ∧ v21 = .int .i64 i ∧ Hid (LinesMid w q A3 c3 (b.live.map (·.1)) ((headR :: (b.live.take i).map liveR).flatMap lineL) wr)) (fun v21 _ => n - (intOf v21).toNat)
  case atStart => exact ⟨0, Nat.zero_le _, rfl, HX3.out⟩
  case round =>
    obtain ⟨i, hi, rfl, HX⟩ := hrel
    by_cases hlt : i < n
    · have hlt2 : i < (b.live.map (·.1)).length := by rw [← HNE.out]; exact hlt
      have hlt3 : i < b.live.length := by rw [← HN.out]; exact hlt2
      obtain ⟨qk, rfl, hkc⟩ := kcell_at HX.out.keys hlt2
      rw [List.getElem_map] at hkc
      obtain ⟨p, hp⟩ : ∃ p, p = b.live[i] := ⟨_, rfl⟩
      rw [← hp] at hkc
      have HKC := Lib.hid hkc
      have HPI := Lib.hid hp
      have HPM := Lib.hid (show markAt b p.1 = some p.2 from markAt_of HGD.out (by rw [hp]; exact List.getElem_mem _))
      clear hkc hp hlt2
      go_wp2_with (refine stop_at (some 24) rfl ?_)
      refine Stop.go (wpList_load_agg rfl 34 rfl rfl keyTy.ut rfl (cs := encK p.1) (key_size _ _ p.1.2) HKC.out ?_)
      refine wpList_alloc rfl 34 rfl zero_key rfl ?_
      refine wpList_store_agg rfl 34 rfl rfl rfl (store_new2 (g := wr.heap.size) rfl (v := kv p.1) (vs := encK p.1) rfl (key_size _ _ p.1.2) (by rw [encK_len]; simp [hkCells_length, z32_len]) (hkCells_one _ _)) ?_
      have hb4 : Below wr.heap.size wr (wr.alloc (.cells (encK p.1).toArray 34)) := (Below.refl _ _).alloc (Nat.le_refl _) _
      have HX4 := Lib.hid (HX.out.later hb4)
      have HG4 := Lib.hid (Go.heap_alloc_new wr (.cells (encK p.1).toArray 34))
      have HS4 := Lib.hid (World.size_alloc wr (.cells (encK p.1).toArray 34))
      clear hb4
      generalize wr.alloc (.cells (encK p.1).toArray 34) = w4 at *
      generalize hac : Act.put _ _ _ = a9
      simp [Act.put] at hac
      subst hac
      go_wp2_with (refine stop_at (some 27) rfl ?_)
      refine Stop.go (wpList_load_agg rfl 34 rfl rfl keyTy.ut rfl (cs := encK p.1) (key_size _ _ p.1.2) (row_cells HG4.out) ?_)
      generalize hac : Act.put _ _ _ = a9
      simp [Act.put] at hac
      subst hac
      go_wp2_with fail
      refine (get_any g b p.1 w4 (H.out.below HX4.out.below hglt) HGD.out).mono ?_
      rintro e w5 ⟨rfl, hb5⟩
      rw [HPM.out]
      have HX5 := Lib.hid (HX4.out.later hb5)
      have HG5 := Lib.hid ((hb5.block _ (by rw [HS4.out]; omega)).trans HG4.out)
      have HS5 := Lib.hid (show wr.heap.size < w5.heap.size from Nat.lt_of_lt_of_le (by rw [HS4.out]; omega) hb5.size)
      clear hb5 HX4 HG4
      simp only [Option.getD_some, Option.isSome_some]
      go_wp2_with (refine stop_at (some 8) rfl ?_)
      refine Stop.go (wpList_alloc rfl 36 rfl zero_mark rfl ?_)
      refine wpList_store_agg rfl 36 rfl rfl rfl (store_new2 (g := w5.heap.size) rfl (v := kv p.2) (vs := encK p.2) rfl (mark_size _ _ p.2.2) (by rw [encK_len]; simp [hkCells_length, z32_len]) (hkCells_one _ _)) ?_
      have hb6 : Below w5.heap.size w5 (w5.alloc (.cells (encK p.2).toArray 36)) := (Below.refl _ _).alloc (Nat.le_refl _) _
      have HX6 := Lib.hid (HX5.out.later hb6)
      have HG6 := Lib.hid ((hb6.block _ HS5.out).trans HG5.out)
      have HM6 := Lib.hid (Go.heap_alloc_new w5 (.cells (encK p.2).toArray 36))
      clear hb6 HX5 HG5
      generalize w5.alloc (.cells (encK p.2).toArray 36) = w6 at *
      generalize hac : Act.put _ _ _ = a9
      simp [Act.put] at hac
      subst hac
      go_wp2_with (refine stop_at (some 32) rfl ?_)
      refine Stop.go (wpList_load_agg rfl 34 rfl rfl keyTy.ut rfl (cs := encK p.1) (key_size _ _ p.1.2) (row_cells HG6.out) ?_)
      refine wpList_load_agg rfl 36 rfl rfl markTy.ut rfl (cs := encK p.2) (mark_size _ _ p.2.2) (row_cells HM6.out) ?_
      refine wpList_build rfl 38 rfl (vs := #[(0, .int .i64 4), (2, kv p.1), (3, kv p.2)]) (by rfl) (build_live p _) ?_
      generalize hac : Act.put _ _ _ = a9
      simp [Act.put] at hac
      subst hac
      obtain ⟨v0, g1, g2⟩ := HX6.out.row
      have HPL := Lib.hid (putLine_any q w.heap.size v0 _ (liveR p) w6 g1 g2 (live_right (HGD.out.lok p (by rw [HPI.out]; exact List.getElem_mem _))) rfl (by
        rcases lives_len b i with h | h
        · omega
        · exact absurd HGD.out h) HX6.out.below.size)
      have HPP := Lib.hid (fun e w' hp => HX6.out.put (e := e) (wr' := w') (l' := (headR :: (b.live.take i).map liveR).flatMap lineL ++ lineL (liveR p)) g1 g2 hp)
      clear g1 g2
      go_wp2_with fail
      refine HPL.out.mono ?_
      intro e w7 hp7
      obtain ⟨rfl, _⟩ := id hp7
      have HX7 := Lib.hid (HPP.out _ _ hp7)
      clear hp7
      go_wp2_with fail
      go_roundw
      case rel =>
        refine ⟨i + 1, by omega, by go_num, ?_⟩
        rw [List.take_succ_eq_append_getElem hlt3, ← HPI.out]
        rw [show (headR :: (b.live.take i ++ [p]).map liveR).flatMap lineL = (headR :: (b.live.take i).map liveR).flatMap lineL ++ lineL (liveR p) by simp [List.flatMap_cons, List.flatMap_append]]
        exact HX7.out
      case measure => simp [intOf]; omega
    · have hin : i = n := by omega
      subst hin
      have HXE := Lib.hid (show LinesMid w q A3 c3 (b.live.map (·.1)) ((headR :: b.live.map liveR).flatMap lineL) wr by
        have := HX.out
        rwa [HNE.out, HN.out, List.take_length] at this)
      clear HX HX3 hc3 hnle
      go_wp2_with fail
      refine (pins_any g b wr (H.out.below HXE.out.below hglt) HGD.out (by have := HLP.out; omega)).mono ?_
      rintro e w3 ⟨v4, rfl, ho3, hb3⟩
      obtain ⟨A4, c4, rfl, hc4, _⟩ := own_form ho3
      have HX3 := Lib.hid (show LinesMid w q A4 c4 b.pins ((headR :: (b.live.map liveR ++ (b.pins.take 0).map pinR)).flatMap lineL) w3 by
        have hq := HXE.out.later hb3
        refine ⟨?_, own_more ho3 HXE.out.below.size, hq.below, hq.qlo, hq.qhi⟩
        simpa using hq.row)
      clear ho3 hb3 HXE
      obtain ⟨m, hm⟩ : ∃ m, m = b.pins.length := ⟨_, rfl⟩
      rw [← hm] at hc4
      rw [← hm]
      have HME := Lib.hid hm
      clear hm
      have hmle : m ≤ 10000 := by rw [HME.out]; exact HLP.out
      go_wp2_with fail
      go_loopw [40] (fun v40 wr => ∃ j : Nat, j ≤ m ∧ v40 = .int .i64 j ∧ Hid (LinesMid w q A4 c4 b.pins ((headR :: (b.live.map liveR ++ (b.pins.take j).map pinR)).flatMap lineL) wr)) (fun v40 _ => m - (intOf v40).toNat)
      case atStart => exact ⟨0, Nat.zero_le _, rfl, HX3.out⟩
      case round =>
        obtain ⟨j, hj, rfl, HX⟩ := hrel
        by_cases hlt : j < m
        · have hlt2 : j < b.pins.length := by rw [← HME.out]; exact hlt
          obtain ⟨qk, rfl, hkc⟩ := kcell_at HX.out.keys hlt2
          obtain ⟨p, hp⟩ : ∃ p, p = b.pins[j] := ⟨_, rfl⟩
          rw [← hp] at hkc
          have HKC := Lib.hid hkc
          have HPI := Lib.hid hp
          clear hkc hp
          go_wp2_with (refine stop_at (some 43) rfl ?_)
          refine Stop.go (wpList_load_agg rfl 34 rfl rfl keyTy.ut rfl (cs := encK p) (key_size _ _ p.2) HKC.out ?_)
          refine wpList_alloc rfl 34 rfl zero_key rfl ?_
          refine wpList_store_agg rfl 34 rfl rfl rfl (store_new2 (g := wr.heap.size) rfl (v := kv p) (vs := encK p) rfl (key_size _ _ p.2) (by rw [encK_len]; simp [hkCells_length, z32_len]) (hkCells_one _ _)) ?_
          have hb4 : Below wr.heap.size wr (wr.alloc (.cells (encK p).toArray 34)) := (Below.refl _ _).alloc (Nat.le_refl _) _
          have HX4 := Lib.hid (HX.out.later hb4)
          have HG4 := Lib.hid (Go.heap_alloc_new wr (.cells (encK p).toArray 34))
          clear hb4
          generalize wr.alloc (.cells (encK p).toArray 34) = w4 at *
          generalize hac : Act.put _ _ _ = a9
          simp [Act.put] at hac
          subst hac
          go_wp2_with (refine stop_at (some 45) rfl ?_)
          refine Stop.go (wpList_load_agg rfl 34 rfl rfl keyTy.ut rfl (cs := encK p) (key_size _ _ p.2) (row_cells HG4.out) ?_)
          refine wpList_build rfl 38 rfl (vs := #[(0, .int .i64 5), (2, kv p)]) (by rfl) (build_pin p _) ?_
          generalize hac : Act.put _ _ _ = a9
          simp [Act.put] at hac
          subst hac
          obtain ⟨v0, g1, g2⟩ := HX4.out.row
          have HPL := Lib.hid (putLine_any q w.heap.size v0 _ (pinR p) w4 g1 g2 (pin_right (HGD.out.pok p (by rw [HPI.out]; exact List.getElem_mem _))) rfl (by
            have := pins_len HGD.out j
            have := HLL.out
            omega) HX4.out.below.size)
          have HPP := Lib.hid (fun e w' hp => HX4.out.put (e := e) (wr' := w') (l' := (headR :: (b.live.map liveR ++ (b.pins.take j).map pinR)).flatMap lineL ++ lineL (pinR p)) g1 g2 hp)
          clear g1 g2
          go_wp2_with fail
          refine HPL.out.mono ?_
          intro e w7 hp7
          obtain ⟨rfl, _⟩ := id hp7
          have HX7 := Lib.hid (HPP.out _ _ hp7)
          clear hp7
          go_wp2_with fail
          go_roundw
          case rel =>
            refine ⟨j + 1, by omega, by go_num, ?_⟩
            rw [List.take_succ_eq_append_getElem hlt2, ← HPI.out]
            rw [show (headR :: (b.live.map liveR ++ (b.pins.take j ++ [p]).map pinR)).flatMap lineL = (headR :: (b.live.map liveR ++ (b.pins.take j).map pinR)).flatMap lineL ++ lineL (pinR p) by simp [List.flatMap_cons, List.flatMap_append]]
            exact HX7.out
          case measure => simp [intOf]; omega
        · have hjm : j = m := by omega
          subst hjm
          have HXE := Lib.hid (show LinesMid w q A4 c4 b.pins (linesD b) wr by
            have := HX.out
            rwa [HME.out, List.take_length] at this)
          obtain ⟨v0, g1, g2⟩ := HXE.out.row
          have hgc : wr.cell? ⟨q, 0, none⟩ = some v0 := by rw [cell_of_row _ _ _ _ _ _ g1]; rfl
          have HP := Lib.hid (show Lines33To b w (.returned v0) wr from ⟨v0, rfl, g2, HXE.out.below⟩)
          clear g1 g2 HX HX3 hc4
          go_wp2_with (refine stop_at (some 49) rfl ?_)
          refine Stop.go (wpList_val rfl (v := v0) (exec_load rfl rfl (load_slice Tryz.underlying44 hgc)) ?_)
          clear hgc
          generalize hac : Act.put _ _ _ = a9
          simp [Act.put] at hac
          subst hac
          go_wp2_with fail
          go_ret
          exact HP.out
end Go.Proofs.YtplbcbamnjnhlaaGreatDoor
