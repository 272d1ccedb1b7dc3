import Derived.Test.YtplbcbamnjnhlaaGreatDoorMT00
import Derived.Test.YtplbcbamnjnhlaaGreatDoorMT25
import Derived.Test.YtplbcbamnjnhlaaGreatDoorMT16
import Derived.Test.YtplbcbamnjnhlaaGreatDoorMT24
set_option maxRecDepth 100000
set_option maxHeartbeats 40000000
namespace Go.Proofs.YtplbcbamnjnhlaaGreatDoor
open Go.RowKit

theorem lh {place : Nat → Option (Nat × Nat)} {i off : Nat} {v : Value} {vs : List Value} {rest : List (Nat × Value)} {cs cs' : List Value} (hv : v.cells = vs.toArray) (hp : place i = some (off, vs.length)) (hl : off + vs.length ≤ cs.length) (he : cs.take off ++ vs ++ cs.drop (off + vs.length) = cs') :
  Instr.fill place cs.toArray ((i, v) :: rest) = Instr.fill place cs'.toArray rest := by
 subst he
 have h := jy (place := place) (i := i) (v := v) (vs := vs) (rest := rest) (pre := cs.take off) (Z := cs.drop off) hv (by rw [hp, List.length_take, Nat.min_eq_left (by omega)]) (by rw [List.length_drop]; omega)
 rw [List.take_append_drop, List.drop_drop] at h
 exact h
abbrev yn : Nat → Option (Nat × Nat) := fun i => (#[((0 : Nat), (1 : Nat)), (1, 1), (2, 33), (35, 33), (68, 1)] : Array (Nat × Nat))[i]?
theorem qpr (w : World) : (Instr.build 38 #[(0, .int .i64 1)]).run Tryz.prog w = .ok (rv fj (.slice none 0 0)) w := by
 unfold Instr.build
 simp only [Sem.run_bind, gn, Result.andThen_ok, bb, run_underlying dr, qcj, mw]
 rfl
theorem qpo (p : K32 × K32) (w : World) : (Instr.build 38 #[(0, .int .i64 4), (2, kv p.1), (3, kv p.2)]).run Tryz.prog w = .ok (rv (mb p) (.slice none 0 0)) w := by
 unfold Instr.build
 simp only [Sem.run_bind, gn, Result.andThen_ok, bb, run_underlying dr, qcj, mw]
 have h0 := lh (place := yn) (i := 0) (off := 0) (v := .int .i64 4) (vs := [.int .i64 4]) (rest := [(2, kv p.1), (3, kv p.2)]) (cs := ag 0 0 z32 0 z32 0 (.slice none 0 0)) (cs' := [.int .i64 4, .int .i64 0] ++ (af z32 0 ++ (af z32 0 ++ [.slice none 0 0]))) rfl rfl (by decide) rfl
 have h1 := lh (place := yn) (i := 2) (off := 2) (v := kv p.1) (vs := encK p.1) (rest := [(3, kv p.2)]) (cs := [.int .i64 4, .int .i64 0] ++ (af z32 0 ++ (af z32 0 ++ [.slice none 0 0]))) (cs' := [.int .i64 4, .int .i64 0] ++ (encK p.1 ++ (af z32 0 ++ [.slice none 0 0]))) rfl (by rw [bi]; rfl) (by rw [bi]; decide) (by rw [bi]; rfl)
 have h2 := lh (place := yn) (i := 3) (off := 35) (v := kv p.2) (vs := encK p.2) (rest := []) (cs := [.int .i64 4, .int .i64 0] ++ (encK p.1 ++ (af z32 0 ++ [.slice none 0 0]))) (cs' := [.int .i64 4, .int .i64 0] ++ (encK p.1 ++ (encK p.2 ++ [.slice none 0 0]))) rfl (by rw [bi]; rfl) (by simp [bi, ae, bg]) (by
  rw [← List.append_assoc, List.take_append_of_le_length (by simp [bi]), List.take_of_length_le (by simp [bi]), bi, List.drop_append, List.drop_of_length_le (by simp [bi])]
  simp [bi]
  rfl)
 rw [h1, h2] at h0
 rw [show (ag 0 0 z32 0 z32 0 (.slice none 0 0)).toArray = (ag 0 0 z32 0 z32 0 (.slice none 0 0)).toArray from rfl, h0]
 rfl
theorem qum (k : K32) (w : World) : (Instr.build 38 #[(0, .int .i64 5), (2, kv k)]).run Tryz.prog w = .ok (rv (pinR k) (.slice none 0 0)) w := by
 unfold Instr.build
 simp only [Sem.run_bind, gn, Result.andThen_ok, bb, run_underlying dr, qcj, mw]
 have h0 := lh (place := yn) (i := 0) (off := 0) (v := .int .i64 5) (vs := [.int .i64 5]) (rest := [(2, kv k)]) (cs := ag 0 0 z32 0 z32 0 (.slice none 0 0)) (cs' := [.int .i64 5, .int .i64 0] ++ (af z32 0 ++ (af z32 0 ++ [.slice none 0 0]))) rfl rfl (by decide) rfl
 have h1 := lh (place := yn) (i := 2) (off := 2) (v := kv k) (vs := encK k) (rest := []) (cs := [.int .i64 5, .int .i64 0] ++ (af z32 0 ++ (af z32 0 ++ [.slice none 0 0]))) (cs' := [.int .i64 5, .int .i64 0] ++ (encK k ++ (af z32 0 ++ [.slice none 0 0]))) rfl (by rw [bi]; rfl) (by rw [bi]; decide) (by rw [bi]; rfl)
 rw [h1] at h0
 rw [h0]
 rfl
structure qgs (w w' : World) (r1 r2 : Option Nat) : Prop where
 os : w'.os = w.os
 tape : w'.tape = w.tape
 output : w'.output = w.output
 size : w.heap.size ≤ w'.heap.size
 block : ∀ k, k < w.heap.size → some k ≠ r1 → some k ≠ r2 → w'.heap[k]? = w.heap[k]?
theorem qgs.below {w w' : World} {r1 r2 : Option Nat} (h : qgs w w' r1 r2) {N : Nat} {w0 : World} (hb : Below N w0 w) (hs : N ≤ w.heap.size) (h1 : ∀ k, r1 = some k → N ≤ k) (h2 : ∀ k, r2 = some k → N ≤ k) : Below N w0 w' :=
 hb.trans ⟨h.os, h.tape, h.output, h.size, fun k hk => h.block k (Nat.lt_of_lt_of_le hk hs) (fun e => by have := h1 k e.symm; omega) (fun e => by have := h2 k e.symm; omega)⟩
theorem qgs.own {w w' : World} {r1 r2 : Option Nat} (h : qgs w w' r1 r2) {base : Nat} {e : TypeId} {size n : Nat} {v : Value} {xs : List Value} (ho : w.ownsRow base e size v n xs) (h1 : v.ownBlock = none ∨ v.ownBlock ≠ r1) (h2 : v.ownBlock = none ∨ v.ownBlock ≠ r2) : w'.ownsRow base e size v n xs := by
 refine ⟨ho.1, ?_⟩
 rcases ho.2 with h' | ⟨g, cap, cur, rfl, hb, hh, r⟩
 ·exact .inl h'
 ·refine .inr ⟨g, cap, cur, rfl, hb, (h.block g (gl hh) ?_ ?_).trans hh, r⟩
  ·rcases h1 with h1 | h1
   ·cases h1
   ·exact h1
  ·rcases h2 with h2 | h2
   ·cases h2
   ·exact h2
def PutTo (g : Nat) (base : Nat) (v0 : Value) (l : List UInt8) (w : World) (e : Ending) (w' : World) : Prop :=
 e = .returned (.tuple #[]) ∧ ∃ v, w'.heap[g]? = some (.cells #[v] 44 (0, 0)) ∧ w'.ownsRow base 5 1 v l.length (ak l) ∧ qgs w w' (some g) v0.ownBlock
theorem qck (g base : Nat) (v : Value) (l : List UInt8) (r : RecD) (w : World) (hg : w.heap[g]? = some (.cells #[v] 44 (0, 0))) (hv : w.ownsRow base 5 1 v l.length (ak l)) (hr : ke r) (hk : r.keys = []) (hl : l.length ≤ 1000000000) (hb : base ≤ w.heap.size) :
  Calls Tryz.prog 36 #[rv r (.slice none 0 0), .pointer (some ⟨g, 0, none⟩)] w (PutTo g base v (l ++ ca r) w) := by
 have HG := Lh hg
 have HV := Lh hv
 have HR := Lh hr
 have HK := Lh hk
 clear hg hv hr hk
 have hgl : g < w.heap.size := (gl HG.o)
 go_enter Tryz.func36, Tryz.ntmps36
 go_wp2_with (refine ai (some 2) rfl ?_)
 refine Stop.go (bn rfl _ rfl rfl (bb ..) ?_)
 have hb1 : Below w.heap.size w (w.alloc (.cells (ag r.kind r.seq r.kh r.kk r.mh r.ms (.slice none 0 0)).toArray 38)) := (br _ _).alloc (nr _) _
 have HB1 := Lh hb1
 have HC1 := Lh (aq (hzn w (.cells (ag r.kind r.seq r.kh r.kk r.mh r.ms (.slice none 0 0)).toArray 38)))
 generalize w.alloc (.cells (ag r.kind r.seq r.kh r.kk r.mh r.ms (.slice none 0 0)).toArray 38) = w1 at *
 clear hb1
 generalize ha : Act.put _ _ _ = z9; simp [Act.put] at ha; subst ha
 go_wp2_with (refine ai (some 6) rfl ?_)
 refine Stop.go (aa rfl 38 rfl rfl dr rfl (bk _ _ _ _ _ _ _ HR.o.2.1.1 HR.o.2.1.2) HC1.o ?_)
 generalize ha : Act.put _ _ _ = z9; simp [Act.put] at ha; subst ha
 go_wp2_with fail
 refine (qfi r none 0 0 w1.heap.size w1 HR.o.2.1 (by rw [HK.o]; exact SlR.nil_) (nr _) HR.o.2.2).mono ?_
 rintro e w2 ⟨hl2, hb2⟩
 unfold xc at hl2
 rw [if_pos HR.o.1] at hl2
 obtain ⟨v2, rfl, ho2⟩ := hl2
 obtain ⟨A2, c2, rfl, _, _⟩ := ap ho2
 have HB2 := Lh (HB1.o.trans (hb2.mono HB1.o.size))
 have HG2 := Lh ((HB2.o.block g hgl).trans HG.o)
 have HV2 := Lh (bw HV.o HB2.o)
 have HR2 := Lh (Rd.of_own ho2)
 have hll := qrh HR.o
 clear hb2 ho2 HB1 HC1
 have hgc : w2.cell? ⟨g, 0, none⟩ = some v := by rw [cell_of_row _ _ _ _ _ _ HG2.o]; rfl
 go_wp2_with (refine ai (some 10) rfl ?_)
 refine Stop.go (bz rfl (v := v) (du rfl rfl (jo Tryz.underlying44 hgc)) ?_)
 clear hgc
 generalize ha : Act.put _ _ _ = z9; simp [Act.put] at ha; subst ha
 refine ar 1 _ _ _ (fun Q' hQ' => ?_)
 simp only [T1, T0]
 go_wp2_with fail
 simp only [dr1, dr0]
 have hbw : base ≤ w2.heap.size := Nat.le_trans hb HB2.o.size
 refine Stop.go (ay im rfl rfl rfl rfl HV2.o HR2.o (m := (ca r).length) (by rw [am]; omega) (ef _) ?h63 ?hby ?hbase ?_)
 case h63 => simp only [maxLen]; omega
 case hby => omega
 case hbase => exact hbw
 intro v3 w3 hown3 hg3 _ _
 have hgne : (some g : Option Nat) ≠ v.ownBlock := fun he => pb HV2.o HG2.o (by decide) he.symm
 have HG3 := Lh ((hg3.block g (Nat.lt_of_lt_of_le hgl HB2.o.size) hgne).trans HG2.o)
 obtain ⟨A3, c3, rfl, _, _⟩ := ap hown3
 have HN3 := Lh (show w.grownBy w3 v.ownBlock from ⟨hg3.os.trans HB2.o.os, hg3.tape.trans HB2.o.tape, hg3.output.trans HB2.o.output, Nat.le_trans HB2.o.size hg3.size, fun k hk hne => (hg3.block k (Nat.lt_of_lt_of_le hk HB2.o.size) hne).trans (HB2.o.block k hk)⟩)
 have HO3 := Lh hown3
 have hlt3 := (hown3.lt)
 clear hown3 hg3 hgne
 obtain ⟨w4, hst4, hg4, hot4, hbl4⟩ := bo (P := Tryz.prog) w3 (g := g) (off := 0) (vs := [.slice A3 (l.length + (ca r).length) c3]) (v := .slice A3 (l.length + (ca r).length) c3) (ty := 44) rfl (by kernel_rfl) HG3.o (new := #[.slice A3 (l.length + (ca r).length) c3]) (by simp) (fun u hu => by rw [List.mem_singleton.1 hu]; rfl) (by simp)
 have HST4 := Lh hst4
 have HP := Lh (show PutTo g base v (l ++ ca r) w (.returned (.tuple #[])) w4 from ⟨rfl, _, hg4, by
  rw [List.length_append, bt]
  have h0 := hbl4 0 w3 (br _ _) (Nat.zero_le _)
  exact HO3.o.kept (row := some g) ⟨h0.os, h0.tape, h0.output, h0.size, fun k _ hne => hot4 k (fun e => hne (by rw [e]))⟩ (Or.inr (pb HO3.o HG3.o (by decide))), by
  have h0 := hbl4 0 w3 (br _ _) (Nat.zero_le _)
  exact ⟨h0.os.trans HN3.o.os, h0.tape.trans HN3.o.tape, h0.output.trans HN3.o.output, Nat.le_trans HN3.o.size h0.size, fun k hk h1 h2 => (hot4 k (fun e => h1 (by rw [e]))).trans (HN3.o.block k hk h2)⟩⟩)
 clear hst4 hg4 hot4 hbl4 hlt3
 generalize ha : Act.put _ _ _ = z9; simp [Act.put] at ha; subst ha
 refine ac rfl 44 rfl rfl rfl HST4.o ?_
 generalize ha : Act.put _ _ _ = z9; simp [Act.put] at ha; subst ha
 go_wp2_with fail
 go_end0
 exact HP.o
theorem qmi {w : World} {base : Nat} {A : Option Addr} {c : Nat} {ks : List K32} (h : w.ownsRow base 34 33 (.slice A ks.length c) ks.length (df ks)) {i : Nat} (hi : i < ks.length) :
  ∃ q, A = some ⟨q, 0, none⟩ ∧ ∀ j u, (encK ks[i])[j]? = some u → w.cell? ⟨q, i * 33 + j, none⟩ = some u := by
 obtain ⟨q, off, e, hq, hc⟩ := Rd.of_own h (by
  intro e
  have := congrArg List.length e
  rw [ja] at this
  simp only [List.length_nil] at this
  omega)
 rcases h.2 with ⟨hn, _⟩ | ⟨g, cap, cur, hv, _⟩
 ·injection hn with e1 _ _
  rw [e] at e1
  cases e1
 ·injection hv with e1 _ _
  rw [e] at e1
  injection e1 with e1
  injection e1 with e1 e2 _
  subst e1 e2
  refine ⟨_, e, fun j u hu => ?_⟩
  have hj : j < 33 := by
   have := (List.getElem?_eq_some_iff.1 hu).1
   rwa [bi] at this
  have hg : (df ks)[i * 33 + j]? = some u := by
   rw [zb ks (i * 33 + j) (by omega)]
   have h1 : (i * 33 + j) / 33 = i := by omega
   have h2 : (i * 33 + j) % 33 = j := by omega
   rw [h1, h2]
   have hl : j < (encK ks[i]).length := by rw [bi]; exact hj
   have := (List.getElem?_eq_some_iff.1 hu).2
   simp [hi, hl, this]
  have := hc _ _ hg
  rwa [Nat.zero_add] at this
theorem find_key {l : List (K32 × K32)} (hn : (l.map (·.1)).Nodup) {p : K32 × K32} (hp : p ∈ l) : l.find? (fun q => decide (q.1 = p.1)) = some p := by
 induction l with
 |nil => cases hp
 |cons x r ih =>
  rw [List.map_cons, List.nodup_cons] at hn
  rw [List.find?_cons]
  rcases List.mem_cons.1 hp with rfl | hp
  ·simp
  ·have : x.1 ≠ p.1 := fun e => hn.1 (List.mem_map.2 ⟨p, hp, e.symm⟩)
   simp only [this, decide_false]
   exact ih hn.2 hp
theorem qtl {b : bj} (h : Good b) {p : K32 × K32} (hp : p ∈ b.live) : nq b p.1 = some p.2 := by unfold nq; rw [find_key (od h) hp]; rfl
structure kw (w : World) (q : Nat) (kA : Option Addr) (kc : Nat) (ks : List K32) (l : List UInt8) (wr : World) : Prop where
 row : ∃ v, wr.heap[q]? = some (.cells #[v] 44 (0, 0)) ∧ wr.ownsRow w.heap.size 5 1 v l.length (ak l)
 keys : wr.ownsRow w.heap.size 34 33 (.slice kA ks.length kc) ks.length (df ks)
 below : Below w.heap.size w wr
 qlo : w.heap.size ≤ q
 qhi : q < wr.heap.size
theorem kw.later {w wr wr' : World} {q : Nat} {kA : Option Addr} {kc : Nat} {ks : List K32} {l : List UInt8} (h : kw w q kA kc ks l wr) (hb : Below wr.heap.size wr wr') : kw w q kA kc ks l wr' := by
 obtain ⟨v, h1, h2⟩ := h.row
 exact ⟨⟨v, (hb.block q h.qhi).trans h1, bw h2 hb⟩, bw h.keys hb, h.below.trans (hb.mono h.below.size), h.qlo, Nat.lt_of_lt_of_le h.qhi hb.size⟩
theorem kw.put {w wr wr' : World} {q : Nat} {kA : Option Addr} {kc : Nat} {ks : List K32} {l l' : List UInt8} {v0 : Value} {e : Ending} (h : kw w q kA kc ks l wr) (h1 : wr.heap[q]? = some (.cells #[v0] 44 (0, 0))) (h2 : wr.ownsRow w.heap.size 5 1 v0 l.length (ak l))
  (hp : PutTo q w.heap.size v0 l' wr e wr') : kw w q kA kc ks l' wr' := by
 obtain ⟨_, v, g1, g2, g3⟩ := hp
 refine ⟨⟨v, g1, g2⟩, g3.own h.keys ?_ ?_, g3.below h.below h.below.size (fun k hk => by injection hk with hk; rw [← hk]; exact h.qlo) (fun k hk => (h2.lt k hk).1), h.qlo, Nat.lt_of_lt_of_le h.qhi g3.size⟩
 ·exact Or.inr (pb h.keys h1 (by decide))
 ·rcases h2.2 with ⟨rfl, _⟩ | ⟨q2, cap, cur, rfl, _, hh, _⟩
  ·rcases h.keys.2 with ⟨e2, _⟩ | ⟨q3, cap3, cur3, e3, _⟩
   ·exact Or.inl (by rw [e2]; rfl)
   ·exact Or.inr (by rw [e3]; simp [Value.ownBlock])
  ·exact Or.inr (pb h.keys hh (by decide))
def qit (b : bj) (w : World) (e : Ending) (w' : World) : Prop := ∃ v, e = .returned v ∧ w'.ownsRow w.heap.size 5 1 v (yz b).length (ak (yz b)) ∧ Below w.heap.size w w'
theorem qtm (b : bj) (i : Nat) : ((fj :: (b.live.take i).map mb).flatMap ca).length ≤ 20000 * (i + 1) ∨ ¬ Good b := by
 by_cases h : Good b
 ·left
  have := qfh (fj :: (b.live.take i).map mb) (fun r hr => yo h r (by
   rcases List.mem_cons.1 hr with rfl | hr
   ·simp [qer]
   ·obtain ⟨p, hp, rfl⟩ := List.mem_map.1 hr
    simp only [qer, List.mem_cons, List.mem_append, List.mem_map]
    exact Or.inr (Or.inl ⟨p, List.mem_of_mem_take hp, rfl⟩)))
  refine Nat.le_trans this ?_
  simp
  omega
 ·exact Or.inr h
theorem pins_len {b : bj} (h : Good b) (i : Nat) : ((fj :: (b.live.map mb ++ (b.pins.take i).map pinR)).flatMap ca).length ≤ 20000 * (b.live.length + i + 1) := by
 have := qfh (fj :: (b.live.map mb ++ (b.pins.take i).map pinR)) (fun r hr => yo h r (by
  simp only [qer, List.mem_cons, List.mem_append, List.mem_map] at hr ⊢
  rcases hr with hr | hr | ⟨k, hk, rfl⟩
  ·exact Or.inl hr
  ·exact Or.inr (Or.inl hr)
  ·exact Or.inr (Or.inr ⟨k, List.mem_of_mem_take hk, rfl⟩)))
 refine Nat.le_trans this ?_
 simp
 omega
theorem qly (g : Nat) (b : bj) (w : World) (h : eh w g b) (hg : Good b) (hl : b.live.length ≤ 10000) (hp : b.pins.length ≤ 10000) :
  Calls Tryz.prog 12 #[bptr g] w (qit b w) := by
 have HGD := Lh hg
 have hglt := h.lt
 have H := Lh h
 have HLL := Lh hl
 have HLP := Lh hp
 clear h hg hl hp
 go_enter Tryz.func12, Tryz.ntmps12
 go_wp2_with (refine ai (some 13) rfl ?_)
 refine Stop.go (bl rfl 38 rfl (vs := #[(0, .int .i64 1)]) (by rfl) (qpr _) ?_)
 generalize ha : Act.put _ _ _ = z9; simp [Act.put] at ha; subst ha
 go_wp2_with fail
 refine (qfi fj none 0 0 w.heap.size w un.2.1 SlR.nil_ (nr _) un.2.2).mono ?_
 rintro e w1 ⟨hl1, hb1⟩
 unfold xc at hl1
 rw [if_pos un.1] at hl1
 obtain ⟨v1, rfl, ho1⟩ := hl1
 obtain ⟨A1, c1, rfl, _, _⟩ := ap ho1
 have HO1 := Lh ho1
 have HB1 := Lh hb1
 clear hb1 ho1
 go_wp2_with fail
 have hb2 : Below w1.heap.size w1 (w1.alloc (.cells #[Value.slice A1 (ca fj).length c1] 44)) := (br _ _).alloc (nr _) _
 have HG2 := Lh (hzn w1 (.cells #[Value.slice A1 (ca fj).length c1] 44))
 have HS2 := Lh (sz_ w1 (.cells #[Value.slice A1 (ca fj).length c1] 44))
 have HO2 := Lh (bw HO1.o hb2)
 have HB2 := Lh (HB1.o.trans (hb2.mono HB1.o.size))
 have HQ := Lh (show w.heap.size ≤ w1.heap.size from HB1.o.size)
 clear hb2 HO1 HB1
 generalize w1.alloc (.cells #[Value.slice A1 (ca fj).length c1] 44) = w2 at *
 generalize w1.heap.size = q at *
 refine (qlx g b w2 (H.o.below HB2.o hglt) HGD.o (by have := HLL.o; omega)).mono ?_
 rintro e w3 ⟨v3, rfl, ho3, hb3⟩
 obtain ⟨A3, c3, rfl, hc3, _⟩ := ap ho3
 have HX3 := Lh (show kw w q A3 c3 (b.live.map (·.1)) ((fj :: (b.live.take 0).map mb).flatMap ca) w3 from
  ⟨⟨_, (hb3.block q (by rw [HS2.o]; omega)).trans HG2.o, by simpa using bw HO2.o hb3⟩, fv ho3 HB2.o.size, HB2.o.trans (hb3.mono HB2.o.size), HQ.o, Nat.lt_of_lt_of_le (by rw [HS2.o]; omega) hb3.size⟩)
 clear ho3 hb3 HG2 HS2 HO2 HB2
 have HN := Lh (show (b.live.map (·.1)).length = b.live.length from List.length_map _)
 obtain ⟨n, hn⟩ : ∃ n, n = (b.live.map (·.1)).length := ⟨_, rfl⟩
 rw [← hn] at hc3
 rw [← hn]
 have HNE := Lh hn
 clear hn
 have hnle : n ≤ 10000 := by rw [HNE.o, HN.o]; exact HLL.o
 go_wp2_with fail
 go_loopw [21] (fun v21 wr => ∃ i : Nat, i ≤ n ∧ v21 = .int .i64 i ∧ Hid (kw w q A3 c3 (b.live.map (·.1)) ((fj :: (b.live.take i).map mb).flatMap ca) wr)) (fun v21 _ => n - (intOf v21).toNat)
 case atStart => exact ⟨0, Nat.zero_le _, rfl, HX3.o⟩
 case round =>
  obtain ⟨i, hi, rfl, HX⟩ := hrel
  by_cases hlt : i < n
  ·have hlt2 : i < (b.live.map (·.1)).length := by rw [← HNE.o]; exact hlt
   have hlt3 : i < b.live.length := by rw [← HN.o]; exact hlt2
   obtain ⟨qk, rfl, hkc⟩ := qmi HX.o.keys hlt2
   rw [List.getElem_map] at hkc
   obtain ⟨p, hp⟩ : ∃ p, p = b.live[i] := ⟨_, rfl⟩
   rw [← hp] at hkc
   have HKC := Lh hkc
   have HPI := Lh hp
   have HPM := Lh (show nq b p.1 = some p.2 from qtl HGD.o (by rw [hp]; exact List.getElem_mem _))
   clear hkc hp hlt2
   go_wp2_with (refine ai (some 24) rfl ?_)
   refine Stop.go (aa rfl 34 rfl rfl ba.ut rfl (cs := encK p.1) (al _ _ p.1.2) HKC.o ?_)
   refine av rfl 34 rfl ge rfl ?_
   refine ac rfl 34 rfl rfl rfl (ch (g := wr.heap.size) rfl (v := kv p.1) (vs := encK p.1) rfl (al _ _ p.1.2) (by rw [bi]; simp [ae, bg]) (bc _ _)) ?_
   have hb4 : Below wr.heap.size wr (wr.alloc (.cells (encK p.1).toArray 34)) := (br _ _).alloc (nr _) _
   have HX4 := Lh (HX.o.later hb4)
   have HG4 := Lh (hzn wr (.cells (encK p.1).toArray 34))
   have HS4 := Lh (sz_ wr (.cells (encK p.1).toArray 34))
   clear hb4
   generalize wr.alloc (.cells (encK p.1).toArray 34) = w4 at *
   generalize ha : Act.put _ _ _ = z9; simp [Act.put] at ha; subst ha
   go_wp2_with (refine ai (some 27) rfl ?_)
   refine Stop.go (aa rfl 34 rfl rfl ba.ut rfl (cs := encK p.1) (al _ _ p.1.2) (aq HG4.o) ?_)
   generalize ha : Act.put _ _ _ = z9; simp [Act.put] at ha; subst ha
   go_wp2_with fail
   refine (qrn g b p.1 w4 (H.o.below HX4.o.below hglt) HGD.o).mono ?_
   rintro e w5 ⟨rfl, hb5⟩
   rw [HPM.o]
   have HX5 := Lh (HX4.o.later hb5)
   have HG5 := Lh ((hb5.block _ (by rw [HS4.o]; omega)).trans HG4.o)
   have HS5 := Lh (show wr.heap.size < w5.heap.size from Nat.lt_of_lt_of_le (by rw [HS4.o]; omega) hb5.size)
   clear hb5 HX4 HG4
   simp only [Option.getD_some, Option.isSome_some]
   go_wp2_with (refine ai (some 8) rfl ?_)
   refine Stop.go (av rfl 36 rfl ip rfl ?_)
   refine ac rfl 36 rfl rfl rfl (ch (g := w5.heap.size) rfl (v := kv p.2) (vs := encK p.2) rfl (dj _ _ p.2.2) (by rw [bi]; simp [ae, bg]) (bc _ _)) ?_
   have hb6 : Below w5.heap.size w5 (w5.alloc (.cells (encK p.2).toArray 36)) := (br _ _).alloc (nr _) _
   have HX6 := Lh (HX5.o.later hb6)
   have HG6 := Lh ((hb6.block _ HS5.o).trans HG5.o)
   have HM6 := Lh (hzn w5 (.cells (encK p.2).toArray 36))
   clear hb6 HX5 HG5
   generalize w5.alloc (.cells (encK p.2).toArray 36) = w6 at *
   generalize ha : Act.put _ _ _ = z9; simp [Act.put] at ha; subst ha
   go_wp2_with (refine ai (some 32) rfl ?_)
   refine Stop.go (aa rfl 34 rfl rfl ba.ut rfl (cs := encK p.1) (al _ _ p.1.2) (aq HG6.o) ?_)
   refine aa rfl 36 rfl rfl jw.ut rfl (cs := encK p.2) (dj _ _ p.2.2) (aq HM6.o) ?_
   refine bl rfl 38 rfl (vs := #[(0, .int .i64 4), (2, kv p.1), (3, kv p.2)]) (by rfl) (qpo p _) ?_
   generalize ha : Act.put _ _ _ = z9; simp [Act.put] at ha; subst ha
   obtain ⟨v0, g1, g2⟩ := HX6.o.row
   have HPL := Lh (qck q w.heap.size v0 _ (mb p) w6 g1 g2 (qff (HGD.o.lok p (by rw [HPI.o]; exact List.getElem_mem _))) rfl (by
    rcases qtm b i with h | h
    ·omega
    ·exact absurd HGD.o h) HX6.o.below.size)
   have HPP := Lh (fun e w' hp => HX6.o.put (e := e) (wr' := w') (l' := (fj :: (b.live.take i).map mb).flatMap ca ++ ca (mb p)) g1 g2 hp)
   clear g1 g2
   go_wp2_with fail
   refine HPL.o.mono ?_
   intro e w7 hp7
   obtain ⟨rfl, _⟩ := id hp7
   have HX7 := Lh (HPP.o _ _ hp7)
   clear hp7
   go_wp2_with fail
   go_roundw
   case rel =>
    refine ⟨i + 1, by omega, by go_num, ?_⟩
    rw [List.take_succ_eq_append_getElem hlt3, ← HPI.o]
    rw [show (fj :: (b.live.take i ++ [p]).map mb).flatMap ca = (fj :: (b.live.take i).map mb).flatMap ca ++ ca (mb p) by simp [List.flatMap_cons, List.flatMap_append]]
    exact HX7.o
   case measure => simp [intOf]; omega
  ·have hin : i = n := by omega
   subst hin
   have HXE := Lh (show kw w q A3 c3 (b.live.map (·.1)) ((fj :: b.live.map mb).flatMap ca) wr by
    have := HX.o
    rwa [HNE.o, HN.o, List.take_length] at this)
   clear HX HX3 hc3 hnle
   go_wp2_with fail
   refine (qlk g b wr (H.o.below HXE.o.below hglt) HGD.o (by have := HLP.o; omega)).mono ?_
   rintro e w3 ⟨v4, rfl, ho3, hb3⟩
   obtain ⟨A4, c4, rfl, hc4, _⟩ := ap ho3
   have HX3 := Lh (show kw w q A4 c4 b.pins ((fj :: (b.live.map mb ++ (b.pins.take 0).map pinR)).flatMap ca) w3 by
    have hq := HXE.o.later hb3
    refine ⟨?_, fv ho3 HXE.o.below.size, hq.below, hq.qlo, hq.qhi⟩
    simpa using hq.row)
   clear ho3 hb3 HXE
   obtain ⟨m, hm⟩ : ∃ m, m = b.pins.length := ⟨_, rfl⟩
   rw [← hm] at hc4
   rw [← hm]
   have HME := Lh hm
   clear hm
   have hmle : m ≤ 10000 := by rw [HME.o]; exact HLP.o
   go_wp2_with fail
   go_loopw [40] (fun v40 wr => ∃ j : Nat, j ≤ m ∧ v40 = .int .i64 j ∧ Hid (kw w q A4 c4 b.pins ((fj :: (b.live.map mb ++ (b.pins.take j).map pinR)).flatMap ca) wr)) (fun v40 _ => m - (intOf v40).toNat)
   case atStart => exact ⟨0, Nat.zero_le _, rfl, HX3.o⟩
   case round =>
    obtain ⟨j, hj, rfl, HX⟩ := hrel
    by_cases hlt : j < m
    ·have hlt2 : j < b.pins.length := by rw [← HME.o]; exact hlt
     obtain ⟨qk, rfl, hkc⟩ := qmi HX.o.keys hlt2
     obtain ⟨p, hp⟩ : ∃ p, p = b.pins[j] := ⟨_, rfl⟩
     rw [← hp] at hkc
     have HKC := Lh hkc
     have HPI := Lh hp
     clear hkc hp
     go_wp2_with (refine ai (some 43) rfl ?_)
     refine Stop.go (aa rfl 34 rfl rfl ba.ut rfl (cs := encK p) (al _ _ p.2) HKC.o ?_)
     refine av rfl 34 rfl ge rfl ?_
     refine ac rfl 34 rfl rfl rfl (ch (g := wr.heap.size) rfl (v := kv p) (vs := encK p) rfl (al _ _ p.2) (by rw [bi]; simp [ae, bg]) (bc _ _)) ?_
     have hb4 : Below wr.heap.size wr (wr.alloc (.cells (encK p).toArray 34)) := (br _ _).alloc (nr _) _
     have HX4 := Lh (HX.o.later hb4)
     have HG4 := Lh (hzn wr (.cells (encK p).toArray 34))
     clear hb4
     generalize wr.alloc (.cells (encK p).toArray 34) = w4 at *
     generalize ha : Act.put _ _ _ = z9; simp [Act.put] at ha; subst ha
     go_wp2_with (refine ai (some 45) rfl ?_)
     refine Stop.go (aa rfl 34 rfl rfl ba.ut rfl (cs := encK p) (al _ _ p.2) (aq HG4.o) ?_)
     refine bl rfl 38 rfl (vs := #[(0, .int .i64 5), (2, kv p)]) (by rfl) (qum p _) ?_
     generalize ha : Act.put _ _ _ = z9; simp [Act.put] at ha; subst ha
     obtain ⟨v0, g1, g2⟩ := HX4.o.row
     have HPL := Lh (qck q w.heap.size v0 _ (pinR p) w4 g1 g2 (qhx (HGD.o.pok p (by rw [HPI.o]; exact List.getElem_mem _))) rfl (by
      have := pins_len HGD.o j
      have := HLL.o
      omega) HX4.o.below.size)
     have HPP := Lh (fun e w' hp => HX4.o.put (e := e) (wr' := w') (l' := (fj :: (b.live.map mb ++ (b.pins.take j).map pinR)).flatMap ca ++ ca (pinR p)) g1 g2 hp)
     clear g1 g2
     go_wp2_with fail
     refine HPL.o.mono ?_
     intro e w7 hp7
     obtain ⟨rfl, _⟩ := id hp7
     have HX7 := Lh (HPP.o _ _ hp7)
     clear hp7
     go_wp2_with fail
     go_roundw
     case rel =>
      refine ⟨j + 1, by omega, by go_num, ?_⟩
      rw [List.take_succ_eq_append_getElem hlt2, ← HPI.o]
      rw [show (fj :: (b.live.map mb ++ (b.pins.take j ++ [p]).map pinR)).flatMap ca = (fj :: (b.live.map mb ++ (b.pins.take j).map pinR)).flatMap ca ++ ca (pinR p) by simp [List.flatMap_cons, List.flatMap_append]]
      exact HX7.o
     case measure => simp [intOf]; omega
    ·have hjm : j = m := by omega
     subst hjm
     have HXE := Lh (show kw w q A4 c4 b.pins (yz b) wr by
      have := HX.o
      rwa [HME.o, List.take_length] at this)
     obtain ⟨v0, g1, g2⟩ := HXE.o.row
     have hgc : wr.cell? ⟨q, 0, none⟩ = some v0 := by rw [cell_of_row _ _ _ _ _ _ g1]; rfl
     have HP := Lh (show qit b w (.returned v0) wr from ⟨v0, rfl, g2, HXE.o.below⟩)
     clear g1 g2 HX HX3 hc4
     go_wp2_with (refine ai (some 49) rfl ?_)
     refine Stop.go (bz rfl (v := v0) (du rfl rfl (jo Tryz.underlying44 hgc)) ?_)
     clear hgc
     generalize ha : Act.put _ _ _ = z9; simp [Act.put] at ha; subst ha
     go_wp2_with fail
     go_ret
     exact HP.o
end Go.Proofs.YtplbcbamnjnhlaaGreatDoor
