/- Texts of this proof joined: RefPlain, KeyRef, Ref32t, RefAt. -/
import Derived.Test.YtplbcbamnjnhlaaGreatDoorMT00
import Derived.Test.YtplbcbamnjnhlaaGreatDoorMT19
import Derived.Test.YtplbcbamnjnhlaaGreatDoorMT11
import Derived.Test.YtplbcbamnjnhlaaGreatDoorMT24
import Derived.Test.YtplbcbamnjnhlaaGreatDoorMT16
import Derived.Test.YtplbcbamnjnhlaaGreatDoorMT35
import Derived.Test.YtplbcbamnjnhlaaGreatDoorMT30
import Derived.Test.YtplbcbamnjnhlaaGreatDoorMT17
set_option maxRecDepth 100000
set_option maxHeartbeats 40000000
namespace Go.Proofs.YtplbcbamnjnhlaaGreatDoor
open Go.RowKit

def D1 (k : Nat) : RecD := ⟨k, 0, z32, 0, z32, 0, []⟩
def D2 (k : Nat) (l : List UInt8) : RecD := if k = 2 ∧ l.length = 74 then decR 2 l else D1 k
def D3 (k : Nat) (l : List UInt8) : RecD := if k = 3 ∧ l.length = 6 then decR 3 l else D2 k l
def D4 (k : Nat) (l : List UInt8) : RecD := if k = 4 ∧ l.length = 68 then decR 4 l else D3 k l
def D5 (k : Nat) (l : List UInt8) : RecD := if (k = 5 ∨ k = 6) ∧ l.length = 33 then decR (k : Nat) l else D4 k l
def D7 (k : Nat) (l : List UInt8) : RecD := if k = 7 then decR 7 l else D5 k l
theorem qpa {l : List UInt8} {n : Nat} (h : n ≤ l.length / 33) : ∀ x ∈ (List.range n).map (fun i => fk l (33 * i)), x.1.length = 32 := by
 intro x hx
 obtain ⟨i, hi, rfl⟩ := List.mem_map.1 hx
 have := List.mem_range.1 hi
 exact lb l _ (by omega)
theorem D5_good (k : Nat) (l : List UInt8) : Hs (D5 k l) ∧ (D5 k l).keys = [] ∧ (D5 k l).kind = k := by
 unfold D5
 split
 ·rename_i h
  obtain ⟨hk, hl⟩ := h
  rcases hk with rfl | rfl
  ·exact ⟨⟨lb l 0 (by omega), rfl⟩, rfl, rfl⟩
  ·exact ⟨⟨lb l 0 (by omega), rfl⟩, rfl, rfl⟩
 ·unfold D4
  split
  ·rename_i h
   obtain ⟨rfl, hl⟩ := h
   exact ⟨⟨lb l 0 (by omega), by show ((l.drop 33).take 32).length = 32; rw [List.length_take, List.length_drop]; omega⟩, rfl, rfl⟩
  ·unfold D3
   split
   ·rename_i h
    obtain ⟨rfl, hl⟩ := h
    exact ⟨⟨rfl, rfl⟩, rfl, rfl⟩
   ·unfold D2
    split
    ·rename_i h
     obtain ⟨rfl, hl⟩ := h
     exact ⟨⟨lb l 6 (by omega), by show ((l.drop 39).take 32).length = 32; rw [List.length_take, List.length_drop]; omega⟩, rfl, rfl⟩
    ·exact ⟨⟨rfl, rfl⟩, rfl, rfl⟩
theorem qrz (k : Nat) (l : List UInt8) : Hs (D7 k l) ∧ (∀ x ∈ (D7 k l).keys, x.1.length = 32) ∧ (D7 k l).kind = k := by
 unfold D7
 split
 ·rename_i h
  subst h
  exact ⟨⟨rfl, rfl⟩, qpa (nr _), rfl⟩
 ·obtain ⟨h1, h2, h3⟩ := D5_good k l
  refine ⟨h1, ?_, h3⟩
  rw [h2]
  exact fun x hx => absurd hx (List.not_mem_nil)
theorem D7_dec (k : Nat) (l : List UInt8) (h : okT (k : Nat) l = true) : D7 k l = decR (k : Nat) l := by
 obtain ⟨hg, _, hk⟩ := qgf h
 have hkd := lq hg.1
 rw [hk] at hkd
 unfold okT at h
 rw [Bool.and_eq_true] at h
 have hL := h.1
 have hk7 : k = 1 ∨ k = 2 ∨ k = 3 ∨ k = 4 ∨ k = 5 ∨ k = 6 ∨ k = 7 := by omega
 clear h hkd hk hg
 rcases hk7 with rfl | rfl | rfl | rfl | rfl | rfl | rfl
 ·rfl
 ·have hl : l.length = 74 := by simpa [lenT] using hL
  unfold D7 D5 D4 D3 D2
  rw [if_neg (by omega), if_neg (by omega), if_neg (by omega), if_neg (by omega), if_pos ⟨rfl, hl⟩]
  rfl
 ·have hl : l.length = 6 := by simpa [lenT] using hL
  unfold D7 D5 D4 D3
  rw [if_neg (by omega), if_neg (by omega), if_neg (by omega), if_pos ⟨rfl, hl⟩]
  rfl
 ·have hl : l.length = 68 := by simpa [lenT] using hL
  unfold D7 D5 D4
  rw [if_neg (by omega), if_neg (by omega), if_pos ⟨rfl, hl⟩]
  rfl
 ·have hl : l.length = 33 := by simpa [lenT] using hL
  unfold D7 D5
  rw [if_neg (by omega), if_pos ⟨.inl rfl, hl⟩]
 ·have hl : l.length = 33 := by simpa [lenT] using hL
  unfold D7 D5
  rw [if_neg (by omega), if_pos ⟨.inr rfl, hl⟩]
 ·rfl
theorem D7_ok (k : Nat) (l : List UInt8) : (au (D7 k l) && decide (dx (D7 k l) = l)) = okT (k : Nat) l := by
 cases h : okT (k : Nat) l with
 |true =>
  obtain ⟨hg, hl, _⟩ := qgf h
  rw [D7_dec k l h, hg.1, hl, decide_eq_true rfl]
  rfl
 |false =>
  cases hR : au (D7 k l) with
  |false => rfl
  |true =>
   rw [Bool.true_and, decide_eq_false_iff_not]
   intro hl
   obtain ⟨h1, h2, h3⟩ := qrz k l
   have := (qlv (r := D7 k l) ⟨hR, h1, h2⟩).1
   rw [h3, hl, h] at this
   cases this

theorem key_row (t : List UInt8) (i da db : Nat) (ht : t.length = i) (hi : i < 32) (hb : 16 * da + db < 256) :
  ((af (t ++ List.replicate (32 - i) 0) 0).toArray.toList.take i ++ [Value.int .u8 (16 * (da : Int) + (db : Int))] ++ (af (t ++ List.replicate (32 - i) 0) 0).toArray.toList.drop (i + 1)).toArray =
   (af ((t ++ [UInt8.ofNat (16 * da + db)]) ++ List.replicate (32 - (i + 1)) 0) 0).toArray := by
 have e0 : List.replicate (32 - i) (0 : UInt8) = 0 :: List.replicate (32 - (i + 1)) 0 := by
  rw [show 32 - i = (32 - (i + 1)) + 1 by omega, List.replicate_succ]
 have e1 : af (t ++ List.replicate (32 - i) 0) 0 = ak t ++ (ic 0 :: (ak (List.replicate (32 - (i + 1)) 0) ++ [.int .i64 0])) := by
  rw [e0]
  simp [af, ak]
 have hl : (ak t).length = i := by rw [am, ht]
 simp only [e1]
 rw [List.take_append_of_le_length (by omega), List.take_of_length_le (by omega), List.drop_append, List.drop_eq_nil_of_le (by omega), hl, show i + 1 - i = 1 by omega]
 have e2 : Value.int .u8 (16 * (da : Int) + (db : Int)) = ic (UInt8.ofNat (16 * da + db)) := by
  unfold ic
  rw [UInt8.toNat_ofNat', Nat.mod_eq_of_lt (by omega)]
  push_cast
  rfl
 rw [e2]
 simp [af, ak]

theorem key_row2 (t : List UInt8) (i : Nat) (b : UInt8) (ht : t.length = i) (hi : i < 32) :
  ((af (t ++ List.replicate (32 - i) 0) 0).toArray.toList.take i ++ [Value.int .u8 (b.toNat : Nat)] ++ (af (t ++ List.replicate (32 - i) 0) 0).toArray.toList.drop (i + 1)).toArray =
   (af ((t ++ [b]) ++ List.replicate (32 - (i + 1)) 0) 0).toArray := by
 have := key_row t i (b.toNat / 16) (b.toNat % 16) ht hi (by have := b.toNat_lt; omega)
 have e : 16 * ((b.toNat / 16 : Nat) : Int) + ((b.toNat % 16 : Nat) : Int) = ((b.toNat : Nat) : Int) := by omega
 have e2 : 16 * (b.toNat / 16) + b.toNat % 16 = b.toNat := by omega
 rw [e, e2] at this
 simpa using this
theorem key_last (t : List UInt8) (x : Int) (ht : t.length = 32) : ((af t 0).toArray.toList.take 32 ++ [Value.int .i64 x] ++ (af t 0).toArray.toList.drop (32 + 1)).toArray = (af t x).toArray := by
 have hlt : (ak t).length = 32 := by rw [am, ht]
 have e1 : (af t 0).take 32 = ak t := by unfold af; rw [List.take_append_of_le_length (by omega), List.take_of_length_le (by omega)]
 have e2 : (af t 0).drop 33 = [] := List.drop_eq_nil_of_le (by rw [ae, ht]; exact nr _)
 simp only [e1, e2, List.append_nil]
 rfl
theorem tz (l : List UInt8) (A : Option Addr) (c B a : Nat) (w : World) (hr : Rd w B A (ak l)) (hB : B ≤ w.heap.size) (hl : a + 33 ≤ l.length) (hl2 : l.length ≤ 1099511627776) :
  Calls Tryz.prog 97 #[.slice A l.length c, .int .i64 a] w fun e w' => e = .returned (hkv ((l.drop a).take 32) (co ((l.drop (a + 32)).take 1) : Nat)) ∧ Below w.heap.size w w' := by
 have HR := Lh hr
 have HG2 := Lh (Go.heap_alloc2_old w (.cells (af z32 0).toArray 34) (.cells (af z32 0).toArray 34))
 have HG4 := Lh (Go.heap_alloc2_new w (.cells (af z32 0).toArray 34) (.cells (af z32 0).toArray 34))
 have HB := Lh (((br _ _).alloc (nr _) _).alloc (Nat.le_of_lt (by show _ < (Array.push _ _).size; rw [Array.size_push]; exact Nat.lt_succ_self _)) _ : Below w.heap.size w ((w.alloc (.cells (af z32 0).toArray 34)).alloc (.cells (af z32 0).toArray 34)))
 have HBW := Lh hB
 clear hr hB
 go_enter Tryz.func97, Tryz.ntmps97
 go_wp2_with (refine ai (some 4) rfl ?_)
 refine Stop.go (av rfl _ rfl ge rfl ?_)
 go_wp2_with (refine ai (some 5) rfl ?_)
 refine Stop.go (av rfl _ rfl ge rfl ?_)
 go_wp2_with fail
 go_loopw [6] (fun v6 wr => ∃ i : Nat, i ≤ 32 ∧ v6 = .int .i64 i ∧ Hid (wr.heap[w.heap.size + 1]? = some (.cells (af ((l.drop a).take i ++ List.replicate (32 - i) 0) 0).toArray 34 (0, 0))) ∧ Hid (wr.heap[w.heap.size]? = some (.cells (af z32 0).toArray 34 (0, 0))) ∧ Hid (Below w.heap.size w wr)) (fun v6 _ => 32 - (intOf v6).toNat)
 case atStart => exact ⟨0, by omega, rfl, HG4.o, HG2.o, HB.o⟩
 case round =>
  obtain ⟨i, hi, rfl, H4, H2, HW⟩ := hrel
  by_cases hlt : i < 32
  ·have hin : a + i < l.length := by omega
   obtain ⟨ab, ao, rfl, hab, hcell⟩ := (HR.o.below (HW.o.mono HBW.o)).byte hin
   have HT := Lh (show ((l.drop a).take i).length = i by rw [List.length_take, List.length_drop]; omega)
   have HS := Lh (show (l.drop a).take (i + 1) = (l.drop a).take i ++ [l[a + i]] by
    rw [List.take_succ_eq_append_getElem (by rw [List.length_drop]; omega), List.getElem_drop])
   have hst : (Instr.storeAt 5 (.pointer (some ⟨w.heap.size + 1, i, none⟩)) (.int .u8 (l[a + i].toNat : Nat))).run Tryz.prog wr = .ok () (wr.setRow (w.heap.size + 1) (af ((l.drop a).take (i + 1) ++ List.replicate (32 - (i + 1)) 0) 0).toArray) := by
    rw [jt (vs := [.int .u8 (l[a + i].toNat : Nat)]) rfl (by kernel_rfl) H4.o (by rw [List.size_toArray, ae, List.length_append, HT.o, List.length_replicate]; simp) (fun u hu => by rw [List.mem_singleton.1 hu]; rfl)]
    exact congrArg (fun r => Result.ok () (wr.setRow (w.heap.size + 1) r)) (by rw [HS.o]; exact key_row2 _ i _ HT.o hlt)
   have H4b := Lh (setRow_heap wr (w.heap.size + 1) _ (af ((l.drop a).take (i + 1) ++ List.replicate (32 - (i + 1)) 0) 0).toArray _ _ H4.o)
   have H2b := Lh ((setRow_other wr (w.heap.size + 1) w.heap.size (af ((l.drop a).take (i + 1) ++ List.replicate (32 - (i + 1)) 0) 0).toArray (by omega)).trans H2.o)
   have HWb := Lh (below_setRow HW.o (Nat.le_succ _) (af ((l.drop a).take (i + 1) ++ List.replicate (32 - (i + 1)) 0) 0).toArray : Below w.heap.size w (wr.setRow (w.heap.size + 1) _))
   have HST := Lh hst
   obtain ⟨d, hd⟩ : ∃ d, d = l[a + i].toNat := ⟨_, rfl⟩
   rw [← hd] at hcell HST
   obtain ⟨b, hb⟩ : ∃ b, b = a + i := ⟨_, rfl⟩
   have hbi : (a : Int) + (i : Int) = (b : Int) := by omega
   rw [show ao + (a + i) = ao + b by omega] at hcell
   have hbl : b < l.length := by omega
   generalize wr.setRow (w.heap.size + 1) _ = w9 at HST H4b H2b HWb
   clear hst hd hb HS hin
   go_wp2_with (refine ai (some 15) rfl ?_)
   refine Stop.go (ar 5 _ _ _ (fun Q' hQ' => ?_))
   simp only [T1, T0]
   go_wp2_with fail
   simp only [dr1, dr0]
   refine Stop.go (ac rfl 5 rfl rfl rfl HST.o ?_)
   go_wp2_with fail
   refine ⟨⟨i + 1, by omega, rfl, H4b, H2b, HWb⟩, ?_⟩
   simp [intOf]; omega
  ·obtain rfl : i = 32 := by omega
   have hin : a + 32 < l.length := by omega
   obtain ⟨ab, ao, rfl, hab, hcell⟩ := (HR.o.below (HW.o.mono HBW.o)).byte hin
   have HT := Lh (show ((l.drop a).take 32).length = 32 by rw [List.length_take, List.length_drop]; omega)
   have HV := Lh (show co ((l.drop (a + 32)).take 1) = l[a + 32].toNat by rw [List.drop_eq_getElem_cons hin, List.take_succ_cons]; simp [co])
   have h4 := H4.o
   rw [show (l.drop a).take 32 ++ List.replicate (32 - 32) 0 = (l.drop a).take 32 by simp] at h4
   have H4c := Lh h4
   clear h4 H4
   have hst : (Instr.storeAt 3 (.pointer (some ⟨w.heap.size + 1, 32, none⟩)) (.int .i64 (l[a + 32].toNat : Nat))).run Tryz.prog wr = .ok () (wr.setRow (w.heap.size + 1) (af ((l.drop a).take 32) (l[a + 32].toNat : Nat)).toArray) := by
    rw [jt (vs := [.int .i64 (l[a + 32].toNat : Nat)]) rfl (by kernel_rfl) H4c.o (by simp only [List.size_toArray, ae, HT.o]; exact nr _) (fun u hu => by rw [List.mem_singleton.1 hu]; rfl)]
    exact congrArg (fun r => Result.ok () (wr.setRow (w.heap.size + 1) r)) (key_last _ _ HT.o)
   have H4b := Lh (setRow_heap wr (w.heap.size + 1) _ (af ((l.drop a).take 32) (l[a + 32].toNat : Nat)).toArray _ _ H4c.o)
   have H2b := Lh ((setRow_other wr (w.heap.size + 1) w.heap.size (af ((l.drop a).take 32) (l[a + 32].toNat : Nat)).toArray (by omega)).trans H2.o)
   have HWb := Lh (below_setRow HW.o (Nat.le_succ _) (af ((l.drop a).take 32) (l[a + 32].toNat : Nat)).toArray : Below w.heap.size w (wr.setRow (w.heap.size + 1) _))
   have HST := Lh hst
   have hd8 : l[a + 32].toNat < 256 := l[a + 32].toNat_lt
   obtain ⟨d, hd⟩ : ∃ d, d = l[a + 32].toNat := ⟨_, rfl⟩
   rw [← hd] at hcell HST hd8 H4b H2b HWb
   have HV2 := Lh (HV.o.trans hd.symm)
   generalize wr.setRow (w.heap.size + 1) _ = w9 at HST H4b H2b HWb
   obtain ⟨b, hb⟩ : ∃ b, b = a + 32 := ⟨_, rfl⟩
   have hbi : (a : Int) + 32 = (b : Int) := by omega
   rw [show ao + (a + 32) = ao + b by omega] at hcell
   have hbl : b < l.length := by omega
   clear hst hd hb HV hin
   go_wp2_with (refine ai (some 22) rfl ?_)
   refine Stop.go (ar 5 _ _ _ (fun Q' hQ' => ?_))
   simp only [T1, T0]
   go_wp2_with fail
   simp only [dr1, dr0]
   refine Stop.go (ac rfl 3 rfl rfl rfl HST.o ?_)
   go_wp2_with (refine ai (some 27) rfl ?_)
   refine Stop.go (aa rfl 34 rfl rfl ba.ut rfl (al _ _ HT.o) (aq H4b.o) ?_)
   refine ac rfl 34 rfl rfl rfl (ce (dl _ _) (al _ _ HT.o) H2b.o (by simp [ae, HT.o, bg]) (bc _ _)) ?_
   go_wp2_with fail
   refine zy rfl HT.o rfl rfl (setRow_heap _ _ _ _ _ _ H2b.o) ?_
   exact ⟨by rw [HV2.o], below_setRow HWb.o (nr _) _⟩

theorem mz {fn : Func} {p u : Tmp} {x : Value} {Q : Ending → World → Prop} (h : fn.results = #[.cell p 42, .tmp u]) {a : Act} {w : World} {g : Nat} {k s : Int} {kh : List UInt8} {kk : Int} {mh : List UInt8} {ms : Int} {v : Value} {fr : Nat × Nat} {t : TypeId} (l1 : kh.length = 32) (l2 : mh.length = 32) (hd : a.defers = [])
  (hp : a.tmps.getD p undef = .pointer (some ⟨g, 0, none⟩)) (hu : a.tmps.getD u undef = x) (hg : w.heap[g]? = some (.cells (ag k s kh kk mh ms v).toArray t fr)) (hq : Q (.returned (.tuple #[recv k s kh kk mh ms v, x])) w) : bodyPost Tryz.prog fn Q .ret a w := by
 refine bodyPost_ret (v := .tuple #[recv k s kh kk mh ms v, x]) ?_ hd hq
 rw [results_cell_tmp h, hp, hu]
 simp [asAddr, Result.andThen, run_loadVar_row w g t 42 (ag k s kh kk mh ms v).toArray fr _ hg fc rfl (cw k s kh kk mh ms v l1 l2)]
theorem kp (w : World) : (Instr.build 42 #[]).run Tryz.prog w = .ok (rv dq (.slice none 0 0)) w := by
 unfold Instr.build
 simp only [Sem.run_bind, lk, Result.andThen_ok, bb, run_underlying fc, qdl, uo]
 rfl
theorem qkb (k : Int) (w : World) : (Instr.build 42 #[(0, .int .i64 k)]).run Tryz.prog w = .ok (recv k 0 z32 0 z32 0 (.slice none 0 0)) w := by
 unfold Instr.build
 simp only [Sem.run_bind, lk, Result.andThen_ok, bb, run_underlying fc, qdl, uo]
 rfl
def zn (l : List UInt8) (w : World) (e : Ending) (w' : World) : Prop :=
 Below w.heap.size w w' ∧ ((gc l = none ∧ e = .returned (.tuple #[rv dq (.slice none 0 0), .bool false])) ∨ ∃ r v, gc l = some r ∧ e = .returned (.tuple #[rv r v, .bool true]) ∧ er w' w.heap.size v r.keys)
theorem jn {l : List UInt8} {w w' : World} {e : Ending} (h : gc l = none) (he : e = .returned (.tuple #[rv dq (.slice none 0 0), .bool false])) (hb : Below w.heap.size w w') : zn l w e w' := ⟨hb, .inl ⟨h, he⟩⟩
theorem qeq {l : List UInt8} {w w' : World} {e : Ending} {r : RecD} {v : Value} (h : gc l = some r) (he : e = .returned (.tuple #[rv r v, .bool true])) (hs : er w' w.heap.size v r.keys) (hb : Below w.heap.size w w') : zn l w e w' := ⟨hb, .inr ⟨r, v, h, he, hs⟩⟩
structure At32 (w wc : World) (m : Nat) (AL : Option Addr) (l : List UInt8) (r : RecD) (v : Value) : Prop where
 rec_ : cu wc m 42 r.kind r.seq r.kh r.kk r.mh r.ms v
 keys : er wc (m + 1) v r.keys
 ld : Rd wc m AL (ak l)
 row : wc.heap[w.heap.size]? = some (.cells (ag 0 0 z32 0 z32 0 (.slice none 0 0)).toArray 42 (0, 0))
 below : Below w.heap.size w wc
 m_ : w.heap.size < m
section
variable {w wc w' : World} {m : Nat} {AL : Option Addr} {l : List UInt8} {r r' : RecD} {v : Value}
theorem At32.later (h : At32 w wc m AL l r v) (hb : Below wc.heap.size wc w') : At32 w w' m AL l r v :=
 ⟨h.rec_.later hb, h.keys.later hb, h.ld.below (hb.mono (Nat.le_of_lt h.rec_.lt)), (hb.block _ (gl h.row)).trans h.row, h.below.trans (hb.mono h.below.size), h.m_⟩
theorem At32.stored (h : At32 w wc m AL l r v) (hs : Hs r') (hk : r'.keys = r.keys)
  (hm : w'.heap[m]? = some (.cells (ag r'.kind r'.seq r'.kh r'.kk r'.mh r'.ms v).toArray 42 (0, 0))) (ho : ∀ k, k ≠ m → w'.heap[k]? = wc.heap[k]?) (hb : Below m wc w') : At32 w w' m AL l r' v :=
 ⟨⟨hm, hs.1, hs.2⟩, hk ▸ h.keys.other (Nat.lt_succ_self _) ho, h.ld.below hb, (ho _ (by have := h.m_; omega)).trans h.row, h.below.trans (hb.mono (Nat.le_of_lt h.m_)), h.m_⟩
theorem At32.pushed {w8 w9 : World} {v8 : Value} {ks : List KeyD} (h : At32 w wc m AL l r v) (h8 : Below (m + 1) wc w8) (hk8 : er w8 (m + 1) v8 ks)
  (hm : w9.heap[m]? = some (.cells (ag r.kind r.seq r.kh r.kk r.mh r.ms v8).toArray 42 (0, 0))) (ho : ∀ k, k ≠ m → w9.heap[k]? = w8.heap[k]?) (hb : Below m w8 w9) : At32 w w9 m AL l ⟨r.kind, r.seq, r.kh, r.kk, r.mh, r.ms, ks⟩ v8 :=
 ⟨⟨hm, h.rec_.hk, h.rec_.hm⟩, hk8.other (Nat.lt_succ_self _) ho, h.ld.below ((h8.mono (Nat.le_succ _)).trans hb), (ho _ (by have := h.m_; omega)).trans ((h8.block _ (by have := h.m_; omega)).trans h.row),
  h.below.trans ((h8.mono (by have := h.m_; omega)).trans (hb.mono (Nat.le_of_lt h.m_))), h.m_⟩
end
section
variable (k s : Int) (kh : List UInt8) (kk : Int) (ms : Int) (v : Value)
theorem qhs (t : List UInt8) (i : Nat) (b : UInt8) (hk : kh.length = 32) (ht : t.length = i) (hi : i < 32) :
  ((ag k s kh kk (t ++ List.replicate (32 - i) 0) ms v).toArray.toList.take (35 + i) ++ [Value.int .u8 (b.toNat : Nat)] ++ (ag k s kh kk (t ++ List.replicate (32 - i) 0) ms v).toArray.toList.drop (35 + i + 1)).toArray =
   (ag k s kh kk ((t ++ [b]) ++ List.replicate (32 - (i + 1)) 0) ms v).toArray := by
 have e0 : List.replicate (32 - i) (0 : UInt8) = 0 :: List.replicate (32 - (i + 1)) 0 := by
  rw [show 32 - i = (32 - (i + 1)) + 1 by omega, List.replicate_succ]
 have e1 : ag k s kh kk (t ++ List.replicate (32 - i) 0) ms v = (([.int .i64 k, .int .i64 s] ++ af kh kk) ++ ak t) ++ (ic 0 :: (ak (List.replicate (32 - (i + 1)) 0) ++ ([.int .i64 ms] ++ [v]))) := by
  rw [e0]
  simp [ag, af, ak]
 have hl : (([.int .i64 k, .int .i64 s] ++ af kh kk) ++ ak t : List Value).length = 35 + i := by
  simp [ae, am, hk, ht]
  omega
 simp only [e1]
 rw [List.take_append_of_le_length (by omega), List.take_of_length_le (by omega), List.drop_append, List.drop_eq_nil_of_le (by omega), hl, show 35 + i + 1 - (35 + i) = 1 by omega]
 simp [ag, af, ak, ic]
theorem row_ms (mh : List UInt8) (ms' : Int) (hk : kh.length = 32) (hm : mh.length = 32) : ((ag k s kh kk mh ms v).toArray.toList.take 67 ++ [Value.int .i64 ms'] ++ (ag k s kh kk mh ms v).toArray.toList.drop (67 + 1)).toArray = (ag k s kh kk mh ms' v).toArray := by
 have e1 : ag k s kh kk mh ms v = (([.int .i64 k, .int .i64 s] ++ af kh kk) ++ ak mh) ++ (Value.int .i64 ms :: [v]) := by simp [ag, af]
 have hl : (([.int .i64 k, .int .i64 s] ++ af kh kk) ++ ak mh : List Value).length = 67 := by
  simp [ae, am, hk, hm]
 simp only [e1]
 rw [List.take_append_of_le_length (by omega), List.take_of_length_le (by omega), List.drop_append, List.drop_eq_nil_of_le (by omega), hl, show 67 + 1 - 67 = 1 by omega]
 simp [ag, af]
end
end Go.Proofs.YtplbcbamnjnhlaaGreatDoor
