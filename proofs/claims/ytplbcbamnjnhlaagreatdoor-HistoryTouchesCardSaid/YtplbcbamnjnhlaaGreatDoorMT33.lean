import Derived.Test.YtplbcbamnjnhlaaGreatDoorMT00
import Derived.Test.YtplbcbamnjnhlaaGreatDoorMT25
import Derived.Test.YtplbcbamnjnhlaaGreatDoorMT32
set_option maxRecDepth 100000
set_option maxHeartbeats 40000000
namespace Go.Proofs.YtplbcbamnjnhlaaGreatDoor
open Go.RowKit

def qkf (g : Nat) (b : bj) (r : RecD) (w : World) (e : Ending) (w' : World) : Prop := e = .returned (.bool (mayD b r)) ∧ eh w' g (io b r) ∧ fp g w w'
theorem qkl {g : Nat} {b b' : bj} {r : RecD} {w w' : World} (hm : mayD b r = true) (hb : b' = fa b r) (h : eh w' g b') (hs : fp g w w') : qkf g b r w (.returned (.bool true)) w' := by
 refine ⟨by rw [hm], ?_, hs⟩
 unfold io
 rw [if_pos hm, ← hb]
 exact h
structure MidW (g : Nat) (b : bj) (kind seq : Int) (kx mx : K32) (keys : List KeyD) (v : Value) (w w2 : World) (lm lp : List (K32 × Value)) (li : List (Int × Value)) : Prop where
 book : ga w2 g b lm lp li
 rec_ : cu w2 w.heap.size 38 kind seq kx.1.1 kx.1.2 mx.1.1 mx.1.2 v
 keys_ : SlR eKey w2 w.heap.size v keys
 below : fp g w w2
 size : w.heap.size + 1 ≤ w2.heap.size
 lt : g + 3 < w.heap.size
theorem ky {g : Nat} {b : bj} {kind seq : Int} {kx mx : K32} {keys : List KeyD} {v : Value} {w w2 : World} {lm lp : List (K32 × Value)} {li : List (Int × Value)} (h : MidW g b kind seq kx mx keys v w w2 lm lp li) : MidW g b kind seq kx mx keys v w w2.drew lm lp li :=
 ⟨⟨h.book.row, h.book.live.drew, h.book.pins.drew, h.book.ints.drew, h.book.lm_, h.book.lp_, h.book.li_⟩, h.rec_.later (br _ _).drew, h.keys_.below (br _ _).drew, h.below.trans (fp.of_below (br _ _).drew), h.size, h.lt⟩
theorem MidW.later {g : Nat} {b : bj} {kind seq : Int} {kx mx : K32} {keys : List KeyD} {v : Value} {w w2 w3 : World} {lm lp : List (K32 × Value)} {li : List (Int × Value)} (h : MidW g b kind seq kx mx keys v w w2 lm lp li) (hb : Below w2.heap.size w2 w3) : MidW g b kind seq kx mx keys v w w3 lm lp li :=
 have hl := h.book.row_lt
 ⟨⟨(hb.block _ hl).trans h.book.row, h.book.live.below hb (by omega), h.book.pins.below hb (by omega), h.book.ints.below hb (by omega), h.book.lm_, h.book.lp_, h.book.li_⟩, h.rec_.later hb, h.keys_.below (hb.mono (by have := h.size; omega)), h.below.trans (fp.of_below hb), Nat.le_trans h.size hb.size, h.lt⟩
theorem MidW.map_ {g : Nat} {b b' : bj} {kind seq : Int} {kx mx : K32} {keys : List KeyD} {v : Value} {w w2 w3 : World} {lm lp lm' lp' : List (K32 × Value)} {li li' : List (Int × Value)} (h : MidW g b kind seq kx mx keys v w w2 lm lp li) (hb : ga w3 g b' lm' lp' li') {q : Nat}
  (hg : w2.grownBy w3 (some q)) (h1 : g ≤ q) (h2 : q < g + 3) : MidW g b' kind seq kx mx keys v w w3 lm' lp' li' := by
 have hs := h.size
 have hl := h.lt
 have hbs : fp g w2 w3 := (fp.refl g w2).grown hg fun k hk => by injection hk with hk; omega
 refine ⟨hb, ⟨(hg.block _ (by omega) (fun e => by injection e with e; omega)).trans h.rec_.blk, h.rec_.hk, h.rec_.hm⟩, qmc hbs ⟨_, _, _, h.book⟩ ⟨_, _, _, hb⟩ (by omega) h.keys_, h.below.trans hbs, Nat.le_trans hs hg.size, hl⟩
theorem qqj {b : bj} {r : RecD} (h : r.kind = 1) : { b with head := true } = fa b r := by unfold fa; rw [if_pos h]
theorem qqi {b : bj} {r : RecD} (h : r.kind = 2) : { b with ints := b.ints ++ [(r.seq, (rkey r, ya r))], next := r.seq + 1 } = fa b r := by unfold fa; rw [if_neg (by omega), if_pos h]
theorem qiv {b : bj} {r : RecD} {i : Int × (K32 × K32)} (h : r.kind = 3) (hi : mc b.ints r.seq = some i) : { b with live := putL i.2.1 i.2.2 b.live, ints := jz b.ints r.seq } = fa b r := by unfold fa; rw [if_neg (by omega), if_neg (by omega), if_pos h, hi]
theorem qqh {b : bj} {r : RecD} (h : r.kind = 4) : { b with live := putL (rkey r) (ya r) b.live } = fa b r := by unfold fa; rw [if_neg (by omega), if_neg (by omega), if_neg (by omega), if_pos h]
theorem qqg {b : bj} {r : RecD} (h : r.kind = 5) : { b with pins := pinL (rkey r) b.pins } = fa b r := by unfold fa; rw [if_neg (by omega), if_neg (by omega), if_neg (by omega), if_neg (by omega), if_pos h]
theorem qqf {b : bj} {r : RecD} (h : r.kind = 6) : { b with pins := iw b.pins (rkey r) } = fa b r := by unfold fa; rw [if_neg (by omega), if_neg (by omega), if_neg (by omega), if_neg (by omega), if_neg (by omega), if_pos h]
theorem qqe {b : bj} {r : RecD} (h : r.kind = 7) : { b with live := r.keys.foldl (fun l k => outL l (k32 k)) b.live } = fa b r := by unfold fa; rw [if_neg (by omega), if_neg (by omega), if_neg (by omega), if_neg (by omega), if_neg (by omega), if_neg (by omega)]
theorem rkey_mk (kind seq : Int) (kx mx : K32) (keys : List KeyD) : rkey ⟨kind, seq, kx.1.1, kx.1.2, mx.1.1, mx.1.2, keys⟩ = kx := k32_mk kx
theorem rmark_mk (kind seq : Int) (kx mx : K32) (keys : List KeyD) : ya ⟨kind, seq, kx.1.1, kx.1.2, mx.1.1, mx.1.2, keys⟩ = mx := k32_mk mx
theorem jf {w : World} {p : Addr} {v : Value} {k : Nat} (h : k ≠ p.block) : (w.setCell p v).heap[k]? = w.heap[k]? := by
 simp [World.setCell, Array.getElem?_modify, Ne.symm h]
theorem oh {w : World} {q o : Nat} {v : Value} {cs : Array Value} {t : TypeId} {fr : Nat × Nat} (h : w.heap[q]? = some (.cells cs t fr)) : (w.setCell ⟨q, o, none⟩ v).heap[q]? = some (.cells (cs.setIfInBounds o v) t fr) := by
 simp [World.setCell, Array.getElem?_modify, h]
theorem qkx {w : World} {g : Nat} {b : bj} {v : Value} {t : TypeId} (h : w.heap[g + 3]? = some (.cells (ff b g) t (0, 0))) :
  w.setRow (g + 3) ((ff b g).toList.take 4 ++ [v] ++ (ff b g).toList.drop (4 + [v].length)).toArray = w.setCell ⟨g + 3, 4, none⟩ v := by
 refine vi ?_ rfl rfl rfl rfl
 apply Array.ext_getElem?
 intro k
 by_cases hk : k = g + 3
 ·subst hk
  rw [setRow_heap _ _ _ _ _ _ h, oh h]
  rfl
 ·rw [setRow_other _ _ _ _ hk, jf hk]
noncomputable def qrl : TypeDesc := .struct (Tryz.prog.fieldsOf 76)
theorem intent_u : Tryz.prog.underlying 76 = some qrl := by kernel_rfl
theorem qhe (w : World) : ((Tryz.prog.fieldsOf 76).mapM fun (f : Field) => do pure (f.offset, ← sizeOf f.type)).run Tryz.prog w = .ok #[(0, 33), (33, 33)] w := by kernel_rfl
theorem ye {P : Program} {a : Act} {o : Oper} {t : TypeId} {m k : Operand} {vm vk r : Value} {w w' : World} (ho : o.op = .mapEntry t m k) (hm : a.eval m = vm) (hk : a.eval k = vk) (h : (Instr.mapEntry t vm vk).run P w = .ok r w') : (execOp a.eval o).run P w = .ok (.value r) w' := by
 unfold execOp
 simp only [ho, hm, hk, Sem.run_bind, h, Result.andThen_ok, Sem.run_pure]
theorem ve {P : Program} {a : Act} {o : Oper} {t : TypeId} {m s x : Operand} {vm vs vx : Value} {w w' : World} (ho : o.op = .entryStore t m s x) (hm : a.eval m = vm) (hs : a.eval s = vs) (hx : a.eval x = vx) (h : (Instr.entryStore t vm vs vx).run P w = .ok () w') : (execOp a.eval o).run P w = .ok Next.skip w' := by
 unfold execOp
 simp only [ho, hm, hs, hx, Sem.run_bind, h, Result.andThen_ok, Sem.run_pure]
theorem qpi {P : Program} {a : Act} {o : Oper} {t : TypeId} {m x : Operand} {vm vx : Value} {w w' : World} (ho : o.op = .store t m x) (hm : a.eval m = vm) (hx : a.eval x = vx) (h : (Instr.storeAt t vm vx).run P w = .ok () w') : (execOp a.eval o).run P w = .ok Next.skip w' := by
 unfold execOp
 simp only [ho, hm, hx, Sem.run_bind, h, Result.andThen_ok, Sem.run_pure]
theorem qkc (k m : K32) (w : World) {a : Act} {o : Oper} (h : o.op = .build 76 #[(0, .tmp 29), (1, .tmp 31)]) (h1 : a.eval (.tmp 29) = kv k) (h2 : a.eval (.tmp 31) = kv m) : (execOp a.eval o).run Tryz.prog w = .ok (.value (iv (k, m))) w := by
 have hb : (Instr.build 76 #[(0, kv k), (1, kv m)]).run Tryz.prog w = .ok (iv (k, m)) w := by
  unfold Instr.build
  have hz : (ee (zk32, zk32)).length = 66 := ia _
  simp only [Sem.run_bind, gx, Result.andThen_ok, run_underlying intent_u, qrl, qhe]
  have h0 := jy (place := fun i => (#[((0 : Nat), (33 : Nat)), (33, 33)] : Array (Nat × Nat))[i]?) (i := 0) (v := kv k) (vs := encK k) (pre := []) (Z := ee (zk32, zk32)) rfl (by simp [bi]) (by rw [hz, bi]; omega) (rest := [(1, kv m)])
  have hf : Instr.fill (fun i => (#[((0 : Nat), (33 : Nat)), (33, 33)] : Array (Nat × Nat))[i]?) (ee (zk32, zk32)).toArray [(0, kv k), (1, kv m)] = some (ee (k, m)).toArray := by
   rw [List.nil_append] at h0
   rw [h0, jy (vs := encK m) rfl (by simp [bi]) (by simp [hz, bi])]
   rw [Instr.fill]
   congr 2
   rw [List.drop_eq_nil_of_le (by simp [hz, bi])]
   simp [ee, encK]
  rw [show (iv (zk32, zk32)).cells = (ee (zk32, zk32)).toArray from rfl, hf]
  rfl
 unfold execOp
 simp only [h, Sem.run_bind, List.map_toArray, List.map_cons, List.map_nil, h1, h2, hb, Result.andThen_ok, Sem.run_pure]
theorem vh (g : Nat) (b : bj) (r : RecD) (A : Option Addr) (n c B : Nat) (w : World) (h : eh w g b) (hg : Good b) (hr : Hs r) (h1 : SlR eKey w B (.slice A n c) r.keys) (hB : B ≤ w.heap.size) :
  Calls Tryz.prog 9 #[bptr g, rv r (.slice A n c)] w (qkf g b r w) := by
 have HN := Lh h1.n_eq
 have HCL := Lh h1.n_le
 have HGD := Lh hg
 have hglt := h.lt
 have HR := Lh hr
 have hb1 : Below w.heap.size w (w.alloc (.cells (ag r.kind r.seq r.kh r.kk r.mh r.ms (.slice A n c)).toArray 38)) := (br _ _).alloc (nr _) _
 have HB1 := Lh hb1
 have HS1 := Lh (show (w.alloc (.cells (ag r.kind r.seq r.kh r.kk r.mh r.ms (.slice A n c)).toArray 38)).heap.size = w.heap.size + 1 from Array.size_push _)
 have HG1 := Lh (cu.new (t := 38) (kind := r.kind) (seq := r.seq) (kk := r.kk) (ms := r.ms) (v := .slice A n c) w hr.1 hr.2)
 have HK1 := Lh (h1.fut hb1 hB hB)
 have H1 := Lh (h.below hb1 hglt)
 have HW := Lh h
 clear h hg hr h1 hb1 hB
 go_enter Tryz.func9, Tryz.ntmps9
 go_wp2_with (refine ai (some 3) rfl ?_)
 refine Stop.go (bn rfl _ rfl rfl (bb ..) ?_)
 generalize (w.alloc (.cells (ag r.kind r.seq r.kh r.kk r.mh r.ms (.slice A n c)).toArray 38)) = w1 at *
 generalize ha : Act.put _ _ _ = z9; simp [Act.put] at ha; subst ha
 go_wp2_with (refine ai (some 9) rfl ?_)
 refine Stop.go (aa rfl 38 rfl rfl dr rfl (bk _ _ _ _ _ _ _ HR.o.1 HR.o.2) HG1.o.all_ ?_)
 generalize ha : Act.put _ _ _ = z9; simp [Act.put] at ha; subst ha
 go_wp2_with fail
 refine (qhz g b r A n c w.heap.size w1 H1.o HGD.o HR.o HK1.o (by rw [HS1.o]; omega)).mono ?_
 rintro e w2 ⟨rfl, hb2⟩
 have HG2 := Lh (HG1.o.later hb2)
 have HK2 := Lh (HK1.o.below (hb2.mono (by rw [HS1.o]; omega)))
 have HB2 := Lh (HB1.o.trans (hb2.mono HB1.o.size))
 have HBK2 := Lh (H1.o.below hb2 (by rw [HS1.o]; omega))
 have HS2 := Lh (show w.heap.size + 1 ≤ w2.heap.size by rw [← HS1.o]; exact hb2.size)
 clear hb2 HG1 HK1 HB1 H1 HS1
 rcases Bool.eq_false_or_eq_true (mayD b r) with hM | hM
 rotate_left
 ·have HM := Lh hM
  rw [hM]
  clear hM
  go_wp2_with fail
  go_ret
  refine ⟨rt1 (bu HM.o.symm), ?_, fp.of_below HB2.o⟩
  unfold io
  rw [HM.o, if_neg (by simp)]
  exact HBK2.o
 have HM := Lh hM
 rw [hM]
 clear hM
 obtain ⟨lm, lp, li, hI⟩ := HBK2.o
 obtain ⟨kind, seq, kh, kk, mh, ms, keys⟩ := r
 obtain ⟨kx, rfl, rfl⟩ : ∃ kx : K32, kx.1.1 = kh ∧ kx.1.2 = kk := ⟨⟨(kh, kk), HR.o.1⟩, rfl, rfl⟩
 obtain ⟨mx, rfl, rfl⟩ : ∃ mx : K32, mx.1.1 = mh ∧ mx.1.2 = ms := ⟨⟨(mh, ms), HR.o.2⟩, rfl, rfl⟩
 have HMW := Lh (show MidW g b kind seq kx mx keys (.slice A n c) w w2 lm lp li from ⟨hI, HG2.o, HK2.o, fp.of_below HB2.o, HS2.o, hglt⟩)
 have hkc := HMW.o.rec_.kind_
 have HRT := Lh (show au ⟨kind, seq, kx.1.1, kx.1.2, mx.1.1, mx.1.2, keys⟩ = true by
  have := HM.o
  unfold mayD at this
  simp only [Bool.and_eq_true] at this
  exact this.1.1)
 have HK7 := Lh (vn HRT.o)
 clear hI HG2 HK2 HB2 HS2 HBK2
 obtain ⟨R, hRd⟩ : ∃ R : RecD, R = ⟨kind, seq, kx.1.1, kx.1.2, mx.1.1, mx.1.2, keys⟩ := ⟨_, rfl⟩
 rw [← hRd] at HM HRT HK7
 have HRK := Lh (show R.kind = kind ∧ R.seq = seq ∧ R.keys = keys ∧ rkey R = kx ∧ ya R = mx by rw [hRd]; exact ⟨rfl, rfl, rfl, rkey_mk .., rmark_mk ..⟩)
 have HPO := Lh (show ∀ (b' : bj) (w' : World), b' = fa b R → eh w' g b' → fp g w w' → qkf g b ⟨kind, seq, kx.1.1, kx.1.2, mx.1.1, mx.1.2, keys⟩ w (.returned (.bool true)) w' from fun b' w' hb h hs => by
  rw [← hRd]
  exact qkl HM.o hb h hs)
 clear hRd
 rcases Bool.eq_false_or_eq_true (kind == 1) with hk1 | hk1
 ·have HK := Lh hk1
  have HRO := Lh HMW.o.book.row
  obtain ⟨w3, hst3, hg3, hot3, hbl3⟩ := bo (P := Tryz.prog) w2 (g := g + 3) (off := 0) (vs := [.bool true]) (v := .bool true) (ty := 4) rfl (by kernel_rfl) HRO.o (new := ff { b with head := true } g) (by simp [ff]) (fun u hu => by rw [List.mem_singleton.1 hu]; rfl) (by simp [ff])
  have HST3 := Lh hst3
  have HP := Lh (HPO.o _ w3 (qqj (by rw [HRK.o.1]; simpa using HK.o)) ⟨lm, lp, li, HMW.o.book.turn hg3 hot3 rfl rfl rfl⟩ (by
   have := hbl3 g w2 (br _ _) (by omega)
   exact HMW.o.below.trans ⟨this.os, this.tape, this.output, this.size, fun k _ ho => hot3 k (by omega)⟩))
  clear hst3 hg3 hot3 hbl3
  go_wp2_with (refine ai none rfl ?_)
  refine Stop.go (ac rfl 4 rfl rfl rfl HST3.o ?_)
  generalize ha : Act.put _ _ _ = z9; simp [Act.put] at ha; subst ha
  go_wp2_with fail
  go_ret
  exact HP.o
 have HN1 := Lh hk1
 rcases Bool.eq_false_or_eq_true (kind == 2) with hk2 | hk2
 ·have HK := Lh hk2
  have hq : (b.head == (R.kind == 1)) = false := by
   cases h : (b.head == (R.kind == 1)) with
   |false => rfl
   |true => have := yx h; rw [HM.o] at this; cases this
  have hsq : b.next ≤ seq := by
   have h3 := may_2 HRT.o hq (by rw [HRK.o.1]; exact HK.o)
   rw [HM.o, HRK.o.2.1] at h3
   simpa using h3.symm
  have HFR := Lh (show ∀ p ∈ b.ints, p.1 ≠ seq from fun p hp => by have := (HGD.o.iok p hp).1; omega)
  have hsb : 0 ≤ seq ∧ seq ≤ 1099511627776 := by
   have := HK7.o.1 (Or.inl (by rw [HRK.o.1]; simpa using HK.o))
   rwa [HRK.o.2.1] at this
  clear hq hsq
  go_wp2_with fail
  have HM3 := Lh (ky HMW.o)
  have hrl := HMW.o.book.row_lt
  refine wpK_comm [15, 17] [3, 5, 8, 10, 11, 13] [] [] 20 (fun w' => cu w' w.heap.size 38 kind seq kx.1.1 kx.1.2 mx.1.1 mx.1.2 (.slice A n c) ∧ ∃ nx, w'.heap[g + 3]? = some (.cells (ff { b with next := nx } g) 74 (0, 0))) (fun w' => w'.setCell ⟨g + 3, 4, none⟩ (.int .i64 (seq + 1))) ⟨?_, fun w' _ => qgw _ _ _⟩ ⟨HM3.o.rec_, b.next, HM3.o.book.row⟩ (by kernel_rfl) (by kernel_rfl) ?_
  ·rintro w' ⟨h1, nx, h2⟩
   refine ⟨⟨?_, h1.hk, h1.hm⟩, seq + 1, ?_⟩
   ·rw [jf (by show w.heap.size ≠ g + 3; omega)]; exact h1.blk
   ·rw [oh h2]; rfl
  have HLS := Lh (show ∀ w', (cu w' w.heap.size 38 kind seq kx.1.1 kx.1.2 mx.1.1 mx.1.2 (.slice A n c) ∧ ∃ nx, w'.heap[g + 3]? = some (.cells (ff { b with next := nx } g) 74 (0, 0))) →
    (Instr.loadAt 72 (.pointer (some ⟨g + 3, 3, none⟩))).run Tryz.prog w' = .ok (.map (some (g + 2))) w' ∧ (Instr.loadAt 3 (.pointer (some ⟨w.heap.size, 1, none⟩))).run Tryz.prog w' = .ok (.int .i64 seq) w' ∧
    (Instr.loadAt 34 (.pointer (some ⟨w.heap.size, 2, none⟩))).run Tryz.prog w' = .ok (kv kx) w' ∧ (Instr.loadAt 36 (.pointer (some ⟨w.heap.size, 35, none⟩))).run Tryz.prog w' = .ok (kv mx) w' ∧
    (Instr.storeAt 3 (.pointer (some ⟨g + 3, 4, none⟩)) (.int .i64 (seq + 1))).run Tryz.prog w' = .ok () (w'.setCell ⟨g + 3, 4, none⟩ (.int .i64 (seq + 1))) from by
   rintro w' ⟨h1, nx, h2⟩
   refine ⟨qak qah ?_, iz (k := .i64) (by kernel_rfl) h1.seq_, fw ba.ut rfl (al _ _ kx.2) h1.key_, fw jw.ut rfl (dj _ _ mx.2) h1.mark_, ?_⟩
   ·rw [cell_of_row _ _ _ _ _ _ h2]; rfl
   ·rw [jt (vs := [.int .i64 (seq + 1)]) rfl (by kernel_rfl) h2 (by simp [ff]) (fun u hu => by rw [List.mem_singleton.1 hu]; rfl), qkx h2])
  have HI3 := Lh (show cu w2.drew w.heap.size 38 kind seq kx.1.1 kx.1.2 mx.1.1 mx.1.2 (.slice A n c) ∧ ∃ nx, w2.drew.heap[g + 3]? = some (.cells (ff { b with next := nx } g) 74 (0, 0)) from ⟨HM3.o.rec_, b.next, HM3.o.book.row⟩)
  generalize w2.drew = w3 at *
  obtain ⟨es, ck, hes, hep, hst⟩ := HM3.o.book.ints
  have HES := Lh hes
  have HEP := Lh hep
  have HST := Lh hst
  clear hes hep hst hrl
  refine rq 3 (by decide) (fun Q0 hQ0 => ?_)
  simp only [T1, T0]
  go_wp2_with fail
  try simp only [dr1, dr0]
  refine xf (by decide) rfl rfl rfl (fun w' hI => du rfl rfl (HLS.o w' hI).1) ?_
  generalize ha : Act.put _ _ _ = z9; simp [Act.put] at ha; subst ha
  refine rq 1 (by decide) (fun Q0 hQ0 => ?_)
  simp only [T1, T0]
  go_wp2_with fail
  try simp only [dr1, dr0]
  refine xf (by decide) rfl rfl rfl (fun w' hI => du rfl rfl (HLS.o w' hI).2.1) ?_
  generalize ha : Act.put _ _ _ = z9; simp [Act.put] at ha; subst ha
  refine rq 2 (by decide) (fun Q0 hQ0 => ?_)
  simp only [T1, T0]
  go_wp2_with fail
  try simp only [dr1, dr0]
  refine xf (by decide) rfl rfl rfl (fun w' hI => du rfl rfl (HLS.o w' hI).2.2.1) ?_
  generalize ha : Act.put _ _ _ = z9; simp [Act.put] at ha; subst ha
  refine rq 1 (by decide) (fun Q0 hQ0 => ?_)
  simp only [T1, T0]
  go_wp2_with fail
  try simp only [dr1, dr0]
  refine xf (by decide) rfl rfl rfl (fun w' hI => du rfl rfl (HLS.o w' hI).2.2.2.1) ?_
  generalize ha : Act.put _ _ _ = z9; simp [Act.put] at ha; subst ha
  refine xf (by decide) rfl rfl rfl (v := iv (kx, mx)) (fun w' _ => qkc kx mx w' rfl rfl rfl) ?_
  generalize ha : Act.put _ _ _ = z9; simp [Act.put] at ha; subst ha
  refine rq 1 (by decide) (fun Q0 hQ0 => ?_)
  simp only [T1, T0]
  go_wp2_with fail
  try simp only [dr1, dr0]
  refine xf (by decide) rfl rfl rfl (fun w' hI => du rfl rfl (HLS.o w' hI).2.1) ?_
  generalize ha : Act.put _ _ _ = z9; simp [Act.put] at ha; subst ha
  refine rq 1 (by decide) (fun Q0 hQ0 => ?_)
  simp only [T1, T0]
  go_wp2_with fail
  try simp only [dr1, dr0]
  have hne : (⟨g + 3, 4, none⟩ : Addr).block ≠ g + 2 := by show g + 3 ≠ g + 2; omega
  have HFL := Lh (show ∀ p ∈ li, p.1 ≠ seq from fun p hp he => by
   obtain ⟨i, hi, hpi⟩ := List.mem_map.1 (HM3.o.book.li_.mem_iff.1 hp)
   exact HFR.o i hi (by rw [← he, ← hpi]))
  have HEST := Lh (show (w3.setCell ⟨g + 3, 4, none⟩ (.int .i64 (seq + 1))).heap[g + 2]? = some (.map es ck) by rw [jf (by show g + 2 ≠ g + 3; omega)]; exact HES.o)
  have r1 := qai qcs HES.o HEP.o gx HFL.o
  have r2 := qai qcs HEST.o HEP.o gx HFL.o
  rw [← qhr _ hne] at r2
  have HW4 := Lh (qqo (o := .map (es.push { key := .int .i64 seq, val := iv (zk32, zk32), born := ck }) (ck + 1)) HES.o)
  have HG4 := Lh (qen w3 (g + 2) (.map (es.push { key := .int .i64 seq, val := iv (zk32, zk32), born := ck }) (ck + 1)))
  have HI4 := Lh (show cu (setO w3 (g + 2) (.map (es.push { key := .int .i64 seq, val := iv (zk32, zk32), born := ck }) (ck + 1))) w.heap.size 38 kind seq kx.1.1 kx.1.2 mx.1.1 mx.1.2 (.slice A n c) ∧ ∃ nx, (setO w3 (g + 2) (.map (es.push { key := .int .i64 seq, val := iv (zk32, zk32), born := ck }) (ck + 1))).heap[g + 3]? = some (.cells (ff { b with next := nx } g) 74 (0, 0)) from by
   obtain ⟨h1, nx, h2⟩ := HI3.o
   exact ⟨⟨(uc (by omega)).trans h1.blk, h1.hk, h1.hm⟩, nx, (uc (by omega)).trans h2⟩)
  refine qqk (by decide) rfl (.inl rfl) (ye rfl rfl rfl r1) (ye rfl rfl rfl r2) HI4.o ?_
  clear r1 r2
  generalize hw4 : setO w3 (g + 2) (.map (es.push { key := .int .i64 seq, val := iv (zk32, zk32), born := ck }) (ck + 1)) = w4 at *
  clear hw4
  generalize ha : Act.put _ _ _ = z9; simp [Act.put] at ha; subst ha
  refine rq 1 (by decide) (fun Q0 hQ0 => ?_)
  simp only [T1, T0]
  go_wp2_with fail
  try simp only [dr1, dr0]
  have HW4T := Lh (show (w4.setCell ⟨g + 3, 4, none⟩ (.int .i64 (seq + 1))).heap[g + 2]? = some (.map (es.push { key := .int .i64 seq, val := iv (zk32, zk32), born := ck }) (ck + 1)) by rw [jf (by show g + 2 ≠ g + 3; omega)]; exact HW4.o)
  have r1 := wu (P := Tryz.prog) (mt := 72) (v := iv (kx, mx)) HW4.o HST.o.1
  have r2 := wu (P := Tryz.prog) (mt := 72) (v := iv (kx, mx)) HW4T.o HST.o.1
  rw [← qhr _ hne] at r2
  have HW5 := Lh (qqo (o := .map (es.push { key := .int .i64 seq, val := iv (kx, mx), born := ck }) (ck + 1)) HW4.o)
  have HG5 := Lh (dy HG4.o (qen w4 (g + 2) (.map (es.push { key := .int .i64 seq, val := iv (kx, mx), born := ck }) (ck + 1))))
  have HI5 := Lh (show cu (setO w4 (g + 2) (.map (es.push { key := .int .i64 seq, val := iv (kx, mx), born := ck }) (ck + 1))) w.heap.size 38 kind seq kx.1.1 kx.1.2 mx.1.1 mx.1.2 (.slice A n c) ∧ ∃ nx, (setO w4 (g + 2) (.map (es.push { key := .int .i64 seq, val := iv (kx, mx), born := ck }) (ck + 1))).heap[g + 3]? = some (.cells (ff { b with next := nx } g) 74 (0, 0)) from by
   obtain ⟨h1, nx, h2⟩ := HI4.o
   exact ⟨⟨(uc (by omega)).trans h1.blk, h1.hk, h1.hm⟩, nx, (uc (by omega)).trans h2⟩)
  refine qqk (by decide) rfl (.inr ⟨rfl, rfl⟩) (ve rfl rfl rfl rfl r1) (ve rfl rfl rfl rfl r2) HI5.o ?_
  clear r1 r2
  generalize hw5 : setO w4 (g + 2) (.map (es.push { key := .int .i64 seq, val := iv (kx, mx), born := ck }) (ck + 1)) = w5 at *
  clear hw5
  generalize ha : Act.put _ _ _ = z9; simp [Act.put] at ha; subst ha
  refine rq 2 (by decide) (fun Q0 hQ0 => ?_)
  simp only [T1, T0]
  go_wp2_with fail
  try simp only [dr1, dr0]
  have hwr : IntKind.i64.wrap (seq + 1) = seq + 1 := by simp [IntKind.wrap, IntKind.bits, IntKind.signed]; omega
  refine qsb (v := undef) (.inr ⟨rfl, rfl⟩) (fun w' hI => qpi rfl rfl rfl (HLS.o w' hI).2.2.2.2) ?_
  generalize ha : Act.put _ _ _ = z9; simp [Act.put] at ha; subst ha
  have hB5 : ga w5 g { b with ints := b.ints ++ [(seq, (kx, mx))] } lm lp (li ++ [(seq, iv (kx, mx))]) := HM3.o.book.turn_ints (mapS_new HW5.o HEP.o HST.o) HG5.o (by
   rw [show rc (b.ints ++ [(seq, (kx, mx))]) = rc b.ints ++ [(seq, iv (kx, mx))] by simp [rc]]
   exact HM3.o.book.li_.append_right _)
  have hB6 : ga (w5.setCell ⟨g + 3, 4, none⟩ (.int .i64 (seq + 1))) g { b with ints := b.ints ++ [(seq, (kx, mx))], next := seq + 1 } lm lp (li ++ [(seq, iv (kx, mx))]) :=
   hB5.turn (by rw [oh hB5.row]; rfl) (fun k hk => jf hk) rfl rfl rfl
  have HP := Lh (HPO.o _ _ (by
   have := qqi (b := b) (r := R) (by rw [HRK.o.1]; simpa using HK.o)
   rw [HRK.o.2.1, HRK.o.2.2.2.1, HRK.o.2.2.2.2] at this
   exact this) ⟨_, _, _, hB6⟩ ((HM3.o.below.grown HG5.o (fun k hk => by injection hk with hk; omega)).trans ⟨rfl, rfl, rfl, by rw [World.size_setCell]; exact nr _, fun k _ ho => jf (by show k ≠ g + 3; omega)⟩))
  clear hB5 hB6
  generalize w5.setCell ⟨g + 3, 4, none⟩ (.int .i64 (seq + 1)) = w6 at *
  refine wpK_end ⟨by rfl, trivial, ?_⟩
  go_wp2_with fail
  go_ret
  exact HP.o
 have HN2 := Lh hk2
 rcases Bool.eq_false_or_eq_true (kind == 3) with hk3 | hk3
 ·have HK := Lh hk3
  obtain ⟨ix, hix⟩ : ∃ ix, mc b.ints seq = some ix := by
   have hq : (b.head == (R.kind == 1)) = false := by
    cases h : (b.head == (R.kind == 1)) with
    |false => rfl
    |true => have := yx h; rw [HM.o] at this; cases this
   have h3 := may_3 HRT.o hq (by rw [HRK.o.1]; exact HK.o)
   rw [HM.o, HRK.o.2.1] at h3
   exact Option.isSome_iff_exists.1 h3.symm
  have HIX := Lh hix
  have HAS := Lh (show (ka li seq).getD (iv (zk32, zk32)) = iv ix.2 by rw [qgr HGD.o HMW.o.book.li_ seq, hix]; rfl)
  clear hix
  go_wp2_with fail
  refine xh [6, 7] [3, 5] [] (fun w' => Below w2.drew.heap.size w2.drew w') 7 _ (br _ _) (by kernel_rfl) rfl rfl (by kernel_rfl) ?_
  have HM3 := Lh (ky HMW.o)
  generalize w2.drew = w3 at *
  have hpc := HM3.o.book.ints_cell
  have hsc := HM3.o.rec_.seq_
  have HLD := Lh (show ∀ w', Below w3.heap.size w3 w' → (Instr.loadAt 72 (.pointer (some ⟨g + 3, 3, none⟩))).run Tryz.prog w' = .ok (.map (some (g + 2))) w' ∧ (Instr.loadAt 3 (.pointer (some ⟨w.heap.size, 1, none⟩))).run Tryz.prog w' = .ok (.int .i64 seq) w' from fun w' hb =>
   ⟨qak qah (HM3.o.later hb).book.ints_cell, iz (k := .i64) (by kernel_rfl) (HM3.o.later hb).rec_.seq_⟩)
  have HZ := Lh (show Below w3.heap.size w3 (w3.alloc (.cells (ee (zk32, zk32)).toArray 76)) from (br _ _).alloc (nr _) _)
  refine wpF_seg 6 (by decide) (fun Q0 hQ0 => ?_)
  simp only [T1, T0]
  go_wp2_with fail
  simp only [dr1, dr0]
  refine xg (by decide) rfl (fun Q1 hQ1 => ?_) (fun Q1 hQ1 => ?_)
  ·refine av rfl 76 rfl gx (vs := ee (zk32, zk32)) rfl ?_
   refine hQ1 _ _ ⟨HZ.o, ?_⟩
   generalize ha : Act.put _ _ _ = z9; simp [Act.put] at ha; subst ha
   refine mm (by decide) (fun Q2 hQ2 => ?_)
   refine qm qcs rfl rfl rfl rfl (HM3.o.later HZ.o).book.ints gx ?_
   rw [HAS.o]
   refine hQ2 _ _ ⟨HZ.o, ?_⟩
   generalize ha : Act.put _ _ _ = z9; simp [Act.put] at ha; subst ha
   refine sr ?_
   refine ou 1 (by decide) (fun Q4 hQ4 => ?_)
   simp only [T1, T0]
   refine ac rfl 76 rfl rfl rfl (ch (g := w3.heap.size) rfl (v := iv ix.2) (vs := ee ix.2) rfl (sc ix.2) (by rw [ia, List.size_toArray, ia]) (pd _)) ?_
   refine hQ4 _ _ ?_
   simp only [dr1, dr0]
   generalize ha : Act.put _ _ _ = z9; simp [Act.put] at ha; subst ha
   refine xe ⟨by rfl, ⟨fun _ => ⟨_, fun w' hb => (HLD.o w' hb).1⟩, fun _ => ⟨_, fun w' hb => (HLD.o w' hb).2⟩, trivial⟩, ?_⟩
   have hb4 : Below w3.heap.size w3 (w3.alloc (.cells (ee ix.2).toArray 76)) := (br _ _).alloc (nr _) _
   have HM4 := Lh (HM3.o.later hb4)
   have HG4 := Lh (hzn w3 (.cells (ee ix.2).toArray 76))
   have HS3 := Lh (show w.heap.size + 1 ≤ w3.heap.size from HM3.o.size)
   clear hb4 HZ HLD hpc hsc
   generalize w3.alloc (.cells (ee ix.2).toArray 76) = w4 at *
   generalize w3.heap.size = q at *
   go_wp2_with fail
   refine Text.wp_text [] (by kernel_rfl) (by kernel_rfl) (fun Q5 hQ5 => ?_)
   have HM5 := Lh (ky HM4.o)
   have HG5 := Lh (show w4.drew.heap[q]? = some (.cells (ee ix.2).toArray 76 (0, 0)) from HG4.o)
   generalize w4.drew = w5 at *
   have hpc := HM5.o.book.ints_cell
   have hsc := HM5.o.rec_.seq_
   refine ar 6 _ _ _ (fun Q6 hQ6 => ?_)
   simp only [T1, T0]
   go_wp2_with fail
   try simp only [dr1, dr0]
   refine Stop.go (ng qcs rfl rfl rfl (k := seq) rfl HM5.o.book.ints ?_)
   intro w6 hm6 hg6 hs6
   have HM6 := Lh (HM5.o.map_ (HM5.o.book.turn_ints hm6 hg6 (qmr HM5.o.book.li_ HGD.o.ints seq)) hg6 (by omega) (by omega))
   have HG6 := Lh ((hg6.block q (gl HG5.o) (fun e => by injection e with e; have := HS3.o; omega)).trans HG5.o)
   clear hm6 hg6 hs6 hpc hsc
   generalize ha : Act.put _ _ _ = z9; simp [Act.put] at ha; subst ha
   go_wp2_with fail
   refine ⟨by rfl, ?_⟩
   go_wp2_with fail
   refine Text.wp_text [] (by kernel_rfl) (by kernel_rfl) (fun Q7 hQ7 => ?_)
   have HM7 := Lh (ky HM6.o)
   have HG7 := Lh (show w6.drew.heap[q]? = some (.cells (ee ix.2).toArray 76 (0, 0)) from HG6.o)
   generalize w6.drew = w7 at *
   have hpc := HM7.o.book.live_cell
   have HK7c := Lh (show ∀ j u, (encK ix.2.1)[j]? = some u → w7.cell? ⟨q, 0 + j, none⟩ = some u from fun j u hu => lz (xs := []) (ys := encK ix.2.1) (zs := encK ix.2.2) HG7.o rfl j u hu)
   have HM7c := Lh (show ∀ j u, (encK ix.2.2)[j]? = some u → w7.cell? ⟨q, 33 + j, none⟩ = some u from fun j u hu => by
    have := lz (xs := encK ix.2.1) (ys := encK ix.2.2) (zs := []) HG7.o (by rw [List.append_nil]; rfl) j u hu
    rwa [bi] at this)
   go_wp2_with (refine ai (some 60) rfl ?_)
   refine Stop.go (aa rfl 34 rfl rfl ba.ut rfl (cs := encK ix.2.1) (al _ _ ix.2.1.2) HK7c.o ?_)
   generalize ha : Act.put _ _ _ = z9; simp [Act.put] at ha; subst ha
   refine ar 1 _ _ _ (fun Q8 hQ8 => ?_)
   simp only [T1, T0]
   go_wp2_with fail
   try simp only [dr1, dr0]
   refine Stop.go (aa rfl 36 rfl rfl jw.ut rfl (cs := encK ix.2.2) (dj _ _ ix.2.2.2) HM7c.o ?_)
   refine nf qfg rfl rfl rfl (k := ix.2.1) (v := kv ix.2.2) rfl rfl HM7.o.book.live ?_
   intro w8 hm8 hg8 hs8
   generalize ha : Act.put _ _ _ = z9; simp [Act.put] at ha; subst ha
   have hnd := od HGD.o
   have HP := Lh (HPO.o _ w8 (qiv (i := ix) (by rw [HRK.o.1]; simpa using HK.o) (by rw [HRK.o.2.1]; exact HIX.o)) ⟨_, _, _, by
    have := HM7.o.book.turn_live hm8 hg8 (qev HM7.o.book.lm_ hnd ix.2.1 ix.2.2)
    rw [HRK.o.2.1]
    exact this⟩ (HM7.o.below.grown hg8 (fun k hk => by injection hk with hk; omega)))
   clear hm8 hg8 hs8 hnd
   go_wp2_with fail
   refine ⟨by rfl, ?_⟩
   go_wp2_with fail
   go_ret
   exact HP.o
  ·refine qm qcs rfl rfl rfl rfl HM3.o.book.ints gx ?_
   rw [HAS.o]
   refine hQ1 _ _ ⟨br _ _, ?_⟩
   generalize ha : Act.put _ _ _ = z9; simp [Act.put] at ha; subst ha
   refine qiw ?_
   refine ig (fun Q3 hQ3 => ?_)
   refine av rfl 76 rfl gx (vs := ee (zk32, zk32)) rfl ?_
   refine hQ3 _ _ ⟨HZ.o, ?_⟩
   generalize ha : Act.put _ _ _ = z9; simp [Act.put] at ha; subst ha
   refine fx 1 (by decide) (fun Q4 hQ4 => ?_)
   simp only [T1, T0]
   refine ac rfl 76 rfl rfl rfl (ch (g := w3.heap.size) rfl (v := iv ix.2) (vs := ee ix.2) rfl (sc ix.2) (by rw [ia, List.size_toArray, ia]) (pd _)) ?_
   refine hQ4 _ _ ?_
   simp only [dr1, dr0]
   generalize ha : Act.put _ _ _ = z9; simp [Act.put] at ha; subst ha
   refine lu ⟨by rfl, ⟨fun _ => ⟨_, fun w' hb => (HLD.o w' hb).1⟩, fun _ => ⟨_, fun w' hb => (HLD.o w' hb).2⟩, trivial⟩, ?_⟩
   have hb4 : Below w3.heap.size w3 (w3.alloc (.cells (ee ix.2).toArray 76)) := (br _ _).alloc (nr _) _
   have HM4 := Lh (HM3.o.later hb4)
   have HG4 := Lh (hzn w3 (.cells (ee ix.2).toArray 76))
   have HS3 := Lh (show w.heap.size + 1 ≤ w3.heap.size from HM3.o.size)
   clear hb4 HZ HLD hpc hsc
   generalize w3.alloc (.cells (ee ix.2).toArray 76) = w4 at *
   generalize w3.heap.size = q at *
   go_wp2_with fail
   refine Text.wp_text [] (by kernel_rfl) (by kernel_rfl) (fun Q5 hQ5 => ?_)
   have HM5 := Lh (ky HM4.o)
   have HG5 := Lh (show w4.drew.heap[q]? = some (.cells (ee ix.2).toArray 76 (0, 0)) from HG4.o)
   generalize w4.drew = w5 at *
   have hpc := HM5.o.book.ints_cell
   have hsc := HM5.o.rec_.seq_
   refine ar 6 _ _ _ (fun Q6 hQ6 => ?_)
   simp only [T1, T0]
   go_wp2_with fail
   try simp only [dr1, dr0]
   refine Stop.go (ng qcs rfl rfl rfl (k := seq) rfl HM5.o.book.ints ?_)
   intro w6 hm6 hg6 hs6
   have HM6 := Lh (HM5.o.map_ (HM5.o.book.turn_ints hm6 hg6 (qmr HM5.o.book.li_ HGD.o.ints seq)) hg6 (by omega) (by omega))
   have HG6 := Lh ((hg6.block q (gl HG5.o) (fun e => by injection e with e; have := HS3.o; omega)).trans HG5.o)
   clear hm6 hg6 hs6 hpc hsc
   generalize ha : Act.put _ _ _ = z9; simp [Act.put] at ha; subst ha
   go_wp2_with fail
   refine ⟨by rfl, ?_⟩
   go_wp2_with fail
   refine Text.wp_text [] (by kernel_rfl) (by kernel_rfl) (fun Q7 hQ7 => ?_)
   have HM7 := Lh (ky HM6.o)
   have HG7 := Lh (show w6.drew.heap[q]? = some (.cells (ee ix.2).toArray 76 (0, 0)) from HG6.o)
   generalize w6.drew = w7 at *
   have hpc := HM7.o.book.live_cell
   have HK7c := Lh (show ∀ j u, (encK ix.2.1)[j]? = some u → w7.cell? ⟨q, 0 + j, none⟩ = some u from fun j u hu => lz (xs := []) (ys := encK ix.2.1) (zs := encK ix.2.2) HG7.o rfl j u hu)
   have HM7c := Lh (show ∀ j u, (encK ix.2.2)[j]? = some u → w7.cell? ⟨q, 33 + j, none⟩ = some u from fun j u hu => by
    have := lz (xs := encK ix.2.1) (ys := encK ix.2.2) (zs := []) HG7.o (by rw [List.append_nil]; rfl) j u hu
    rwa [bi] at this)
   go_wp2_with (refine ai (some 60) rfl ?_)
   refine Stop.go (aa rfl 34 rfl rfl ba.ut rfl (cs := encK ix.2.1) (al _ _ ix.2.1.2) HK7c.o ?_)
   generalize ha : Act.put _ _ _ = z9; simp [Act.put] at ha; subst ha
   refine ar 1 _ _ _ (fun Q8 hQ8 => ?_)
   simp only [T1, T0]
   go_wp2_with fail
   try simp only [dr1, dr0]
   refine Stop.go (aa rfl 36 rfl rfl jw.ut rfl (cs := encK ix.2.2) (dj _ _ ix.2.2.2) HM7c.o ?_)
   refine nf qfg rfl rfl rfl (k := ix.2.1) (v := kv ix.2.2) rfl rfl HM7.o.book.live ?_
   intro w8 hm8 hg8 hs8
   generalize ha : Act.put _ _ _ = z9; simp [Act.put] at ha; subst ha
   have hnd := od HGD.o
   have HP := Lh (HPO.o _ w8 (qiv (i := ix) (by rw [HRK.o.1]; simpa using HK.o) (by rw [HRK.o.2.1]; exact HIX.o)) ⟨_, _, _, by
    have := HM7.o.book.turn_live hm8 hg8 (qev HM7.o.book.lm_ hnd ix.2.1 ix.2.2)
    rw [HRK.o.2.1]
    exact this⟩ (HM7.o.below.grown hg8 (fun k hk => by injection hk with hk; omega)))
   clear hm8 hg8 hs8 hnd
   go_wp2_with fail
   refine ⟨by rfl, ?_⟩
   go_wp2_with fail
   go_ret
   exact HP.o
 have HN3 := Lh hk3
 rcases Bool.eq_false_or_eq_true (kind == 4) with hk4 | hk4
 ·have HK := Lh hk4
  go_wp2_with fail
  refine Text.wp_text [] (by kernel_rfl) (by kernel_rfl) (fun Q' hQ' => ?_)
  have HM3 := Lh (ky HMW.o)
  generalize w2.drew = w3 at *
  have hpc := HM3.o.book.live_cell
  go_wp2_with (refine ai (some 70) rfl ?_)
  refine Stop.go (aa rfl 34 rfl rfl ba.ut rfl (cs := encK kx) (al _ _ kx.2) HM3.o.rec_.key_ ?_)
  generalize ha : Act.put _ _ _ = z9; simp [Act.put] at ha; subst ha
  refine ar 1 _ _ _ (fun Q2 hQ2 => ?_)
  simp only [T1, T0]
  go_wp2_with fail
  try simp only [dr1, dr0]
  refine Stop.go (aa rfl 36 rfl rfl jw.ut rfl (cs := encK mx) (dj _ _ mx.2) HM3.o.rec_.mark_ ?_)
  refine nf qfg rfl rfl rfl (k := kx) (v := kv mx) rfl rfl HM3.o.book.live ?_
  intro w4 hm4 hg4 hs4
  generalize ha : Act.put _ _ _ = z9; simp [Act.put] at ha; subst ha
  have HP := Lh (HPO.o _ w4 (qqh (by rw [HRK.o.1]; simpa using HK.o)) ⟨_, _, _, HM3.o.book.turn_live hm4 hg4 (by rw [HRK.o.2.2.2.1, HRK.o.2.2.2.2]; exact qev HM3.o.book.lm_ (od HGD.o) kx mx)⟩
   (HM3.o.below.grown hg4 (fun k hk => by injection hk with hk; omega)))
  clear hm4 hg4 hs4
  go_wp2_with fail
  refine ⟨by rfl, ?_⟩
  go_wp2_with fail
  go_ret
  exact HP.o
 have HN4 := Lh hk4
 rcases Bool.eq_false_or_eq_true (kind == 5) with hk5 | hk5
 ·have HK := Lh hk5
  go_wp2_with fail
  refine Text.wp_text [] (by kernel_rfl) (by kernel_rfl) (fun Q' hQ' => ?_)
  have HM3 := Lh (ky HMW.o)
  generalize w2.drew = w3 at *
  have hpc := HM3.o.book.pins_cell
  go_wp2_with (refine ai (some 80) rfl ?_)
  refine Stop.go (aa rfl 34 rfl rfl ba.ut rfl (cs := encK kx) (al _ _ kx.2) HM3.o.rec_.key_ ?_)
  refine nf qra rfl rfl rfl (k := kx) (v := .int .i64 1) rfl rfl HM3.o.book.pins ?_
  intro w4 hm4 hg4 hs4
  generalize ha : Act.put _ _ _ = z9; simp [Act.put] at ha; subst ha
  have HP := Lh (HPO.o _ w4 (qqg (by rw [HRK.o.1]; simpa using HK.o)) ⟨_, _, _, HM3.o.book.turn_pins hm4 hg4 (by rw [HRK.o.2.2.2.1]; exact put_pins HM3.o.book.lp_ (uf HGD.o) kx)⟩
   (HM3.o.below.grown hg4 (fun k hk => by injection hk with hk; omega)))
  clear hm4 hg4 hs4
  go_wp2_with fail
  refine ⟨by rfl, ?_⟩
  go_wp2_with fail
  go_ret
  exact HP.o
 have HN5 := Lh hk5
 rcases Bool.eq_false_or_eq_true (kind == 6) with hk6 | hk6
 ·have HK := Lh hk6
  go_wp2_with fail
  refine Text.wp_text [] (by kernel_rfl) (by kernel_rfl) (fun Q' hQ' => ?_)
  have HM3 := Lh (ky HMW.o)
  generalize w2.drew = w3 at *
  have hpc := HM3.o.book.pins_cell
  go_wp2_with (refine ai (some 88) rfl ?_)
  refine Stop.go (aa rfl 34 rfl rfl ba.ut rfl (cs := encK kx) (al _ _ kx.2) HM3.o.rec_.key_ ?_)
  refine ng qra rfl rfl rfl (k := kx) rfl HM3.o.book.pins ?_
  intro w4 hm4 hg4 hs4
  generalize ha : Act.put _ _ _ = z9; simp [Act.put] at ha; subst ha
  have HP := Lh (HPO.o _ w4 (qqf (by rw [HRK.o.1]; simpa using HK.o)) ⟨_, _, _, HM3.o.book.turn_pins hm4 hg4 (by rw [HRK.o.2.2.2.1]; exact del_pins HM3.o.book.lp_ (uf HGD.o) kx)⟩
   (HM3.o.below.grown hg4 (fun k hk => by injection hk with hk; omega)))
  clear hm4 hg4 hs4
  go_wp2_with fail
  refine ⟨by rfl, ?_⟩
  go_wp2_with fail
  go_ret
  exact HP.o
 have HN6 := Lh hk6
 rcases Bool.eq_false_or_eq_true (kind == 7) with hk7 | hk7
 ·have HK := Lh hk7
  have hksl := HMW.o.rec_.keys_
  have hcl := HCL.o
  go_wp2_with (refine ai (some 92) rfl ?_)
  refine Stop.go (bz rfl (v := .slice A n c) (du rfl rfl (jo Tryz.underlying28 hksl)) ?_)
  clear hksl
  generalize ha : Act.put _ _ _ = z9; simp [Act.put] at ha; subst ha
  go_wp2_with fail
  go_loopw [94] (fun v94 wr => ∃ i : Nat, i ≤ n ∧ v94 = .int .i64 i ∧ Hid (∃ lm', MidW g { b with live := (keys.take i).foldl (fun l k => outL l (k32 k)) b.live } kind seq kx mx keys (.slice A n c) w wr lm' lp li)) (fun v94 _ => n - (intOf v94).toNat)
  case atStart => exact ⟨0, Nat.zero_le _, rfl, lm, HMW.o⟩
  case round =>
   obtain ⟨i, hi, rfl, HX⟩ := hrel
   by_cases hlt : i < n
   ·obtain ⟨lm', hMW⟩ := HX.o
    have HMW2 := Lh hMW
    have hlt2 : i < keys.length := by rw [← HN.o]; exact hlt
    obtain ⟨b1, o1, rfl, _, _, l1, e1⟩ := mn hMW.keys_ hlt2
    have HE1 := Lh e1
    obtain ⟨kq, hkq⟩ : ∃ kq : K32, kq.1 = keys[i] := ⟨⟨keys[i], l1⟩, rfl⟩
    rw [← hkq] at HE1
    have HKQ := Lh hkq
    clear hMW e1 hkq HX
    go_wp2_with (refine ai (some 97) rfl ?_)
    refine Stop.go (aa rfl 34 rfl rfl ba.ut rfl (cs := encK kq) (al _ _ kq.2) HE1.o ?_)
    refine av rfl 34 rfl ge rfl ?_
    refine ac rfl 34 rfl rfl rfl (ch (g := wr.heap.size) rfl (v := kv kq) (vs := encK kq) rfl (al _ _ kq.2) (by rw [bi]; simp [ae, bg]) (bc _ _)) ?_
    have HM3 := Lh (HMW2.o.later (w3 := wr.alloc (.cells (encK kq).toArray 34)) ((br _ _).alloc (nr _) _))
    have HG3 := Lh (aq (vs := encK kq) (hzn wr (.cells (encK kq).toArray 34)))
    generalize wr.alloc (.cells (encK kq).toArray 34) = w3 at *
    generalize ha : Act.put _ _ _ = z9; simp [Act.put] at ha; subst ha
    go_wp2_with fail
    refine Text.wp_text [] (by kernel_rfl) (by kernel_rfl) (fun Q' hQ' => ?_)
    have HM4 := Lh (ky HM3.o)
    have HG4 := Lh (show ∀ j u, (encK kq)[j]? = some u → w3.drew.cell? ⟨wr.heap.size, 0 + j, none⟩ = some u from HG3.o)
    generalize w3.drew = w4 at *
    have hpc := HM4.o.book.live_cell
    go_wp2_with (refine ai (some 102) rfl ?_)
    refine Stop.go (aa rfl 34 rfl rfl ba.ut rfl (cs := encK kq) (al _ _ kq.2) HG4.o ?_)
    refine ng qfg rfl rfl rfl (k := kq) rfl HM4.o.book.live ?_
    intro w5 hm5 hg5 hs5
    have hnd : (((keys.take i).foldl (fun l k => outL l (k32 k)) b.live).map (·.1)).Nodup := ((pf _ _).map _).nodup (od HGD.o)
    have HP5 := Lh (HM4.o.map_ (HM4.o.book.turn_live hm5 hg5 (del_live HM4.o.book.lm_ hnd kq)) hg5 (nr _) (by omega))
    clear hm5 hg5 hs5 hpc hnd
    generalize ha : Act.put _ _ _ = z9; simp [Act.put] at ha; subst ha
    go_wp2_with fail
    refine ⟨by rfl, ?_⟩
    go_wp2_with fail
    go_roundw
    case rel =>
     refine ⟨i + 1, by omega, by go_num, ?_⟩
     have hlt2 : i < keys.length := by rw [← HN.o]; exact hlt
     have := HP5.o
     rw [List.take_succ_eq_append_getElem hlt2, List.foldl_append]
     simp only [List.foldl_cons, List.foldl_nil]
     rw [← HKQ.o, qmj]
     exact ⟨_, this⟩
    case measure => simp [intOf]; omega
   ·have hin : i = n := by omega
    subst hin
    obtain ⟨lm', hMW⟩ := HX.o
    have hB : ga wr g { b with live := R.keys.foldl (fun l k => outL l (k32 k)) b.live } lm' lp li := by
     have := hMW.book
     rw [HN.o, List.take_length] at this
     rw [HRK.o.2.2.1]
     exact this
    have HP := Lh (HPO.o _ wr (qqe (by rw [HRK.o.1]; simpa using HK.o)) ⟨_, _, _, hB⟩ hMW.below)
    clear hMW
    go_wp2_with fail
    go_ret
    exact HP.o
 have HN7 := Lh hk7
 exfalso
 obtain ⟨_, _, _, _, q1, q2⟩ := HK7.o
 rw [HRK.o.1] at q1 q2
 have n1 : ¬ kind = 1 := by simpa using HN1.o
 have n2 : ¬ kind = 2 := by simpa using HN2.o
 have n3 : ¬ kind = 3 := by simpa using HN3.o
 have n4 : ¬ kind = 4 := by simpa using HN4.o
 have n5 : ¬ kind = 5 := by simpa using HN5.o
 have n6 : ¬ kind = 6 := by simpa using HN6.o
 have n7 : ¬ kind = 7 := by simpa using HN7.o
 omega
end Go.Proofs.YtplbcbamnjnhlaaGreatDoor
