/- Texts of this proof joined: RefAll, Hist8. -/
import Derived.Test.YtplbcbamnjnhlaaGreatDoorMT00
import Derived.Test.YtplbcbamnjnhlaaGreatDoorMT31
import Derived.Test.YtplbcbamnjnhlaaGreatDoorMT41
import Derived.Test.YtplbcbamnjnhlaaGreatDoorMT35
import Derived.Test.YtplbcbamnjnhlaaGreatDoorMT39
import Derived.Test.YtplbcbamnjnhlaaGreatDoorMT36
import Derived.Test.YtplbcbamnjnhlaaGreatDoorMT29
set_option maxRecDepth 100000
set_option maxHeartbeats 40000000
namespace Go.Proofs.YtplbcbamnjnhlaaGreatDoor
open Go.RowKit

theorem qht : pr Tryz.prog 50 42 69 120 (recv 0 0 z32 0 z32 0 (.slice none 0 0)) := yf Tryz.underlying50 (by kernel_rfl) rfl (by omega)
theorem qet (k s : Int) (kh : List UInt8) (kk : Int) (mh : List UInt8) (ms : Int) (v : Value) (h1 : kh.length = 32) (h2 : mh.length = 32) : (Tryz.prog.info? 42).map (fun i => (i.zero, i.size)) = some (some (recv 0 0 z32 0 z32 0 (.slice none 0 0)), (ag k s kh kk mh ms v).length) := by rw [ah, h1, h2]; kernel_rfl
def RefAllTo (l : List UInt8) (w : World) (e : Ending) (w' : World) : Prop :=
 ∃ rs n v, e = .returned (.tuple #[v, .int .i64 (n : Nat)]) ∧ jq l rs n ∧ OwnL eRec w' w.heap.size 42 v rs ∧ Below w.heap.size w w'
theorem qoc (l : List UInt8) (A : Option Addr) (c B : Nat) (w : World) (hr : Rd w B A (ak l)) (hB : B ≤ w.heap.size) (hl : l.length ≤ 68719476736) (hc : l.length ≤ c) :
  Calls Tryz.prog 40 #[.slice A l.length c] w (RefAllTo l w) := by
 have HBW := Lh hB
 have HR := Lh hr
 clear hr hB
 go_enter Tryz.func40, Tryz.ntmps40
 go_wp2_with fail
 go_loopw [4, 5, 6] (fun v4 v5 v6 wr => ∃ (n i : Nat) (rs : List RecD) (A4 : Option Addr) (c4 : Nat), n ≤ i ∧ i ≤ l.length ∧ v5 = .int .i64 n ∧ v6 = .int .i64 i ∧ v4 = .slice A4 rs.length c4 ∧ Hid (OwnL eRec wr w.heap.size 42 (.slice A4 rs.length c4) rs) ∧
  Hid (l.take n = rs.flatMap ca ∧ ∀ r ∈ rs, ke r) ∧ Hid (∀ j, j < i - n → (l.drop n)[j]? ≠ some 10) ∧ Hid (Below w.heap.size w wr)) (fun _ _ v6 _ => l.length - (intOf v6).toNat)
 case atStart => exact ⟨0, 0, [], none, 0, by omega, by omega, rfl, rfl, rfl, OwnL.nil _ _ _, ⟨rfl, fun r hr => nomatch hr⟩, (fun j hj => by omega), br _ _⟩
 case round =>
  obtain ⟨n, i, rs, A4, c4, hni, hil, rfl, rfl, rfl, HO, HL, HF, HB⟩ := hrel
  have hn : n ≤ l.length := Nat.le_trans hni hil
  have HRn := Lh ((HR.o.below (HB.o.mono HBW.o)).cut n c hc)
  have hdl : (l.drop n).length = l.length - n := by rw [List.length_drop]
  by_cases hlt : i < l.length
  ·obtain ⟨k, hk⟩ : ∃ k, k = i - n := ⟨_, rfl⟩
   have hkl : k < l.length - n := by omega
   obtain ⟨ab, ao, hAe, hab, hcell⟩ := (HR.o.below (HB.o.mono HBW.o)).byte hlt
   subst hAe
   obtain ⟨d, hd⟩ : ∃ d, d = l[i].toNat := ⟨_, rfl⟩
   rw [← hd] at hcell
   have hlk : (l.drop n)[k]? = some l[i] := by rw [List.getElem?_drop, show n + k = i by omega, List.getElem?_eq_getElem hlt]
   by_cases hd10 : d = 10
   ·obtain ⟨q, hq⟩ : ∃ q, q = i + 1 := ⟨_, rfl⟩
    have hqi : (i : Int) + 1 = (q : Int) := by omega
    have hql : q ≤ l.length := by omega
    have hnq : n ≤ q := by omega
    have hu2 := qnr (some ⟨ab, ao, none⟩) l.length c n q hnq (by omega)
    have HTL := Lh (show ((l.drop n).take (k + 1)).length = q - n by rw [List.length_take, hdl]; omega)
    have HP := Lh (qjf ((l.drop n).take (k + 1)) (cutA (some ⟨ab, ao, none⟩) c n) (c - n) B wr (HRn.o.upto (k + 1)) (Nat.le_trans HBW.o HB.o.size) (by rw [HTL.o]; omega) (by rw [HTL.o]; omega))
    rw [HTL.o] at HP
    have HFD := Lh (show zo (l.drop n) k from ⟨by rw [hlk]; exact congrArg some (UInt8.toNat_inj.1 (hd.symm.trans hd10)), fun j hj => HF.o j (by omega)⟩)
    have HQ := Lh (show q = n + k + 1 by omega)
    clear hd hlk hk hdl HF hq
    subst hd10
    go_wp2_with fail
    refine HP.o.mono ?_
    rintro e w2 ⟨hb2, hcase⟩
    have HO2 := Lh (HO.o.later hb2)
    have HLT := Lh (show ∀ g, (Value.slice A4 rs.length c4).ownBlock = some g → g < wr.heap.size by
     obtain ⟨css, h1, _⟩ := HO.o
     exact fun g hg => (h1.lt g hg).2)
    have HB2 := Lh (HB.o.trans (hb2.mono HB.o.size))
    rcases hcase with ⟨hnone, rfl⟩ | ⟨r, v, hsome, rfl, hks⟩
    ·have HA := Lh (show jq l rs n from ⟨hn, HL.o.1, HL.o.2, fun j hj => by rw [hj.one HFD.o]; exact hnone⟩)
     clear hnone hb2 HO HB
     have hb3 : Below w2.heap.size w2 (w2.alloc (.cells (ag dq.kind dq.seq dq.kh dq.kk dq.mh dq.ms (.slice none 0 0)).toArray 42)) := (br _ _).alloc (nr _) _
     have HO3 := Lh (HO2.o.later hb3)
     have HB3 := Lh (HB2.o.trans (hb3.mono HB2.o.size))
     clear hb3
     go_wp2_with (refine ai (some 7) rfl ?_)
     refine Stop.go (av rfl 42 rfl lk rfl ?_)
     refine ac rfl 42 rfl rfl rfl (ch (g := w2.heap.size) rfl (bb ..) (cw _ _ _ _ _ _ _ rfl rfl) (by rw [List.size_toArray, ah, ah]; rfl) (bd _ _ _ _ _ _ _ _ _)) ?_
     generalize w2.alloc (.cells (ag dq.kind dq.seq dq.kh dq.kk dq.mh dq.ms (.slice none 0 0)).toArray 42) = w3 at *
     go_wp2_with fail
     go_ret2
     exact ⟨rs, n, _, rfl, HA.o, HO3.o, HB3.o⟩
    ·obtain ⟨hgr, hline⟩ := qcm hsome
     have HGR := Lh hgr
     have HLN := Lh (show l.take q = (rs ++ [r]).flatMap ca by
      rw [HQ.o, Nat.add_assoc, List.take_add, HL.o.1, hline, List.flatMap_append]
      simp)
     have HG2 := Lh (show ∀ x ∈ rs ++ [r], ke x from fun x hx => by
      rcases List.mem_append.1 hx with hx | hx
      ·exact HL.o.2 x hx
      ·rw [List.mem_singleton.1 hx]; exact HGR.o)
     obtain ⟨AK, cK, rfl, _, _⟩ := ap hks.1
     have hsz := uy HL.o.1
     have hb3 : Below w2.heap.size w2 (w2.alloc (.cells (ag r.kind r.seq r.kh r.kk r.mh r.ms (.slice AK r.keys.length cK)).toArray 42)) := (br _ _).alloc (nr _) _
     have HO3 := Lh (HO2.o.later hb3)
     have HB3 := Lh (HB2.o.trans (hb3.mono HB2.o.size))
     have HK3 := Lh (hks.later hb3)
     have HA3 := Lh (cu.new (t := 42) (kind := r.kind) (seq := r.seq) (kk := r.kk) (ms := r.ms) (v := .slice AK r.keys.length cK) w2 hgr.2.1.1 hgr.2.1.2)
     have HHS := Lh hgr.2.1
     clear hb3 hb2 hks hline hsome hgr HO HO2 HB HB2 HP HL
     go_wp2_with (refine ai (some 7) rfl ?_)
     refine Stop.go (av rfl 42 rfl lk rfl ?_)
     refine ac rfl 42 rfl rfl rfl (ch (g := w2.heap.size) rfl (bb ..) (cw _ _ _ _ _ _ _ HHS.o.1 HHS.o.2) (by rw [List.size_toArray, ah, ah, HHS.o.1, HHS.o.2]; rfl) (bd _ _ _ _ _ _ _ _ _)) ?_
     generalize w2.alloc (.cells (ag r.kind r.seq r.kh r.kk r.mh r.ms (.slice AK r.keys.length cK)).toArray 42) = w3 at *
     go_wp2_with (refine ai (some 34) rfl ?_)
     refine Stop.go (aa rfl 42 rfl rfl fc rfl (cw _ _ _ _ _ _ _ HHS.o.1 HHS.o.2) HA3.o.all_ ?_)
     refine cd rfl 50 42 rfl rfl Tryz.underlying50 (qet r.kind r.seq r.kh r.kk r.mh r.ms (.slice AK r.keys.length cK) HHS.o.1 HHS.o.2) (bb ..) (by rw [ah]; omega) (by rw [ah, HHS.o.1, HHS.o.2]; decide) ?_
     have hb4 : Below w3.heap.size w3 (w3.alloc (.cells (ag r.kind r.seq r.kh r.kk r.mh r.ms (.slice AK r.keys.length cK)).toArray 42)) := (br _ _).alloc (nr _) _
     have HO4 := Lh (HO3.o.later hb4)
     have HB4 := Lh (HB3.o.trans (hb4.mono HB3.o.size))
     have HK4 := Lh (HK3.o.later hb4)
     have HG4 := Lh (hzn w3 (.cells (ag r.kind r.seq r.kh r.kk r.mh r.ms (.slice AK r.keys.length cK)).toArray 42))
     have HS4 := Lh (show (w3.alloc (.cells (ag r.kind r.seq r.kh r.kk r.mh r.ms (.slice AK r.keys.length cK)).toArray 42)).heap.size = w3.heap.size + 1 from Array.size_push _)
     generalize w3.alloc (.cells (ag r.kind r.seq r.kh r.kk r.mh r.ms (.slice AK r.keys.length cK)).toArray 42) = w4 at *
     clear hb4 HO3 HB3 HK3
     obtain ⟨css, hcs1, hcs2, hcs3⟩ := HO4.o
     have HC3 := Lh hcs3
     have hbw4 := HB4.o.size
     refine ay qht rfl rfl rfl rfl hcs1 (Rd.row (B := w4.heap.size) HG4.o (by rw [HS4.o]; omega)) (m := 1) (by rw [ah, HHS.o.1, HHS.o.2]) (bd _ _ _ _ _ _ _ _ _) ?h63 ?hby ?hbase ?_
     case h63 => simp only [maxLen]; omega
     case hby => omega
     case hbase => exact hbw4
     intro v5 w5 hown5 hg5 hor5 _
     have HO5 := Lh (OwnL.snoc hcs2 HC3.o (x := r) (fun w' ha => qim HHS.o HK4.o HLT.o ha) hown5 hg5 hor5)
     have HB5 := Lh (ax HB4.o hg5 hcs1 (nr _) hbw4)
     obtain ⟨A5, c5, rfl, _, _⟩ := ap hown5
     clear hown5 hg5 hor5 hcs1 hcs3 HC3 hcs2
     generalize ha : Act.put _ _ _ = z9; simp [Act.put] at ha; subst ha
     go_wp2_with fail
     refine ⟨⟨q, q, rs ++ [r], A5, c5, nr _, hql, rfl, rfl, ?_, ?_, Lh ⟨HLN.o, HG2.o⟩, Lh (fun j hj => by omega), HB5⟩, ?_⟩
     ·rw [List.length_append]; rfl
     ·rw [List.length_append]; exact HO5
     ·simp [intOf]; omega
   ·have hne : ((d : Int) != 10) = true := by simp; omega
    have HF2 := Lh (show ∀ j, j < i + 1 - n → (l.drop n)[j]? ≠ some 10 by
     intro j hj
     by_cases h : j < i - n
     ·exact HF.o j h
     ·obtain rfl : j = k := by omega
      rw [hlk]
      intro he
      injection he with he
      exact hd10 (by rw [hd, he]; rfl))
    clear hd hlk hk hdl
    go_wp2_with fail
    refine ⟨⟨n, i + 1, rs, A4, c4, by omega, by omega, rfl, (by go_num), rfl, HO, HL, HF2, HB⟩, ?_⟩
    simp [intOf]; omega
  ·have HA := Lh (show jq l rs n from ⟨hn, HL.o.1, HL.o.2, fun j hj => absurd hj.1 (by
    by_cases h : j < i - n
    ·exact HF.o j h
    ·rw [List.getElem?_eq_none (by rw [hdl]; omega)]
     simp)⟩)
   clear HF hdl
   go_wp2_with fail
   go_ret2
   exact ⟨rs, n, _, rfl, HA.o, HO.o, HB.o⟩

def RB3 (S : Nat → Prop) (w : World) (b : bj) (L P O : Value) : Prop :=
 SlR gh w w.heap.size L (fm b.live) ∧ SlR eK w w.heap.size P b.pins ∧ SlR gh w w.heap.size O b.ints ∧ (Far S w L ∧ Far S w P ∧ Far S w O)
theorem qje {α : Type} {E : Elt α} {w w' : World} {v : Value} {xs : List α} (h : SlR E w w.heap.size v xs) (hrep : ∀ cs x, E.rep w w.heap.size cs x → E.rep w' w.heap.size cs x) (hb : ∀ p, v.ownBlock = some p → p < w.heap.size → w'.heap[p]? = w.heap[p]?) : SlR E w' w.heap.size v xs := by
 obtain ⟨A, c, css, rfl, h1, h2, h3, h4, h5⟩ := h
 refine ⟨A, c, css, rfl, h1, h2, h3, ?_, fun i cs x hc hx => hrep _ _ (h5 i cs x hc hx)⟩
 intro hn
 obtain ⟨q, off, rfl, hq, hc⟩ := h4 hn
 exact ⟨q, off, rfl, hq, fun j u hu => (World.cell?_of_block (w := w) (w' := w') (a := ⟨q, off + j, none⟩) (hb q rfl hq)).trans (hc j u hu)⟩
section
variable {S S' : Nat → Prop} {w w' : World} {b : bj} {L P O : Value}
theorem RB3.below (h : RB3 S w b L P O) (hb : Below w.heap.size w w') : RB3 S w' b L P O :=
 ⟨h.1.fut hb (nr _) hb.size, h.2.1.fut hb (nr _) hb.size, h.2.2.1.fut hb (nr _) hb.size, h.2.2.2.1.more hb.size, h.2.2.2.2.1.more hb.size, h.2.2.2.2.2.more hb.size⟩
theorem RB3.app {row : Option Nat} (h : RB3 S w b L P O) (hg : w.grownBy w' row) (hr : ∀ p, row = some p → S p) (hS' : ∀ p, S' p → S p ∨ p = w.heap.size) : RB3 S' w' b L P O := by
 have key : ∀ v, Far S w v → ∀ p, v.ownBlock = some p → p < w.heap.size → w'.heap[p]? = w.heap[p]? := fun v hf p hp hlt => hg.block p hlt fun e => (hf p hp).1 (hr p e.symm)
 have far : ∀ v, Far S w v → Far S' w' v := fun v hf p hp => ⟨fun hs => by
  have h1 := hf p hp
  rcases hS' p hs with h2 | h2
  ·exact h1.1 h2
  ·omega, Nat.lt_of_lt_of_le (hf p hp).2 hg.size⟩
 exact ⟨(qje (w' := w') h.1 (fun _ _ h => h) (key L h.2.2.2.1)).more hg.size, (qje (w' := w') h.2.1 (fun _ _ h => h) (key P h.2.2.2.2.1)).more hg.size, (qje (w' := w') h.2.2.1 (fun _ _ h => h) (key O h.2.2.2.2.2)).more hg.size, far L h.2.2.2.1, far P h.2.2.2.2.1, far O h.2.2.2.2.2⟩
end
structure Bk3 where
 L : Nat → Value
 P : Nat → Value
 O : Nat → Value
def qbk (rs : List RecD) (us : Nat → Value) (i : Nat) : List Value := (List.range i).flatMap fun j => ag (rs.getD j dq).kind (rs.getD j dq).seq (rs.getD j dq).kh (rs.getD j dq).kk (rs.getD j dq).mh (rs.getD j dq).ms (us j)
def qgp (rs : List RecD) (i : Nat) : List Value := (List.range i).map fun j => Value.int .i64 (evAt rs j : Nat)
def xb (rs : List RecD) (t : Bk3) (i : Nat) : List Value := (List.range i).flatMap fun j => aj (bkAt az rs (j + 1)) (t.L j) (t.P j) (t.O j)
theorem qla (rs : List RecD) (us : Nat → Value) (i : Nat) : qbk rs us (i + 1) = qbk rs us i ++ ag (rs.getD i dq).kind (rs.getD i dq).seq (rs.getD i dq).kh (rs.getD i dq).kk (rs.getD i dq).mh (rs.getD i dq).ms (us i) := by
 unfold qbk
 rw [List.range_succ, List.flatMap_append]
 simp
theorem qpy (rs : List RecD) (i : Nat) : qgp rs (i + 1) = qgp rs i ++ [Value.int .i64 (evAt rs i : Nat)] := by
 unfold qgp
 rw [List.range_succ, List.map_append]
 rfl
theorem qpv (rs : List RecD) (t : Bk3) (i : Nat) : xb rs t (i + 1) = xb rs t i ++ aj (bkAt az rs (i + 1)) (t.L i) (t.P i) (t.O i) := by
 unfold xb
 rw [List.range_succ, List.flatMap_append]
 simp
theorem qna {rs : List RecD} {t t' : Bk3} {i : Nat} (h : ∀ j, j < i → t.L j = t'.L j ∧ t.P j = t'.P j ∧ t.O j = t'.O j) : xb rs t i = xb rs t' i := by
 unfold xb
 rw [List.flatMap_eq_foldl, List.flatMap_eq_foldl]
 have key : ∀ (l : List Nat) (acc : List Value), (∀ j ∈ l, j < i) → l.foldl (fun acc j => acc ++ aj (bkAt az rs (j + 1)) (t.L j) (t.P j) (t.O j)) acc = l.foldl (fun acc j => acc ++ aj (bkAt az rs (j + 1)) (t'.L j) (t'.P j) (t'.O j)) acc := by
  intro l
  induction l with
  |nil => intros; rfl
  |cons a l ih =>
   intro acc hl
   obtain ⟨h1, h2, h3⟩ := h a (hl a (by simp))
   rw [List.foldl_cons, List.foldl_cons, h1, h2, h3]
   exact ih _ fun j hj => hl j (by simp [hj])
 exact key _ _ fun j hj => by simpa using hj
def ownS (v6 v7 v8 : Value) (p : Nat) : Prop := v6.ownBlock = some p ∨ v7.ownBlock = some p ∨ v8.ownBlock = some p
structure EvS (w0 w : World) (q M : Nat) (rs : List RecD) (us : Nat → Value) (A1 : Option Addr) (i6 i7 i8 : Nat) (b : bj) (v6 v7 v8 : Value) (t : Bk3) (L P O : Value) : Prop where
 recs : w.ownsRow M 42 69 v6 i6 (qbk rs us i6)
 ats : w.ownsRow M 3 1 v7 i7 (qgp rs i7)
 books : w.ownsRow M 30 5 v8 i8 (xb rs t i8)
 told : ∀ j, j < i8 → RB3 (ownS v6 v7 v8) w (bkAt az rs (j + 1)) (t.L j) (t.P j) (t.O j)
 row : w.heap[q]? = some (.cells (aj b L P O).toArray 30 (0, 0))
 now : RB3 (ownS v6 v7 v8) w b L P O
 all : so w M A1 us rs
 below : Below w0.heap.size w0 w
 qlt : w0.heap.size ≤ q ∧ q < M ∧ M ≤ w.heap.size
section
variable {w0 w w' : World} {q M : Nat} {rs : List RecD} {us : Nat → Value} {A1 : Option Addr} {i6 i7 i8 i6' i7' i8' : Nat} {b b' : bj} {v6 v7 v8 v6' v7' v8' : Value} {t t' : Bk3} {L P O L' P' O' : Value}
theorem EvS.later (h : EvS w0 w q M rs us A1 i6 i7 i8 b v6 v7 v8 t L P O) (hb : Below w.heap.size w w') : EvS w0 w' q M rs us A1 i6 i7 i8 b v6 v7 v8 t L P O :=
 ⟨bw h.recs hb, bw h.ats hb, bw h.books hb, fun j hj => (h.told j hj).below hb, (hb.block _ (gl h.row)).trans h.row, h.now.below hb, h.all.stay (pq.of_below hb h.qlt.2.2), h.below.trans (hb.mono h.below.size), h.qlt.1, h.qlt.2.1, Nat.le_trans h.qlt.2.2 hb.size⟩
theorem EvS.drew (h : EvS w0 w q M rs us A1 i6 i7 i8 b v6 v7 v8 t L P O) : EvS w0 w.drew q M rs us A1 i6 i7 i8 b v6 v7 v8 t L P O := h.later (br _ _).drew
theorem EvS.lt (h : EvS w0 w q M rs us A1 i6 i7 i8 b v6 v7 v8 t L P O) : ∀ p, ownS v6 v7 v8 p → M ≤ p ∧ p < w.heap.size := fun p hp => by
 rcases hp with hp | hp | hp
 ·exact h.recs.lt p hp
 ·exact h.ats.lt p hp
 ·exact h.books.lt p hp
theorem EvS.grow {row : Option Nat} (h : EvS w0 w q M rs us A1 i6 i7 i8 b v6 v7 v8 t L P O) (hg : w.grownBy w' row) (hr : ∀ p, row = some p → ownS v6 v7 v8 p) (hS : ∀ p, ownS v6' v7' v8' p → ownS v6 v7 v8 p ∨ p = w.heap.size)
  (h6 : w'.ownsRow M 42 69 v6' i6' (qbk rs us i6')) (h7 : w'.ownsRow M 3 1 v7' i7' (qgp rs i7')) (h8 : w'.ownsRow M 30 5 v8' i8' (xb rs t' i8'))
  (ht : ∀ j, j < i8' → (j < i8 ∧ t'.L j = t.L j ∧ t'.P j = t.P j ∧ t'.O j = t.O j) ∨ (bkAt az rs (j + 1) = b ∧ t'.L j = L ∧ t'.P j = P ∧ t'.O j = O)) : EvS w0 w' q M rs us A1 i6' i7' i8' b v6' v7' v8' t' L P O := by
 have hrow : ∀ k, k < M → w'.heap[k]? = w.heap[k]? := fun k hk => hg.block k (by have := h.qlt; omega) (fun e => by have := (h.lt k (hr k e.symm)).1; omega)
 refine ⟨h6, h7, h8, fun j hj => ?_, (hrow q h.qlt.2.1).trans h.row, h.now.app hg hr hS, h.all.stay fun k hk => .inl (hrow k hk), ?_, h.qlt.1, h.qlt.2.1, Nat.le_trans h.qlt.2.2 hg.size⟩
 ·rcases ht j hj with ⟨h1, h2, h3, h4⟩ | ⟨h1, h2, h3, h4⟩
  ·rw [h2, h3, h4]; exact (h.told j h1).app hg hr hS
  ·rw [h1, h2, h3, h4]; exact h.now.app hg hr hS
 ·exact ⟨hg.os.trans h.below.os, hg.tape.trans h.below.tape, hg.output.trans h.below.output, Nat.le_trans h.below.size hg.size, fun k hk => (hrow k (by have := h.qlt; omega)).trans (h.below.block k hk)⟩
theorem EvS.app6 (h : EvS w0 w q M rs us A1 i6 i7 i8 b v6 v7 v8 t L P O) (hg : w.grownBy w' v6.ownBlock) (ho : w'.ownsRow M 42 69 v6' (i6 + 1) (qbk rs us (i6 + 1))) (hor : v6'.ownBlock = v6.ownBlock ∨ v6'.ownBlock = some w.heap.size) :
  EvS w0 w' q M rs us A1 (i6 + 1) i7 i8 b v6' v7 v8 t L P O :=
 h.grow hg (fun p hp => .inl hp) (fun p hp => by
  rcases hp with hp | hp | hp
  ·rcases hor with e | e
   ·exact .inl (.inl (e ▸ hp))
   ·rw [e] at hp; injection hp with hp; exact .inr hp.symm
  ·exact .inl (.inr (.inl hp))
  ·exact .inl (.inr (.inr hp))) ho (oc h.ats h.recs (by decide) hg) (oc h.books h.recs (by decide) hg) (fun j hj => .inl ⟨hj, rfl, rfl, rfl⟩)
theorem EvS.app7 (h : EvS w0 w q M rs us A1 i6 i7 i8 b v6 v7 v8 t L P O) (hg : w.grownBy w' v7.ownBlock) (ho : w'.ownsRow M 3 1 v7' (i7 + 1) (qgp rs (i7 + 1))) (hor : v7'.ownBlock = v7.ownBlock ∨ v7'.ownBlock = some w.heap.size) :
  EvS w0 w' q M rs us A1 i6 (i7 + 1) i8 b v6 v7' v8 t L P O :=
 h.grow hg (fun p hp => .inr (.inl hp)) (fun p hp => by
  rcases hp with hp | hp | hp
  ·exact .inl (.inl hp)
  ·rcases hor with e | e
   ·exact .inl (.inr (.inl (e ▸ hp)))
   ·rw [e] at hp; injection hp with hp; exact .inr hp.symm
  ·exact .inl (.inr (.inr hp))) (oc h.recs h.ats (by decide) hg) ho (oc h.books h.ats (by decide) hg) (fun j hj => .inl ⟨hj, rfl, rfl, rfl⟩)
def Bk3.snoc (t : Bk3) (i : Nat) (L P O : Value) : Bk3 := ⟨fun j => if j = i then L else t.L j, fun j => if j = i then P else t.P j, fun j => if j = i then O else t.O j⟩
theorem qpw (rs : List RecD) (t : Bk3) (i : Nat) (L P O : Value) : xb rs (t.snoc i L P O) (i + 1) = xb rs t i ++ aj (bkAt az rs (i + 1)) L P O := by
 rw [qpv, qna (t' := t)]
 ·simp [Bk3.snoc]
 ·intro j hj
  have : j ≠ i := by omega
  simp [Bk3.snoc, this]
theorem EvS.app8 (h : EvS w0 w q M rs us A1 i6 i7 i8 b v6 v7 v8 t L P O) (hb : b = bkAt az rs (i8 + 1)) (hg : w.grownBy w' v8.ownBlock) (ho : w'.ownsRow M 30 5 v8' (i8 + 1) (xb rs t i8 ++ aj b L P O)) (hor : v8'.ownBlock = v8.ownBlock ∨ v8'.ownBlock = some w.heap.size) :
  EvS w0 w' q M rs us A1 i6 i7 (i8 + 1) b v6 v7 v8' (t.snoc i8 L P O) L P O :=
 h.grow hg (fun p hp => .inr (.inr hp)) (fun p hp => by
  rcases hp with hp | hp | hp
  ·exact .inl (.inl hp)
  ·exact .inl (.inr (.inl hp))
  ·rcases hor with e | e
   ·exact .inl (.inr (.inr (e ▸ hp)))
   ·rw [e] at hp; injection hp with hp; exact .inr hp.symm) (oc h.recs h.books (by decide) hg) (oc h.ats h.books (by decide) hg) (by rw [qpw, ← hb]; exact ho) (fun j hj => by
  by_cases e : j = i8
  ·subst e
   exact .inr ⟨hb.symm, by simp [Bk3.snoc], by simp [Bk3.snoc], by simp [Bk3.snoc]⟩
  ·exact .inl ⟨by omega, by simp [Bk3.snoc, e], by simp [Bk3.snoc, e], by simp [Bk3.snoc, e]⟩)
theorem RB3.five {S : Nat → Prop} {cs2 : Array Value} {cs : Array Value} {ty : TypeId} (h : RB3 S w b L P O) (hq : w.heap[q]? = some (.cells cs ty (0, 0))) (h5 : cs.size = 5) : RB3 S (w.setRow q cs2) b L P O := by
 have ho : ∀ k, k ≠ q → (w.setRow q cs2).heap[k]? = w.heap[k]? := fun k hk => setRow_other _ _ _ _ hk
 refine ⟨?_, ?_, ?_, h.2.2.2.1.more (by rw [setRow_size]; omega), h.2.2.2.2.1.more (by rw [setRow_size]; omega), h.2.2.2.2.2.more (by rw [setRow_size]; omega)⟩
 ·rw [setRow_size]; exact ow hq h5 ho (by decide) (fun _ _ h => h) h.1
 ·rw [setRow_size]; exact ow hq h5 ho (by decide) (fun _ _ h => h) h.2.1
 ·rw [setRow_size]; exact ow hq h5 ho (by decide) (fun _ _ h => h) h.2.2.1
theorem yr {g base : Nat} {e : TypeId} {size n : Nat} {v : Value} {xs : List Value} {cs : Array Value} (h : w.ownsRow base e size v n xs) (hg : g < base) : (w.setRow g cs).ownsRow base e size v n xs := by
 refine ⟨h.1, ?_⟩
 rcases h.2 with h' | ⟨p, cap, cur, rfl, hp, hh, r⟩
 ·exact .inl h'
 ·exact .inr ⟨p, cap, cur, rfl, hp, (setRow_other _ _ _ _ (by omega)).trans hh, r⟩
theorem EvS.turn (h : EvS w0 w q M rs us A1 i6 i7 i8 b v6 v7 v8 t L P O) (hn : RB3 (ownS v6 v7 v8) w b' L' P' O') : EvS w0 (w.setRow q (aj b' L' P' O').toArray) q M rs us A1 i6 i7 i8 b' v6 v7 v8 t L' P' O' :=
 ⟨yr h.recs h.qlt.2.1, yr h.ats h.qlt.2.1, yr h.books h.qlt.2.1, fun j hj => (h.told j hj).five h.row rfl, setRow_heap _ _ _ _ _ _ h.row, hn.five h.row rfl,
  h.all.stay (fun k _ => by
   by_cases e : k = q
   ·subst e; exact .inr (xu h.row (nr 5))
   ·exact .inl (setRow_other _ _ _ _ e)), below_setRow h.below h.qlt.1 _, h.qlt.1, h.qlt.2.1, by rw [setRow_size]; exact h.qlt.2.2⟩
end
end Go.Proofs.YtplbcbamnjnhlaaGreatDoor
