/- Texts of this proof joined: RecAll, Hist1. -/
import Derived.Test.YtplbcbamnjnhlaaGreatDoorMT00
import Derived.Test.YtplbcbamnjnhlaaGreatDoorMT30
import Derived.Test.YtplbcbamnjnhlaaGreatDoorMT25
import Derived.Test.YtplbcbamnjnhlaaGreatDoorMT17
import Derived.Test.YtplbcbamnjnhlaaGreatDoorMT21
import Derived.Test.YtplbcbamnjnhlaaGreatDoorMT29
import Derived.Test.YtplbcbamnjnhlaaGreatDoorMT24
set_option maxRecDepth 100000
set_option maxHeartbeats 40000000
namespace Go.Proofs.YtplbcbamnjnhlaaGreatDoor
open Go.RowKit

theorem rec_app : pr Tryz.prog 22 38 69 120 (recv 0 0 z32 0 z32 0 (.slice none 0 0)) := yf Tryz.underlying22 (by kernel_rfl) rfl (by omega)
theorem rec_info (k s : Int) (kh : List UInt8) (kk : Int) (mh : List UInt8) (ms : Int) (v : Value) (h1 : kh.length = 32) (h2 : mh.length = 32) : (Tryz.prog.info? 38).map (fun i => (i.zero, i.size)) = some (some (recv 0 0 z32 0 z32 0 (.slice none 0 0)), (ag k s kh kk mh ms v).length) := by rw [ah, h1, h2]; kernel_rfl
theorem qim {w w' : World} {base : Nat} {r : RecD} {v : Value} {g : Option Nat} (hs : Hs r) (h : er w base v r.keys) (hg : ∀ k, g = some k → k < base) (ha : Away w w' w.heap.size g) : eRec.rep w' w.heap.size (ag r.kind r.seq r.kh r.kk r.mh r.ms v) r := by
 refine ⟨v, rfl, hs.1, hs.2, ?_⟩
 obtain ⟨A, c, rfl, h1, h2⟩ := ap h.1
 have hsl := h.sl
 obtain ⟨A2, c2, css, e, h3, h4, h5, h6, h7⟩ := hsl
 injection e with e1 e2 e3
 subst e1 e3
 refine ⟨A, c, css, rfl, h3, h4, h5, fun hn => ?_, fun i cs x hc hx => h7 i cs x hc hx⟩
 ·obtain ⟨b, off, e, hb, hc⟩ := h6 hn
  refine ⟨b, off, e, hb, fun j u hu => (ha ⟨b, off + j, none⟩ hb fun he => ?_).trans (hc j u hu)⟩
  have hlt := hg b he.symm
  subst e
  have := (h.1.lt b rfl).1
  omega
def RecAllTo (l : List UInt8) (w : World) (e : Ending) (w' : World) : Prop :=
 ∃ rs n v, e = .returned (.tuple #[v, .int .i64 (n : Nat)]) ∧ jq l rs n ∧ OwnL eRec w' w.heap.size 38 v rs ∧ Below w.heap.size w w'
theorem uy {l : List UInt8} {n : Nat} {rs : List RecD} (h : l.take n = rs.flatMap ca) : rs.length ≤ l.length := by
 have h1 := congrArg List.length h
 rw [List.length_take] at h1
 have : ∀ rs : List RecD, rs.length ≤ (rs.flatMap ca).length := by
  intro rs
  induction rs with
  |nil => simp
  |cons r rs ih =>
   have := qw r
   rw [List.flatMap_cons, List.length_append, List.length_cons]
   omega
 have := this rs
 omega
theorem quq (l : List UInt8) (A : Option Addr) (c B : Nat) (w : World) (hr : Rd w B A (ak l)) (hB : B ≤ w.heap.size) (hl : l.length ≤ 68719476736) (hc : l.length ≤ c) :
  Calls Tryz.prog 37 #[.slice A l.length c] w (RecAllTo l w) := by
 have HBW := Lh hB
 have HR := Lh hr
 clear hr hB
 go_enter Tryz.func37, Tryz.ntmps37
 go_wp2_with fail
 go_loopw [4, 5] (fun v4 v5 wr => ∃ (n : Nat) (rs : List RecD) (A4 : Option Addr) (c4 : Nat), n ≤ l.length ∧ v5 = .int .i64 n ∧ v4 = .slice A4 rs.length c4 ∧ Hid (OwnL eRec wr w.heap.size 38 (.slice A4 rs.length c4) rs) ∧
  Hid (l.take n = rs.flatMap ca ∧ ∀ r ∈ rs, ke r) ∧ Hid (Below w.heap.size w wr)) (fun _ v5 _ => l.length - (intOf v5).toNat)
 case atStart => exact ⟨0, [], none, 0, by omega, rfl, rfl, OwnL.nil _ _ _, ⟨rfl, fun r hr => nomatch hr⟩, br _ _⟩
 case round =>
  obtain ⟨n, rs, A4, c4, hn, rfl, rfl, HO, HL, HB⟩ := hrel
  have hu1 := qdj A l.length c n hn
  have HRn := Lh ((HR.o.below (HB.o.mono HBW.o)).cut n c hc)
  have hdl : (l.drop n).length = l.length - n := by rw [List.length_drop]
  have HIX := Lh (qty (l.drop n) 10 (cutA A c n) (c - n) B wr HRn.o (by omega))
  rw [hdl] at HIX
  go_wp2_with fail
  refine HIX.o.mono ?_
  rintro e w2 ⟨hix, rfl⟩
  rcases hix with ⟨k, rfl, hk1, hk2⟩ | ⟨rfl, hk2⟩
  ·obtain ⟨q, hq⟩ : ∃ q, q = n + k + 1 := ⟨_, rfl⟩
   have hqi : (n : Int) + (k : Int) + 1 = (q : Int) := by omega
   have hkl : k < l.length - n := by
    have := (List.getElem?_eq_some_iff.1 hk1).1
    rwa [hdl] at this
   have hql : q ≤ l.length := by omega
   have hnq : n ≤ q := by omega
   have hu2 := qnr A l.length c n q hnq (by omega)
   have HTL := Lh (show ((l.drop n).take (k + 1)).length = q - n by rw [List.length_take, hdl]; omega)
   have HP := Lh (qln ((l.drop n).take (k + 1)) (cutA A c n) (c - n) B wr (HRn.o.upto (k + 1)) (Nat.le_trans HBW.o HB.o.size) (by rw [HTL.o]; omega) (by rw [HTL.o]; omega))
   rw [HTL.o] at HP
   have HFD := Lh (show zo (l.drop n) k from ⟨hk1, hk2⟩)
   have HQ := Lh hq
   clear hk1 hk2 hq HIX hdl
   go_wp2_with fail
   refine HP.o.mono ?_
   rintro e w2 ⟨hb2, hcase⟩
   have HO2 := Lh (HO.o.later hb2)
   have HLT := Lh (show ∀ g, (Value.slice A4 rs.length c4).ownBlock = some g → g < wr.heap.size by
    obtain ⟨css, h1, _⟩ := HO.o
    exact fun g hg => (h1.lt g hg).2)
   have HB2 := Lh (HB.o.trans (hb2.mono HB.o.size))
   rcases hcase with ⟨hnone, rfl⟩ | ⟨r, v, hsome, rfl, hks⟩
   ·have HA := Lh (show jq l rs n from ⟨hn, HL.o.1, HL.o.2, fun j hj => by rw [hj.one HFD.o]; exact hnone⟩)
    clear hnone hb2 HO HB
    have hb3 : Below w2.heap.size w2 (w2.alloc (.cells (ag dq.kind dq.seq dq.kh dq.kk dq.mh dq.ms (.slice none 0 0)).toArray 38)) := (br _ _).alloc (nr _) _
    have HO3 := Lh (HO2.o.later hb3)
    have HB3 := Lh (HB2.o.trans (hb3.mono HB2.o.size))
    clear hb3
    go_wp2_with (refine ai (some 7) rfl ?_)
    refine Stop.go (av rfl 38 rfl gn rfl ?_)
    refine ac rfl 38 rfl rfl rfl (ch (g := w2.heap.size) rfl (bb ..) (bk _ _ _ _ _ _ _ rfl rfl) (by rw [List.size_toArray, ah, ah]; rfl) (bd _ _ _ _ _ _ _ _ _)) ?_
    generalize w2.alloc (.cells (ag dq.kind dq.seq dq.kh dq.kk dq.mh dq.ms (.slice none 0 0)).toArray 38) = w3 at *
    go_wp2_with fail
    go_ret2
    exact ⟨rs, n, _, rfl, HA.o, HO3.o, HB3.o⟩
   ·obtain ⟨hgr, hline⟩ := qcm hsome
    have HGR := Lh hgr
    have HLN := Lh (show l.take q = (rs ++ [r]).flatMap ca by
     rw [HQ.o, Nat.add_assoc, List.take_add, HL.o.1, hline, List.flatMap_append]
     simp)
    have HG2 := Lh (show ∀ x ∈ rs ++ [r], ke x from fun x hx => by
     rcases List.mem_append.1 hx with hx | hx
     ·exact HL.o.2 x hx
     ·rw [List.mem_singleton.1 hx]; exact HGR.o)
    obtain ⟨AK, cK, rfl, _, _⟩ := ap hks.1
    have hsz := uy HL.o.1
    have hb3 : Below w2.heap.size w2 (w2.alloc (.cells (ag r.kind r.seq r.kh r.kk r.mh r.ms (.slice AK r.keys.length cK)).toArray 38)) := (br _ _).alloc (nr _) _
    have HO3 := Lh (HO2.o.later hb3)
    have HB3 := Lh (HB2.o.trans (hb3.mono HB2.o.size))
    have HK3 := Lh (hks.later hb3)
    have HA3 := Lh (cu.new (t := 38) (kind := r.kind) (seq := r.seq) (kk := r.kk) (ms := r.ms) (v := .slice AK r.keys.length cK) w2 hgr.2.1.1 hgr.2.1.2)
    have HHS := Lh hgr.2.1
    clear hb3 hb2 hks hline hsome hgr HO HO2 HB HB2 HP HL
    go_wp2_with (refine ai (some 7) rfl ?_)
    refine Stop.go (av rfl 38 rfl gn rfl ?_)
    refine ac rfl 38 rfl rfl rfl (ch (g := w2.heap.size) rfl (bb ..) (bk _ _ _ _ _ _ _ HHS.o.1 HHS.o.2) (by rw [List.size_toArray, ah, ah, HHS.o.1, HHS.o.2]; rfl) (bd _ _ _ _ _ _ _ _ _)) ?_
    generalize w2.alloc (.cells (ag r.kind r.seq r.kh r.kk r.mh r.ms (.slice AK r.keys.length cK)).toArray 38) = w3 at *
    go_wp2_with (refine ai (some 33) rfl ?_)
    refine Stop.go (aa rfl 38 rfl rfl dr rfl (bk _ _ _ _ _ _ _ HHS.o.1 HHS.o.2) HA3.o.all_ ?_)
    refine cd rfl 22 38 rfl rfl Tryz.underlying22 (rec_info r.kind r.seq r.kh r.kk r.mh r.ms (.slice AK r.keys.length cK) HHS.o.1 HHS.o.2) (bb ..) (by rw [ah]; omega) (by rw [ah, HHS.o.1, HHS.o.2]; decide) ?_
    have hb4 : Below w3.heap.size w3 (w3.alloc (.cells (ag r.kind r.seq r.kh r.kk r.mh r.ms (.slice AK r.keys.length cK)).toArray 38)) := (br _ _).alloc (nr _) _
    have HO4 := Lh (HO3.o.later hb4)
    have HB4 := Lh (HB3.o.trans (hb4.mono HB3.o.size))
    have HK4 := Lh (HK3.o.later hb4)
    have HG4 := Lh (hzn w3 (.cells (ag r.kind r.seq r.kh r.kk r.mh r.ms (.slice AK r.keys.length cK)).toArray 38))
    have HS4 := Lh (show (w3.alloc (.cells (ag r.kind r.seq r.kh r.kk r.mh r.ms (.slice AK r.keys.length cK)).toArray 38)).heap.size = w3.heap.size + 1 from Array.size_push _)
    generalize w3.alloc (.cells (ag r.kind r.seq r.kh r.kk r.mh r.ms (.slice AK r.keys.length cK)).toArray 38) = w4 at *
    clear hb4 HO3 HB3 HK3
    obtain ⟨css, hcs1, hcs2, hcs3⟩ := HO4.o
    have HC3 := Lh hcs3
    have hbw4 := HB4.o.size
    refine ay rec_app rfl rfl rfl rfl hcs1 (Rd.row (B := w4.heap.size) HG4.o (by rw [HS4.o]; omega)) (m := 1) (by rw [ah, HHS.o.1, HHS.o.2]) (bd _ _ _ _ _ _ _ _ _) ?h63 ?hby ?hbase ?_
    case h63 => simp only [maxLen]; omega
    case hby => omega
    case hbase => exact hbw4
    intro v5 w5 hown5 hg5 hor5 _
    have HO5 := Lh (OwnL.snoc hcs2 HC3.o (x := r) (fun w' ha => qim HHS.o HK4.o HLT.o ha) hown5 hg5 hor5)
    have HB5 := Lh (ax HB4.o hg5 hcs1 (nr _) hbw4)
    obtain ⟨A5, c5, rfl, _, _⟩ := ap hown5
    clear hown5 hg5 hor5 hcs1 hcs3 HC3 hcs2
    generalize ha : Act.put _ _ _ = z9; simp [Act.put] at ha; subst ha
    go_wp2_with fail
    refine ⟨⟨q, rs ++ [r], A5, c5, hql, by go_num, ?_, ?_, Lh ⟨HLN.o, HG2.o⟩, HB5⟩, ?_⟩
    ·rw [List.length_append]; rfl
    ·rw [List.length_append]; exact HO5
    ·simp [intOf]; omega
  ·have HA := Lh (show jq l rs n from ⟨hn, HL.o.1, HL.o.2, fun j hj => absurd hj.1 (hk2 j)⟩)
   clear hk2 HIX
   go_wp2_with fail
   go_ret2
   exact ⟨rs, n, _, rfl, HA.o, HO.o, HB.o⟩

def qry (w : World) (k : Nat) : Prop := ∀ j, 5 ≤ j → w.cell? ⟨k, j, none⟩ = none
def pq (B : Nat) (w w' : World) : Prop := ∀ k, k < B → w'.heap[k]? = w.heap[k]? ∨ qry w k
theorem pq.of_below {B N : Nat} {w w' : World} (h : Below N w w') (hB : B ≤ N) : pq B w w' := fun k hk => .inl (h.block k (by omega))
theorem xu {w : World} {k : Nat} {cs : Array Value} {t : TypeId} {fr : Nat × Nat} (h : w.heap[k]? = some (.cells cs t fr)) (h5 : cs.size ≤ 5) : qry w k := fun j hj => by
 rw [cell_of_row _ _ _ _ _ _ h, Array.getElem?_eq_none (by omega)]
theorem qph {w : World} {g k : Nat} {b : bj} (h : eh w g b) (h1 : g ≤ k) (h2 : k < g + 4) : qry w k := fun j hj => by
 obtain ⟨lm, lp, li, hi⟩ := h
 by_cases h0 : k = g
 ·exact ns hi.live 0 none ⟨k, j, none⟩ h0 rfl rfl
 by_cases h1 : k = g + 1
 ·exact ns hi.pins 0 none ⟨k, j, none⟩ h1 rfl rfl
 by_cases h2 : k = g + 2
 ·exact ns hi.ints 0 none ⟨k, j, none⟩ h2 rfl rfl
 have h3 : k = g + 3 := by omega
 subst h3
 exact xu hi.row (by simp [ff]) j hj
theorem pq.of_beside {B g : Nat} {w w' : World} {b : bj} (h : fp g w w') (hb : eh w g b) (hB : B ≤ w.heap.size) : pq B w w' := fun k hk => by
 by_cases h1 : g ≤ k ∧ k < g + 4
 ·exact .inr (qph hb h1.1 h1.2)
 ·exact .inl (h.block k (by omega) (by omega))
theorem qgj {w w' : World} {B b o : Nat} (hs : pq B w w') (hb : b < B) {vs : List Value} (h6 : 6 ≤ vs.length) (h : ∀ j u, vs[j]? = some u → w.cell? ⟨b, o + j, none⟩ = some u) :
  ∀ j u, vs[j]? = some u → w'.cell? ⟨b, o + j, none⟩ = some u := by
 rcases hs b hb with e | f
 ·exact fun j u hu => (World.cell?_of_block (w := w) (w' := w') (a := ⟨b, o + j, none⟩) e).trans (h j u hu)
 ·have := h 5 _ (List.getElem?_eq_getElem (by omega))
  rw [f (o + 5) (by omega)] at this
  cases this
theorem qig {w w' : World} {B : Nat} (hs : pq B w w') {v : Value} {xs : List KeyD} (h : SlR eKey w B v xs) : SlR eKey w' B v xs := by
 obtain ⟨A, c, css, e, h1, h2, h3, h4, h6⟩ := h
 refine ⟨A, c, css, e, h1, h2, h3, ?_, fun i cs x hc hx => ?_⟩
 ·intro hne
  have hl : 6 ≤ css.flatten.length := by
   cases css with
   |nil => simp at hne
   |cons cs r =>
    have hx : 0 < xs.length := by rw [← h3]; simp
    have := eKey.len (h6 0 cs xs[0] rfl (List.getElem?_eq_getElem hx))
    have h33 : eKey.size = 33 := tk
    rw [List.flatten_cons, List.length_append]
    omega
  obtain ⟨p, off, rfl, hp, hc⟩ := h4 hne
  exact ⟨p, off, rfl, hp, qgj hs hp hl hc⟩
 ·obtain ⟨rfl, a1, a2, a3⟩ := tm (h6 i cs x hc hx)
  exact qdq a1 a2 a3
structure so (w : World) (B : Nat) (A : Option Addr) (us : Nat → Value) (rs : List RecD) : Prop where
 row : ∀ i (h : i < rs.length), ∃ b off, A = some ⟨b, off, none⟩ ∧ b < B ∧ ∀ j u, (ag rs[i].kind rs[i].seq rs[i].kh rs[i].kk rs[i].mh rs[i].ms (us i))[j]? = some u → w.cell? ⟨b, off + i * 69 + j, none⟩ = some u
 keys : ∀ i (h : i < rs.length), ∃ A2 c2, us i = .slice A2 rs[i].keys.length c2 ∧ SlR eKey w B (.slice A2 rs[i].keys.length c2) rs[i].keys
 hs : ∀ i (h : i < rs.length), Hs rs[i]
theorem qqw {w : World} {B : Nat} {A : Option Addr} {n c : Nat} {rs : List RecD} (h : SlR eRec w B (.slice A n c) rs) : ∃ us, so w B A us rs := by
 have hx : ∀ i, ∃ u : Value, ∀ h : i < rs.length, (∃ b off, A = some ⟨b, off, none⟩ ∧ b < B ∧ ∀ j x, (ag rs[i].kind rs[i].seq rs[i].kh rs[i].kk rs[i].mh rs[i].ms u)[j]? = some x → w.cell? ⟨b, off + i * 69 + j, none⟩ = some x) ∧
   (∃ A2 c2, u = .slice A2 rs[i].keys.length c2 ∧ SlR eKey w B (.slice A2 rs[i].keys.length c2) rs[i].keys) ∧ Hs rs[i] := fun i => by
  by_cases hi : i < rs.length
  ·obtain ⟨b, off, A2, c2, e, _, hb, hh, hk, hc⟩ := rec_at h hi
   exact ⟨_, fun _ => ⟨⟨b, off, e, hb, hc⟩, ⟨A2, c2, rfl, hk⟩, hh⟩⟩
  ·exact ⟨nilV, fun h => absurd h hi⟩
 exact ⟨fun i => (hx i).choose, fun i hi => ((hx i).choose_spec hi).1, fun i hi => ((hx i).choose_spec hi).2.1, fun i hi => ((hx i).choose_spec hi).2.2⟩
theorem ej {r : RecD} (h : Hs r) (u : Value) : (ag r.kind r.seq r.kh r.kk r.mh r.ms u).length = 69 := by rw [ah, h.1, h.2]
theorem so.stay {w w' : World} {B : Nat} {A : Option Addr} {us : Nat → Value} {rs : List RecD} (h : so w B A us rs) (hs : pq B w w') : so w' B A us rs := by
 refine ⟨fun i hi => ?_, fun i hi => ?_, h.hs⟩
 ·obtain ⟨b, off, e, hb, hc⟩ := h.row i hi
  exact ⟨b, off, e, hb, qgj hs hb (by rw [ej (h.hs i hi)]; omega) hc⟩
 ·obtain ⟨A2, c2, e, hk⟩ := h.keys i hi
  exact ⟨A2, c2, e, qig hs hk⟩
structure Shut (C g M : Nat) (w w' : World) : Prop where
 os : w'.os = w.os
 tape : w'.tape = w.tape
 output : w'.output = w.output
 size : w.heap.size ≤ w'.heap.size
 block : ∀ k, k < w.heap.size → k < M → w'.heap[k]? = w.heap[k]? ∨ (C ≤ k ∧ k < g ∧ qry w k)
 kept : ∀ (k : Nat) (cs : Array Value), w.heap[k]? = some (.cells cs 38 (0, 0)) → w'.heap[k]? = w.heap[k]?
theorem Shut.of_below {C g M : Nat} {w w' : World} (h : Below w.heap.size w w') : Shut C g M w w' := ⟨h.os, h.tape, h.output, h.size, fun k hk _ => .inl (h.block k hk), fun k _ hk => h.block k (gl hk)⟩
theorem Shut.below {C g M : Nat} {w w' : World} (h : Shut C g M w w') (hC : C ≤ M) (hw : M ≤ w.heap.size) : Below C w w' := ⟨h.os, h.tape, h.output, h.size, fun k hk => by
 rcases h.block k (by omega) (by omega) with e | ⟨h1, _⟩
 ·exact e
 ·omega⟩
theorem Shut.stays {C g M : Nat} {w w' : World} (h : Shut C g M w w') (hw : M ≤ w.heap.size) : pq M w w' := fun k hk => by
 rcases h.block k (by omega) hk with e | ⟨_, _, f⟩
 ·exact .inl e
 ·exact .inr f
theorem qmy {w w' : World} {g : Nat} {b : bj} (h : eh w g b) (ho : ∀ k, g ≤ k → k < g + 4 → w'.heap[k]? = w.heap[k]?) : eh w' g b := by
 obtain ⟨lm, lp, li, h⟩ := h
 exact ⟨lm, lp, li, (ho (g + 3) (by omega) (by omega)).trans h.row, h.live.of_block (ho g (by omega) (by omega)), h.pins.of_block (ho (g + 1) (by omega) (by omega)), h.ints.of_block (ho (g + 2) (by omega) (by omega)), h.lm_, h.lp_, h.li_⟩
theorem Shut.book {C g M : Nat} {w w' : World} {b : bj} (h : Shut C g M w w') (hb : eh w g b) (hM : g + 4 ≤ M) : eh w' g b := qmy hb fun k h1 h2 => by
 rcases h.block k (by have := hb.lt; omega) (by omega) with e | ⟨_, h3, _⟩
 ·exact e
 ·omega
end Go.Proofs.YtplbcbamnjnhlaaGreatDoor
