import Derived.Test.YtplbcbamnjnhlaaGreatDoorMG00
import Derived.Test.YtplbcbamnjnhlaaGreatDoorMG35
import Derived.Test.YtplbcbamnjnhlaaGreatDoorMG34
import Derived.Laws.EntriesVeiled
set_option maxRecDepth 100000
set_option maxHeartbeats 40000000
namespace Go.Proofs.YtplbcbamnjnhlaaGreatDoor
open Go.RowKit

abbrev qa8 (q : Nat) : Value := .func (.func 42) #[] #[.pointer (some ⟨q, 0, none⟩)]
def OfK (q : Nat) (rs : List RecD) (us : Nat → Value) (M i : Nat) (w : World) : Prop :=
 w.heap[q + 1]? = some (.cells #[qa8 q] 94 (0, 0)) ∧ ∃ v, EvM q M w v i (qed rs us i)
theorem of_step (q : Nat) (l : List UInt8) (hl : l.length ≤ 1000000000) : qix 44 [.pointer (some ⟨q + 1, 0, none⟩), .pointer (some ⟨q, 0, none⟩)] (q + 2) q (fun _ => true) (OfK q) l := by
 intro rs n0 us g M i A2 c2 w1 r b at_ hi hat hN hgM hMw hev hr hb hat_ hus hhs hbk hgd hK
 obtain ⟨hf, v, hE⟩ := hK
 have hrn : rs.length ≤ 1000000000 := Nat.le_trans (si hat.lines) hl
 have HHR := Lh (show ∀ r ∈ rs, Hs r from fun r hr => (hat.good r hr).2.1)
 have HE := Lh hE
 have HHS := Lh hhs
 have HQG := Lh (show q + 2 ≤ g from hN)
 have HF := Lh hf
 have HBK := Lh hbk
 have HGD := Lh hgd
 have HBE := Lh hb
 have HEV := Lh hev
 have HGM := Lh hgM
 have HMW := Lh hMw
 have HRN := Lh hrn
 have HRI := Lh (show rs.getD i dw = r ∧ i < rs.length from ⟨by rw [ra hi, hr], hi⟩)
 have HUS := Lh hus
 have HAT := Lh hat_
 clear hat hev hr hb hat_ hus hbk hgd hf hE hi hhs hN hgM hMw hrn
 show Calls _ _ #[.int .i64 at_, rv r (.slice A2 r.keys.length c2), bptr g, .pointer (some ⟨q + 1, 0, none⟩), .pointer (some ⟨q, 0, none⟩)] _ _
 show Calls _ _ _ _ (fun e w2 => e = .returned (.bool true) ∧ Shut q g M w1 w2 ∧ OfK q rs us M (i + 1) w2)
 obtain ⟨nk, hnk⟩ : ∃ nk, nk = r.keys.length := ⟨_, rfl⟩
 rw [← hnk] at HUS ⊢
 clear hnk
 go_enter Tryz.func44, Tryz.ntmps44
 go_wp2_with (refine ai (some 6) rfl ?_)
 refine Stop.go (bx rfl _ rfl rfl rfl ?_)
 have HB2 := Lh ((br _ _).alloc (nr _) (.cells (ag r.kind r.seq r.kh r.kk r.mh r.ms (.slice A2 nk c2)).toArray 38) : Below w1.heap.size w1 _)
 have HG2 := Lh (hzn w1 (.cells (ag r.kind r.seq r.kh r.kk r.mh r.ms (.slice A2 nk c2)).toArray 38))
 have HS2 := Lh (sz_ w1 (.cells (ag r.kind r.seq r.kh r.kk r.mh r.ms (.slice A2 nk c2)).toArray 38))
 generalize w1.alloc (.cells (ag r.kind r.seq r.kh r.kk r.mh r.ms (.slice A2 nk c2)).toArray 38) = w2 at *
 have HF2 := Lh ((HB2.o.block _ (gl HF.o)).trans HF.o)
 have HE2 := Lh (HE.o.below HB2.o)
 generalize ha : Act.put _ _ _ = z9; simp [Act.put] at ha; subst ha
 have cf := cell_of_one HF2.o
 go_wp2_with fail
 refine (qfv q g M i rs us b v w2 HHR.o HRN.o (Nat.le_of_lt HEV.o) HBE.o HGD.o (HBK.o.below HB2.o HBK.o.lt) HGM.o (by have := HQG.o; omega) (by have := HMW.o; have := HS2.o; omega) HE2.o).mono ?_
 rintro e w3 ⟨rfl, hE3, hb3, hp3⟩
 have HE3 := Lh hE3
 have HB3 := Lh hb3
 have HP3 := Lh hp3
 have HF3 := Lh ((hb3.block (q + 1) (by have := HQG.o; have := HGM.o; omega)).trans HF2.o)
 have HG3 := Lh ((hp3.block _ (gl HG2.o) (nq HE2.o.row HG2.o (by decide))).trans HG2.o)
 have HS3 := Lh (show w2.heap.size ≤ w3.heap.size from hp3.size)
 obtain ⟨A0, c0, hv0, hc0, hc1⟩ := ap hE3.row
 subst hv0
 have cq := cell_of_one hE3.cell
 clear hE3 hb3 hp3 cf
 have HIB := Lh (show i ≤ 1000000000 by have := HRI.o.2; have := HRN.o; omega)
 go_wp2_with (refine ai (some 14) rfl ?_)
 refine Stop.go (aa rfl 38 rfl rfl dm rfl (bi _ _ _ _ _ _ _ HHS.o.1 HHS.o.2) (au HG3.o) ?_)
 refine bj rfl 60 rfl (vs := #[(0, .int .i64 at_), (1, rv r (.slice A2 nk c2))]) rfl (build_ev at_ r A2 nk c2 _ HHS.o) ?_
 refine cb rfl 55 60 rfl rfl (vs := evc at_ r (.slice A2 nk c2) 0 0) evs_u (ev_info HHS.o) rfl (by rw [lg HHS.o]; omega) (by rw [lg HHS.o]; decide) ?_
 have hb4 : Below w3.heap.size w3 (w3.alloc (.cells (evc at_ r (.slice A2 nk c2) 0 0).toArray 60)) := (br _ _).alloc (nr _) _
 have HE4 := Lh (HE3.o.below hb4)
 have HG4 := Lh (hzn w3 (.cells (evc at_ r (.slice A2 nk c2) 0 0).toArray 60))
 have HB4 := Lh hb4
 generalize w3.alloc (.cells (evc at_ r (.slice A2 nk c2) 0 0).toArray 60) = w4 at *
 clear hb4
 have hbase : M ≤ w4.heap.size := by have := HMW.o; have := HS2.o; have := HS3.o; have := HB4.o.size; omega
 have hib := HIB.o
 refine az ev_app rfl rfl rfl rfl HE4.o.row (Rd.row (B := w4.heap.size) HG4.o (gl HG4.o)) (m := 1) (by rw [show (evc at_ r (.slice A2 nk c2) 0 0).toArray.toList = evc at_ r (.slice A2 nk c2) 0 0 from rfl, lg HHS.o]) qjy ?_ ?_ hbase ?_
 ·simp only [maxLen]; omega
 ·omega
 intro v5 w5 hown5 hg5 hor5 _
 have HO5 := Lh (show w5.ownsRow M 60 72 v5 (i + 1) (qed rs us (i + 1)) from by
  have := hown5
  show w5.ownsRow M 60 72 v5 (i + 1) (ln rs us i ++ evc (evAt rs i) (rs.getD i dw) (us i) 0 0)
  rw [HRI.o.1, HUS.o, ← HAT.o]
  exact this)
 have HQO := Lh (show (Value.slice A0 i c0).ownBlock ≠ some q from fun e => by
  have := (HE4.o.row.lt q e).1
  have := HQG.o
  have := HGM.o
  omega)
 have HQ5 := Lh ((hg5.block q (gl HE4.o.cell) (fun e => HQO.o e.symm)).trans HE4.o.cell)
 have HG5 := Lh hg5
 obtain ⟨A5, c5, hv5, _, _⟩ := ap hown5
 subst hv5
 clear hown5 hg5 hor5 cq hbase hib
 have cq5 := cell_of_one HQ5.o
 have fq5 := free_of_one HQ5.o
 generalize ha : Act.put _ _ _ = z9; simp [Act.put] at ha; subst ha
 go_wp2_with fail
 go_ret
 have hsh : Shut q g M w1 (w5.setCell ⟨q, 0, none⟩ (.slice A5 (i + 1) c5)) := by
  have hs5 := HG5.o.size
  have hown := HE4.o.row
  have key : ∀ k, k < w1.heap.size → k ≠ q → (Value.slice A0 i c0).ownBlock ≠ some k → (w5.setCell ⟨q, 0, none⟩ (.slice A5 (i + 1) c5)).heap[k]? = w1.heap[k]? := fun k hk hkq hko => by
   have h1 := HB2.o.size
   have h2 := HS3.o
   rw [Below.heap_setCell _ _ _ _ hkq, HG5.o.block k (by have := HB4.o.size; omega) (fun e => hko e.symm), HB4.o.block k (by omega), HP3.o.block k (by omega) hko, HB2.o.block k hk]
  refine ⟨?_, ?_, ?_, ?_, fun k hk hkM => ?_, fun k cs hk => ?_⟩
  ·exact HG5.o.os.trans (HB4.o.os.trans (HB3.o.os.trans HB2.o.os))
  ·exact HG5.o.tape.trans (HB4.o.tape.trans (HB3.o.tape.trans HB2.o.tape))
  ·exact HG5.o.output.trans (HB4.o.output.trans (HB3.o.output.trans HB2.o.output))
  ·have := HB2.o.size
   have := HS3.o
   have := HB4.o.size
   simp only [World.setCell, Array.size_modify]
   omega
  ·by_cases h : k = q
   ·subst h
    exact .inr ⟨nr _, by have := HQG.o; omega, um HE.o.cell (by simp)⟩
   ·exact .inl (key k hk h (fun e => by have := (hown.lt k e).1; omega))
  ·have hlt := (gl hk)
   refine key k hlt (fun e => ?_) (nq HE2.o.row ((HB2.o.block k hlt).trans hk) (by decide))
   have h3 := HE.o.cell
   rw [← e, hk] at h3
   injection h3 with h3
   injection h3 with _ h4
   exact absurd h4 (by decide)
 refine ⟨rfl, hsh, ?_, _, one_setCell HQ5.o, ?_⟩
 ·rw [Below.heap_setCell _ _ _ _ (by simp), HG5.o.block (q + 1) (by have := (gl HF3.o); have := HB4.o.size; omega) (fun e => by have := (HE4.o.row.lt (q + 1) e.symm).1; have := HQG.o; have := HGM.o; omega), HB4.o.block _ (gl HF3.o)]
  exact HF3.o
 ·exact ownsRow_setCell_other HO5.o (fun e => by have := (HO5.o.lt q e).1; have := HQG.o; have := HGM.o; omega) _
theorem qhr {w w' : World} {g M : Nat} {e : TypeId} {size n : Nat} {v : Value} {xs : List Value} (h : w.ownsRow M e size v n xs) (hb : fu g w w') (hM : g + 4 ≤ M) : w'.ownsRow M e size v n xs := by
 refine ⟨h.1, ?_⟩
 rcases h.2 with h' | ⟨p, cap, cur, rfl, hp, hh, r⟩
 ·exact .inl h'
 ·exact .inr ⟨p, cap, cur, rfl, hp, (hb.block p (gl hh) (.inr (by omega))).trans hh, r⟩
def OfTo (l : List UInt8) (w : World) (e : Ending) (w' : World) : Prop :=
 ∃ rs n0 us A M v, js l rs n0 ∧ e = .returned (.tuple #[v, .int .i64 (evAt rs (nEv ay rs) : Nat)]) ∧ w'.ownsRow M 60 72 v (nEv ay rs) (ln rs us (nEv ay rs)) ∧ sj w' M A us rs ∧ w.heap.size ≤ M ∧ M ≤ w'.heap.size ∧ Below w.heap.size w w'
theorem of_any (l : List UInt8) (A : Option Addr) (c B : Nat) (w : World) (hr : Rd w B A (ak l)) (hB : B ≤ w.heap.size) (hl : l.length ≤ 1000000000) (hc : l.length ≤ c) :
  Calls Tryz.prog 20 #[.slice A l.length c] w (OfTo l w) := by
 have HR := Lh hr
 have HBW := Lh hB
 clear hr hB
 have hmf : ∀ (fn : Fn) (first cap : Array Value) (w : World), (Instr.makeFunc fn first cap).run Tryz.prog w = .ok (.func fn first cap) w := fun _ _ _ _ => rfl
 go_enter Tryz.func20, Tryz.ntmps20
 have hb1 : Below w.heap.size w (w.alloc (.cells #[nilV] 55)) := (br _ _).alloc (nr _) _
 have hq1 := hzn w (.cells #[nilV] 55)
 have hs1 := sz_ w (.cells #[nilV] 55)
 have HX := Lh (show Below w.heap.size w ((w.alloc (.cells #[nilV] 55)).alloc (.cells #[qa8 w.heap.size] 94)) ∧ ((w.alloc (.cells #[nilV] 55)).alloc (.cells #[qa8 w.heap.size] 94)).heap[w.heap.size]? = some (.cells #[nilV] 55 (0, 0)) ∧
   ((w.alloc (.cells #[nilV] 55)).alloc (.cells #[qa8 w.heap.size] 94)).heap[w.heap.size + 1]? = some (.cells #[qa8 w.heap.size] 94 (0, 0)) ∧ ((w.alloc (.cells #[nilV] 55)).alloc (.cells #[qa8 w.heap.size] 94)).heap.size = w.heap.size + 2 from
  ⟨hb1.alloc (by omega) _, by rw [← hq1]; exact Below.heap_alloc _ _ _ (by omega), heap_two _ _ _, by rw [sz_, hs1]⟩)
 clear hb1 hq1 hs1
 go_wp2_with fail
 generalize (w.alloc (.cells #[nilV] 55)).alloc (.cells #[qa8 w.heap.size] 94) = w2 at *
 obtain ⟨q, hq⟩ : ∃ q, q = w.heap.size := ⟨_, rfl⟩
 rw [← hq] at HX ⊢
 have HQ := Lh hq
 clear hq
 have hb2 := HX.o.1
 have hs2 := HX.o.2.2.2
 refine (qaf l A c B w2 (HR.o.below (hb2.mono (by rw [HQ.o]; exact HBW.o))) (by have := HBW.o; have := HQ.o; omega) (by omega) hc q (by omega) (fun _ => true) (OfK q) 44 [.pointer (some ⟨q + 1, 0, none⟩), .pointer (some ⟨q, 0, none⟩)] (fun _ _ => by kernel_rfl) ?k0 ?kb (by rw [hs2]; exact of_step q l hl)).mono ?_
 case k0 =>
  intro rs us M w' hb _
  exact ⟨(hb.block _ (by omega)).trans HX.o.2.2.1, nilV, (hb.block _ (by omega)).trans HX.o.2.1, World.ownsRow_nil _ _ _ _⟩
 case kb =>
  intro rs us g M i w1' w3 hN hgM hMw hk hbs
  obtain ⟨h1, v, h2, h3⟩ := hk
  exact ⟨(hbs.block _ (gl h1) (.inl (by omega))).trans h1, v, (hbs.block _ (gl h2) (.inl (by omega))).trans h2, qhr h3 hbs hgM⟩
 clear hb2 hs2
 rintro e w3 ⟨rs, n0, us, A2, g, M, i, hat, hi, hor, hall, rfl, hbk, hk, hra, hN, hgM, hMw, hb⟩
 have hin : i = nEv ay rs := by
  rcases hor with h | h
  ·exact h
  ·cases h
 subst hin
 obtain ⟨hf, v, hE⟩ := hk
 have hrn : rs.length ≤ 1000000000 := Nat.le_trans (si hat.lines) hl
 have HAT := Lh hat
 have HBK := Lh hbk
 have HRA := Lh hra
 have HE := Lh hE
 have HF := Lh hf
 have HB := Lh (show Below q w w3 from HX.o.1.trans hb)
 have HSZ := Lh (show q + 2 ≤ g ∧ g + 4 ≤ M ∧ M ≤ w3.heap.size from ⟨by rw [HX.o.2.2.2] at hN; exact hN, hgM, hMw⟩)
 have HRN := Lh hrn
 have HHR := Lh (show ∀ r ∈ rs, Hs r from fun r hr => (hat.good r hr).2.1)
 obtain ⟨A0, c0, hv0, hc0, hc1⟩ := ap hE.row
 subst hv0
 have cf := cell_of_one hf
 clear hat hi hor hall hbk hra hE hf hb hN hgM hMw hrn HX
 obtain ⟨at_, hat_⟩ : ∃ at_, at_ = evAt rs (nEv ay rs) := ⟨_, rfl⟩
 rw [← hat_]
 have HTE := Lh hat_
 clear hat_
 go_wp2_with fail
 refine (qfv q g M (nEv ay rs) rs us (bkAt ay rs (nEv ay rs)) (.slice A0 (nEv ay rs) c0) w3 HHR.o HRN.o (nr _) rfl (rg HHR.o _ (nr _)) HBK.o HSZ.o.2.1 (by have := HSZ.o; omega) HSZ.o.2.2 HE.o).mono ?_
 rintro e w4 ⟨rfl, hE4, hb4, hp4⟩
 have cq := cell_of_one hE4.cell
 have HP := Lh (show OfTo l w (.returned (.tuple #[.slice A0 (nEv ay rs) c0, .int .i64 at_])) w4 from
  ⟨rs, n0, us, A2, M, _, HAT.o, by rw [HTE.o], hE4.row, HRA.o.stay (pt.of_below hb4 (nr _)), by have := HSZ.o; have := HQ.o; omega, by have := HSZ.o; have := hp4.size; omega, by rw [← HQ.o]; exact HB.o.trans (hb4.mono (by have := HSZ.o; omega))⟩)
 clear hE4 hb4 hp4 cf
 go_wp2_with fail
 go_ret2
 exact HP.o
end Go.Proofs.YtplbcbamnjnhlaaGreatDoor
