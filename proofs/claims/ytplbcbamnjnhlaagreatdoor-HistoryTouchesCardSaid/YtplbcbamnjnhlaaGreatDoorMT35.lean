/- Texts of this proof joined: Hist6, Ref32b, RefLoad. -/
import Derived.Test.YtplbcbamnjnhlaaGreatDoorMT00
import Derived.Test.YtplbcbamnjnhlaaGreatDoorMT34
import Derived.Laws.EntriesVeiled
import Derived.Test.YtplbcbamnjnhlaaGreatDoorMT24
import Derived.Test.YtplbcbamnjnhlaaGreatDoorMT14
import Derived.Deep.RegionLaw
import Derived.Test.YtplbcbamnjnhlaaGreatDoorMT19
set_option maxRecDepth 100000
set_option maxHeartbeats 40000000
namespace Go.Proofs.YtplbcbamnjnhlaaGreatDoor
open Go.RowKit

abbrev qfd (q : Nat) : Value := .func (.func 42) #[] #[.pointer (some ⟨q, 0, none⟩)]
def OfK (q : Nat) (rs : List RecD) (us : Nat → Value) (M i : Nat) (w : World) : Prop :=
 w.heap[q + 1]? = some (.cells #[qfd q] 94 (0, 0)) ∧ ∃ v, EvM q M w v i (qjm rs us i)
theorem of_step (q : Nat) (l : List UInt8) (hl : l.length ≤ 1000000000) : qqd 44 [.pointer (some ⟨q + 1, 0, none⟩), .pointer (some ⟨q, 0, none⟩)] (q + 2) q (fun _ => true) (OfK q) l := by
 intro rs n0 us g M i A2 c2 w1 r b at_ hi hat hN hgM hMw hev hr hb hat_ hus hhs hbk hgd hK
 obtain ⟨hf, v, hE⟩ := hK
 have hrn : rs.length ≤ 1000000000 := Nat.le_trans (uy hat.lines) hl
 have HHR := Lh (show ∀ r ∈ rs, Hs r from fun r hr => (hat.good r hr).2.1)
 have HE := Lh hE
 have HHS := Lh hhs
 have HQG := Lh (show q + 2 ≤ g from hN)
 have HF := Lh hf
 have HBK := Lh hbk
 have HGD := Lh hgd
 have HBE := Lh hb
 have HEV := Lh hev
 have HGM := Lh hgM
 have HMW := Lh hMw
 have HRN := Lh hrn
 have HRI := Lh (show rs.getD i dq = r ∧ i < rs.length from ⟨by rw [rg hi, hr], hi⟩)
 have HUS := Lh hus
 have HAT := Lh hat_
 clear hat hev hr hb hat_ hus hbk hgd hf hE hi hhs hN hgM hMw hrn
 show Calls _ _ #[.int .i64 at_, rv r (.slice A2 r.keys.length c2), bptr g, .pointer (some ⟨q + 1, 0, none⟩), .pointer (some ⟨q, 0, none⟩)] _ _
 show Calls _ _ _ _ (fun e w2 => e = .returned (.bool true) ∧ Shut q g M w1 w2 ∧ OfK q rs us M (i + 1) w2)
 obtain ⟨nk, hnk⟩ : ∃ nk, nk = r.keys.length := ⟨_, rfl⟩
 rw [← hnk] at HUS ⊢
 clear hnk
 go_enter Tryz.func44, Tryz.ntmps44
 go_wp2_with (refine ai (some 6) rfl ?_)
 refine Stop.go (bn rfl _ rfl rfl rfl ?_)
 have HB2 := Lh ((br _ _).alloc (nr _) (.cells (ag r.kind r.seq r.kh r.kk r.mh r.ms (.slice A2 nk c2)).toArray 38) : Below w1.heap.size w1 _)
 have HG2 := Lh (hzn w1 (.cells (ag r.kind r.seq r.kh r.kk r.mh r.ms (.slice A2 nk c2)).toArray 38))
 have HS2 := Lh (sz_ w1 (.cells (ag r.kind r.seq r.kh r.kk r.mh r.ms (.slice A2 nk c2)).toArray 38))
 generalize w1.alloc (.cells (ag r.kind r.seq r.kh r.kk r.mh r.ms (.slice A2 nk c2)).toArray 38) = w2 at *
 have HF2 := Lh ((HB2.o.block _ (gl HF.o)).trans HF.o)
 have HE2 := Lh (HE.o.below HB2.o)
 generalize ha : Act.put _ _ _ = z9; simp [Act.put] at ha; subst ha
 have cf := cell_of_one HF2.o
 go_wp2_with fail
 refine (qls q g M i rs us b v w2 HHR.o HRN.o (Nat.le_of_lt HEV.o) HBE.o HGD.o (HBK.o.below HB2.o HBK.o.lt) HGM.o (by have := HQG.o; omega) (by have := HMW.o; have := HS2.o; omega) HE2.o).mono ?_
 rintro e w3 ⟨rfl, hE3, hb3, hp3⟩
 have HE3 := Lh hE3
 have HB3 := Lh hb3
 have HP3 := Lh hp3
 have HF3 := Lh ((hb3.block (q + 1) (by have := HQG.o; have := HGM.o; omega)).trans HF2.o)
 have HG3 := Lh ((hp3.block _ (gl HG2.o) (pb HE2.o.row HG2.o (by decide))).trans HG2.o)
 have HS3 := Lh (show w2.heap.size ≤ w3.heap.size from hp3.size)
 obtain ⟨A0, c0, hv0, hc0, hc1⟩ := ap hE3.row
 subst hv0
 have cq := cell_of_one hE3.cell
 clear hE3 hb3 hp3 cf
 have HIB := Lh (show i ≤ 1000000000 by have := HRI.o.2; have := HRN.o; omega)
 go_wp2_with (refine ai (some 14) rfl ?_)
 refine Stop.go (aa rfl 38 rfl rfl dr rfl (bk _ _ _ _ _ _ _ HHS.o.1 HHS.o.2) (aq HG3.o) ?_)
 refine bl rfl 60 rfl (vs := #[(0, .int .i64 at_), (1, rv r (.slice A2 nk c2))]) rfl (build_ev at_ r A2 nk c2 _ HHS.o) ?_
 refine cd rfl 55 60 rfl rfl (vs := evc at_ r (.slice A2 nk c2) 0 0) qrp (ev_info HHS.o) rfl (by rw [km HHS.o]; omega) (by rw [km HHS.o]; decide) ?_
 have hb4 : Below w3.heap.size w3 (w3.alloc (.cells (evc at_ r (.slice A2 nk c2) 0 0).toArray 60)) := (br _ _).alloc (nr _) _
 have HE4 := Lh (HE3.o.below hb4)
 have HG4 := Lh (hzn w3 (.cells (evc at_ r (.slice A2 nk c2) 0 0).toArray 60))
 have HB4 := Lh hb4
 generalize w3.alloc (.cells (evc at_ r (.slice A2 nk c2) 0 0).toArray 60) = w4 at *
 clear hb4
 have hbase : M ≤ w4.heap.size := by have := HMW.o; have := HS2.o; have := HS3.o; have := HB4.o.size; omega
 have hib := HIB.o
 refine ay ev_app rfl rfl rfl rfl HE4.o.row (Rd.row (B := w4.heap.size) HG4.o (gl HG4.o)) (m := 1) (by rw [show (evc at_ r (.slice A2 nk c2) 0 0).toArray.toList = evc at_ r (.slice A2 nk c2) 0 0 from rfl, km HHS.o]) qdp ?_ ?_ hbase ?_
 ·simp only [maxLen]; omega
 ·omega
 intro v5 w5 hown5 hg5 hor5 _
 have HO5 := Lh (show w5.ownsRow M 60 72 v5 (i + 1) (qjm rs us (i + 1)) from by
  have := hown5
  show w5.ownsRow M 60 72 v5 (i + 1) (me rs us i ++ evc (evAt rs i) (rs.getD i dq) (us i) 0 0)
  rw [HRI.o.1, HUS.o, ← HAT.o]
  exact this)
 have HQO := Lh (show (Value.slice A0 i c0).ownBlock ≠ some q from fun e => by
  have := (HE4.o.row.lt q e).1
  have := HQG.o
  have := HGM.o
  omega)
 have HQ5 := Lh ((hg5.block q (gl HE4.o.cell) (fun e => HQO.o e.symm)).trans HE4.o.cell)
 have HG5 := Lh hg5
 obtain ⟨A5, c5, hv5, _, _⟩ := ap hown5
 subst hv5
 clear hown5 hg5 hor5 cq hbase hib
 have cq5 := cell_of_one HQ5.o
 have fq5 := free_of_one HQ5.o
 generalize ha : Act.put _ _ _ = z9; simp [Act.put] at ha; subst ha
 go_wp2_with fail
 go_ret
 have hsh : Shut q g M w1 (w5.setCell ⟨q, 0, none⟩ (.slice A5 (i + 1) c5)) := by
  have hs5 := HG5.o.size
  have hown := HE4.o.row
  have key : ∀ k, k < w1.heap.size → k ≠ q → (Value.slice A0 i c0).ownBlock ≠ some k → (w5.setCell ⟨q, 0, none⟩ (.slice A5 (i + 1) c5)).heap[k]? = w1.heap[k]? := fun k hk hkq hko => by
   have h1 := HB2.o.size
   have h2 := HS3.o
   rw [Below.heap_setCell _ _ _ _ hkq, HG5.o.block k (by have := HB4.o.size; omega) (fun e => hko e.symm), HB4.o.block k (by omega), HP3.o.block k (by omega) hko, HB2.o.block k hk]
  refine ⟨?_, ?_, ?_, ?_, fun k hk hkM => ?_, fun k cs hk => ?_⟩
  ·exact HG5.o.os.trans (HB4.o.os.trans (HB3.o.os.trans HB2.o.os))
  ·exact HG5.o.tape.trans (HB4.o.tape.trans (HB3.o.tape.trans HB2.o.tape))
  ·exact HG5.o.output.trans (HB4.o.output.trans (HB3.o.output.trans HB2.o.output))
  ·have := HB2.o.size
   have := HS3.o
   have := HB4.o.size
   simp only [World.setCell, Array.size_modify]
   omega
  ·by_cases h : k = q
   ·subst h
    exact .inr ⟨nr _, by have := HQG.o; omega, xu HE.o.cell (by simp)⟩
   ·exact .inl (key k hk h (fun e => by have := (hown.lt k e).1; omega))
  ·have hlt := (gl hk)
   refine key k hlt (fun e => ?_) (pb HE2.o.row ((HB2.o.block k hlt).trans hk) (by decide))
   have h3 := HE.o.cell
   rw [← e, hk] at h3
   injection h3 with h3
   injection h3 with _ h4
   exact absurd h4 (by decide)
 refine ⟨rfl, hsh, ?_, _, one_setCell HQ5.o, ?_⟩
 ·rw [Below.heap_setCell _ _ _ _ (by simp), HG5.o.block (q + 1) (by have := (gl HF3.o); have := HB4.o.size; omega) (fun e => by have := (HE4.o.row.lt (q + 1) e.symm).1; have := HQG.o; have := HGM.o; omega), HB4.o.block _ (gl HF3.o)]
  exact HF3.o
 ·exact ownsRow_setCell_other HO5.o (fun e => by have := (HO5.o.lt q e).1; have := HQG.o; have := HGM.o; omega) _
theorem qon {w w' : World} {g M : Nat} {e : TypeId} {size n : Nat} {v : Value} {xs : List Value} (h : w.ownsRow M e size v n xs) (hb : fp g w w') (hM : g + 4 ≤ M) : w'.ownsRow M e size v n xs := by
 refine ⟨h.1, ?_⟩
 rcases h.2 with h' | ⟨p, cap, cur, rfl, hp, hh, r⟩
 ·exact .inl h'
 ·exact .inr ⟨p, cap, cur, rfl, hp, (hb.block p (gl hh) (.inr (by omega))).trans hh, r⟩
def OfTo (l : List UInt8) (w : World) (e : Ending) (w' : World) : Prop :=
 ∃ rs n0 us A M v, jq l rs n0 ∧ e = .returned (.tuple #[v, .int .i64 (evAt rs (nEv az rs) : Nat)]) ∧ w'.ownsRow M 60 72 v (nEv az rs) (me rs us (nEv az rs)) ∧ so w' M A us rs ∧ w.heap.size ≤ M ∧ M ≤ w'.heap.size ∧ Below w.heap.size w w'
theorem of_any (l : List UInt8) (A : Option Addr) (c B : Nat) (w : World) (hr : Rd w B A (ak l)) (hB : B ≤ w.heap.size) (hl : l.length ≤ 1000000000) (hc : l.length ≤ c) :
  Calls Tryz.prog 20 #[.slice A l.length c] w (OfTo l w) := by
 have HR := Lh hr
 have HBW := Lh hB
 clear hr hB
 have hmf : ∀ (fn : Fn) (first cap : Array Value) (w : World), (Instr.makeFunc fn first cap).run Tryz.prog w = .ok (.func fn first cap) w := fun _ _ _ _ => rfl
 go_enter Tryz.func20, Tryz.ntmps20
 have hb1 : Below w.heap.size w (w.alloc (.cells #[nilV] 55)) := (br _ _).alloc (nr _) _
 have hq1 := hzn w (.cells #[nilV] 55)
 have hs1 := sz_ w (.cells #[nilV] 55)
 have HX := Lh (show Below w.heap.size w ((w.alloc (.cells #[nilV] 55)).alloc (.cells #[qfd w.heap.size] 94)) ∧ ((w.alloc (.cells #[nilV] 55)).alloc (.cells #[qfd w.heap.size] 94)).heap[w.heap.size]? = some (.cells #[nilV] 55 (0, 0)) ∧
   ((w.alloc (.cells #[nilV] 55)).alloc (.cells #[qfd w.heap.size] 94)).heap[w.heap.size + 1]? = some (.cells #[qfd w.heap.size] 94 (0, 0)) ∧ ((w.alloc (.cells #[nilV] 55)).alloc (.cells #[qfd w.heap.size] 94)).heap.size = w.heap.size + 2 from
  ⟨hb1.alloc (by omega) _, by rw [← hq1]; exact Below.heap_alloc _ _ _ (by omega), heap_two _ _ _, by rw [sz_, hs1]⟩)
 clear hb1 hq1 hs1
 go_wp2_with fail
 generalize (w.alloc (.cells #[nilV] 55)).alloc (.cells #[qfd w.heap.size] 94) = w2 at *
 obtain ⟨q, hq⟩ : ∃ q, q = w.heap.size := ⟨_, rfl⟩
 rw [← hq] at HX ⊢
 have HQ := Lh hq
 clear hq
 have hb2 := HX.o.1
 have hs2 := HX.o.2.2.2
 refine (qdz l A c B w2 (HR.o.below (hb2.mono (by rw [HQ.o]; exact HBW.o))) (by have := HBW.o; have := HQ.o; omega) (by omega) hc q (by omega) (fun _ => true) (OfK q) 44 [.pointer (some ⟨q + 1, 0, none⟩), .pointer (some ⟨q, 0, none⟩)] (fun _ _ => by kernel_rfl) ?k0 ?kb (by rw [hs2]; exact of_step q l hl)).mono ?_
 case k0 =>
  intro rs us M w' hb _
  exact ⟨(hb.block _ (by omega)).trans HX.o.2.2.1, nilV, (hb.block _ (by omega)).trans HX.o.2.1, World.ownsRow_nil _ _ _ _⟩
 case kb =>
  intro rs us g M i w1' w3 hN hgM hMw hk hbs
  obtain ⟨h1, v, h2, h3⟩ := hk
  exact ⟨(hbs.block _ (gl h1) (.inl (by omega))).trans h1, v, (hbs.block _ (gl h2) (.inl (by omega))).trans h2, qon h3 hbs hgM⟩
 clear hb2 hs2
 rintro e w3 ⟨rs, n0, us, A2, g, M, i, hat, hi, hor, hall, rfl, hbk, hk, hra, hN, hgM, hMw, hb⟩
 have hin : i = nEv az rs := by
  rcases hor with h | h
  ·exact h
  ·cases h
 subst hin
 obtain ⟨hf, v, hE⟩ := hk
 have hrn : rs.length ≤ 1000000000 := Nat.le_trans (uy hat.lines) hl
 have HAT := Lh hat
 have HBK := Lh hbk
 have HRA := Lh hra
 have HE := Lh hE
 have HF := Lh hf
 have HB := Lh (show Below q w w3 from HX.o.1.trans hb)
 have HSZ := Lh (show q + 2 ≤ g ∧ g + 4 ≤ M ∧ M ≤ w3.heap.size from ⟨by rw [HX.o.2.2.2] at hN; exact hN, hgM, hMw⟩)
 have HRN := Lh hrn
 have HHR := Lh (show ∀ r ∈ rs, Hs r from fun r hr => (hat.good r hr).2.1)
 obtain ⟨A0, c0, hv0, hc0, hc1⟩ := ap hE.row
 subst hv0
 have cf := cell_of_one hf
 clear hat hi hor hall hbk hra hE hf hb hN hgM hMw hrn HX
 obtain ⟨at_, hat_⟩ : ∃ at_, at_ = evAt rs (nEv az rs) := ⟨_, rfl⟩
 rw [← hat_]
 have HTE := Lh hat_
 clear hat_
 go_wp2_with fail
 refine (qls q g M (nEv az rs) rs us (bkAt az rs (nEv az rs)) (.slice A0 (nEv az rs) c0) w3 HHR.o HRN.o (nr _) rfl (tq HHR.o _ (nr _)) HBK.o HSZ.o.2.1 (by have := HSZ.o; omega) HSZ.o.2.2 HE.o).mono ?_
 rintro e w4 ⟨rfl, hE4, hb4, hp4⟩
 have cq := cell_of_one hE4.cell
 have HP := Lh (show OfTo l w (.returned (.tuple #[.slice A0 (nEv az rs) c0, .int .i64 at_])) w4 from
  ⟨rs, n0, us, A2, M, _, HAT.o, by rw [HTE.o], hE4.row, HRA.o.stay (pq.of_below hb4 (nr _)), by have := HSZ.o; have := HQ.o; omega, by have := HSZ.o; have := hp4.size; omega, by rw [← HQ.o]; exact HB.o.trans (hb4.mono (by have := HSZ.o; omega))⟩)
 clear hE4 hb4 hp4 cf
 go_wp2_with fail
 go_ret2
 exact HP.o

theorem qee {P : Program} {ops : Array Oper} {o : Oper} {a : Act} {w : World} {K : Act → World → Prop} {Q : Exit → Act → World → Prop} {E : Prop} {s x : Operand} {t e : TypeId} {size bytes : Nat} {z : Value} (T : pr P t e size bytes z)
  (hg : o.guard = none) (ho : o.op = .call { callee := .builtin .append, args := #[s, x], argTypes := #[t, t] })
  {v : Value} {A : Option Addr} {m c : Nat} (hs : a.eval s = v) (hx : a.eval x = .slice A m c)
  {base : Nat} {n : Nat} {xs : List Value} (hown : w.ownsRow base e size v n xs)
  {B : Nat} {news : List Value} (hr : Rd w B A news) (hl : news.length = m * size) (h1 : ∀ u ∈ news, u.oneCell' = true)
  (h63 : n + m ≤ maxLen) (hbytes : (n + m) * bytes ≤ 140737488355328) (hbase : base ≤ w.heap.size)
  (h : ∀ v' w', w'.ownsRow base e size v' (n + m) (xs ++ news) → w.grownBy w' v.ownBlock → (v'.ownBlock = v.ownBlock ∨ v'.ownBlock = some w.heap.size) → (v' = .slice none 0 0 ↔ v = .slice none 0 0 ∧ m = 0) → K (a.put o.dst v') w') :
  if Region.wanted o (yielded ops a.tmps) = true then Oper.wp P o a w K Q else E := by
 rw [if_pos (by simp [Region.wanted, hg])]
 exact wp_app T ho hs hx hown hr hl h1 h63 hbytes hbase h
theorem td (h : List UInt8) (k : Int) (w : World) (hh : h.length = 32) (hk : kOk k = true) :
  Calls Tryz.prog 102 #[hkv h k] w fun e w' => ∃ v, e = .returned v ∧ w'.ownsRow w.heap.size 5 1 v 33 (ak (keyB (h, k))) ∧ Below w.heap.size w w' := by
 have hkk : 1 ≤ k ∧ k ≤ 4 := by unfold kOk at hk; simpa using hk
 obtain ⟨x, rfl⟩ : ∃ x : Nat, k = x := ⟨k.toNat, by omega⟩
 have HH := Lh hh
 have HB1 := Lh ((br _ _).alloc (nr _) (.cells (af h x).toArray 34) : Below w.heap.size w _)
 have HG1 := Lh (hzn w (.cells (af h x).toArray 34))
 have HS1 := Lh (show (w.alloc (.cells (af h x).toArray 34)).heap.size = w.heap.size + 1 from Array.size_push _)
 clear hh hk
 go_enter Tryz.func102, Tryz.ntmps102
 go_wp2_with (refine ai (some 1) rfl ?_)
 refine Stop.go (bn rfl _ rfl rfl (dl h x) ?_)
 generalize w.alloc (.cells (af h x).toArray 34) = w1 at *
 go_wp2_with fail
 have HC := Lh (show ∀ w', Below w1.heap.size w1 w' → w'.cell? ⟨w.heap.size, 32, none⟩ = some (.int .i64 x) ∧ Rd w' w'.heap.size (some ⟨w.heap.size, 0, none⟩) (ak h) from fun w' hb => by
  have hg := (hb.block _ (gl HG1.o)).trans HG1.o
  refine ⟨?_, ?_⟩
  ·rw [cell_of_row _ _ _ _ _ _ hg, ← Array.getElem?_toList]
   exact gb h x HH.o
  ·have := Rd.row (B := w'.heap.size) hg (Nat.lt_of_lt_of_le (by rw [HS1.o]; omega) hb.size)
   exact qdm (k := (x : Int)) (by simpa using this))
 have c32 := (HC.o w1 (br _ _)).1
 obtain ⟨hk1, hk4⟩ := hkk
 have HE := Lh (show ∀ (w' : World) (g : Nat), w'.heap[g]? = some (.cells #[] 5 (0, 0)) → w1.heap.size ≤ g → w'.ownsRow w1.heap.size 5 1 (.slice (some ⟨g, 0, none⟩) 0 0) 0 [] from fun w' g hg hb =>
  ⟨rfl, .inr ⟨g, 0, #[], rfl, hb, hg, nr _, by simp [maxLen], rfl, rfl⟩⟩)
 have HA := Lh (show ∀ o, Below w1.heap.size w1 (w1.drew.alloc o) from fun o => (br _ _).drew.alloc (nr _) o)
 have HAA := Lh (show ∀ o o', Below w1.heap.size w1 ((w1.drew.alloc o).alloc o') from fun o o' => ((br _ _).drew.alloc (nr _) o).alloc (by show _ ≤ (Array.push _ _).size; rw [Array.size_push]; exact Nat.le_succ _) o')
 have HS2 := Lh (show ∀ o, (w1.drew.alloc o).heap.size = w1.heap.size + 1 from fun o => Array.size_push _)
 have HWR := Lh (show ak (keyB (h, (x : Int))) = ([] ++ ak h) ++ [.int .u8 (IntKind.u8.wrap (x : Int))] by
  unfold keyB
  rw [bt, IntKind.wrap_u8, Int.emod_eq_of_lt (by omega) (by omega)]
  simp [ak, ic, Nat.mod_eq_of_lt (show x < 256 by omega)])
 have HS3 := Lh (show ∀ o o', ((w1.drew.alloc o).alloc o').heap.size = w1.heap.size + 2 from fun o o' => by show (Array.push (Array.push _ _) _).size = _; rw [Array.size_push, Array.size_push]; rfl)
 have HNE := Lh (show w.heap.size < w1.heap.size by rw [HS1.o]; omega)
 have HGB := Lh (show ∀ (W w6 : World) (g : Nat), Below w1.heap.size w1 W → W.grownBy w6 (some g) → w1.heap.size ≤ g → Below w1.heap.size w1 w6 from fun W w6 g hb hg hge => hb.grown hg hb.size (fun k hk => by injection hk with hk; omega))
 have HRB := Lh (show ∀ (W w6 : World) (g q : Nat), W.heap[q]? = some (.cells #[.int .u8 (IntKind.u8.wrap (x : Int))] 5 (0, 0)) → W.grownBy w6 (some g) → q ≠ g → Rd w6 w6.heap.size (some ⟨q, 0, none⟩) [.int .u8 (IntKind.u8.wrap (x : Int))] from fun W w6 g q hq hg hne =>
  Rd.row (cs := #[.int .u8 (IntKind.u8.wrap (x : Int))]) ((hg.block q (gl hq) (by intro he; injection he with he; exact hne he)).trans hq) (Nat.lt_of_lt_of_le (gl hq) hg.size))
 have c32a : (w1.alloc (.cells #[] 5)).cell? ⟨w.heap.size, 32, none⟩ = some (.int .i64 x) := (HC.o _ ((br _ _).alloc (nr _) _)).1
 go_region_law (first
  |(refine qee (base := w1.heap.size) (xs := []) (news := ak h) (m := 32) im rfl rfl rfl rfl (by first | exact HE.o _ _ (hzn _ _) (nr _) | exact HE.o _ _ (Go.heap_alloc2_old _ _ _) (nr _) | exact HE.o _ _ (Go.heap_alloc2_new _ _ _) (Nat.le_succ _)) (by first | exact (HC.o _ (HA.o _)).2 | exact (HC.o _ (HAA.o _ _)).2) (by rw [am, HH.o]) (ef _) (by simp [maxLen]) (by decide) (by first | exact (HA.o _).size | exact (HAA.o _ _).size) ?_; intro v6 w6 hown6 hg6 _ _;
    have hb6 : Below w1.heap.size w1 w6 := (by first | exact HGB.o _ _ _ (HA.o _) hg6 (nr _) | exact HGB.o _ _ _ (HAA.o _ _) hg6 (nr _) | exact HGB.o _ _ _ (HAA.o _ _) hg6 (Nat.le_succ _));
    have c32b := (HC.o w6 hb6).1)
  |(refine qee (base := w1.heap.size) (xs := [] ++ ak h) (n := 0 + 32) (m := 1) (news := [.int .u8 (IntKind.u8.wrap (x : Int))]) im rfl rfl rfl rfl (by first | exact hown6 | exact hown6.alloc _) (by first | exact Rd.row (B := w6.heap.size + 1) (hzn w6 _) (Nat.lt_succ_self _) | exact HRB.o _ w6 (w1.heap.size + 1) w1.heap.size (by exact Go.heap_alloc2_old _ _ _) hg6 (by omega) | exact HRB.o _ w6 w1.heap.size (w1.heap.size + 1) (by exact Go.heap_alloc2_new _ _ _) hg6 (by omega)) rfl (by simp [Value.oneCell']) (by simp [maxLen]) (by decide) (by first | exact hb6.size | exact Nat.le_trans hb6.size (Nat.le_of_lt (by rw [sz_]; exact Nat.lt_succ_self _))) ?_; intro v8 w8 hown8 hg8 _ _))
 all_goals
  have hb8 : Below w1.heap.size w1 w8 := by
   first
    |exact ax hb6 hg8 hown6 (nr _) hb6.size
    |exact ax (hb6.alloc hb6.size _) hg8 (hown6.alloc _) (nr _) (Nat.le_trans hb6.size (Nat.le_of_lt (by rw [sz_]; exact Nat.lt_succ_self _)))
  have HB8 := Lh hb8
  have HO8 := Lh hown8
  clear hb8 hown8 hg8 hown6 hg6 hb6
  go_wp2_with fail
  go_ret
  refine ⟨v8, rfl, ?_, HB1.o.trans (HB8.o.mono HB1.o.size)⟩
  have h6 := fv HO8.o (show w.heap.size ≤ w1.heap.size from HB1.o.size)
  rw [HWR.o]
  exact h6

theorem cu.grown {w w' : World} {b : Nat} {t : TypeId} {kind seq : Int} {kh : List UInt8} {kk : Int} {mh : List UInt8} {ms : Int} {v : Value} (h : cu w b t kind seq kh kk mh ms v) {base n : Nat} {u : Value} {xs : List Value} {e : TypeId} {size : Nat} (ho : w.ownsRow base e size u n xs) (hg : w.grownBy w' u.ownBlock) (ht : t ≠ e) :
  cu w' b t kind seq kh kk mh ms v := ⟨kf ho hg h.blk ht, h.hk, h.hm⟩
def qnl (r : RecD) (w : World) (e : Ending) (w' : World) : Prop := ∃ v, e = .returned v ∧ w'.ownsRow w.heap.size 5 1 v (dx r).length (ak (dx r)) ∧ Below w.heap.size w w'
theorem kg {r : RecD} {w w' : World} {v : Value} {n : Nat} {l : List UInt8} (ho : w'.ownsRow w.heap.size 5 1 v n (ak l)) (hl : l = dx r) (hb : Below w.heap.size w w') : qnl r w (.returned v) w' := by
 subst hl
 have h1 := ho.1
 rw [am, Nat.mul_one] at h1
 subst h1
 exact ⟨v, rfl, ho, hb⟩
theorem yy (r : RecD) (A : Option Addr) (n c B : Nat) (w : World) (hr : Hs r) (h1 : SlR eKey w B (.slice A n c) r.keys) (hB : B ≤ w.heap.size) (hR : au r = true) :
  Calls Tryz.prog 69 #[rv r (.slice A n c)] w (qnl r w) := by
 have hkd := lq hR
 obtain ⟨kind, seq, kh, kk, mh, ms, keys⟩ := r
 obtain ⟨hk, hm⟩ := hr
 simp only at hk hm h1 hkd
 have HKH := Lh hk
 have HMH := Lh hm
 have N1 := Lh h1.n_eq
 have hc1 := h1.n_le
 have H1 := Lh h1
 have HBW := Lh hB
 have HB1 := Lh ((br _ _).alloc (nr _) (.cells (ag kind seq kh kk mh ms (.slice A n c)).toArray 42) : Below w.heap.size w _)
 have HG1 := Lh (cu.new (t := 42) (kind := kind) (seq := seq) (kk := kk) (ms := ms) (v := .slice A n c) w hk hm)
 have HLT := Lh (show w.heap.size < w.heap.size + 1 from Nat.lt_succ_self _)
 clear h1 hB hk hm
 go_enter Tryz.func69, Tryz.ntmps69
 go_wp2_with (refine ai (some 1) rfl ?_)
 refine Stop.go (bn rfl _ rfl rfl (bb ..) ?_)
 generalize w.alloc (.cells (ag kind seq kh kk mh ms (.slice A n c)).toArray 42) = w1 at *
 have HO1 := Lh (World.ownsRow_nil w1 w.heap.size 5 1)
 rcases hkd with rfl | rfl | rfl | rfl | rfl | rfl | rfl
 ·obtain ⟨⟨rfl, rfl⟩, rfl⟩ := qqv hR
  obtain rfl : n = 0 := N1.o
  have HR := Lh hR
  clear hR
  have c0 := HG1.o.kind_
  have c1 := HG1.o.seq_
  have c67 := HG1.o.size_
  have c68 := HG1.o.keys_
  have hb2 : Below w1.heap.size w1 (w1.alloc (.cells #[.int .u8 1] 5)) := (br _ _).alloc (nr _) _
  have HO2 := Lh (World.ownsRow_lit (base := w.heap.size) (e := 5) (size := 1) w1 #[.int .u8 1] 1 HB1.o.size (by simp [maxLen]) rfl)
  go_wp2_with fail
  go_ret
  exact kg (l := [1]) HO2.o rfl (HB1.o.trans (hb2.mono HB1.o.size))
 ·obtain ⟨⟨hs0, hs1⟩, hkk, ⟨hm0, hm1⟩, rfl⟩ := qqu hR
  obtain ⟨x, rfl⟩ : ∃ x : Nat, seq = x := ⟨seq.toNat, by omega⟩
  obtain ⟨y, rfl⟩ : ∃ y : Nat, ms = y := ⟨ms.toNat, by omega⟩
  obtain rfl : n = 0 := N1.o
  have HR := Lh hR
  clear hR
  have c0 := HG1.o.kind_
  have c1 := HG1.o.seq_
  have c67 := HG1.o.size_
  have c68 := HG1.o.keys_
  go_wp2_with fail
  refine (xq 6 x _ (by decide) (by omega)).mono ?_
  rintro e w2 ⟨rfl, hh2, hb2⟩
  have HR2 := Lh (jh (B := w2.heap.size) hh2 (gl hh2))
  clear hh2
  have HO2 := Lh (bw HO1.o hb2)
  have HG2 := Lh (HG1.o.later hb2)
  have HB2 := Lh (HB1.o.trans (hb2.mono HB1.o.size))
  clear hb2 c0 c1 c67 c68
  have c0 := HG2.o.kind_
  have c1 := HG2.o.seq_
  have c67 := HG2.o.size_
  have c68 := HG2.o.keys_
  have hsz2 := HB2.o.size
  go_wp2_with (at_builtin; refine ay im rfl rfl rfl rfl HO2.o HR2.o (m := 6) (by rw [am, bx]) (ef _) ?h63 ?hby ?hbase ?_)
  case h63 => simp [maxLen]
  case hby => decide
  case hbase => exact hsz2
  intro v3 w3 hown3 hg3 _ _
  have HG3 := Lh (HG2.o.grown HO2.o hg3 (by decide))
  have HB3 := Lh (ax HB2.o hg3 HO2.o (nr _) hsz2)
  have HO3 := Lh (show w3.ownsRow w.heap.size 5 1 v3 6 (ak (cb 6 x)) by exact hown3)
  obtain ⟨A3, d3, rfl, _, _⟩ := ap HO3.o
  clear hown3 hg3 c0 c1 c67 c68 hsz2
  have c0 := HG3.o.kind_
  have c1 := HG3.o.seq_
  have c67 := HG3.o.size_
  have c68 := HG3.o.keys_
  go_wp2_with (refine ai (some 36) rfl ?_)
  refine Stop.go (ar 1 _ _ _ (fun Q' hQ' => ?_))
  simp only [T1, T0]
  go_wp2_with fail
  try simp only [dr1, dr0]
  refine Stop.go (aa rfl 34 rfl rfl ba.ut rfl (al _ _ HKH.o) HG3.o.key_ ?_)
  go_wp2_with fail
  refine (td kh kk _ HKH.o hkk).mono ?_
  rintro e w4 ⟨u4, rfl, ho4, hb4⟩
  obtain ⟨E4, e4, rfl, _, _⟩ := ap ho4
  have HR4 := Lh (Rd.of_own ho4)
  clear ho4
  have HO4 := Lh (bw HO3.o hb4)
  have HG4 := Lh (HG3.o.later hb4)
  have HB4 := Lh (HB3.o.trans (hb4.mono HB3.o.size))
  clear hb4 c0 c1 c67 c68
  have c0 := HG4.o.kind_
  have c1 := HG4.o.seq_
  have c67 := HG4.o.size_
  have c68 := HG4.o.keys_
  have hsz4 := HB4.o.size
  go_wp2_with (at_builtin; refine ay im rfl rfl rfl rfl HO4.o HR4.o (m := 33) (by rw [am, fi _ (show (kh, kk).1.length = 32 from HKH.o)]) (ef _) ?h63 ?hby ?hbase ?_)
  case h63 => simp [maxLen]
  case hby => decide
  case hbase => exact hsz4
  intro v5 w5 hown5 hg5 _ _
  have HG5 := Lh (HG4.o.grown HO4.o hg5 (by decide))
  have HB5 := Lh (ax HB4.o hg5 HO4.o (nr _) hsz4)
  have HO5 := Lh (show w5.ownsRow w.heap.size 5 1 v5 39 (ak (cb 6 x ++ keyB (kh, kk))) by rw [bt]; exact hown5)
  obtain ⟨A5, d5, rfl, _, _⟩ := ap HO5.o
  clear hown5 hg5 c0 c1 c67 c68 hsz4
  have c0 := HG5.o.kind_
  have c1 := HG5.o.seq_
  have c67 := HG5.o.size_
  have c68 := HG5.o.keys_
  have hsz5 := HB5.o.size
  go_wp2_with (at_builtin; refine ay im rfl rfl rfl rfl HO5.o (HG5.o.rd_mark HLT.o) (m := 32) (by rw [am, HMH.o]) (ef _) ?h63 ?hby ?hbase ?_)
  case h63 => simp [maxLen]
  case hby => decide
  case hbase => exact hsz5
  intro v6 w6 hown6 hg6 _ _
  have HG6 := Lh (HG5.o.grown HO5.o hg6 (by decide))
  have HB6 := Lh (ax HB5.o hg6 HO5.o (nr _) hsz5)
  have HO6 := Lh (show w6.ownsRow w.heap.size 5 1 v6 71 (ak ((cb 6 x ++ keyB (kh, kk)) ++ mh)) by rw [bt]; exact hown6)
  obtain ⟨A6, d6, rfl, _, _⟩ := ap HO6.o
  clear hown6 hg6 c0 c1 c67 c68 hsz5
  have c0 := HG6.o.kind_
  have c1 := HG6.o.seq_
  have c67 := HG6.o.size_
  have c68 := HG6.o.keys_
  go_wp2_with fail
  refine (xq 3 y _ (by decide) (by omega)).mono ?_
  rintro e w7 ⟨rfl, hh7, hb7⟩
  have HR7 := Lh (jh (B := w7.heap.size) hh7 (gl hh7))
  clear hh7
  have HO7 := Lh (bw HO6.o hb7)
  have HG7 := Lh (HG6.o.later hb7)
  have HB7 := Lh (HB6.o.trans (hb7.mono HB6.o.size))
  clear hb7 c0 c1 c67 c68
  have c0 := HG7.o.kind_
  have c1 := HG7.o.seq_
  have c67 := HG7.o.size_
  have c68 := HG7.o.keys_
  have hsz7 := HB7.o.size
  go_wp2_with (at_builtin; refine ay im rfl rfl rfl rfl HO7.o HR7.o (m := 3) (by rw [am, bx]) (ef _) ?h63 ?hby ?hbase ?_)
  case h63 => simp [maxLen]
  case hby => decide
  case hbase => exact hsz7
  intro v8 w8 hown8 hg8 _ _
  have HG8 := Lh (HG7.o.grown HO7.o hg8 (by decide))
  have HB8 := Lh (ax HB7.o hg8 HO7.o (nr _) hsz7)
  have HO8 := Lh (show w8.ownsRow w.heap.size 5 1 v8 74 (ak (((cb 6 x ++ keyB (kh, kk)) ++ mh) ++ cb 3 y)) by rw [bt]; exact hown8)
  obtain ⟨A8, d8, rfl, _, _⟩ := ap HO8.o
  clear hown8 hg8 c0 c1 c67 c68 hsz7
  have c0 := HG8.o.kind_
  have c1 := HG8.o.seq_
  have c67 := HG8.o.size_
  have c68 := HG8.o.keys_
  go_wp2_with fail
  go_loopw [3, 4] (fun v3 v4 wr => v3 = .slice A8 74 d8 ∧ v4 = .int .i64 0 ∧ wr = w8) (fun _ _ _ => 0)
  case atStart => exact ⟨rfl, rfl, rfl⟩
  case round =>
   obtain ⟨rfl, rfl, rfl⟩ := hrel
   go_wp2_with fail
   go_ret
   exact kg HO8.o (by simp [dx]) HB8.o
 ·obtain ⟨⟨hs0, hs1⟩, ⟨rfl, rfl⟩, rfl⟩ := qqt hR
  obtain ⟨x, rfl⟩ : ∃ x : Nat, seq = x := ⟨seq.toNat, by omega⟩
  obtain rfl : n = 0 := N1.o
  have HR := Lh hR
  clear hR
  have c0 := HG1.o.kind_
  have c1 := HG1.o.seq_
  have c67 := HG1.o.size_
  have c68 := HG1.o.keys_
  go_wp2_with fail
  refine (xq 6 x _ (by decide) (by omega)).mono ?_
  rintro e w2 ⟨rfl, hh2, hb2⟩
  have HR2 := Lh (jh (B := w2.heap.size) hh2 (gl hh2))
  clear hh2
  have HO2 := Lh (bw HO1.o hb2)
  have HG2 := Lh (HG1.o.later hb2)
  have HB2 := Lh (HB1.o.trans (hb2.mono HB1.o.size))
  clear hb2 c0 c1 c67 c68
  have c0 := HG2.o.kind_
  have c1 := HG2.o.seq_
  have c67 := HG2.o.size_
  have c68 := HG2.o.keys_
  have hsz2 := HB2.o.size
  go_wp2_with (at_builtin; refine ay im rfl rfl rfl rfl HO2.o HR2.o (m := 6) (by rw [am, bx]) (ef _) ?h63 ?hby ?hbase ?_)
  case h63 => simp [maxLen]
  case hby => decide
  case hbase => exact hsz2
  intro v3 w3 hown3 hg3 _ _
  have HG3 := Lh (HG2.o.grown HO2.o hg3 (by decide))
  have HB3 := Lh (ax HB2.o hg3 HO2.o (nr _) hsz2)
  have HO3 := Lh (show w3.ownsRow w.heap.size 5 1 v3 6 (ak (cb 6 x)) by exact hown3)
  obtain ⟨A3, d3, rfl, _, _⟩ := ap HO3.o
  clear hown3 hg3 c0 c1 c67 c68 hsz2
  have c0 := HG3.o.kind_
  have c1 := HG3.o.seq_
  have c67 := HG3.o.size_
  have c68 := HG3.o.keys_
  go_wp2_with fail
  go_loopw [3, 4] (fun v3 v4 wr => v3 = .slice A3 6 d3 ∧ v4 = .int .i64 0 ∧ wr = w3) (fun _ _ _ => 0)
  case atStart => exact ⟨rfl, rfl, rfl⟩
  case round =>
   obtain ⟨rfl, rfl, rfl⟩ := hrel
   go_wp2_with fail
   go_ret
   exact kg HO3.o (by simp [dx]) HB3.o
 ·obtain ⟨hkk, ⟨hm0, hm1⟩, rfl⟩ := qqs hR
  obtain ⟨y, rfl⟩ : ∃ y : Nat, ms = y := ⟨ms.toNat, by omega⟩
  obtain rfl : n = 0 := N1.o
  have HR := Lh hR
  clear hR
  have c0 := HG1.o.kind_
  have c1 := HG1.o.seq_
  have c67 := HG1.o.size_
  have c68 := HG1.o.keys_
  go_wp2_with (refine ai (some 36) rfl ?_)
  refine Stop.go (ar 1 _ _ _ (fun Q' hQ' => ?_))
  simp only [T1, T0]
  go_wp2_with fail
  try simp only [dr1, dr0]
  refine Stop.go (aa rfl 34 rfl rfl ba.ut rfl (al _ _ HKH.o) HG1.o.key_ ?_)
  go_wp2_with fail
  refine (td kh kk _ HKH.o hkk).mono ?_
  rintro e w2 ⟨u2, rfl, ho2, hb2⟩
  obtain ⟨E2, e2, rfl, _, _⟩ := ap ho2
  have HR2 := Lh (Rd.of_own ho2)
  clear ho2
  have HO2 := Lh (bw HO1.o hb2)
  have HG2 := Lh (HG1.o.later hb2)
  have HB2 := Lh (HB1.o.trans (hb2.mono HB1.o.size))
  clear hb2 c0 c1 c67 c68
  have c0 := HG2.o.kind_
  have c1 := HG2.o.seq_
  have c67 := HG2.o.size_
  have c68 := HG2.o.keys_
  have hsz2 := HB2.o.size
  go_wp2_with (at_builtin; refine ay im rfl rfl rfl rfl HO2.o HR2.o (m := 33) (by rw [am, fi _ (show (kh, kk).1.length = 32 from HKH.o)]) (ef _) ?h63 ?hby ?hbase ?_)
  case h63 => simp [maxLen]
  case hby => decide
  case hbase => exact hsz2
  intro v3 w3 hown3 hg3 _ _
  have HG3 := Lh (HG2.o.grown HO2.o hg3 (by decide))
  have HB3 := Lh (ax HB2.o hg3 HO2.o (nr _) hsz2)
  have HO3 := Lh (show w3.ownsRow w.heap.size 5 1 v3 33 (ak (keyB (kh, kk))) by exact hown3)
  obtain ⟨A3, d3, rfl, _, _⟩ := ap HO3.o
  clear hown3 hg3 c0 c1 c67 c68 hsz2
  have c0 := HG3.o.kind_
  have c1 := HG3.o.seq_
  have c67 := HG3.o.size_
  have c68 := HG3.o.keys_
  have hsz3 := HB3.o.size
  go_wp2_with (at_builtin; refine ay im rfl rfl rfl rfl HO3.o (HG3.o.rd_mark HLT.o) (m := 32) (by rw [am, HMH.o]) (ef _) ?h63 ?hby ?hbase ?_)
  case h63 => simp [maxLen]
  case hby => decide
  case hbase => exact hsz3
  intro v4 w4 hown4 hg4 _ _
  have HG4 := Lh (HG3.o.grown HO3.o hg4 (by decide))
  have HB4 := Lh (ax HB3.o hg4 HO3.o (nr _) hsz3)
  have HO4 := Lh (show w4.ownsRow w.heap.size 5 1 v4 65 (ak (keyB (kh, kk) ++ mh)) by rw [bt]; exact hown4)
  obtain ⟨A4, d4, rfl, _, _⟩ := ap HO4.o
  clear hown4 hg4 c0 c1 c67 c68 hsz3
  have c0 := HG4.o.kind_
  have c1 := HG4.o.seq_
  have c67 := HG4.o.size_
  have c68 := HG4.o.keys_
  go_wp2_with fail
  refine (xq 3 y _ (by decide) (by omega)).mono ?_
  rintro e w5 ⟨rfl, hh5, hb5⟩
  have HR5 := Lh (jh (B := w5.heap.size) hh5 (gl hh5))
  clear hh5
  have HO5 := Lh (bw HO4.o hb5)
  have HG5 := Lh (HG4.o.later hb5)
  have HB5 := Lh (HB4.o.trans (hb5.mono HB4.o.size))
  clear hb5 c0 c1 c67 c68
  have c0 := HG5.o.kind_
  have c1 := HG5.o.seq_
  have c67 := HG5.o.size_
  have c68 := HG5.o.keys_
  have hsz5 := HB5.o.size
  go_wp2_with (at_builtin; refine ay im rfl rfl rfl rfl HO5.o HR5.o (m := 3) (by rw [am, bx]) (ef _) ?h63 ?hby ?hbase ?_)
  case h63 => simp [maxLen]
  case hby => decide
  case hbase => exact hsz5
  intro v6 w6 hown6 hg6 _ _
  have HG6 := Lh (HG5.o.grown HO5.o hg6 (by decide))
  have HB6 := Lh (ax HB5.o hg6 HO5.o (nr _) hsz5)
  have HO6 := Lh (show w6.ownsRow w.heap.size 5 1 v6 68 (ak ((keyB (kh, kk) ++ mh) ++ cb 3 y)) by rw [bt]; exact hown6)
  obtain ⟨A6, d6, rfl, _, _⟩ := ap HO6.o
  clear hown6 hg6 c0 c1 c67 c68 hsz5
  have c0 := HG6.o.kind_
  have c1 := HG6.o.seq_
  have c67 := HG6.o.size_
  have c68 := HG6.o.keys_
  go_wp2_with fail
  go_loopw [3, 4] (fun v3 v4 wr => v3 = .slice A6 68 d6 ∧ v4 = .int .i64 0 ∧ wr = w6) (fun _ _ _ => 0)
  case atStart => exact ⟨rfl, rfl, rfl⟩
  case round =>
   obtain ⟨rfl, rfl, rfl⟩ := hrel
   go_wp2_with fail
   go_ret
   exact kg HO6.o (by simp [dx]) HB6.o
 ·obtain ⟨hkk, rfl⟩ := qqr hR
  obtain rfl : n = 0 := N1.o
  have HR := Lh hR
  clear hR
  have c0 := HG1.o.kind_
  have c1 := HG1.o.seq_
  have c67 := HG1.o.size_
  have c68 := HG1.o.keys_
  go_wp2_with (refine ai (some 36) rfl ?_)
  refine Stop.go (ar 1 _ _ _ (fun Q' hQ' => ?_))
  simp only [T1, T0]
  go_wp2_with fail
  try simp only [dr1, dr0]
  refine Stop.go (aa rfl 34 rfl rfl ba.ut rfl (al _ _ HKH.o) HG1.o.key_ ?_)
  go_wp2_with fail
  refine (td kh kk _ HKH.o hkk).mono ?_
  rintro e w2 ⟨u2, rfl, ho2, hb2⟩
  obtain ⟨E2, e2, rfl, _, _⟩ := ap ho2
  have HR2 := Lh (Rd.of_own ho2)
  clear ho2
  have HO2 := Lh (bw HO1.o hb2)
  have HG2 := Lh (HG1.o.later hb2)
  have HB2 := Lh (HB1.o.trans (hb2.mono HB1.o.size))
  clear hb2 c0 c1 c67 c68
  have c0 := HG2.o.kind_
  have c1 := HG2.o.seq_
  have c67 := HG2.o.size_
  have c68 := HG2.o.keys_
  have hsz2 := HB2.o.size
  go_wp2_with (at_builtin; refine ay im rfl rfl rfl rfl HO2.o HR2.o (m := 33) (by rw [am, fi _ (show (kh, kk).1.length = 32 from HKH.o)]) (ef _) ?h63 ?hby ?hbase ?_)
  case h63 => simp [maxLen]
  case hby => decide
  case hbase => exact hsz2
  intro v3 w3 hown3 hg3 _ _
  have HG3 := Lh (HG2.o.grown HO2.o hg3 (by decide))
  have HB3 := Lh (ax HB2.o hg3 HO2.o (nr _) hsz2)
  have HO3 := Lh (show w3.ownsRow w.heap.size 5 1 v3 33 (ak (keyB (kh, kk))) by exact hown3)
  obtain ⟨A3, d3, rfl, _, _⟩ := ap HO3.o
  clear hown3 hg3 c0 c1 c67 c68 hsz2
  have c0 := HG3.o.kind_
  have c1 := HG3.o.seq_
  have c67 := HG3.o.size_
  have c68 := HG3.o.keys_
  go_wp2_with fail
  go_loopw [3, 4] (fun v3 v4 wr => v3 = .slice A3 33 d3 ∧ v4 = .int .i64 0 ∧ wr = w3) (fun _ _ _ => 0)
  case atStart => exact ⟨rfl, rfl, rfl⟩
  case round =>
   obtain ⟨rfl, rfl, rfl⟩ := hrel
   go_wp2_with fail
   go_ret
   exact kg HO3.o (by simp [dx]) HB3.o
 ·obtain ⟨hkk, rfl⟩ := qqq hR
  obtain rfl : n = 0 := N1.o
  have HR := Lh hR
  clear hR
  have c0 := HG1.o.kind_
  have c1 := HG1.o.seq_
  have c67 := HG1.o.size_
  have c68 := HG1.o.keys_
  go_wp2_with (refine ai (some 36) rfl ?_)
  refine Stop.go (ar 1 _ _ _ (fun Q' hQ' => ?_))
  simp only [T1, T0]
  go_wp2_with fail
  try simp only [dr1, dr0]
  refine Stop.go (aa rfl 34 rfl rfl ba.ut rfl (al _ _ HKH.o) HG1.o.key_ ?_)
  go_wp2_with fail
  refine (td kh kk _ HKH.o hkk).mono ?_
  rintro e w2 ⟨u2, rfl, ho2, hb2⟩
  obtain ⟨E2, e2, rfl, _, _⟩ := ap ho2
  have HR2 := Lh (Rd.of_own ho2)
  clear ho2
  have HO2 := Lh (bw HO1.o hb2)
  have HG2 := Lh (HG1.o.later hb2)
  have HB2 := Lh (HB1.o.trans (hb2.mono HB1.o.size))
  clear hb2 c0 c1 c67 c68
  have c0 := HG2.o.kind_
  have c1 := HG2.o.seq_
  have c67 := HG2.o.size_
  have c68 := HG2.o.keys_
  have hsz2 := HB2.o.size
  go_wp2_with (at_builtin; refine ay im rfl rfl rfl rfl HO2.o HR2.o (m := 33) (by rw [am, fi _ (show (kh, kk).1.length = 32 from HKH.o)]) (ef _) ?h63 ?hby ?hbase ?_)
  case h63 => simp [maxLen]
  case hby => decide
  case hbase => exact hsz2
  intro v3 w3 hown3 hg3 _ _
  have HG3 := Lh (HG2.o.grown HO2.o hg3 (by decide))
  have HB3 := Lh (ax HB2.o hg3 HO2.o (nr _) hsz2)
  have HO3 := Lh (show w3.ownsRow w.heap.size 5 1 v3 33 (ak (keyB (kh, kk))) by exact hown3)
  obtain ⟨A3, d3, rfl, _, _⟩ := ap HO3.o
  clear hown3 hg3 c0 c1 c67 c68 hsz2
  have c0 := HG3.o.kind_
  have c1 := HG3.o.seq_
  have c67 := HG3.o.size_
  have c68 := HG3.o.keys_
  go_wp2_with fail
  go_loopw [3, 4] (fun v3 v4 wr => v3 = .slice A3 33 d3 ∧ v4 = .int .i64 0 ∧ wr = w3) (fun _ _ _ => 0)
  case atStart => exact ⟨rfl, rfl, rfl⟩
  case round =>
   obtain ⟨rfl, rfl, rfl⟩ := hrel
   go_wp2_with fail
   go_ret
   exact kg HO3.o (by simp [dx]) HB3.o
 ·obtain ⟨⟨rfl, rfl⟩, hris⟩ := qdk hR
  have HR := Lh hR
  clear hR
  have c0 := HG1.o.kind_
  have c1 := HG1.o.seq_
  have c67 := HG1.o.size_
  have c68 := HG1.o.keys_
  have HRI := Lh (xk hris)
  clear hris
  have hn256 : n ≤ 256 := by rw [N1.o]; exact HRI.o.1
  go_wp2_with fail
  go_loopw [3, 4] (fun v3 v4 wr => ∃ (i : Nat) (A3 : Option Addr) (c3 : Nat), i ≤ n ∧ v4 = .int .i64 i ∧ v3 = .slice A3 (33 * i) c3 ∧ Hid (wr.ownsRow w.heap.size 5 1 (.slice A3 (33 * i) c3) (33 * i) (ak ((keys.take i).flatMap keyB))) ∧ Hid (cu wr w.heap.size 42 7 seq z32 0 mh ms (.slice A n c)) ∧ Hid (Below w.heap.size w wr)) (fun _ v4 _ => n - (intOf v4).toNat)
  case atStart => exact ⟨0, none, 0, by omega, rfl, rfl, HO1, HG1, HB1⟩
  case round =>
   clear c0 c1 c67 c68 HO1 HG1 HB1
   obtain ⟨i, A3, c3, hi, rfl, rfl, HO3, HG3, HB3⟩ := hrel
   have c68 := HG3.o.keys_
   by_cases hlt : i < n
   ·have hlt1 : i < keys.length := by have := N1.o; omega
    obtain ⟨b1, o1, rfl, _, _, l1, e1⟩ := mn (H1.o.below (HB3.o.mono HBW.o)) hlt1
    have HOK := Lh (HRI.o.2 i hlt1)
    have HFL := Lh (show (keys.take (i + 1)).flatMap keyB = (keys.take i).flatMap keyB ++ keyB keys[i] by rw [List.take_succ_eq_append_getElem hlt1, List.flatMap_append]; simp)
    obtain ⟨q, hq⟩ : ∃ q, q = keys[i] := ⟨_, rfl⟩
    rw [← hq] at l1 e1 HOK HFL
    obtain ⟨qh, qk⟩ := q
    simp only at l1 e1 HOK
    have HE1 := Lh e1
    have HL1 := Lh l1
    clear e1 l1 hq
    go_wp2_with (refine ai (some 65) rfl ?_)
    refine Stop.go (ar 4 _ _ _ (fun Q' hQ' => ?_))
    simp only [T1, T0]
    go_wp2_with fail
    try simp only [dr1, dr0]
    refine Stop.go (aa rfl 34 rfl rfl ba.ut rfl (al _ _ HL1.o) HE1.o ?_)
    go_wp2_with fail
    refine (td qh qk _ HL1.o HOK.o).mono ?_
    rintro e w4 ⟨u4, rfl, ho4, hb4⟩
    obtain ⟨E4, e4, rfl, _, _⟩ := ap ho4
    have HR4 := Lh (Rd.of_own ho4)
    have HO4 := Lh (bw HO3.o hb4)
    have HG4 := Lh (HG3.o.later hb4)
    have HB4 := Lh (HB3.o.trans (hb4.mono HB3.o.size))
    clear ho4 hb4 c68
    have hsz := HB4.o.size
    go_wp2_with (at_builtin; refine ay im rfl rfl rfl rfl HO4.o HR4.o (m := 33) (by rw [am, fi _ (show (qh, qk).1.length = 32 from HL1.o)]) (ef _) ?h63 ?hby ?hbase ?_)
    case h63 => simp only [maxLen]; omega
    case hby => omega
    case hbase => exact hsz
    intro v5 w5 hown5 hg5 _ _
    have HG5 := Lh (HG4.o.grown HO4.o hg5 (by decide))
    have HB5 := Lh (ax HB4.o hg5 HO4.o (nr _) hsz)
    have HO5 := Lh (show w5.ownsRow w.heap.size 5 1 v5 (33 * (i + 1)) (ak ((keys.take (i + 1)).flatMap keyB)) by rw [HFL.o, bt, Nat.mul_add]; exact hown5)
    obtain ⟨A5, c5, rfl, _, _⟩ := ap HO5.o
    clear hown5 hg5 hsz
    go_wp2_with fail
    refine ⟨⟨i + 1, A5, c5, by omega, by go_num, rfl, HO5, HG5, HB5⟩, ?_⟩
    simp [intOf]; omega
   ·obtain rfl : i = n := by omega
    have HF := Lh (show (keys.take i).flatMap keyB = dx ⟨7, seq, z32, 0, mh, ms, keys⟩ by rw [List.take_of_length_le (by rw [← N1.o]; exact nr _)]; simp [dx])
    go_wp2_with fail
    go_ret
    exact kg HO3.o HF.o HB3.o
end Go.Proofs.YtplbcbamnjnhlaaGreatDoor
