/- Texts of this proof joined: TouchC, RecOpen, Laid33. -/
import Derived.Test.YtplbcbamnjnhlaaGreatDoorMT00
import Derived.Test.YtplbcbamnjnhlaaGreatDoorMT38
import Derived.Test.YtplbcbamnjnhlaaGreatDoorMT37
import Derived.Test.YtplbcbamnjnhlaaGreatDoorMT43
import Derived.Test.YtplbcbamnjnhlaaGreatDoorMT44
import Derived.Test.YtplbcbamnjnhlaaGreatDoorMT10
import Derived.Test.YtplbcbamnjnhlaaGreatDoorCards
import Derived.Test.YtplbcbamnjnhlaaGreatDoorTie
import Derived.Test.YtplbcbamnjnhlaaGreatDoorMT04
import Derived.WalkKit
import Derived.ProofKit
import Derived.OpenShut
import Derived.Deep.DeepHandedRow
set_option maxRecDepth 100000
set_option maxHeartbeats 40000000
namespace Go.Proofs.YtplbcbamnjnhlaaGreatDoor
open Go.RowKit

theorem qif {d : Nat → Bool} {j : Nat} : ∀ {k : Nat}, j ≤ k → ∃ r, kl d k = kl d j ++ r
 |0, h => by
  have : j = 0 := by omega
  subst this
  exact ⟨[], by simp⟩
 |k + 1, h => by
  by_cases e : j = k + 1
  ·subst e
   exact ⟨[], by simp⟩
  ·obtain ⟨r, hr⟩ := qif (d := d) (j := j) (k := k) (by omega)
   exact ⟨r ++ (if d k then [] else [k]), by rw [pz, hr, List.append_assoc]⟩
theorem kl_at {d : Nat → Bool} {i k : Nat} (hi : i < k) (hd : d i = false) : ∃ h : (kl d i).length < (kl d k).length, (kl d k)[(kl d i).length] = i := by
 obtain ⟨r, hr⟩ := qif (d := d) (j := i + 1) (k := k) (by omega)
 have h1 : kl d (i + 1) = kl d i ++ [i] := by rw [pz, hd]; rfl
 rw [h1, List.append_assoc] at hr
 refine ⟨by rw [hr]; simp, ?_⟩
 simp only [hr]
 rw [List.getElem_append_right (nr _)]
 simp
theorem yu {w : World} {base : Nat} {e : TypeId} {s n c p : Nat} {f : Nat → List Value} (h : w.ownsRow base e s (.slice (some ⟨p, 0, none⟩) n c) n ((List.range n).flatMap f)) (hf : ∀ j, j < n → (f j).length = s) {i : Nat} (hi : i < n) :
  ∀ j u, (f i)[j]? = some u → w.cell? ⟨p, i * s + j, none⟩ = some u := fun j u hu => by
 have hl : ∀ m, m ≤ n → ((List.range m).flatMap f).length = m * s := fun m => by
  induction m with
  |zero => intro _; simp
  |succ m ih =>
   intro hm
   rw [List.range_succ, List.flatMap_append, List.length_append, ih (by omega), Nat.succ_mul]
   simp [hf m (by omega)]
 have hj : j < s := by
  have := (List.getElem?_eq_some_iff.1 hu).1
  rwa [hf i hi] at this
 have hlt : ∀ a b, a < b → a * s + j < b * s := fun a b hab => by
  have h2 := Nat.mul_le_mul_right s (show a + 1 ≤ b from hab)
  rw [Nat.succ_mul] at h2
  omega
 rw [h.cellAt _ (hlt i n hi)]
 have key : ∀ m, i < m → m ≤ n → ((List.range m).flatMap f)[i * s + j]? = (f i)[j]? := fun m => by
  induction m with
  |zero => intro h; omega
  |succ m ih =>
   intro h1 h2
   rw [List.range_succ, List.flatMap_append]
   by_cases e : i = m
   ·subst e
    rw [List.getElem?_append_right (by rw [hl i (by omega)]; omega), hl i (by omega)]
    simp
   ·rw [List.getElem?_append_left (by rw [hl m (by omega)]; exact hlt i m (by omega))]
    exact ih (by omega) (by omega)
 rw [key n hi (nr _)]
 exact hu
theorem stEq_N (x : K32) (rs : List RecD) (i : Nat) (hi : i < nEv az rs) : stEq x rs i = decide (stN (bkAt az rs (i + 1)) x = stN (bkAt az rs i) x) := by
 have h1 : ni i (nEv az rs) = i := by unfold ni; omega
 have h2 : ni ((i + 1 : Nat) : Int) (nEv az rs) = i + 1 := by unfold ni; omega
 unfold stEq stLv stPn stN
 rw [h1, h2]
 cases qu (bkAt az rs i) x <;> cases qu (bkAt az rs (i + 1)) x <;> cases px (bkAt az rs i) x <;> cases px (bkAt az rs (i + 1)) x <;> rfl
theorem stN_le (b : bj) (x : K32) : stN b x ≤ 3 := by
 unfold stN
 split <;> split <;> omega
theorem cell_lt {w : World} {p j : Nat} {u : Value} (h : w.cell? ⟨p, j, none⟩ = some u) : p < w.heap.size := by
 by_cases hl : p < w.heap.size
 ·exact hl
 ·unfold World.cell? at h
  rw [Array.getElem?_eq_none (by show w.heap.size ≤ p; omega)] at h
  cases h
structure ToM (w0 wc : World) (rs : List RecD) (us us2 : Nat → Value) (q q3 M M2 k : Nat) (x : K32) (A1 A2 A9 : Option Addr) (v6 v7 v8 : Value) (t : Bk3) (L P O : Value) : Prop where
 ev : EvS w0 wc q M rs us A1 k k k (bkAt az rs k) v6 v7 v8 t L P O
 key : wc.heap[q3]? = some (.cells (encK x).toArray 34 (0, 0))
 evs : ∀ i (h : i < (kl (stEq x rs) k).length), ∃ p, A9 = some ⟨p, 0, none⟩ ∧ ∀ j u, (evF rs us2 ((kl (stEq x rs) k)[i]))[j]? = some u → wc.cell? ⟨p, i * 72 + j, none⟩ = some u
 recs2 : so wc M2 A2 us2 rs
 mle : M2 ≤ wc.heap.size
theorem ToM.later {w0 wc w' : World} {rs : List RecD} {us us2 : Nat → Value} {q q3 M M2 k : Nat} {x : K32} {A1 A2 A9 : Option Addr} {v6 v7 v8 : Value} {t : Bk3} {L P O : Value} (h : ToM w0 wc rs us us2 q q3 M M2 k x A1 A2 A9 v6 v7 v8 t L P O) (hb : Below wc.heap.size wc w') : ToM w0 w' rs us us2 q q3 M M2 k x A1 A2 A9 v6 v7 v8 t L P O :=
 ⟨h.ev.later hb, (hb.block _ (gl h.key)).trans h.key, fun i hi => by
  obtain ⟨p, e, hc⟩ := h.evs i hi
  exact ⟨p, e, fun j u hu => (hb.cell (p := ⟨p, i * 72 + j, none⟩) (cell_lt (hc j u hu))).trans (hc j u hu)⟩, h.recs2.stay (pq.of_below hb h.mle), Nat.le_trans h.mle hb.size⟩
theorem ze (l : List UInt8) (A : Option Addr) (c B : Nat) (x : K32) (w : World) (hr : Rd w B A (ak l)) (hB : B ≤ w.heap.size) (hc : l.length ≤ c) (hc2 : c ≤ maxLen) :
  Calls Tryz.prog 5 #[.slice A l.length c, kv x] w fun e w' => e = .returned (.bool true) ∧ Below w.heap.size w w' := by
 have HR := Lh hr
 have HBW := Lh hB
 clear hr hB
 have hll : l.length ≤ 9223372036854775807 := by simp only [maxLen] at hc2; omega
 go_enter Tryz.func5, Tryz.ntmps5
 go_wp2_with (refine ai (some 3) rfl ?_)
 refine Stop.go (bn rfl 34 rfl rfl (vs := encK x) rfl ?_)
 have HB0 := Lh ((br _ _).alloc (nr _) (.cells (encK x).toArray 34) : Below w.heap.size w _)
 have HK0 := Lh (hzn w (.cells (encK x).toArray 34))
 have HS0 := Lh (sz_ w (.cells (encK x).toArray 34))
 generalize w.alloc (.cells (encK x).toArray 34) = w0 at *
 obtain ⟨q3, hq3⟩ : ∃ q3, q3 = w.heap.size := ⟨_, rfl⟩
 rw [← hq3] at HK0 HS0 HB0 HBW ⊢
 have HQ3 := Lh hq3
 clear hq3
 generalize ha : Act.put _ _ _ = z9; simp [Act.put] at ha; subst ha
 by_cases hbig : 2000 < l.length
 ·go_wp2_with fail
  refine (qcy w0).mono ?_
  rintro e w2 ⟨rfl, hb2⟩
  have HB2 := Lh (HB0.o.trans (hb2.mono (by rw [HS0.o]; omega)))
  clear hb2
  go_wp2_with fail
  go_ret
  exact ⟨rfl, by rw [← HQ3.o]; exact HB2.o⟩
 have HL := Lh (show l.length ≤ 2000 by omega)
 have hbig2 : ¬ ((2000 : Int) < (l.length : Int)) := by omega
 clear hbig
 go_wp2_with fail
 refine (qpj l A c B w0 (HR.o.below (HB0.o.mono HBW.o)) (by rw [HS0.o]; have := HBW.o; omega) (by have := HL.o; omega) hc).mono ?_
 rintro e w1 ⟨rs, n0, us, A1, q, M, v6, v7, v8, t, L, P, O, hat, rfl, hev⟩
 obtain ⟨k, hk⟩ : ∃ k, k = nEv az rs := ⟨_, rfl⟩
 rw [← hk] at hev
 rw [← hk]
 obtain ⟨A6, c6, hv6, _, _⟩ := ap hev.recs
 obtain ⟨A7, c7, hv7, _, _⟩ := ap hev.ats
 obtain ⟨A8, c8, hv8, _, _⟩ := ap hev.books
 subst hv6 hv7 hv8
 have HAT := Lh hat
 have HEV := Lh hev
 have HKE := Lh hk
 have hk9 : k ≤ 2000 := by
  have h1 := sn rs az
  have h2 := uy hat.lines
  have h3 := HL.o
  omega
 generalize evAt rs k = at_
 have HB1 := Lh (show Below q3 w w1 from HB0.o.trans (hev.below.mono (by rw [HS0.o]; omega)))
 have HK1 := Lh ((hev.below.block q3 (by rw [HS0.o]; omega)).trans HK0.o)
 have HS1 := Lh (show q3 < w1.heap.size by have := hev.below.size; have := HS0.o; omega)
 clear hat hev hk HK0 HB0 HS0
 go_wp2_with (refine ai (some 26) rfl ?_)
 refine Stop.go (aa rfl 34 rfl rfl ba.ut rfl (cs := encK x) (al _ _ x.2) (aq (vs := encK x) HK1.o) ?_)
 generalize ha : Act.put _ _ _ = z9; simp [Act.put] at ha; subst ha
 go_wp2_with fail
 refine (qkr l A c B x w1 (HR.o.below (HB1.o.mono HBW.o)) (by have := HBW.o; have := HS1.o; omega) (by have := HL.o; omega) hc).mono ?_
 rintro e w2 ⟨rs', n0', us2, A2, M2, A9, c9, hat2, rfl, hm1, hm2, hevs, hra2, hM4, hb2⟩
 obtain ⟨h1, _⟩ := qay hat2 HAT.o
 subst h1
 rw [← HKE.o] at hm1 hevs
 rw [← HKE.o]
 have HM := Lh (show ToM w0 w2 rs' us us2 q q3 M M2 k x A1 A2 A9 (.slice A6 k c6) (.slice A7 k c7) (.slice A8 k c8) t L P O from ⟨HEV.o.later hb2, (hb2.block _ HS1.o).trans HK1.o, hevs, hra2, hM4⟩)
 have HBD := Lh (show Below q3 w w2 from HB1.o.trans (hb2.mono (Nat.le_of_lt HS1.o)))
 have HKN := Lh (show k ≤ rs'.length by rw [HKE.o]; exact sn _ _)
 obtain ⟨m, hm⟩ : ∃ m, m = (kl (stEq x rs') k).length := ⟨_, rfl⟩
 rw [← hm] at hm1 ⊢
 have HMK := Lh hm
 have hmk : m ≤ k := by rw [hm]; exact qrj _ _
 clear hat2 hevs hra2 hM4 hb2 HEV hm HB1 HK1 HS1
 go_wp2_with fail
 go_loopw [10, 11, 12, 13] (fun v10 v11 v12 v13 wr => ∃ i : Nat, i ≤ k ∧ v10 = .int .i64 (kl (stEq x rs') i).length ∧ v11 = .int .i64 (stN (bkAt az rs' i) x) ∧ v12 = .int .i64 i ∧ Hid (ToM w0 wr rs' us us2 q q3 M M2 k x A1 A2 A9 (.slice A6 k c6) (.slice A7 k c7) (.slice A8 k c8) t L P O) ∧ Hid (Below q3 w wr)) (fun _ _ v12 _ _ => k - (intOf v12).toNat)
 case atStart => exact ⟨0, Nat.zero_le _, rfl, (by rw [nd]; rfl), rfl, HM.o, HBD.o⟩
 case round =>
  clear HM HBD
  obtain ⟨i, hi, rfl, rfl, rfl, HM, HBD⟩ := hrel
  obtain ⟨s0, hs0⟩ : ∃ s0, s0 = stN (bkAt az rs' i) x := ⟨_, rfl⟩
  rw [← hs0]
  have HS0 := Lh hs0
  have hs3 : s0 ≤ 3 := by rw [hs0]; exact stN_le _ _
  clear hs0
  obtain ⟨n1, hn1⟩ : ∃ n1, n1 = (kl (stEq x rs') i).length := ⟨_, rfl⟩
  rw [← hn1]
  have HN1 := Lh hn1
  have hni : n1 ≤ i := by rw [hn1]; exact qrj _ _
  clear hn1
  by_cases hlt : i < k
  ·obtain ⟨p8, c8', hv8⟩ := ob HM.o.ev.books (by omega)
   injection hv8 with hv8 _ e8
   subst hv8 e8
   have C8 := Lh (show ∀ j u, (aj (bkAt az rs' (i + 1)) (t.L i) (t.P i) (t.O i))[j]? = some u → wr.cell? ⟨p8, i * 5 + j, none⟩ = some u from yu HM.o.ev.books (fun _ _ => rfl) hlt)
   have HTD := Lh (HM.o.ev.told i hlt)
   go_wp2_with fail
   refine Text.wp_text [] (by kernel_rfl) (by kernel_rfl) (fun Q' hQ' => ?_)
   have C8d := Lh (show ∀ j u, (aj (bkAt az rs' (i + 1)) (t.L i) (t.P i) (t.O i))[j]? = some u → wr.drew.cell? ⟨p8, i * 5 + j, none⟩ = some u from C8.o)
   have HMd := Lh (HM.o.later (br _ _).drew)
   have HBd := Lh HBD.o.drew
   have HTd := Lh (HTD.o.below (br _ _).drew)
   clear C8 HM HBD HTD
   generalize wr.drew = w4 at *
   go_wp2_with (refine ai (some 37) rfl ?_)
   refine Stop.go (aa rfl 30 rfl rfl gi rfl (cs := aj (bkAt az rs' (i + 1)) (t.L i) (t.P i) (t.O i)) (fg ..) C8d.o ?_)
   refine aa rfl 34 rfl rfl ba.ut rfl (cs := encK x) (al _ _ x.2) (aq (vs := encK x) HMd.o.key) ?_
   generalize ha : Act.put _ _ _ = z9; simp [Act.put] at ha; subst ha
   go_wp2_with fail
   refine (qjd (bkAt az rs' (i + 1)) (t.L i) (t.P i) (t.O i) x w4.heap.size w4 HTd.o.1 HTd.o.2.1 (nr _)).mono ?_
   rintro e w5 ⟨rfl, hb5⟩
   have HM5 := Lh (HMd.o.later hb5)
   have HB5 := Lh (HBd.o.trans (hb5.mono (by rw [HQ3.o]; exact HBd.o.size)))
   have HT5 := Lh (HTd.o.below hb5)
   clear hb5 C8d HMd HBd HTd
   obtain ⟨s1, hs1⟩ : ∃ s1, s1 = stN (bkAt az rs' (i + 1)) x := ⟨_, rfl⟩
   rw [← hs1]
   have HSE := Lh (show stEq x rs' i = decide (s1 = s0) by rw [hs1, HS0.o]; exact stEq_N x rs' i (by rw [← HKE.o]; exact hlt))
   have HS1 := Lh hs1
   clear hs1
   go_wp2_with fail
   refine ⟨by rfl, ?_⟩
   by_cases hss : s1 = s0
   ·have hss2 : (s1 : Int) = (s0 : Int) := by rw [hss]
    have HKL := Lh (show (kl (stEq x rs') (i + 1)).length = n1 by rw [pz, HSE.o, decide_eq_true hss, HN1.o]; simp)
    clear hss
    go_wp2_with fail
    go_roundw
    case rel => exact ⟨i + 1, by omega, by rw [HKL.o], by rw [← HS1.o]; first | exact congrArg _ hss2.symm | rfl, by go_num, HM5, HB5⟩
    case measure => simp [intOf]; omega
   ·have hss2 : ¬ ((s1 : Int) = (s0 : Int)) := by omega
    have hfe : stEq x rs' i = false := by rw [HSE.o, decide_eq_false hss]
    obtain ⟨h9, hki⟩ := kl_at (d := stEq x rs') hlt hfe
    have HKL := Lh (show (kl (stEq x rs') (i + 1)).length = n1 + 1 by rw [pz, hfe, List.length_append, ← HN1.o]; rfl)
    obtain ⟨p9, hA9, hc9⟩ := HM5.o.evs _ h9
    rw [hki] at hc9
    rw [← HN1.o] at hc9 h9
    rw [← HMK.o] at h9
    subst hA9
    obtain ⟨p6, c6', hv6⟩ := ob HM5.o.ev.recs (by omega)
    obtain ⟨p7, c7', hv7⟩ := ob HM5.o.ev.ats (by omega)
    injection hv6 with hv6 _ e6
    injection hv7 with hv7 _ e7
    subst hv6 hv7 e6 e7
    have HLT := Lh (show i < rs'.length by have := HKN.o; omega)
    obtain ⟨r, hr⟩ : ∃ r, r = rs'.getD i dq := ⟨_, rfl⟩
    have HRI := Lh (show r = rs'[i]'HLT.o by rw [hr, rg])
    have HRS := Lh hr.symm
    clear hr
    have hall : ∀ j, j < k → Hs (rs'.getD j dq) := fun j hj => by
     rw [rg (by have := HKN.o; omega)]
     exact HM5.o.ev.all.hs j _
    have HHS := Lh (show Hs r by rw [← HRS.o]; exact hall i hlt)
    obtain ⟨Ak, ck, hu, hks⟩ := HM5.o.ev.all.keys i HLT.o
    obtain ⟨Ak2, ck2, hu2, hks2⟩ := HM5.o.recs2.keys i HLT.o
    rw [← HRI.o] at hu hks hu2 hks2
    have C6 := Lh (show ∀ j u, (ag r.kind r.seq r.kh r.kk r.mh r.ms (.slice Ak r.keys.length ck))[j]? = some u → w5.cell? ⟨p6, i * 69 + j, none⟩ = some u from by
     have := yu HM5.o.ev.recs (fun j hj => ej (hall j hj) _) hlt
     rw [HRS.o, hu] at this
     exact this)
    have C7 := Lh (show w5.cell? ⟨p7, i, none⟩ = some (.int .i64 (evAt rs' i : Nat)) from by
     rw [HM5.o.ev.ats.cellAt i (by omega)]
     unfold qgp
     rw [List.getElem?_map, List.getElem?_range hlt]
     rfl)
    have C8 := Lh (show ∀ j u, (aj (bkAt az rs' (i + 1)) (t.L i) (t.P i) (t.O i))[j]? = some u → w5.cell? ⟨p8, i * 5 + j, none⟩ = some u from yu HM5.o.ev.books (fun _ _ => rfl) hlt)
    have C9 := Lh (show ∀ j u, (evc (evAt rs' i) r (.slice Ak2 r.keys.length ck2) (bkAt az rs' (i + 1)).live.length (bkAt az rs' (i + 1)).pins.length)[j]? = some u → w5.cell? ⟨p9, n1 * 72 + j, none⟩ = some u from by
     unfold evF at hc9
     rw [HRS.o, hu2] at hc9
     exact hc9)
    have HKA := Lh (hks.more HM5.o.ev.qlt.2.2)
    have HKB := Lh (hks2.more HM5.o.mle)
    obtain ⟨AL, cL, hLe, _, _⟩ := HT5.o.1.form
    obtain ⟨AP, cP, hPe, _, _⟩ := HT5.o.2.1.form
    rw [oe] at hLe
    rw [hLe, hPe] at C8
    have hmm : ¬ ((m : Int) ≤ (n1 : Int)) := by omega
    have hmc : m ≤ c9 := hm1
    have hmn : ¬ (m ≤ n1) := by omega
    clear hu hks hu2 hks2 hall hLe hPe hki hfe hc9 hss
    go_wp2_with fail
    refine Text.wp_text [] (by kernel_rfl) (by kernel_rfl) (fun Q' hQ' => ?_)
    have C6d := Lh (show ∀ j u, (ag r.kind r.seq r.kh r.kk r.mh r.ms (.slice Ak r.keys.length ck))[j]? = some u → w5.drew.cell? ⟨p6, i * 69 + j, none⟩ = some u from C6.o)
    have c7d : w5.drew.cell? ⟨p7, i, none⟩ = some (.int .i64 (evAt rs' i : Nat)) := C7.o
    have C8d := Lh (show ∀ j u, (aj (bkAt az rs' (i + 1)) (.slice AL (bkAt az rs' (i + 1)).live.length cL) (.slice AP (bkAt az rs' (i + 1)).pins.length cP) (t.O i))[j]? = some u → w5.drew.cell? ⟨p8, i * 5 + j, none⟩ = some u from C8.o)
    have C9d := Lh (show ∀ j u, (evc (evAt rs' i) r (.slice Ak2 r.keys.length ck2) (bkAt az rs' (i + 1)).live.length (bkAt az rs' (i + 1)).pins.length)[j]? = some u → w5.drew.cell? ⟨p9, n1 * 72 + j, none⟩ = some u from C9.o)
    have HMd := Lh (HM5.o.later (br _ _).drew)
    have HBd := Lh HB5.o.drew
    have HKAd := Lh (HKA.o.below (br _ _).drew)
    have HKBd := Lh (HKB.o.below (br _ _).drew)
    have HSd := Lh (show w5.heap.size ≤ w5.drew.heap.size from nr _)
    clear C6 C7 C8 C9 HM5 HB5 HKA HKB HT5
    generalize w5.heap.size = sz at *
    generalize w5.drew = w6 at *
    go_wp2_with (refine ai (some 52) rfl ?_)
    refine Stop.go (aw (by rfl) 60 rfl rfl ev_u rfl (cs := evc (evAt rs' i) r (.slice Ak2 r.keys.length ck2) (bkAt az rs' (i + 1)).live.length (bkAt az rs' (i + 1)).pins.length) (qjt HHS.o) C9d.o ?_)
    generalize ha : Act.put _ _ _ = z9; simp [Act.put] at ha; subst ha
    go_wp2_with (refine ai (some 56) rfl ?_)
    refine Stop.go (aw (by rfl) 42 rfl rfl fc rfl (cw _ _ _ _ _ _ (.slice Ak r.keys.length ck) HHS.o.1 HHS.o.2) C6d.o ?_)
    generalize ha : Act.put _ _ _ = z9; simp [Act.put] at ha; subst ha
    go_wp2_with (refine ai (some 64) rfl ?_)
    refine Stop.go (aw (by rfl) 30 rfl rfl gi rfl (cs := aj (bkAt az rs' (i + 1)) (.slice AL (bkAt az rs' (i + 1)).live.length cL) (.slice AP (bkAt az rs' (i + 1)).pins.length cP) (t.O i)) (fg ..) C8d.o ?_)
    generalize ha : Act.put _ _ _ = z9; simp [Act.put] at ha; subst ha
    go_wp2_with fail
    refine (qny (evAt rs' i) r Ak2 Ak AL AP ck2 ck cL cP _ _ sz (bkAt az rs' (i + 1)) (t.O i) w6 HHS.o HKBd.o HKAd.o HSd.o).mono ?_
    rintro e w7 ⟨rfl, hb7⟩
    have HM7 := Lh (HMd.o.later hb7)
    have HB7 := Lh (HBd.o.trans (hb7.mono (by rw [HQ3.o]; exact HBd.o.size)))
    clear hb7 C6d c7d C8d C9d HMd HBd HKAd HKBd HSd
    go_wp2_with fail
    refine ⟨by rfl, ?_⟩
    go_wp2_with fail
    go_roundw
    case rel => exact ⟨i + 1, by omega, by rw [HKL.o]; go_num, by rw [← HS1.o], by go_num, HM7, HB7⟩
    case measure => simp [intOf]; omega
  ·have hik : i = k := by omega
   have HNM := Lh (show n1 = m by rw [HN1.o, HMK.o, hik])
   have hnm : ((n1 : Int) == (m : Int)) = true := by rw [HNM.o]; simp
   clear hik
   go_wp2_with fail
   refine (qcy wr).mono ?_
   rintro e w9 ⟨rfl, hb9⟩
   have HB9 := Lh (HBD.o.trans (hb9.mono (by rw [HQ3.o]; exact HBD.o.size)))
   clear hb9
   go_wp2_with fail
   go_ret
   exact ⟨rfl, by rw [← HQ3.o]; exact HB9.o⟩
end Go.Proofs.YtplbcbamnjnhlaaGreatDoor
namespace Go.Proofs.YtplbcbamnjnhlaaGreatDoor
open Go.ChangeShapes Go.WideShapes Go.ChangeAt Go.RowKit

section
variable {H : Type} {enc : TypeId × Value → H}
end
end Go.Proofs.YtplbcbamnjnhlaaGreatDoor
namespace Go.Proofs.YtplbcbamnjnhlaaGreatDoor
open Go.ChangeShapes Go.WideShapes Go.ChangeAt Go.RowKit

theorem own : ownKnob Tryz.prog.godebug = none := by kernel_rfl
theorem laidOut : laidOutB Tryz.prog = true := by kernel_rfl
abbrev list32 : List (String × DataW Unit) := Rows.bookBackRow.laid
def tab32 : Array Value := (#[0, 1, 28, 2, 29, 14, 24, 3, 30, 22, 20, 15, 25, 17, 4, 8, 31, 27, 13, 23, 21, 19, 16, 7, 26, 12, 18, 6, 11, 5, 10, 9] : Array Int).map fun z => .int .u8 z
def tab64 : Array Value := (#[0, 1, 56, 2, 57, 49, 28, 3, 61, 58, 42, 50, 38, 29, 17, 4, 62, 47, 59, 36, 45, 43, 51, 22, 53, 39, 33, 30, 24, 18, 12, 5, 63, 55, 48, 27, 60, 41, 37, 16, 46, 35, 44, 21, 52, 32, 23, 11, 54, 26, 40, 15, 34, 20, 31, 10, 25, 14, 19, 9, 13, 8, 7, 6] : Array Int).map fun z => .int .u8 z
def tabPow : Array Value := (#[1, 10, 100, 1000, 10000, 100000, 1000000, 10000000, 100000000, 1000000000, 10000000000, 100000000000, 1000000000000, 10000000000000, 100000000000000, 1000000000000000, 10000000000000000, 100000000000000000, 1000000000000000000, 10000000000000000000] : Array Int).map fun z => .int .u64 z
def putIn (cs : Array Value) : Obj → Obj
 |.cells _ t frozen => .cells cs t frozen
 |o => o
noncomputable def qbt (os : Os) : World :=
 let w0 := World.holding Tryz.prog os ⟨#[], #[], []⟩
 { w0 with heap := ((w0.heap.modify 2 (putIn tab32)).modify 3 (putIn tab64)).modify 0 (putIn tabPow) }
theorem qov (os : Os) (args : Array Value) : laidMet Tryz.prog list32 ((qbt os).forCall (fun _ _ => 0) ⟨#[], args, []⟩).memory :=
 laidMet_of_run' 8 (by kernel_rfl) (by kernel_rfl)
end Go.Proofs.YtplbcbamnjnhlaaGreatDoor
