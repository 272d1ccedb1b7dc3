/- Texts of this proof joined: HistC, RecOpen, Laid33. -/
import Derived.Test.YtplbcbamnjnhlaaGreatDoorMG00
import Derived.Test.YtplbcbamnjnhlaaGreatDoorMG34
import Derived.Test.YtplbcbamnjnhlaaGreatDoorMG35
import Derived.Test.YtplbcbamnjnhlaaGreatDoorMG42
import Derived.Test.YtplbcbamnjnhlaaGreatDoorMG44
import Derived.Test.YtplbcbamnjnhlaaGreatDoorMG10
import Derived.Test.YtplbcbamnjnhlaaGreatDoorCards
import Derived.Test.YtplbcbamnjnhlaaGreatDoorTie
import Derived.Test.YtplbcbamnjnhlaaGreatDoorMG04
import Derived.WalkKit
import Derived.ProofKit
import Derived.OpenShut
import Derived.Deep.DeepHandedRow
set_option maxRecDepth 100000
set_option maxHeartbeats 40000000
namespace Go.Proofs.YtplbcbamnjnhlaaGreatDoor
open Go.RowKit

theorem piece {s : Nat} {f : Nat → List Value} : ∀ {n i : Nat}, (∀ j, j < n → (f j).length = s) → i < n → ∀ j, j < s → ((List.range n).flatMap f)[i * s + j]? = (f i)[j]?
 |0, _, _, h, _, _ => nomatch h
 |n + 1, i, hf, hi, j, hj => by
  have hl : ∀ m, m ≤ n → ((List.range m).flatMap f).length = m * s := fun m => by
   induction m with
   |zero => intro _; simp
   |succ m ih =>
    intro hm
    rw [List.range_succ, List.flatMap_append, List.length_append, ih (by omega), Nat.succ_mul]
    simp [hf m (by omega)]
  rw [List.range_succ, List.flatMap_append]
  by_cases h : i < n
  ·have : i * s + j < n * s := by
    have h2 := Nat.mul_le_mul_right s (show i + 1 ≤ n from h)
    rw [Nat.succ_mul] at h2
    omega
   rw [List.getElem?_append_left (by rw [hl n (nr _)]; exact this)]
   exact piece (fun j hj => hf j (by omega)) h j hj
  ·have e : i = n := by omega
   subst e
   rw [List.getElem?_append_right (by rw [hl i (nr _)]; omega), hl i (nr _), show i * s + j - i * s = j by omega]
   simp
theorem mul_lt {i n s j : Nat} (hi : i < n) (hj : j < s) : i * s + j < n * s := by
 have h2 := Nat.mul_le_mul_right s (show i + 1 ≤ n from hi)
 rw [Nat.succ_mul] at h2
 omega
theorem qv {w : World} {base : Nat} {e : TypeId} {s n c p : Nat} {f : Nat → List Value} (h : w.ownsRow base e s (.slice (some ⟨p, 0, none⟩) n c) n ((List.range n).flatMap f)) (hf : ∀ j, j < n → (f j).length = s) {i : Nat} (hi : i < n) :
  ∀ j u, (f i)[j]? = some u → w.cell? ⟨p, i * s + j, none⟩ = some u := fun j u hu => by
 have hj : j < s := by
  have := (List.getElem?_eq_some_iff.1 hu).1
  rwa [hf i hi] at this
 rw [h.cellAt _ (mul_lt hi hj), piece hf hi j hj]
 exact hu
structure HiM (w0 wc : World) (rs : List RecD) (us us2 : Nat → Value) (q M M2 n : Nat) (b : bd) (A1 A2 : Option Addr) (v6 v7 v8 v9 : Value) (t : Bk3) (L P O : Value) : Prop where
 ev : EvS w0 wc q M rs us A1 n n n b v6 v7 v8 t L P O
 evs : wc.ownsRow M2 60 72 v9 n (ln rs us2 n)
 recs2 : sj wc M2 A2 us2 rs
 mle : M2 ≤ wc.heap.size
section
variable {w0 wc w' : World} {rs : List RecD} {us us2 : Nat → Value} {q M M2 n : Nat} {b : bd} {A1 A2 : Option Addr} {v6 v7 v8 v9 : Value} {t : Bk3} {L P O : Value}
theorem HiM.later (h : HiM w0 wc rs us us2 q M M2 n b A1 A2 v6 v7 v8 v9 t L P O) (hb : Below wc.heap.size wc w') : HiM w0 w' rs us us2 q M M2 n b A1 A2 v6 v7 v8 v9 t L P O :=
 ⟨h.ev.later hb, bt h.evs hb, h.recs2.stay (pt.of_below hb h.mle), Nat.le_trans h.mle hb.size⟩
theorem HiM.drew (h : HiM w0 wc rs us us2 q M M2 n b A1 A2 v6 v7 v8 v9 t L P O) : HiM w0 wc.drew rs us us2 q M M2 n b A1 A2 v6 v7 v8 v9 t L P O := h.later (br _ _).drew
end
theorem qcp (l : List UInt8) (A : Option Addr) (c B : Nat) (n : Int) (w : World) (hr : Rd w B A (ak l)) (hB : B ≤ w.heap.size) (hc : l.length ≤ c) (hc2 : c ≤ maxLen) (hn1 : -9223372036854775808 ≤ n) (hn2 : n ≤ 9223372036854775807) :
  Calls Tryz.prog 4 #[.slice A l.length c, .int .i64 n] w fun e w' => e = .returned (.bool true) ∧ Below w.heap.size w w' := by
 have HR := Lh hr
 have HBW := Lh hB
 clear hr hB
 have hll : l.length ≤ 9223372036854775807 := by simp only [maxLen] at hc2; omega
 by_cases hbig : 2000 < l.length
 ·go_enter Tryz.func4, Tryz.ntmps4
  go_wp2_with fail
  refine (zq w).mono ?_
  rintro e w2 ⟨rfl, hb2⟩
  have HB2 := Lh hb2
  clear hb2
  go_wp2_with fail
  go_ret
  exact ⟨rfl, HB2.o⟩
 have HL := Lh (show l.length ≤ 2000 by omega)
 have HRL := Lh hbig
 have hbig2 : ¬ ((2000 : Int) < (l.length : Int)) := by omega
 clear hbig
 go_enter Tryz.func4, Tryz.ntmps4
 go_wp2_with fail
 refine (qic l A c B w HR.o HBW.o (by have := HL.o; omega) hc).mono ?_
 rintro e w1 ⟨rs, n0, us, A1, q, M, v6, v7, v8, t, L, P, O, hat, rfl, hev⟩
 obtain ⟨k, hk⟩ : ∃ k, k = nEv ay rs := ⟨_, rfl⟩
 rw [← hk] at hev
 rw [← hk]
 obtain ⟨A6, c6, hv6, _, _⟩ := ap hev.recs
 obtain ⟨A7, c7, hv7, _, _⟩ := ap hev.ats
 obtain ⟨A8, c8, hv8, _, _⟩ := ap hev.books
 subst hv6 hv7 hv8
 have HAT := Lh hat
 have HEV := Lh hev
 have HKE := Lh hk
 have hk9 : k ≤ 2000 := by
  have h1 := r3 rs ay
  have h2 := si hat.lines
  have h3 := HL.o
  omega
 obtain ⟨at_, hat_⟩ : ∃ at_, at_ = evAt rs k := ⟨_, rfl⟩
 rw [← hat_]
 have HTE := Lh hat_
 clear hat hev hk hat_
 go_wp2_with fail
 refine (of_any l A c B w1 (HR.o.below (HEV.o.below.mono HBW.o)) (Nat.le_trans HBW.o HEV.o.below.size) (by have := HL.o; omega) hc).mono ?_
 rintro e w2 ⟨rs', n0', us2, A2, M2, v9, hat2, rfl, hrow2, hra2, hM3, hM4, hb2⟩
 obtain ⟨h1, _⟩ := up hat2 HAT.o
 subst h1
 rw [← HKE.o, ← HTE.o]
 rw [← HKE.o] at hrow2
 obtain ⟨A9, c9, hv9, _, _⟩ := ap hrow2
 subst hv9
 have HM := Lh (show HiM w w2 rs' us us2 q M M2 k (bkAt ay rs' k) A1 A2 (.slice A6 k c6) (.slice A7 k c7) (.slice A8 k c8) (.slice A9 k c9) t L P O from ⟨HEV.o.later hb2, hrow2, hra2, hM4⟩)
 have HBD := Lh (show Below w.heap.size w w2 from HEV.o.below.trans (hb2.mono HEV.o.below.size))
 have HKN := Lh (show k ≤ rs'.length by rw [HKE.o]; exact r3 _ _)
 clear hat2 hrow2 hra2 hM3 hM4 hb2 HEV
 go_wp2_with fail
 go_loopw [11] (fun v11 wr => ∃ i : Nat, i ≤ k ∧ v11 = .int .i64 i ∧ Hid (HiM w wr rs' us us2 q M M2 k (bkAt ay rs' k) A1 A2 (.slice A6 k c6) (.slice A7 k c7) (.slice A8 k c8) (.slice A9 k c9) t L P O) ∧ Hid (Below w.heap.size w wr)) (fun v11 _ => k - (intOf v11).toNat)
 case atStart => exact ⟨0, Nat.zero_le _, rfl, HM.o, HBD.o⟩
 case round =>
  clear HM HBD
  obtain ⟨i, hi, rfl, HM, HBD⟩ := hrel
  by_cases hlt : i < k
  ·obtain ⟨p6, c6', hv6⟩ := lb HM.o.ev.recs (by omega)
   obtain ⟨p7, c7', hv7⟩ := lb HM.o.ev.ats (by omega)
   obtain ⟨p8, c8', hv8⟩ := lb HM.o.ev.books (by omega)
   obtain ⟨p9, c9', hv9⟩ := lb HM.o.evs (by omega)
   injection hv6 with hv6 _ e6
   injection hv7 with hv7 _ e7
   injection hv8 with hv8 _ e8
   injection hv9 with hv9 _ e9
   subst hv6 hv7 hv8 hv9 e6 e7 e8 e9
   have HLT := Lh (show i < rs'.length by have := HKN.o; omega)
   obtain ⟨r, hr⟩ : ∃ r, r = rs'.getD i dw := ⟨_, rfl⟩
   have HRI := Lh (show r = rs'[i]'HLT.o by rw [hr, ra])
   have HRS := Lh hr.symm
   clear hr
   have hall : ∀ j, j < k → Hs (rs'.getD j dw) := fun j hj => by
    rw [ra (by have := HKN.o; omega)]
    exact HM.o.ev.all.hs j _
   have HHS := Lh (show Hs r by rw [← HRS.o]; exact hall i hlt)
   obtain ⟨Ak, ck, hu, hks⟩ := HM.o.ev.all.keys i HLT.o
   obtain ⟨Ak2, ck2, hu2, hks2⟩ := HM.o.recs2.keys i HLT.o
   rw [← HRI.o] at hu hks hu2 hks2
   have C6 := Lh (show ∀ j u, (ag r.kind r.seq r.kh r.kk r.mh r.ms (.slice Ak r.keys.length ck))[j]? = some u → wr.cell? ⟨p6, i * 69 + j, none⟩ = some u from by
    have := qv HM.o.ev.recs (fun j hj => ei (hall j hj) _) hlt
    rw [HRS.o, hu] at this
    exact this)
   have C7 := Lh (show wr.cell? ⟨p7, i, none⟩ = some (.int .i64 (evAt rs' i : Nat)) from by
    rw [HM.o.ev.ats.cellAt i (by omega)]
    unfold qca
    rw [List.getElem?_map, List.getElem?_range hlt]
    rfl)
   have C8 := Lh (show ∀ j u, (aj (bkAt ay rs' (i + 1)) (t.L i) (t.P i) (t.O i))[j]? = some u → wr.cell? ⟨p8, i * 5 + j, none⟩ = some u from qv HM.o.ev.books (fun _ _ => rfl) hlt)
   have C9 := Lh (show ∀ j u, (evc (evAt rs' i) r (.slice Ak2 r.keys.length ck2) (bkAt ay rs' (i + 1)).live.length (bkAt ay rs' (i + 1)).pins.length)[j]? = some u → wr.cell? ⟨p9, i * 72 + j, none⟩ = some u from by
    have := qv HM.o.evs (fun j hj => lg (hall j hj)) hlt
    rw [HRS.o, hu2] at this
    exact this)
   have HKA := Lh (hks.more HM.o.ev.qlt.2.2)
   have HKB := Lh (hks2.more HM.o.mle)
   have HTD := Lh (HM.o.ev.told i hlt)
   obtain ⟨AL, cL, hLe, _, _⟩ := HTD.o.1.form
   obtain ⟨AP, cP, hPe, _, _⟩ := HTD.o.2.1.form
   rw [j5] at hLe
   rw [hLe, hPe] at C8
   clear hu hks hu2 hks2 hall hLe hPe HTD
   go_wp2_with fail
   refine Text.wp_text [] (by kernel_rfl) (by kernel_rfl) (fun Q' hQ' => ?_)
   have C6d := Lh (show ∀ j u, (ag r.kind r.seq r.kh r.kk r.mh r.ms (.slice Ak r.keys.length ck))[j]? = some u → wr.drew.cell? ⟨p6, i * 69 + j, none⟩ = some u from C6.o)
   have c7d : wr.drew.cell? ⟨p7, i, none⟩ = some (.int .i64 (evAt rs' i : Nat)) := C7.o
   have C8d := Lh (show ∀ j u, (aj (bkAt ay rs' (i + 1)) (.slice AL (bkAt ay rs' (i + 1)).live.length cL) (.slice AP (bkAt ay rs' (i + 1)).pins.length cP) (t.O i))[j]? = some u → wr.drew.cell? ⟨p8, i * 5 + j, none⟩ = some u from C8.o)
   have C9d := Lh (show ∀ j u, (evc (evAt rs' i) r (.slice Ak2 r.keys.length ck2) (bkAt ay rs' (i + 1)).live.length (bkAt ay rs' (i + 1)).pins.length)[j]? = some u → wr.drew.cell? ⟨p9, i * 72 + j, none⟩ = some u from C9.o)
   have HMd := Lh HM.o.drew
   have HBd := Lh HBD.o.drew
   have HKAd := Lh (HKA.o.below (br _ _).drew)
   have HKBd := Lh (HKB.o.below (br _ _).drew)
   have HSd := Lh (show wr.heap.size ≤ wr.drew.heap.size from nr _)
   clear C6 C7 C8 C9 HM HBD HKA HKB
   generalize wr.heap.size = sz at *
   generalize wr.drew = w4 at *
   go_wp2_with (refine ai (some 52) rfl ?_)
   refine Stop.go (aa rfl 60 rfl rfl ev_u rfl (cs := evc (evAt rs' i) r (.slice Ak2 r.keys.length ck2) (bkAt ay rs' (i + 1)).live.length (bkAt ay rs' (i + 1)).pins.length) (qek HHS.o) C9d.o ?_)
   generalize ha : Act.put _ _ _ = z9; simp [Act.put] at ha; subst ha
   go_wp2_with (refine ai (some 56) rfl ?_)
   refine Stop.go (aa rfl 42 rfl rfl ef rfl (dc _ _ _ _ _ _ (.slice Ak r.keys.length ck) HHS.o.1 HHS.o.2) C6d.o ?_)
   generalize ha : Act.put _ _ _ = z9; simp [Act.put] at ha; subst ha
   go_wp2_with (refine ai (some 64) rfl ?_)
   refine Stop.go (aa rfl 30 rfl rfl ft rfl (cs := aj (bkAt ay rs' (i + 1)) (.slice AL (bkAt ay rs' (i + 1)).live.length cL) (.slice AP (bkAt ay rs' (i + 1)).pins.length cP) (t.O i)) (eh ..) C8d.o ?_)
   generalize ha : Act.put _ _ _ = z9; simp [Act.put] at ha; subst ha
   go_wp2_with fail
   refine (qhc (evAt rs' i) r Ak2 Ak AL AP ck2 ck cL cP _ _ sz (bkAt ay rs' (i + 1)) (t.O i) w4 HHS.o HKBd.o HKAd.o HSd.o).mono ?_
   rintro e w5 ⟨rfl, hb5⟩
   have HM5 := Lh (HMd.o.later hb5)
   have HB5 := Lh (HBd.o.trans (hb5.mono HBd.o.size))
   clear hb5 C6d c7d C8d C9d HMd HBd HKAd HKBd HSd
   go_wp2_with fail
   refine ⟨by rfl, ?_⟩
   go_wp2_with fail
   go_roundw
   case rel => exact ⟨i + 1, by omega, by go_num, HM5.o, HB5.o⟩
   case measure => simp [intOf]; omega
  ·have hik : i = k := by omega
   subst hik
   go_wp2_with (refine ai (some 12) rfl ?_)
   refine Stop.go (ax rfl 30 rfl nj (vs := aj ay nilV nilV nilV) rfl ?_)
   have hb5 : Below wr.heap.size wr (wr.alloc (.cells (aj ay nilV nilV nilV).toArray 30)) := (br _ _).alloc (nr _) _
   have HZB := Lh hb5
   have HZQ := Lh (hzn wr (.cells (aj ay nilV nilV nilV).toArray 30))
   clear hb5
   generalize wr.alloc (.cells (aj ay nilV nilV nilV).toArray 30) = w5 at *
   obtain ⟨qz, hqz⟩ : ∃ qz, qz = wr.heap.size := ⟨_, rfl⟩
   rw [← hqz] at HZQ ⊢
   have HQE := Lh (Nat.le_of_eq hqz.symm)
   clear hqz hi hlt
   generalize ha : Act.put _ _ _ = z9; simp [Act.put] at ha; subst ha
   rcases (show n ≤ 0 ∨ (0 < n ∧ i = 0) ∨ (0 < n ∧ 0 < i ∧ n < i) ∨ (0 < n ∧ 0 < i ∧ ¬ n < i) from by omega) with h1 | ⟨h1, h2⟩ | ⟨h1, h2, h3⟩ | ⟨h1, h2, h3⟩
   focus
    have HM6 := Lh (show HiM w w5 rs' us us2 q M M2 i (bkAt ay rs' i) A1 A2 (.slice A6 i c6) (.slice A7 i c7) (.slice A8 i c8) (.slice A9 i c9) t L P O from HM.o.later HZB.o)
    have HB6 := Lh (HBD.o.trans (HZB.o.mono HBD.o.size))
    have HR6 := Lh (show RB3 (ownS (.slice A6 i c6) (.slice A7 i c7) (.slice A8 i c8)) w5 ay nilV nilV nilV from ⟨SlR.nil_, SlR.nil_, SlR.nil_, ou _ _, ou _ _, ou _ _⟩)
    have HQ6 := Lh HZQ.o
    have HU6 := Lh (show ay = bkAt ay rs' (j9 n i) by rw [show j9 n i = 0 by unfold j9; omega, j7])
    clear HM HBD HZB HZQ HQE
    generalize w5 = w6 at *
    obtain ⟨bw, hbw⟩ : ∃ bw, bw = ay := ⟨_, rfl⟩
    rw [← hbw] at HR6 HQ6
    rw [show (ay = bkAt ay rs' (j9 n i)) = (bw = bkAt ay rs' (j9 n i)) by rw [hbw]] at HU6
    clear hbw
    obtain ⟨Lw, hLw⟩ : ∃ Lw, Lw = nilV := ⟨_, rfl⟩
    obtain ⟨Pw, hPw⟩ : ∃ Pw, Pw = nilV := ⟨_, rfl⟩
    obtain ⟨Ow, hOw⟩ : ∃ Ow, Ow = nilV := ⟨_, rfl⟩
    have HQ6 := Lh (show w6.heap[qz]? = some (.cells (aj bw Lw Pw Ow).toArray 30 (0, 0)) by rw [hLw, hPw, hOw]; exact HQ6.o)
    have HR6 := Lh (show RB3 (ownS (.slice A6 i c6) (.slice A7 i c7) (.slice A8 i c8)) w6 bw Lw Pw Ow by rw [hLw, hPw, hOw]; exact HR6.o)
    clear hLw hPw hOw
   rotate_left
   focus
    have h2i : ¬ ((0 : Int) < (i : Int)) := by omega
    have HI0 := Lh h2
    have hun : j9 n i = 0 := by unfold j9; omega
    clear h2
    have HM6 := Lh (show HiM w w5 rs' us us2 q M M2 i (bkAt ay rs' i) A1 A2 (.slice A6 i c6) (.slice A7 i c7) (.slice A8 i c8) (.slice A9 i c9) t L P O from HM.o.later HZB.o)
    have HB6 := Lh (HBD.o.trans (HZB.o.mono HBD.o.size))
    have HR6 := Lh (show RB3 (ownS (.slice A6 i c6) (.slice A7 i c7) (.slice A8 i c8)) w5 ay nilV nilV nilV from ⟨SlR.nil_, SlR.nil_, SlR.nil_, ou _ _, ou _ _, ou _ _⟩)
    have HQ6 := Lh HZQ.o
    have HU6 := Lh (show ay = bkAt ay rs' (j9 n i) by rw [hun, j7])
    clear HM HBD HZB HZQ HQE
    generalize w5 = w6 at *
    obtain ⟨bw, hbw⟩ : ∃ bw, bw = ay := ⟨_, rfl⟩
    rw [← hbw] at HR6 HQ6
    rw [show (ay = bkAt ay rs' (j9 n i)) = (bw = bkAt ay rs' (j9 n i)) by rw [hbw]] at HU6
    clear hbw
    obtain ⟨Lw, hLw⟩ : ∃ Lw, Lw = nilV := ⟨_, rfl⟩
    obtain ⟨Pw, hPw⟩ : ∃ Pw, Pw = nilV := ⟨_, rfl⟩
    obtain ⟨Ow, hOw⟩ : ∃ Ow, Ow = nilV := ⟨_, rfl⟩
    have HQ6 := Lh (show w6.heap[qz]? = some (.cells (aj bw Lw Pw Ow).toArray 30 (0, 0)) by rw [hLw, hPw, hOw]; exact HQ6.o)
    have HR6 := Lh (show RB3 (ownS (.slice A6 i c6) (.slice A7 i c7) (.slice A8 i c8)) w6 bw Lw Pw Ow by rw [hLw, hPw, hOw]; exact HR6.o)
    clear hLw hPw hOw
    clear hun
   rotate_left
   focus
    obtain ⟨m, hm⟩ : ∃ m : Nat, n - 1 = (m : Int) := ⟨(n - 1).toNat, by omega⟩
    have hmi : m < i := by omega
    have HUP := Lh (show j9 n i = m + 1 by unfold j9; omega)
    have h2i : (0 : Int) < (i : Int) := by omega
    have HI0 := Lh h2
    clear h2
    obtain ⟨p8, c8', hv8⟩ := lb HM.o.ev.books (by omega)
    injection hv8 with hv8 _ e8
    subst hv8 e8
    have C8 := Lh (show ∀ j u, (aj (bkAt ay rs' (m + 1)) (t.L m) (t.P m) (t.O m))[j]? = some u → w5.cell? ⟨p8, m * 5 + j, none⟩ = some u from fun j u hu => (HZB.o.cell (p := ⟨p8, m * 5 + j, none⟩) (HM.o.ev.books.lt p8 rfl).2).trans (qv HM.o.ev.books (fun _ _ => rfl) hmi j u hu))
    have HT := Lh ((HM.o.ev.told m hmi).below HZB.o)
    go_wp2_with (refine ai (some 86) rfl ?_)
    refine Stop.go (aa rfl 30 rfl rfl ft rfl (cs := aj (bkAt ay rs' (m + 1)) (t.L m) (t.P m) (t.O m)) (eh ..) C8.o ?_)
    refine ac rfl 30 rfl rfl rfl (o8 HZQ.o rfl (j3 HT.o.1 HT.o.2.1 HT.o.2.2.1)) ?_
    have hb6 := below_setRow HZB.o HQE.o (aj (bkAt ay rs' (m + 1)) (t.L m) (t.P m) (t.O m)).toArray
    have HM6 := Lh (HM.o.later hb6)
    have HB6 := Lh (HBD.o.trans (hb6.mono HBD.o.size))
    have HR6 := Lh (HT.o.five (cs2 := (aj (bkAt ay rs' (m + 1)) (t.L m) (t.P m) (t.O m)).toArray) HZQ.o rfl)
    have HQ6 := Lh (setRow_heap w5 qz _ (aj (bkAt ay rs' (m + 1)) (t.L m) (t.P m) (t.O m)).toArray _ _ HZQ.o)
    clear hb6 C8 HT HM HBD HZB HZQ HQE
    generalize w5.setRow qz (aj (bkAt ay rs' (m + 1)) (t.L m) (t.P m) (t.O m)).toArray = w6 at *
    obtain ⟨bw, hbw⟩ : ∃ bw, bw = bkAt ay rs' (m + 1) := ⟨_, rfl⟩
    rw [← hbw] at HR6 HQ6
    have HU6 := Lh (show bw = bkAt ay rs' (j9 n i) by rw [HUP.o]; exact hbw)
    clear hbw HUP
    generalize t.L m = Lw at *
    generalize t.P m = Pw at *
    generalize t.O m = Ow at *
    generalize ha : Act.put _ _ _ = z9; simp [Act.put] at ha; subst ha
   rotate_left
   focus
    obtain ⟨m, hm⟩ : ∃ m : Nat, (i : Int) - 1 = (m : Int) := ⟨((i : Int) - 1).toNat, by omega⟩
    have hmi : m < i := by omega
    have HUP := Lh (show j9 n i = m + 1 by unfold j9; omega)
    have h2i : (0 : Int) < (i : Int) := by omega
    have HI0 := Lh h2
    clear h2
    obtain ⟨p8, c8', hv8⟩ := lb HM.o.ev.books (by omega)
    injection hv8 with hv8 _ e8
    subst hv8 e8
    have C8 := Lh (show ∀ j u, (aj (bkAt ay rs' (m + 1)) (t.L m) (t.P m) (t.O m))[j]? = some u → w5.cell? ⟨p8, m * 5 + j, none⟩ = some u from fun j u hu => (HZB.o.cell (p := ⟨p8, m * 5 + j, none⟩) (HM.o.ev.books.lt p8 rfl).2).trans (qv HM.o.ev.books (fun _ _ => rfl) hmi j u hu))
    have HT := Lh ((HM.o.ev.told m hmi).below HZB.o)
    go_wp2_with (refine ai (some 86) rfl ?_)
    refine Stop.go (aa rfl 30 rfl rfl ft rfl (cs := aj (bkAt ay rs' (m + 1)) (t.L m) (t.P m) (t.O m)) (eh ..) C8.o ?_)
    refine ac rfl 30 rfl rfl rfl (o8 HZQ.o rfl (j3 HT.o.1 HT.o.2.1 HT.o.2.2.1)) ?_
    have hb6 := below_setRow HZB.o HQE.o (aj (bkAt ay rs' (m + 1)) (t.L m) (t.P m) (t.O m)).toArray
    have HM6 := Lh (HM.o.later hb6)
    have HB6 := Lh (HBD.o.trans (hb6.mono HBD.o.size))
    have HR6 := Lh (HT.o.five (cs2 := (aj (bkAt ay rs' (m + 1)) (t.L m) (t.P m) (t.O m)).toArray) HZQ.o rfl)
    have HQ6 := Lh (setRow_heap w5 qz _ (aj (bkAt ay rs' (m + 1)) (t.L m) (t.P m) (t.O m)).toArray _ _ HZQ.o)
    clear hb6 C8 HT HM HBD HZB HZQ HQE
    generalize w5.setRow qz (aj (bkAt ay rs' (m + 1)) (t.L m) (t.P m) (t.O m)).toArray = w6 at *
    obtain ⟨bw, hbw⟩ : ∃ bw, bw = bkAt ay rs' (m + 1) := ⟨_, rfl⟩
    rw [← hbw] at HR6 HQ6
    have HU6 := Lh (show bw = bkAt ay rs' (j9 n i) by rw [HUP.o]; exact hbw)
    clear hbw HUP
    generalize t.L m = Lw at *
    generalize t.P m = Pw at *
    generalize t.O m = Ow at *
    generalize ha : Act.put _ _ _ = z9; simp [Act.put] at ha; subst ha
   rotate_left
   all_goals
    have HL2 := HL.o
    go_wp2_with fail
    refine (qd5 l A c B w6 (HR.o.below (HB6.o.mono HBW.o)) (Nat.le_trans HBW.o HB6.o.size) (by omega) hc).mono ?_
    rintro e w7 ⟨g1, rs1, n1, hat1, rfl, hbk1, hg1, hb7⟩
    obtain ⟨e1, _⟩ := up hat1 HAT.o
    subst e1
    rw [qo, ← HKE.o] at hbk1
    rw [qo, ← HKE.o]
    have HK1 := Lh (show dv w7 g1 (bkAt ay rs1 i) from hbk1)
    have HM7 := Lh (HM6.o.later hb7)
    have HB7 := Lh (HB6.o.trans (hb7.mono HB6.o.size))
    have HR7 := Lh (HR6.o.below hb7)
    have HQ7 := Lh ((hb7.block _ (gl HQ6.o)).trans HQ6.o)
    clear hat1 hbk1 hg1 hb7 HM6 HB6 HR6 HQ6
    generalize evAt rs1 i = at1
    go_wp2_with fail
    refine (qe8 l A c B i w7 (HR.o.below (HB7.o.mono HBW.o)) (Nat.le_trans HBW.o HB7.o.size) (by omega) hc (by omega) (by omega)).mono ?_
    rintro e w8 ⟨rs2, n2, g2, hat2, rfl, hbk2, _, hb8⟩
    obtain ⟨e2, _⟩ := up hat2 HAT.o
    subst e2
    rw [← HKE.o, show j9 i i = i by unfold j9; omega] at hbk2
    have HK2 := Lh hbk2
    have HK18 := Lh (HK1.o.below hb8 HK1.o.lt)
    have HM8 := Lh (HM7.o.later hb8)
    have HB8 := Lh (HB7.o.trans (hb8.mono HB7.o.size))
    have HR8 := Lh (HR7.o.below hb8)
    have HQ8 := Lh ((hb8.block _ (gl HQ7.o)).trans HQ7.o)
    clear hat2 hbk2 hb8 HM7 HB7 HR7 HQ7 HK1
    go_wp2_with fail
    refine m4 (fun w' => Below w8.drew.heap.size w8.drew w') [4] 26 (by kernel_rfl) rfl ?_
    have HB9 := Lh HB8.o.drew
    have HR9 := Lh (HR8.o.below (br _ _).drew)
    have HQ9 := Lh (show w8.drew.heap[qz]? = some (.cells (aj bw Lw Pw Ow).toArray 30 (0, 0)) from HQ8.o)
    have HK19 := Lh (show dv w8.drew g1 (bkAt ay rs2 i) from HK18.o.below (br _ _).drew HK18.o.lt)
    have HK29 := Lh (show dv w8.drew g2 (bkAt ay rs2 i) from HK2.o.below (br _ _).drew HK2.o.lt)
    have HHR := Lh (show ∀ r ∈ rs2, Hs r from fun r hr => (HAT.o.good r hr).2.1)
    have HGI := Lh (show Good (bkAt ay rs2 i) from rg HHR.o i (Nat.le_of_eq HKE.o))
    have HGU := Lh (show Good bw by rw [HU6.o]; exact rg HHR.o _ (by rw [← HKE.o]; unfold j9; omega))
    have HN2 := Lh (show rs2.length ≤ 10000 by have := si HAT.o.lines; omega)
    have HLI := Lh (show (bkAt ay rs2 i).live.length ≤ 10000 ∧ (bkAt ay rs2 i).pins.length ≤ 10000 by have := x7 (Nat.le_of_eq HKE.o) HN2.o; exact ⟨this.1, this.2.1⟩)
    have HLU := Lh (show bw.live.length ≤ 10000 ∧ bw.pins.length ≤ 10000 by rw [HU6.o]; have := x7 (rs := rs2) (i := j9 n i) (by rw [← HKE.o]; unfold j9; omega) HN2.o; exact ⟨this.1, this.2.1⟩)
    clear HB8 HR8 HQ8 HK18 HK2 HM8 HHR HN2
    generalize w8.drew = w9 at *
    have HQL := Lh (gl HQ9.o)
    have HLI9 := HLI.o
    refine wq2 (i := 0) (v := .slice A l.length c) rfl (by kernel_rfl) rfl (fun wq => by go_simp) (okU (br _ _)) ?_
    generalize ha : Act.put _ _ _ = z9; simp [Act.put] at ha; subst ha
    refine wq2 (i := 1) (v := .int .i64 n) rfl (by kernel_rfl) rfl (fun wq => by go_simp) (okU (br _ _)) ?_
    generalize ha : Act.put _ _ _ = z9; simp [Act.put] at ha; subst ha
    refine wq3 (i := 3) (v := .agg (aj bw Lw Pw Ow).toArray) rfl (by kernel_rfl) rfl (fun wq hbq => ee rfl rfl (fx ft rfl (eh ..) (fun j u hu => (hbq.cell (p := ⟨qz, 0 + j, none⟩) HQL.o).trans (au (vs := aj bw Lw Pw Ow) HQ9.o j u hu)))) (br _ _) ?_
    generalize ha : Act.put _ _ _ = z9; simp [Act.put] at ha; subst ha
    refine ch (i := 2) (by kernel_rfl) rfl (fun Q' hQ' => ?_)
    go_wp2_with fail
    refine (qe8 l A c B n w9 (HR.o.below (HB9.o.mono HBW.o)) (Nat.le_trans HBW.o HB9.o.size) (by omega) hc hn1 hn2).mono ?_
    rintro e wA ⟨rs3, n3, g3, hat3, rfl, hbk3, _, hbA⟩
    obtain ⟨e3, _⟩ := up hat3 HAT.o
    subst e3
    rw [← HKE.o, ← HU6.o] at hbk3
    have HKA := Lh hbk3
    have HBA := Lh hbA
    have HRA := Lh (HR9.o.below hbA)
    have HXA := Lh (HB9.o.trans (hbA.mono HB9.o.size))
    have HK1A := Lh (HK19.o.below hbA HK19.o.lt)
    have HK2A := Lh (HK29.o.below hbA HK29.o.lt)
    clear hat3 hbk3 hbA HR9 HB9 HK19 HK29
    go_wp2_with fail
    refine ⟨okU HBA.o, ?_⟩
    refine ch (i := 4) (by kernel_rfl) rfl (fun Q' hQ' => ?_)
    go_wp2_with fail
    refine (qha g3 bw (.agg (aj bw Lw Pw Ow).toArray) wA.heap.size wA HKA.o ⟨Lw, Pw, Ow, rfl, HRA.o.1, HRA.o.2.1, HRA.o.2.2.1⟩ HGU.o (nr _) HLU.o).mono ?_
    rintro e wB ⟨rfl, hbB⟩
    have HXB := Lh (HXA.o.trans (hbB.mono HXA.o.size))
    have HK1B := Lh (HK1A.o.below hbB HK1A.o.lt)
    have HK2B := Lh (HK2A.o.below hbB HK2A.o.lt)
    clear hbB HXA HK1A HK2A HKA HBA HRA HQ9 HQL
    go_wp2_with fail
    refine ⟨bu (by kernel_rfl), ?_⟩
    refine wq2 (i := 5) (v := .bool true) rfl (by kernel_rfl) rfl (fun wq => by go_simp) (bu (by kernel_rfl)) ?_
    generalize ha : Act.put _ _ _ = z9; simp [Act.put] at ha; subst ha
    refine wq2 (i := 6) (v := .bool true) rfl (by kernel_rfl) rfl (fun wq => by go_simp) (bu (by kernel_rfl)) ?_
    generalize ha : Act.put _ _ _ = z9; simp [Act.put] at ha; subst ha
    refine wq2 (i := 7) (v := bptr g1) rfl (by kernel_rfl) rfl (fun wq => by go_simp) (bu (by kernel_rfl)) ?_
    generalize ha : Act.put _ _ _ = z9; simp [Act.put] at ha; subst ha
    refine wq2 (i := 10) (v := bptr g2) rfl (by kernel_rfl) rfl (fun wq => by go_simp) (bu (by kernel_rfl)) ?_
    generalize ha : Act.put _ _ _ = z9; simp [Act.put] at ha; subst ha
    refine ch (i := 8) (by kernel_rfl) rfl (fun Q' hQ' => ?_)
    go_wp2_with fail
    refine (ns g1 (bkAt ay rs3 i) wB HK1B.o HGI.o HLI.o.1 HLI.o.2).mono ?_
    rintro e wC ⟨vC, rfl, hoC, hbC⟩
    obtain ⟨AC, cC, hvC, _, _⟩ := ap hoC
    subst hvC
    obtain ⟨bk, hbke⟩ : ∃ bk, bk = bkAt ay rs3 i := ⟨_, rfl⟩
    rw [← hbke] at HK1B HK2B HGI HLI hoC ⊢
    have HLN := Lh (And.intro HLI.o (And.intro HGI.o hbke))
    clear HLI9 HGI HLI hbke
    obtain ⟨nL, hnL⟩ : ∃ nL, nL = (jn bk).length := ⟨_, rfl⟩
    rw [← hnL] at hoC ⊢
    have HNL := Lh hnL
    clear hnL
    have HOC := Lh hoC
    have HXC := Lh (HXB.o.trans (hbC.mono HXB.o.size))
    have HK1C := Lh (HK1B.o.below hbC HK1B.o.lt)
    have HK2C := Lh (HK2B.o.below hbC HK2B.o.lt)
    clear hoC hbC HXB HK1B HK2B
    obtain ⟨sa, hsa⟩ : ∃ sa : ByteArray, sa = ⟨(jn bk).toArray⟩ := ⟨_, rfl⟩
    have HCV := Lh (show ∀ (wq w' : World) (A : Option Addr) (c base : Nat), wq.ownsRow base 5 1 (.slice A nL c) nL (ak (jn bk)) → Below wq.heap.size wq w' → (convert 44 9 (.slice A nL c)).run Tryz.prog w' = .ok (.string sa) w' from fun wq w' A c base ho hb => by
     rw [hsa]
     exact kr (P := Tryz.prog) (Rd.of_own (bt ho hb)) Tryz.underlying44 Tryz.underlying5 Tryz.underlying9 _ HNL.o c)
    clear hsa
    go_wp2_with fail
    refine ⟨bu (by kernel_rfl), ?_⟩
    refine pv (i := 9) (j := 11) (by kernel_rfl) rfl rfl (fun Q' hQ' => ?_) (fun Q' hQ' => ?_)
    focus
     have hcv := HCV.o wC wC AC cC _ HOC.o (br _ _)
     go_wp2_with fail
     refine ⟨bu (by kernel_rfl), ?_⟩
     clear hcv
     refine ch (i := 11) (by kernel_rfl) rfl (fun Q' hQ' => ?_)
     go_wp2_with fail
     refine (ns g2 bk wC HK2C.o HLN.o.2.1 HLN.o.1.1 HLN.o.1.2).mono ?_
     rintro e wD ⟨vD, rfl, hoD, hbD⟩
     rw [← HNL.o] at hoD
     obtain ⟨AD, cD, hvD, _, _⟩ := ap hoD
     subst hvD
     have HOD := Lh hoD
     have HBD := Lh hbD
     have HXD := Lh (HXC.o.trans (hbD.mono HXC.o.size))
     have HK1D := Lh (HK1C.o.below hbD HK1C.o.lt)
     have HK2D := Lh (HK2C.o.below hbD HK2C.o.lt)
     clear hoD hbD HXC HK1C HK2C
     go_wp2_with fail
     refine ⟨bu (by kernel_rfl), ?_⟩
     refine ch (i := 12) (by kernel_rfl) rfl (fun Q' hQ' => ?_)
     have hcv := HCV.o wD wD AD cD _ HOD.o (br _ _)
     go_wp2_with fail
     refine ⟨bu (by kernel_rfl), ?_⟩
     clear hcv
    rotate_left
    focus
     go_wp2_with fail
     refine (ns g2 bk wC HK2C.o HLN.o.2.1 HLN.o.1.1 HLN.o.1.2).mono ?_
     rintro e wD ⟨vD, rfl, hoD, hbD⟩
     rw [← HNL.o] at hoD
     obtain ⟨AD, cD, hvD, _, _⟩ := ap hoD
     subst hvD
     have HOD := Lh hoD
     have HBD := Lh hbD
     have HXD := Lh (HXC.o.trans (hbD.mono HXC.o.size))
     have HK1D := Lh (HK1C.o.below hbD HK1C.o.lt)
     have HK2D := Lh (HK2C.o.below hbD HK2C.o.lt)
     clear hoD hbD HXC HK1C HK2C
     go_wp2_with fail
     refine ⟨bu (by kernel_rfl), ?_⟩
     refine pv (i := 9) (j := 12) (by kernel_rfl) rfl rfl (fun Q' hQ' => ?_) (fun Q' hQ' => ?_)
    focus
     have hcv := HCV.o wC wD AC cC _ HOC.o HBD.o
     go_wp2_with fail
     refine ⟨bu (by kernel_rfl), ?_⟩
     clear hcv
     refine ch (i := 12) (by kernel_rfl) rfl (fun Q' hQ' => ?_)
     have hcv := HCV.o wD wD AD cD _ HOD.o (br _ _)
     go_wp2_with fail
     refine ⟨bu (by kernel_rfl), ?_⟩
     clear hcv
    rotate_left
    focus
     have hcv := HCV.o wD wD AD cD _ HOD.o (br _ _)
     go_wp2_with fail
     refine ⟨bu (by kernel_rfl), ?_⟩
     clear hcv
     refine ch (i := 9) (by kernel_rfl) rfl (fun Q' hQ' => ?_)
     have hcv := HCV.o wC wD AC cC _ HOC.o HBD.o
     go_wp2_with fail
     refine ⟨bu (by kernel_rfl), ?_⟩
     clear hcv
    rotate_left
    all_goals
     clear HCV HOC HOD HBD
     obtain ⟨nx, hnx⟩ : ∃ nx, nx = bk.next := ⟨_, rfl⟩
     have HNX := Lh hnx
     clear hnx
     refine wq2 (i := 13) (v := .bool true) rfl (by kernel_rfl) rfl (fun wq => by go_simp) (bu (by kernel_rfl)) ?_
     generalize ha : Act.put _ _ _ = z9; simp [Act.put] at ha; subst ha
     refine wq2 (i := 14) (v := .bool true) rfl (by kernel_rfl) rfl (fun wq => by go_simp) (bu (by kernel_rfl)) ?_
     generalize ha : Act.put _ _ _ = z9; simp [Act.put] at ha; subst ha
     refine wq2 (i := 15) (v := .bool true) rfl (by kernel_rfl) rfl (fun wq => by go_simp) (bu (by kernel_rfl)) ?_
     generalize ha : Act.put _ _ _ = z9; simp [Act.put] at ha; subst ha
     refine wq2 (i := 16) (v := bptr g1) rfl (by kernel_rfl) rfl (fun wq => by go_simp) (bu (by kernel_rfl)) ?_
     generalize ha : Act.put _ _ _ = z9; simp [Act.put] at ha; subst ha
     refine wq2 (i := 18) (v := bptr g2) rfl (by kernel_rfl) rfl (fun wq => by go_simp) (bu (by kernel_rfl)) ?_
     generalize ha : Act.put _ _ _ = z9; simp [Act.put] at ha; subst ha
     refine ch (i := 17) (by kernel_rfl) rfl (fun Q' hQ' => ?_)
     go_wp2_with fail
     refine (qa9 g1 bk wD HK1D.o).mono ?_
     rintro e wE ⟨rfl, rfl⟩
     rw [← HNX.o]
     go_wp2_with fail
     refine ⟨bu (by kernel_rfl), ?_⟩
     refine ch (i := 19) (by kernel_rfl) rfl (fun Q' hQ' => ?_)
     go_wp2_with fail
     refine (qa9 g2 bk wD HK2D.o).mono ?_
     rintro e wF ⟨rfl, rfl⟩
     rw [← HNX.o]
     go_wp2_with fail
     refine ⟨bu (by kernel_rfl), ?_⟩
     refine wq2 (i := 20) (v := .bool true) rfl (by kernel_rfl) rfl (fun wq => by go_simp) (bu (by kernel_rfl)) ?_
     generalize ha : Act.put _ _ _ = z9; simp [Act.put] at ha; subst ha
     refine wq2 (i := 21) (v := .bool true) rfl (by kernel_rfl) rfl (fun wq => by go_simp) (bu (by kernel_rfl)) ?_
     generalize ha : Act.put _ _ _ = z9; simp [Act.put] at ha; subst ha
     refine wq2 (i := 22) (v := .bool true) rfl (by kernel_rfl) rfl (fun wq => by go_simp) (bu (by kernel_rfl)) ?_
     generalize ha : Act.put _ _ _ = z9; simp [Act.put] at ha; subst ha
     refine ch (i := 23) (by kernel_rfl) rfl (fun Q' hQ' => ?_)
     go_wp2_with fail
     refine (zq wD).mono ?_
     rintro e wG ⟨rfl, hbG⟩
     have HXG := Lh (HXD.o.trans (hbG.mono HXD.o.size))
     clear hbG
     go_wp2_with fail
     refine ⟨bu (by kernel_rfl), ?_⟩
     refine wq2 (i := 24) (v := .bool true) rfl (by kernel_rfl) rfl (fun wq => by go_simp) (bu (by kernel_rfl)) ?_
     generalize ha : Act.put _ _ _ = z9; simp [Act.put] at ha; subst ha
     refine ch (i := 25) (by kernel_rfl) rfl (fun Q' hQ' => ?_)
     go_wp2_with fail
     refine ⟨bu (by kernel_rfl), ?_⟩
     refine mg (by kernel_rfl) ?_ _
     go_wp2_with fail
     go_ret
     exact ⟨rfl, HXG.o⟩
end Go.Proofs.YtplbcbamnjnhlaaGreatDoor
namespace Go.Proofs.YtplbcbamnjnhlaaGreatDoor
open Go.ChangeShapes Go.WideShapes Go.ChangeAt Go.RowKit

section
variable {H : Type} {enc : TypeId × Value → H}
end
theorem i64_bd {n : Int} (h : (Lit.int .i64 n).wf = true) : -9223372036854775808 ≤ n ∧ n ≤ 9223372036854775807 := by
 simp [Lit.wf, IntKind.min, IntKind.max, IntKind.signed, IntKind.bits] at h
 omega
end Go.Proofs.YtplbcbamnjnhlaaGreatDoor
namespace Go.Proofs.YtplbcbamnjnhlaaGreatDoor
open Go.ChangeShapes Go.WideShapes Go.ChangeAt Go.RowKit

theorem own : ownKnob Tryz.prog.godebug = none := by kernel_rfl
theorem laidOut : laidOutB Tryz.prog = true := by kernel_rfl
abbrev list32 : List (String × DataW Unit) := Rows.bookBackRow.laid
def tab32 : Array Value := (#[0, 1, 28, 2, 29, 14, 24, 3, 30, 22, 20, 15, 25, 17, 4, 8, 31, 27, 13, 23, 21, 19, 16, 7, 26, 12, 18, 6, 11, 5, 10, 9] : Array Int).map fun z => .int .u8 z
def tab64 : Array Value := (#[0, 1, 56, 2, 57, 49, 28, 3, 61, 58, 42, 50, 38, 29, 17, 4, 62, 47, 59, 36, 45, 43, 51, 22, 53, 39, 33, 30, 24, 18, 12, 5, 63, 55, 48, 27, 60, 41, 37, 16, 46, 35, 44, 21, 52, 32, 23, 11, 54, 26, 40, 15, 34, 20, 31, 10, 25, 14, 19, 9, 13, 8, 7, 6] : Array Int).map fun z => .int .u8 z
def tabPow : Array Value := (#[1, 10, 100, 1000, 10000, 100000, 1000000, 10000000, 100000000, 1000000000, 10000000000, 100000000000, 1000000000000, 10000000000000, 100000000000000, 1000000000000000, 10000000000000000, 100000000000000000, 1000000000000000000, 10000000000000000000] : Array Int).map fun z => .int .u64 z
def putIn (cs : Array Value) : Obj → Obj
 |.cells _ t frozen => .cells cs t frozen
 |o => o
noncomputable def yw (os : Os) : World :=
 let w0 := World.holding Tryz.prog os ⟨#[], #[], []⟩
 { w0 with heap := ((w0.heap.modify 2 (putIn tab32)).modify 3 (putIn tab64)).modify 0 (putIn tabPow) }
theorem qhw (os : Os) (args : Array Value) : laidMet Tryz.prog list32 ((yw os).forCall (fun _ _ => 0) ⟨#[], args, []⟩).memory :=
 laidMet_of_run' 8 (by kernel_rfl) (by kernel_rfl)
end Go.Proofs.YtplbcbamnjnhlaaGreatDoor
