/- Texts of this proof joined: BookReplay, Hist2, Hist3, Hist4, Hist5. -/
import Derived.Test.YtplbcbamnjnhlaaGreatDoorMT00
import Derived.Test.YtplbcbamnjnhlaaGreatDoorMT33
import Derived.Test.YtplbcbamnjnhlaaGreatDoorMT31
import Derived.Test.YtplbcbamnjnhlaaGreatDoorMT24
import Derived.Test.YtplbcbamnjnhlaaGreatDoorMT29
import Derived.Test.YtplbcbamnjnhlaaGreatDoorMT22
set_option maxRecDepth 100000
set_option maxHeartbeats 40000000
namespace Go.Proofs.YtplbcbamnjnhlaaGreatDoor
open Go.RowKit

theorem ov {l : List UInt8} {rs : List RecD} {n0 : Nat} (h : jq l rs n0) (i : Nat) : ((rs.take i).flatMap ca).length ≤ l.length := by
 have h1 := congrArg List.length h.lines
 rw [List.length_take] at h1
 have h2 : rs.flatMap ca = (rs.take i).flatMap ca ++ (rs.drop i).flatMap ca := by rw [← List.flatMap_append, List.take_append_drop]
 rw [h2, List.length_append] at h1
 omega

def WalkTo (l : List UInt8) (C : Nat) (mr : Nat → Bool) (K : List RecD → (Nat → Value) → Nat → Nat → World → Prop) (w : World) (e : Ending) (w' : World) : Prop :=
 ∃ rs n0 us A g M i, jq l rs n0 ∧ i ≤ nEv az rs ∧ (i = nEv az rs ∨ mr i = false) ∧ (∀ j, j < i → mr j = true) ∧ e = .returned (.tuple #[bptr g, .int .i64 (evAt rs i : Nat)]) ∧
  eh w' g (bkAt az rs i) ∧ K rs us M i w' ∧ so w' M A us rs ∧ w.heap.size ≤ g ∧ g + 4 ≤ M ∧ M ≤ w'.heap.size ∧ Below C w w'
def qqd (F : Nat) (caps : List Value) (N C : Nat) (mr : Nat → Bool) (K : List RecD → (Nat → Value) → Nat → Nat → World → Prop) (l : List UInt8) : Prop :=
 ∀ (rs : List RecD) (n0 : Nat) (us : Nat → Value) (g M i : Nat) (A2 : Option Addr) (c2 : Nat) (w1 : World) (r : RecD) (b : bj) (at_ : Nat) (hi : i < rs.length), jq l rs n0 → N ≤ g → g + 4 ≤ M → M ≤ w1.heap.size → i < nEv az rs →
  r = rs[i] → b = bkAt az rs i → at_ = evAt rs i → us i = .slice A2 r.keys.length c2 → Hs r →
  eh w1 g b → Good b → K rs us M i w1 →
  Calls Tryz.prog F (Value.int .i64 (at_ : Nat) :: rv r (.slice A2 r.keys.length c2) :: bptr g :: caps).toArray w1 fun e w2 => e = .returned (.bool (mr i)) ∧ Shut C g M w1 w2 ∧ K rs us M (if mr i then i + 1 else i) w2
theorem qdz (l : List UInt8) (A : Option Addr) (c B : Nat) (w : World) (hr : Rd w B A (ak l)) (hB : B ≤ w.heap.size) (hl : l.length ≤ 68719476736) (hc : l.length ≤ c) (C : Nat) (hC : C ≤ w.heap.size)
  (mr : Nat → Bool) (K : List RecD → (Nat → Value) → Nat → Nat → World → Prop) (F : Nat) (cap : List Value) (hF : ∀ (args : Array Value) (w' : World), (callFunc F args).run Tryz.prog w' = .ok (.enter F args) w') (hK0 : ∀ rs us M w', Below w.heap.size w w' → w.heap.size ≤ M → K rs us M 0 w')
  (hKb : ∀ rs us g M i w1 w2, w.heap.size ≤ g → g + 4 ≤ M → M ≤ w1.heap.size → K rs us M i w1 → fp g w1 w2 → K rs us M i w2) (hKc : qqd F cap w.heap.size C mr K l) :
  Calls Tryz.prog 43 #[.slice A l.length c, .func (.func F) #[] cap.toArray] w (WalkTo l C mr K w) := by
 have HR := Lh hr
 have HBW := Lh hB
 have HK0 := Lh hK0
 have HKB := Lh hKb
 have HKC := Lh hKc
 have HCW := Lh hC
 have HF := Lh hF
 clear hr hB hK0 hKb hKc hC hF
 go_enter Tryz.func43, Tryz.ntmps43
 go_wp2_with fail
 refine (qrd w).mono ?_
 rintro e w1 ⟨rfl, hbk, hb1, hs1⟩
 have HBK1 := Lh hbk
 have HB1 := Lh hb1
 have HS1 := Lh hs1
 clear hbk hb1 hs1
 obtain ⟨g, hg⟩ : ∃ g, g = w.heap.size := ⟨_, rfl⟩
 rw [← hg] at HBK1 HS1
 rw [← hg]
 have HGG := Lh hg
 clear hg
 have HAL := Lh (quq l A c B w1 (HR.o.below (HB1.o.mono HBW.o)) (Nat.le_trans HBW.o HB1.o.size) hl hc)
 go_wp2_with fail
 refine HAL.o.mono ?_
 rintro e w2 ⟨rs, n0, v, rfl, hat, ho, hb2⟩
 have HAT := Lh hat
 have HB2 := Lh hb2
 obtain ⟨A1, c1, rfl, hc1, _⟩ := ho.form
 obtain ⟨us, hus⟩ := qqw ho.sl
 have HSL := Lh ho.sl
 have HUS := Lh hus
 clear hat ho hb2 HAL hus
 obtain ⟨n, hn⟩ : ∃ n, n = rs.length := ⟨_, rfl⟩
 rw [← hn] at HSL hc1
 rw [← hn]
 have HN := Lh hn
 clear hn
 have hc9 := (HSL.o.n_le).2
 clear HSL
 obtain ⟨M, hM⟩ : ∃ M, M = w2.heap.size := ⟨_, rfl⟩
 rw [← hM] at HUS
 have HMM := Lh hM
 have HBK2 := Lh (HBK1.o.below HB2.o HBK1.o.lt)
 have HB3 := Lh (HB1.o.trans (HB2.o.mono HB1.o.size))
 have HGM := Lh (show g + 4 ≤ M by have := HB2.o.size; have := HS1.o; omega)
 clear hM HBK1 HB1 HB2 HS1
 go_wp2_with fail
 go_loopw [22, 7] (fun v22 v7 wr => ∃ (i : Nat), i ≤ n ∧ v22 = .int .i64 i ∧ v7 = .int .i64 (evAt rs i : Nat) ∧ Hid (i ≤ nEv az rs ∧ ∀ j, j < i → mr j = true) ∧ Hid (eh wr g (bkAt az rs i)) ∧ Hid (K rs us M i wr) ∧
  Hid (so wr M A1 us rs) ∧ Hid (M ≤ wr.heap.size) ∧ Hid (Below C w wr)) (fun v22 _ _ => n - (intOf v22).toNat)
 case atStart => exact ⟨0, Nat.zero_le _, rfl, rfl, ⟨Nat.zero_le _, fun j hj => nomatch hj⟩, by rw [nd]; exact HBK2.o, HK0.o _ _ _ _ HB3.o (by have := HGM.o; have := HGG.o; omega), HUS.o, (show M ≤ w2.heap.size by have := HMM.o; omega), HB3.o.mono HCW.o⟩
 case round =>
  clear HBK2 HUS HK0
  obtain ⟨i, hi, rfl, rfl, HEV, HK, HKK, HRA, HMW, HB⟩ := hrel
  obtain ⟨k, hk⟩ : ∃ k, k = evAt rs i := ⟨_, rfl⟩
  have hkl : evAt rs i ≤ l.length := ov HAT.o i
  rw [← hk] at hkl
  rw [← hk]
  have HKE := Lh hk
  clear hk
  obtain ⟨b, hb⟩ : ∃ b, b = bkAt az rs i := ⟨_, rfl⟩
  rw [← hb] at HK
  have HBE := Lh hb
  clear hb
  have HGD := Lh (show Good b by rw [HBE.o]; exact tq (fun r hr => (HAT.o.good r hr).2.1) i HEV.o.1)
  by_cases hlt : i < n
  ·have hlt2 : i < rs.length := by rw [← HN.o]; exact hlt
   obtain ⟨b1, o1, rfl, hb1g, hcell⟩ := HRA.o.row i hlt2
   obtain ⟨A2, c2, hu, hks⟩ := HRA.o.keys i hlt2
   have hhs := HRA.o.hs i hlt2
   rw [hu] at hcell
   obtain ⟨r, hr⟩ : ∃ r, r = rs[i] := ⟨_, rfl⟩
   rw [← hr] at hhs hks hcell hu
   have HRI := Lh hr
   have HUI := Lh hu
   have HHS := Lh hhs
   have HKS := Lh hks
   have HC := Lh hcell
   have HLT2 := Lh hlt2
   have HGR := Lh (show ke r from HAT.o.good r (by rw [hr]; exact List.getElem_mem _))
   have HRI2 := Lh (show rs[i] = r from hr.symm)
   have HRL := Lh (show ∀ h : i < rs.length, r = rs[i] from fun _ => HRI.o)
   clear hr hhs hks hcell hu HRI HRI2 hlt2
   go_wp2_with (refine ai (some 25) rfl ?_)
   refine Stop.go (aa rfl 38 rfl rfl dr rfl (bk _ _ _ _ _ _ _ HHS.o.1 HHS.o.2) HC.o ?_)
   refine av rfl 38 rfl gn rfl ?_
   refine ac rfl 38 rfl rfl rfl (ch (g := wr.heap.size) rfl (bb ..) (bk _ _ _ _ _ _ _ HHS.o.1 HHS.o.2) (by rw [List.size_toArray, ah, ah, HHS.o.1, HHS.o.2]; rfl) (bd _ _ _ _ _ _ _ _ _)) ?_
   have hb4 : Below wr.heap.size wr (wr.alloc (.cells (ag r.kind r.seq r.kh r.kk r.mh r.ms (.slice A2 r.keys.length c2)).toArray 38)) := (br _ _).alloc (nr _) _
   have HG4 := Lh (hzn wr (.cells (ag r.kind r.seq r.kh r.kk r.mh r.ms (.slice A2 r.keys.length c2)).toArray 38))
   have HS4 := Lh (sz_ wr (.cells (ag r.kind r.seq r.kh r.kk r.mh r.ms (.slice A2 r.keys.length c2)).toArray 38))
   generalize wr.alloc (.cells (ag r.kind r.seq r.kh r.kk r.mh r.ms (.slice A2 r.keys.length c2)).toArray 38) = w4 at *
   generalize ha : Act.put _ _ _ = z9; simp [Act.put] at ha; subst ha
   go_wp2_with (refine ai (some 27) rfl ?_)
   refine Stop.go (aa rfl 38 rfl rfl dr rfl (bk _ _ _ _ _ _ _ HHS.o.1 HHS.o.2) (aq HG4.o) ?_)
   generalize ha : Act.put _ _ _ = z9; simp [Act.put] at ha; subst ha
   go_wp2_with fail
   have hb5 : Below w4.heap.size w4 w4 := br _ _
   have HB4 := Lh hb4
   clear hb4 hb5
   have hk4 := HK.o.below HB4.o HK.o.lt
   have hks4 := HKS.o.below (HB4.o.mono HMW.o)
   have hm4 : M ≤ w4.heap.size := Nat.le_trans HMW.o HB4.o.size
   refine (qhz g b r A2 r.keys.length c2 M w4 hk4 HGD.o HHS.o hks4 hm4).mono ?_
   rintro e w5 ⟨rfl, hb5⟩
   have HB5 := Lh (HB4.o.trans (hb5.mono HB4.o.size))
   have HG5 := Lh ((hb5.block wr.heap.size (by rw [HS4.o]; omega)).trans HG4.o)
   have HS5 := Lh (show wr.heap.size < w5.heap.size from Nat.lt_of_lt_of_le (by rw [HS4.o]; omega) hb5.size)
   clear hb5 hk4 hks4 hm4 HG4 HS4 HB4
   rcases Bool.eq_false_or_eq_true (mayD b r) with hm | hm
   rotate_left
   ·rw [hm]
    have HM := Lh hm
    clear hm
    go_wp2_with fail
    go_ret2
    refine ⟨rs, n0, us, some ⟨b1, o1, none⟩, g, M, i, HAT.o, HEV.o.1, .inl (qae rs az i HLT2.o HEV.o.1 ?_), HEV.o.2, by rw [HKE.o]; rfl, ?_, HKB.o _ _ g _ _ _ _ (Nat.le_of_eq HGG.o.symm) HGM.o HMW.o HKK.o (fp.of_below HB5.o), HRA.o.stay (pq.of_below HB5.o HMW.o), Nat.le_of_eq HGG.o.symm, HGM.o, Nat.le_trans HMW.o HB5.o.size, HB.o.trans (HB5.o.mono (Nat.le_trans HCW.o (by have := HGG.o; have := HGM.o; have := HMW.o; omega)))⟩
    ·rw [← HBE.o, ← HRL.o]; exact HM.o
    ·rw [← HBE.o]; exact HK.o.below HB5.o HK.o.lt
   ·rw [hm]
    have HM := Lh hm
    clear hm
    go_wp2_with (refine ai (some 33) rfl ?_)
    refine Stop.go (aw (by rfl) 38 rfl rfl dr rfl (bk _ _ _ _ _ _ _ HHS.o.1 HHS.o.2) (aq HG5.o) ?_)
    generalize ha : Act.put _ _ _ = z9; simp [Act.put] at ha; subst ha
    go_wp2_with fail
    have hm5 : M ≤ w5.heap.size := Nat.le_trans HMW.o HB5.o.size
    have hev : i < nEv az rs := by
     have h1 := (qg rs az i HLT2.o HEV.o.1 (by rw [← HBE.o, ← HRL.o]; exact HM.o)).1
     omega
    have HEV2 := Lh hev
    have HK5 := Lh (HK.o.below HB5.o HK.o.lt)
    have HKK5 := Lh (HKB.o rs us g M i wr w5 (Nat.le_of_eq HGG.o.symm) HGM.o HMW.o HKK.o (fp.of_below HB5.o))
    have HRA5 := Lh (HRA.o.stay (pq.of_below HB5.o HMW.o))
    have HM5 := Lh hm5
    have HBB5 := Lh (HB.o.trans (HB5.o.mono (Nat.le_trans HCW.o (by have := HGG.o; have := HGM.o; have := HMW.o; omega))))
    have HCM := Lh (show C ≤ M by have := HCW.o; have := HGG.o; have := HGM.o; omega)
    clear hm5 hev HK HKK HRA HB HB5
    rw [HF.o]
    refine (HKC.o rs n0 us g M i A2 c2 w5 r b k HLT2.o HAT.o (Nat.le_of_eq HGG.o.symm) HGM.o HM5.o HEV2.o (HRL.o _) HBE.o HKE.o HUI.o HHS.o HK5.o HGD.o HKK5.o).mono ?_
    rintro e w6 ⟨rfl, hsh, hk6⟩
    have HK6 := Lh (hsh.book HK5.o HGM.o)
    have HKK6 := Lh hk6
    have HRA6 := Lh (HRA5.o.stay (hsh.stays HM5.o))
    have HM6 := Lh (Nat.le_trans HM5.o hsh.size)
    have HBB6 := Lh (HBB5.o.trans (hsh.below HCM.o HM5.o))
    have HG6 := Lh hsh
    have HKS6 := Lh (show SlR eKey w6 M (.slice A2 r.keys.length c2) r.keys from by
     obtain ⟨A3, c3, hu3, hk3⟩ := HRA6.o.keys i HLT2.o
     rw [← HRL.o, HUI.o] at hu3
     rw [← HRL.o] at hk3
     rw [hu3]
     exact hk3)
    clear hsh hk6 HK5 HKK5 HRA5 HBB5
    cases hmr : mr i
    ·go_wp2_with fail
     go_ret2
     refine ⟨rs, n0, us, some ⟨b1, o1, none⟩, g, M, i, HAT.o, HEV.o.1, .inr hmr, HEV.o.2, by rw [HKE.o]; rfl, ?_, ?_, HRA6.o, Nat.le_of_eq HGG.o.symm, HGM.o, HM6.o, HBB6.o⟩
     ·rw [← HBE.o]; exact HK6.o
     ·have := HKK6.o
      rw [hmr] at this
      simpa using this
    ·have HMR := Lh hmr
     have HKK7 := Lh (show K rs us M (i + 1) w6 by
      have := HKK6.o
      rw [hmr] at this
      simpa using this)
     have HR6 := Lh ((HG6.o.kept _ _ HG5.o).trans HG5.o)
     have HS6 := Lh (Nat.lt_of_lt_of_le HS5.o HG6.o.size)
     clear hmr HKK6 HG6 HG5 HS5
     go_wp2_with (refine ai (some 39) rfl ?_)
     refine Stop.go (aa rfl 38 rfl rfl dr rfl (bk _ _ _ _ _ _ _ HHS.o.1 HHS.o.2) (aq HR6.o) ?_)
     generalize ha : Act.put _ _ _ = z9; simp [Act.put] at ha; subst ha
     go_wp2_with fail
     refine (vh g b r A2 r.keys.length c2 M w6 HK6.o HGD.o HHS.o HKS6.o HM6.o).mono ?_
     rintro e w7 ⟨rfl, hk7, hbs7⟩
     have hap : io b r = fa b r := by unfold io; rw [HM.o, if_pos rfl]
     rw [hap] at hk7
     have HSU := Lh (qg rs az i HLT2.o HEV.o.1 (by rw [← HBE.o, ← HRL.o]; exact HM.o))
     have HK7 := Lh hk7
     have HKK8 := Lh (HKB.o rs us g M (i + 1) w6 w7 (Nat.le_of_eq HGG.o.symm) HGM.o HM6.o HKK7.o hbs7)
     have hst7 := pq.of_beside hbs7 HK6.o HM6.o
     have HRA7 := Lh (HRA6.o.stay hst7)
     have HKS7 := Lh (qig hst7 HKS6.o)
     have HM7 := Lh (Nat.le_trans HM6.o hbs7.size)
     have HBB7 := Lh (HBB6.o.trans (hbs7.below (show C ≤ g by have := HCW.o; have := HGG.o; omega) (by have := HCM.o; have := HM6.o; omega)))
     have HR7 := Lh ((hbs7.block wr.heap.size HS6.o (.inr (by have := HMW.o; have := HGM.o; omega))).trans HR6.o)
     clear hap hk7 hbs7 hst7 HK6 HKK7 HRA6 HKS6 HM6 HBB6 HR6
     rw [HM.o]
     go_wp2_with (refine ai (some 42) rfl ?_)
     refine Stop.go (aa rfl 38 rfl rfl dr rfl (bk _ _ _ _ _ _ _ HHS.o.1 HHS.o.2) (aq HR7.o) ?_)
     generalize ha : Act.put _ _ _ = z9; simp [Act.put] at ha; subst ha
     go_wp2_with fail
     refine (qfi r A2 r.keys.length c2 M w7 HHS.o HKS7.o HM7.o HGR.o.2.2).mono ?_
     rintro e w8 ⟨hl8, hb8⟩
     unfold xc at hl8
     rw [if_pos HGR.o.1] at hl8
     obtain ⟨v8, rfl, ho8⟩ := hl8
     obtain ⟨A8, c8, rfl, _, _⟩ := ap ho8
     have HK8 := Lh (HK7.o.below hb8 HK7.o.lt)
     have HKK9 := Lh (HKB.o rs us g M (i + 1) w7 w8 (Nat.le_of_eq HGG.o.symm) HGM.o HM7.o HKK8.o (fp.of_below hb8))
     have HRA8 := Lh (HRA7.o.stay (pq.of_below hb8 HM7.o))
     have HM8 := Lh (Nat.le_trans HM7.o hb8.size)
     have HBB8 := Lh (HBB7.o.trans (hb8.mono (by have := HCM.o; have := HM7.o; omega)))
     have HTK := Lh (show evAt rs (i + 1) = k + (ca r).length by rw [qil HLT2.o, ← HRL.o, HKE.o])
     have hkl2 : k + (ca r).length ≤ l.length := by
      have : evAt rs (i + 1) ≤ l.length := ov HAT.o (i + 1)
      rw [HTK.o] at this
      exact this
     clear ho8 hb8 HK7 HKK8 HRA7 HM7 HBB7 HKS7
     go_wp2_with fail
     go_roundw
     case rel =>
      refine ⟨i + 1, by omega, by go_num, ?_, Lh ⟨HSU.o.1, fun j hj => ?_⟩, ?_, HKK9, HRA8, HM8, HBB8⟩
      ·rw [HTK.o]
       go_num
      ·by_cases hji : j = i
       ·rw [hji]; exact HMR.o
       ·exact HEV.o.2 j (by omega)
      ·rw [HSU.o.2, ← HBE.o, ← HRL.o]
       exact HK8
     case measure => simp [intOf]; omega
  ·have hin : i = n := by omega
   subst hin
   have HX := Lh (show i = nEv az rs by
    have h1 := HEV.o.1
    have h2 := sn rs az
    have h3 := HN.o
    omega)
   go_wp2_with fail
   go_ret2
   refine ⟨rs, n0, us, A1, g, M, i, HAT.o, HEV.o.1, .inl HX.o, HEV.o.2, by rw [HKE.o]; rfl, ?_, HKK.o, HRA.o, Nat.le_of_eq HGG.o.symm, HGM.o, HMW.o, HB.o⟩
   rw [← HBE.o]
   exact HK.o

def evc (at_ : Nat) (r : RecD) (u : Value) (lv pn : Nat) : List Value := [.int .i64 at_] ++ (ag r.kind r.seq r.kh r.kk r.mh r.ms u ++ [.int .i64 lv, .int .i64 pn])
theorem km {at_ : Nat} {r : RecD} {u : Value} {lv pn : Nat} (h : Hs r) : (evc at_ r u lv pn).length = 72 := by
 unfold evc
 rw [List.length_append, List.length_append, ej h]
 rfl
theorem qdp {at_ : Nat} {r : RecD} {A2 : Option Addr} {n c lv pn : Nat} : ∀ x ∈ evc at_ r (.slice A2 n c) lv pn, x.oneCell' = true := by
 intro x hx
 unfold evc at hx
 rcases List.mem_append.1 hx with h | h
 ·rw [List.mem_singleton.1 h]; rfl
 rcases List.mem_append.1 h with h | h
 ·exact bd _ _ _ _ _ _ _ _ _ x h
 ·simp only [List.mem_cons, List.not_mem_nil, or_false] at h
  rcases h with rfl | rfl <;> rfl
theorem evc_live {at_ : Nat} {r : RecD} {u : Value} {lv pn : Nat} (h : Hs r) (z : Nat) : (evc at_ r u lv pn).set 70 (.int .i64 z) = evc at_ r u z pn := by
 unfold evc
 rw [List.set_append_right _ _ (by simp), List.set_append_right _ _ (by rw [ej h]; simp), ej h]
 rfl
theorem evc_pins {at_ : Nat} {r : RecD} {u : Value} {lv pn : Nat} (h : Hs r) (z : Nat) : (evc at_ r u lv pn).set 71 (.int .i64 z) = evc at_ r u lv z := by
 unfold evc
 rw [List.set_append_right _ _ (by simp), List.set_append_right _ _ (by rw [ej h]; simp), ej h]
 rfl
def me (rs : List RecD) (us : Nat → Value) (k : Nat) : List Value :=
 (List.range k).flatMap fun j => evc (evAt rs j) (rs.getD j dq) (us j) (bkAt az rs (j + 1)).live.length (bkAt az rs (j + 1)).pins.length
theorem sg (rs : List RecD) (us : Nat → Value) (k : Nat) :
  me rs us (k + 1) = me rs us k ++ evc (evAt rs k) (rs.getD k dq) (us k) (bkAt az rs (k + 1)).live.length (bkAt az rs (k + 1)).pins.length := by
 unfold me
 rw [List.range_succ, List.flatMap_append]
 simp
theorem rg {rs : List RecD} {k : Nat} (h : k < rs.length) : rs.getD k dq = rs[k] := by simp [List.getD_eq_getElem?_getD, h]
theorem qfs {rs : List RecD} {us : Nat → Value} (hr : ∀ r ∈ rs, Hs r) : ∀ k, k ≤ rs.length → (me rs us k).length = k * 72
 |0, _ => by simp [me]
 |k + 1, h => by
  rw [sg, List.length_append, qfs hr k (by omega), km ?_]
  ·omega
  ·rw [rg (by omega)]
   exact hr _ (List.getElem_mem _)
def qjm (rs : List RecD) (us : Nat → Value) : Nat → List Value
 |0 => []
 |k + 1 => me rs us k ++ evc (evAt rs k) (rs.getD k dq) (us k) 0 0
theorem qhy {w : World} {base : Nat} {e : TypeId} {size n c g : Nat} {xs : List Value} (h : w.ownsRow base e size (.slice (some ⟨g, 0, none⟩) n c) n xs) {k : Nat} (_hk : k < xs.length) (u : Value) :
  (w.setCell ⟨g, k, none⟩ u).ownsRow base e size (.slice (some ⟨g, 0, none⟩) n c) n (xs.set k u) := by
 have hl := h.1
 refine ⟨by rw [List.length_set]; exact hl, .inr ?_⟩
 rcases h.2 with ⟨h0, _⟩ | ⟨g', cap, cur, hv, h1, h2, h3, h4, h5, h6⟩
 ·cases h0
 ·injection hv with e1 e2 e3
  injection e1 with e1
  injection e1 with e1
  subst e1 e3
  refine ⟨g, c, cur.setIfInBounds k u, rfl, h1, ?_, h3, h4, by simpa using h5, ?_⟩
  ·simp only [World.setCell, Array.getElem?_modify, if_true, h2, Option.map_some]
   rfl
  ·rw [Array.toList_setIfInBounds, List.take_set, h6]
theorem uh {w : World} {base : Nat} {e : TypeId} {size n c g : Nat} {xs : List Value} (h : w.ownsRow base e size (.slice (some ⟨g, 0, none⟩) n c) n xs) : base ≤ g ∧ g < w.heap.size := h.lt g rfl
theorem ev_app : pr Tryz.prog 55 60 72 144 (.agg (evc 0 dq (.slice none 0 0) 0 0).toArray) := yf (by kernel_rfl) (by kernel_rfl) rfl (by omega)
theorem ev_info {at_ : Nat} {r : RecD} {u : Value} {lv pn : Nat} (h : Hs r) : (Tryz.prog.info? 60).map (fun i => (i.zero, i.size)) = some (some (.agg (evc 0 dq (.slice none 0 0) 0 0).toArray), (evc at_ r u lv pn).length) := by
 rw [km h]
 kernel_rfl
theorem qjt {at_ : Nat} {r : RecD} {u : Value} {lv pn : Nat} (h : Hs r) : (Tryz.prog.info? 60).map (·.size) = some (evc at_ r u lv pn).length := by
 rw [km h]
 kernel_rfl
noncomputable def evD : TypeDesc := .struct (Tryz.prog.fieldsOf 60)
theorem ev_u : Tryz.prog.underlying 60 = some evD := by kernel_rfl
theorem qrp : Tryz.prog.underlying 55 = some (.slice 60) := by kernel_rfl
theorem qdf (w : World) : (zeroValue 60).run Tryz.prog w = .ok (.agg (evc 0 dq (.slice none 0 0) 0 0).toArray) w := by kernel_rfl
theorem que (w : World) : ((Tryz.prog.fieldsOf 60).mapM fun (f : Field) => do pure (f.offset, ← sizeOf f.type)).run Tryz.prog w = .ok #[(0, 1), (1, 69), (70, 1), (71, 1)] w := by kernel_rfl
theorem build_ev (at_ : Nat) (r : RecD) (A2 : Option Addr) (n c : Nat) (w : World) (h : Hs r) :
  (Instr.build 60 #[(0, .int .i64 at_), (1, rv r (.slice A2 n c))]).run Tryz.prog w = .ok (.agg (evc at_ r (.slice A2 n c) 0 0).toArray) w := by
 have hz : (evc 0 dq (.slice none 0 0) 0 0).length = 72 := km (by exact ⟨rfl, rfl⟩)
 have hl := ej h (.slice A2 n c)
 unfold Instr.build
 simp only [Sem.run_bind, qdf, Result.andThen_ok, run_underlying ev_u, evD, que]
 have h0 := jy (place := fun i => (#[((0 : Nat), (1 : Nat)), (1, 69), (70, 1), (71, 1)] : Array (Nat × Nat))[i]?) (i := 0) (v := .int .i64 at_) (vs := [.int .i64 at_]) (pre := []) (Z := evc 0 dq (.slice none 0 0) 0 0) rfl rfl (by simp [hz])
  (rest := [(1, rv r (.slice A2 n c))])
 have hf : Instr.fill (fun i => (#[((0 : Nat), (1 : Nat)), (1, 69), (70, 1), (71, 1)] : Array (Nat × Nat))[i]?) (evc 0 dq (.slice none 0 0) 0 0).toArray [(0, .int .i64 at_), (1, rv r (.slice A2 n c))] = some (evc at_ r (.slice A2 n c) 0 0).toArray := by
  rw [List.nil_append] at h0
  rw [h0, jy (vs := ag r.kind r.seq r.kh r.kk r.mh r.ms (.slice A2 n c)) rfl (by simp [hl]) (by simp [hz, hl])]
  rw [Instr.fill]
  congr 2
  rw [hl, List.drop_drop, show (evc 0 dq (.slice none 0 0) 0 0).drop (([.int .i64 at_] : List Value).length + 69) = [.int .i64 0, .int .i64 0] from rfl]
  simp [evc]
 simp only [Value.cells]
 rw [hf]
 rfl

theorem zq {k : Nat} (h : k ≤ 1000000000) : IntKind.i64.wrap (k : Int) = k := by simp [IntKind.wrap, IntKind.bits, IntKind.signed]; omega
theorem qnc {rs : List RecD} {i : Nat} (hi : i ≤ nEv az rs) {n : Nat} (hn : rs.length ≤ n) : (bkAt az rs i).live.length ≤ n ∧ (bkAt az rs i).pins.length ≤ n ∧ (bkAt az rs i).ints.length ≤ n := by
 have h1 := qnb i hi
 have h2 := sn rs az
 omega
structure EvM (q M : Nat) (w : World) (v : Value) (n : Nat) (xs : List Value) : Prop where
 cell : w.heap[q]? = some (.cells #[v] 55 (0, 0))
 row : w.ownsRow M 60 72 v n xs
theorem EvM.below {q M : Nat} {w w' : World} {v : Value} {n : Nat} {xs : List Value} (h : EvM q M w v n xs) (hb : Below w.heap.size w w') : EvM q M w' v n xs :=
 ⟨(hb.block _ (gl h.cell)).trans h.cell, bw h.row hb⟩
structure xd (p : Option Nat) (w w' : World) : Prop where
 size : w.heap.size ≤ w'.heap.size
 block : ∀ k, k < w.heap.size → p ≠ some k → w'.heap[k]? = w.heap[k]?
theorem xd.refl (p : Option Nat) (w : World) : xd p w w := ⟨nr _, fun _ _ _ => rfl⟩
theorem xd.below {p : Option Nat} {a w w' : World} (h : xd p a w) (hb : Below w.heap.size w w') : xd p a w' := ⟨Nat.le_trans h.size hb.size, fun k hk hn => (hb.block k (Nat.lt_of_lt_of_le hk h.size)).trans (h.block k hk hn)⟩
theorem xd.set {p : Nat} {a w : World} (h : xd (some p) a w) (j : Nat) (u : Value) : xd (some p) a (w.setCell ⟨p, j, none⟩ u) := ⟨by simpa [World.setCell] using h.size, fun k hk hn => (Below.heap_setCell _ _ _ _ (fun e => hn (by rw [e]))).trans (h.block k hk hn)⟩
theorem qls (q g M i : Nat) (rs : List RecD) (us : Nat → Value) (b : bj) (v : Value) (w : World) (hr : ∀ r ∈ rs, Hs r) (hn : rs.length ≤ 1000000000) (hi : i ≤ nEv az rs) (hb : b = bkAt az rs i) (hg : Good b) (hk : eh w g b) (hM : g + 4 ≤ M) (hq : q < g) (hMw : M ≤ w.heap.size)
  (h : EvM q M w v i (qjm rs us i)) :
  Calls Tryz.prog 42 #[bptr g, .pointer (some ⟨q, 0, none⟩)] w fun e w' => e = .returned (.tuple #[]) ∧ EvM q M w' v i (me rs us i) ∧ Below M w w' ∧ xd v.ownBlock w w' := by
 have HE := Lh h
 have HK := Lh hk
 have HGD := Lh hg
 have HBE := Lh hb
 have HI := Lh hi
 have HHR := Lh hr
 have HLB := Lh (show b.live.length ≤ 1000000000 ∧ b.pins.length ≤ 1000000000 by have := qnc hi hn; rw [hb]; exact ⟨this.1, this.2.1⟩)
 have HNR := Lh (sn rs az)
 have HMW := Lh hMw
 have HGM := Lh hM
 have HQG := Lh hq
 obtain ⟨A, c, rfl, hic, hcm⟩ := ap h.row
 have cq := cell_of_one h.cell
 clear h hk hg hb hi hr hM hq hMw
 have hi9 : i ≤ 1000000000 := Nat.le_trans (Nat.le_trans HI.o HNR.o) hn
 go_enter Tryz.func42, Tryz.ntmps42
 cases i with
 |zero =>
  go_wp2_with fail
  go_end0
  exact ⟨rfl, HE.o, br _ _, xd.refl _ _⟩
 |succ k =>
  obtain ⟨p, cp, hv⟩ := ob HE.o.row (by omega)
  injection hv with e1 e2 e3
  subst e1 e3
  clear e2
  go_wp2_with fail
  have HCL := Lh (show ((me rs us k ++ evc (evAt rs k) (rs.getD k dq) (us k) 0 0).length = (k + 1) * 72) ∧ (me rs us k).length = k * 72 by
   have h1 := qfs (us := us) HHR.o k (by have := HI.o; have := HNR.o; omega)
   have h2 := HE.o.row.1
   exact ⟨h2, h1⟩)
  have HHK := Lh (show Hs (rs.getD k dq) by
   rw [rg (by have := HI.o; have := HNR.o; omega)]
   exact HHR.o _ (List.getElem_mem _))
  clear cq
  refine qc (fun w' => w'.heap[q]? = some (.cells #[.slice (some ⟨p, 0, none⟩) (k + 1) c] 55 (0, 0))) [17] 18 (by kernel_rfl) rfl ?_
  have HE0 := Lh (show EvM q M w.drew (.slice (some ⟨p, 0, none⟩) (k + 1) c) (k + 1) (qjm rs us (k + 1)) from ⟨HE.o.cell, HE.o.row.drew⟩)
  have HK0 := Lh (show eh w.drew g b from HK.o.below (br _ _).drew HK.o.lt)
  have HD0 := Lh ((br M w).drew : Below M w w.drew)
  have HP0 := Lh ((xd.refl (some p) w).below (br _ _).drew)
  have HMW0 := Lh (show M ≤ w.drew.heap.size from HMW.o)
  clear HE HK HMW
  generalize w.drew = w0 at *
  refine wq3 (i := 0) (v := .slice (some ⟨p, 0, none⟩) (k + 1) c) rfl (by kernel_rfl) rfl (fun wq hbq => du rfl rfl (jo qrp (cell_of_one hbq))) HE0.o.cell ?_
  generalize ha : Act.put _ _ _ = z9; simp [Act.put] at ha; subst ha
  refine wq1 (i := 1) (v := .int .i64 ((k : Int) + 1)) rfl (by kernel_rfl) rfl (fun wq => by go_simp) HE0.o.cell ?_
  generalize ha : Act.put _ _ _ = z9; simp [Act.put] at ha; subst ha
  refine wq1 (i := 2) (v := .int .i64 k) rfl (by kernel_rfl) rfl (fun wq => by go_simp; exact zq (by omega)) HE0.o.cell ?_
  generalize ha : Act.put _ _ _ = z9; simp [Act.put] at ha; subst ha
  refine wq3 (i := 3) (v := .slice (some ⟨p, 0, none⟩) (k + 1) c) rfl (by kernel_rfl) rfl (fun wq hbq => du rfl rfl (jo qrp (cell_of_one hbq))) HE0.o.cell ?_
  generalize ha : Act.put _ _ _ = z9; simp [Act.put] at ha; subst ha
  refine wq1 (i := 4) (v := .int .i64 ((k : Int) + 1)) rfl (by kernel_rfl) rfl (fun wq => by go_simp) HE0.o.cell ?_
  generalize ha : Act.put _ _ _ = z9; simp [Act.put] at ha; subst ha
  refine wq1 (i := 5) (v := .int .i64 k) rfl (by kernel_rfl) rfl (fun wq => by go_simp; exact zq (by omega)) HE0.o.cell ?_
  generalize ha : Act.put _ _ _ = z9; simp [Act.put] at ha; subst ha
  refine wq1 (i := 6) (v := bptr g) rfl (by kernel_rfl) rfl (fun wq => by go_simp) HE0.o.cell ?_
  generalize ha : Act.put _ _ _ = z9; simp [Act.put] at ha; subst ha
  refine wq1 (i := 9) (v := bptr g) rfl (by kernel_rfl) rfl (fun wq => by go_simp) HE0.o.cell ?_
  generalize ha : Act.put _ _ _ = z9; simp [Act.put] at ha; subst ha
  refine ea (i := 7) (by kernel_rfl) rfl (fun Q' hQ' => ?_)
  go_wp2_with fail
  refine (qlx g b w0 HK0.o HGD.o HLB.o.1).mono ?_
  rintro e w1 ⟨v1, rfl, ho1, hb1⟩
  obtain ⟨A1, c1, hv1, hc1a, hc1b⟩ := ap ho1
  subst hv1
  rw [List.length_map]
  have HE1 := Lh (HE0.o.below hb1)
  have HK1 := Lh (HK0.o.below hb1 HK0.o.lt)
  have HP1 := Lh (HP0.o.below hb1)
  have HD1 := Lh (HD0.o.trans (hb1.mono HMW0.o))
  have HMW1 := Lh (Nat.le_trans HMW0.o hb1.size)
  clear HP0 ho1 hb1 hc1a hc1b HE0 HK0 HD0 HMW0
  obtain ⟨nl, hnl⟩ : ∃ nl, nl = b.live.length := ⟨_, rfl⟩
  rw [← hnl]
  have HNL := Lh hnl
  clear hnl
  go_wp2_with fail
  refine ⟨okU HE1.o.cell, ?_⟩
  refine wq1 (i := 8) (v := .int .i64 nl) rfl (by kernel_rfl) rfl (fun wq => by go_simp) HE1.o.cell ?_
  generalize ha : Act.put _ _ _ = z9; simp [Act.put] at ha; subst ha
  refine ea (i := 10) (by kernel_rfl) rfl (fun Q' hQ' => ?_)
  go_wp2_with fail
  refine (qlk g b w1 HK1.o HGD.o HLB.o.2).mono ?_
  rintro e w2 ⟨v2, rfl, ho2, hb2⟩
  obtain ⟨A2, c2, hv2, hc2a, hc2b⟩ := ap ho2
  subst hv2
  have HE2 := Lh (HE1.o.below hb2)
  have HP2 := Lh (HP1.o.below hb2)
  have HD2 := Lh (HD1.o.trans (hb2.mono HMW1.o))
  clear HP1 ho2 hb2 hc2a hc2b HE1 HK1 HD1 HMW1
  obtain ⟨np, hnp⟩ : ∃ np, np = b.pins.length := ⟨_, rfl⟩
  rw [← hnp]
  have HNP := Lh hnp
  clear hnp
  go_wp2_with fail
  refine ⟨okU HE2.o.cell, ?_⟩
  refine wq1 (i := 11) (v := .int .i64 np) rfl (by kernel_rfl) rfl (fun wq => by go_simp) HE2.o.cell ?_
  generalize ha : Act.put _ _ _ = z9; simp [Act.put] at ha; subst ha
  refine wq1 (i := 12) (v := .pointer (some ⟨p, k * 72, none⟩)) rfl (by kernel_rfl) rfl (fun wq => by go_simp; intro h; omega) HE2.o.cell ?_
  generalize ha : Act.put _ _ _ = z9; simp [Act.put] at ha; subst ha
  refine wq1 (i := 13) (v := .pointer (some ⟨p, k * 72 + 70, none⟩)) rfl (by kernel_rfl) rfl (fun wq => by go_simp) HE2.o.cell ?_
  generalize ha : Act.put _ _ _ = z9; simp [Act.put] at ha; subst ha
  have HR2 := Lh (show w2.ownsRow M 60 72 (.slice (some ⟨p, 0, none⟩) (k + 1) c) (k + 1) (me rs us k ++ evc (evAt rs k) (rs.getD k dq) (us k) 0 0) from HE2.o.row)
  have cl2 : w2.cell? ⟨p, k * 72 + 70, none⟩ = some (.int .i64 0) := by
   rw [HR2.o.cellAt _ (by omega), List.getElem?_append_right (by rw [HCL.o.2]; omega), HCL.o.2, show k * 72 + 70 - k * 72 = 70 by omega]
   unfold evc
   rw [List.getElem?_append_right (by simp), List.getElem?_append_right (by rw [ej HHK.o]; simp), ej HHK.o]
   rfl
  have fl2 : w2.frozen? ⟨p, k * 72 + 70, none⟩ = false := HR2.o.frozenAt _
  refine ea (i := 14) (by kernel_rfl) rfl (fun Q' hQ' => ?_)
  go_wp2_with fail
  have hnp2 : q ≠ p := by have := (uh HE2.o.row).1; have := HGM.o; have := HQG.o; omega
  have HE3 := Lh (show w2.setCell ⟨p, k * 72 + 70, none⟩ (.int .i64 nl) = w2.setCell ⟨p, k * 72 + 70, none⟩ (.int .i64 nl) ∧ (w2.setCell ⟨p, k * 72 + 70, none⟩ (.int .i64 nl)).heap[q]? = some (.cells #[.slice (some ⟨p, 0, none⟩) (k + 1) c] 55 (0, 0)) from ⟨rfl, (Below.heap_setCell _ _ _ _ hnp2).trans HE2.o.cell⟩)
  have HP3 := Lh (HP2.o.set (k * 72 + 70) (.int .i64 nl))
  have HD3 := Lh (HD2.o.setCell (p := ⟨p, k * 72 + 70, none⟩) (uh HE2.o.row).1 (.int .i64 nl))
  have HR3 := Lh (show (w2.setCell ⟨p, k * 72 + 70, none⟩ (.int .i64 nl)).ownsRow M 60 72 (.slice (some ⟨p, 0, none⟩) (k + 1) c) (k + 1) (me rs us k ++ evc (evAt rs k) (rs.getD k dq) (us k) nl 0) from by
   have := qhy HR2.o (k := k * 72 + 70) (by rw [HCL.o.1]; omega) (.int .i64 nl)
   rw [List.set_append_right _ _ (by rw [HCL.o.2]; omega), HCL.o.2, show k * 72 + 70 - k * 72 = 70 by omega, evc_live HHK.o] at this
   exact this)
  have HNP2 := Lh hnp2
  clear HP2 cl2 fl2 HR2 HE2 HD2 hnp2
  generalize w2.setCell ⟨p, k * 72 + 70, none⟩ (.int .i64 nl) = w3 at *
  refine ⟨okU HE3.o.2, ?_⟩
  refine wq1 (i := 15) (v := .pointer (some ⟨p, k * 72, none⟩)) rfl (by kernel_rfl) rfl (fun wq => by go_simp; intro h; omega) HE3.o.2 ?_
  generalize ha : Act.put _ _ _ = z9; simp [Act.put] at ha; subst ha
  refine wq1 (i := 16) (v := .pointer (some ⟨p, k * 72 + 71, none⟩)) rfl (by kernel_rfl) rfl (fun wq => by go_simp) HE3.o.2 ?_
  generalize ha : Act.put _ _ _ = z9; simp [Act.put] at ha; subst ha
  have cl3 : w3.cell? ⟨p, k * 72 + 71, none⟩ = some (.int .i64 0) := by
   rw [HR3.o.cellAt _ (by omega), List.getElem?_append_right (by rw [HCL.o.2]; omega), HCL.o.2, show k * 72 + 71 - k * 72 = 71 by omega]
   unfold evc
   rw [List.getElem?_append_right (by simp), List.getElem?_append_right (by rw [ej HHK.o]; simp), ej HHK.o]
   rfl
  have fl3 : w3.frozen? ⟨p, k * 72 + 71, none⟩ = false := HR3.o.frozenAt _
  refine ea (i := 17) (by kernel_rfl) rfl (fun Q' hQ' => ?_)
  go_wp2_with fail
  have HE4 := Lh ((Below.heap_setCell w3 ⟨p, k * 72 + 71, none⟩ (.int .i64 np) q HNP2.o).trans HE3.o.2)
  have HP4 := Lh (HP3.o.set (k * 72 + 71) (.int .i64 np))
  have HD4 := Lh (HD3.o.setCell (p := ⟨p, k * 72 + 71, none⟩) (uh HR3.o).1 (.int .i64 np))
  have HR4 := Lh (show (w3.setCell ⟨p, k * 72 + 71, none⟩ (.int .i64 np)).ownsRow M 60 72 (.slice (some ⟨p, 0, none⟩) (k + 1) c) (k + 1) (me rs us (k + 1)) from by
   have := qhy HR3.o (k := k * 72 + 71) (by rw [List.length_append, HCL.o.2, km HHK.o]; omega) (.int .i64 np)
   rw [List.set_append_right _ _ (by rw [HCL.o.2]; omega), HCL.o.2, show k * 72 + 71 - k * 72 = 71 by omega, evc_pins HHK.o] at this
   rw [sg, ← HBE.o, ← HNL.o, ← HNP.o]
   exact this)
  clear HP3 cl3 fl3 HE3 HD3 HR3
  generalize w3.setCell ⟨p, k * 72 + 71, none⟩ (.int .i64 np) = w4 at *
  refine ⟨iy (by kernel_rfl), ?_⟩
  refine rn (by kernel_rfl) ?_ _
  go_end0
  exact ⟨rfl, ⟨HE4.o, HR4.o⟩, HD4.o, HP4.o⟩

theorem qsx {q g M : Nat} {w w' : World} {v : Value} {t : TypeId} (hb : Below w.heap.size w w') (hq : w.heap[q]? = some (.cells #[v] t (0, 0))) (hqg : q < g) (ht : t ≠ 38) (u : Value) : Shut q g M w (w'.setCell ⟨q, 0, none⟩ u) := by
 refine ⟨hb.os, hb.tape, hb.output, by simpa [World.setCell] using hb.size, fun k hk _ => ?_, fun k cs hk => ?_⟩
 rotate_left
 ·have hkq : k ≠ q := fun e => by
   rw [e, hq] at hk
   injection hk with hk
   injection hk with _ h2
   exact ht h2
  exact (Below.heap_setCell _ _ _ _ hkq).trans (hb.block k (gl hk))
 by_cases h : k = q
 ·subst h
  exact .inr ⟨nr _, hqg, xu hq (by simp)⟩
 ·exact .inl ((Below.heap_setCell _ _ _ _ h).trans (hb.block k hk))
def UpK (q : Nat) (n : Int) (_ : List RecD) (_ : Nat → Value) (_ : Nat) (i : Nat) (w : World) : Prop := w.heap[q]? = some (.cells #[.int .i64 (n - i)] 3 (0, 0)) ∧ (i = 0 ∨ (i : Int) ≤ n)
def upMr (n : Int) (i : Nat) : Bool := decide ((i : Int) < n)
theorem qsg (q : Nat) (n : Int) (hn1 : -9223372036854775808 ≤ n) (hn2 : n ≤ 9223372036854775807) (l : List UInt8) : qqd 46 [.pointer (some ⟨q, 0, none⟩)] (q + 1) q (upMr n) (UpK q n) l := by
 intro rs n0 us g M i A2 c2 w1 r b at_ hi hat hN hgM hMw hev hr hb hat_ hus hhs hbk hgd hK
 obtain ⟨hq, hin⟩ := hK
 have HQ := Lh hq
 have HHS := Lh hhs
 have HIN := Lh hin
 have HQG := Lh (show q < g from hN)
 have hqs := (gl hq)
 clear hat hev hr hb hat_ hus hbk hgd hq hi hhs hin hN
 show Calls _ _ #[.int .i64 at_, rv r (.slice A2 r.keys.length c2), bptr g, .pointer (some ⟨q, 0, none⟩)] _ _
 obtain ⟨nx, hnx⟩ : ∃ nx, nx = (if upMr n i = true then i + 1 else i) := ⟨_, rfl⟩
 rw [← hnx]
 obtain ⟨z, hz⟩ : ∃ z, z = upMr n i := ⟨_, rfl⟩
 rw [← hz] at hnx ⊢
 have HNX := Lh hnx
 have HZ := Lh hz
 clear hnx hz
 generalize r.keys.length = nk
 obtain ⟨bp, hbp⟩ : ∃ bp, bp = bptr g := ⟨_, rfl⟩
 rw [← hbp]
 clear hbp
 go_enter Tryz.func46, Tryz.ntmps46
 go_wp2_with (refine ai (some 5) rfl ?_)
 refine Stop.go (bn rfl _ rfl rfl rfl ?_)
 have HB2 := Lh ((br _ _).alloc (nr _) (.cells (ag r.kind r.seq r.kh r.kk r.mh r.ms (.slice A2 nk c2)).toArray 38) : Below w1.heap.size w1 _)
 have HQ2 := Lh ((HB2.o.block _ hqs).trans HQ.o)
 generalize w1.alloc (.cells (ag r.kind r.seq r.kh r.kk r.mh r.ms (.slice A2 nk c2)).toArray 38) = w2 at *
 clear hqs
 have cq := cell_of_one HQ2.o
 have fq := free_of_one HQ2.o
 generalize ha : Act.put _ _ _ = z9; simp [Act.put] at ha; subst ha
 by_cases hlt : (i : Int) < n
 ·have hm : z = true := by rw [HZ.o]; unfold upMr; simpa using hlt
  have hnx : nx = i + 1 := by rw [HNX.o, hm]; rfl
  have hx1 : ¬ (n - i ≤ 0) := by omega
  have hx2 : -9223372036854775808 ≤ n - i - 1 := by omega
  have hx3 : n - i - 1 ≤ 9223372036854775807 := by omega
  have HM := Lh (And.intro hm hnx)
  clear hm hnx HZ HNX
  go_wp2_with fail
  go_ret
  rw [HM.o.1, HM.o.2]
  refine ⟨rfl, qsx HB2.o HQ.o HQG.o (by decide) _, ?_, .inr (by omega)⟩
  have h2 : n - ((i + 1 : Nat) : Int) = n - i - 1 := by omega
  rw [h2]
  exact one_setCell HQ2.o
 ·have hm : z = false := by rw [HZ.o]; unfold upMr; simpa using hlt
  have hnx : nx = i := by rw [HNX.o, hm]; rfl
  have hx1 : n - i ≤ 0 := by omega
  have HM := Lh (And.intro hm hnx)
  clear hm hnx HZ HNX
  go_wp2_with fail
  go_ret
  rw [HM.o.1, HM.o.2]
  exact ⟨rfl, Shut.of_below HB2.o, HQ2.o, HIN.o⟩
def ni (n : Int) (k : Nat) : Nat := min n.toNat k
def UptoTo (l : List UInt8) (n : Int) (w : World) (e : Ending) (w' : World) : Prop :=
 ∃ rs n0 g, jq l rs n0 ∧ e = .returned (bptr g) ∧ eh w' g (bkAt az rs (ni n (nEv az rs))) ∧ w.heap.size ≤ g ∧ Below w.heap.size w w'
theorem qkq (l : List UInt8) (A : Option Addr) (c B : Nat) (n : Int) (w : World) (hr : Rd w B A (ak l)) (hB : B ≤ w.heap.size) (hl : l.length ≤ 68719476736) (hc : l.length ≤ c) (hn1 : -9223372036854775808 ≤ n) (hn2 : n ≤ 9223372036854775807) :
  Calls Tryz.prog 22 #[.slice A l.length c, .int .i64 n] w (UptoTo l n w) := by
 have HR := Lh hr
 have HBW := Lh hB
 clear hr hB
 have hmf : ∀ (fn : Fn) (first cap : Array Value) (w : World), (Instr.makeFunc fn first cap).run Tryz.prog w = .ok (.func fn first cap) w := fun _ _ _ _ => rfl
 go_enter Tryz.func22, Tryz.ntmps22
 have HB1 := Lh ((br _ _).alloc (nr _) (.cells #[.int .i64 n] 3) : Below w.heap.size w _)
 have HQ1 := Lh (hzn w (.cells #[.int .i64 n] 3))
 have HS1 := Lh (sz_ w (.cells #[.int .i64 n] 3))
 go_wp2_with fail
 generalize w.alloc (.cells #[.int .i64 n] 3) = w1 at *
 refine (qdz l A c B w1 (HR.o.below (HB1.o.mono HBW.o)) (Nat.le_trans HBW.o HB1.o.size) hl hc w.heap.size (by have := HS1.o; omega) (upMr n) (UpK w.heap.size n) 46 [.pointer (some ⟨w.heap.size, 0, none⟩)] (fun _ _ => by kernel_rfl) ?k0 ?kb (by rw [HS1.o]; exact qsg _ n hn1 hn2 l)).mono ?_
 case k0 =>
  intro rs us M w' hb _
  refine ⟨?_, .inl rfl⟩
  rw [hb.block _ (by rw [HS1.o]; omega), HQ1.o]
  simp
 case kb =>
  intro rs us g M i w1' w2 hN hgM hMw hk hbs
  refine ⟨(hbs.block _ (gl hk.1) (.inl (by have := HS1.o; omega))).trans hk.1, hk.2⟩
 rintro e w2 ⟨rs, n0, us, A2, g, M, i, hat, hi, hor, hall, rfl, hbk, _, _, hN, _, _, hb⟩
 have hin : i = ni n (nEv az rs) := by
  have h1 : i = nEv az rs ∨ ¬ ((i : Int) < n) := by
   rcases hor with h | h
   ·exact .inl h
   ·exact .inr (by simpa [upMr] using h)
  have h2 : i = 0 ∨ ((i - 1 : Nat) : Int) < n := by
   rcases Nat.eq_zero_or_pos i with h | h
   ·exact .inl h
   ·exact .inr (by have := hall (i - 1) (by omega); simpa [upMr] using this)
  unfold ni
  omega
 have HX := Lh (show UptoTo l n w (.returned (bptr g)) w2 from ⟨rs, n0, g, hat, rfl, by rw [← hin]; exact hbk, by have := HS1.o; omega, HB1.o.trans (hb.mono (nr _))⟩)
 clear hat hi hor hall hbk hN hb hin
 go_wp2_with fail
 go_ret
 exact HX.o
end Go.Proofs.YtplbcbamnjnhlaaGreatDoor
