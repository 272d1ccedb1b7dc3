import Derived.Test.YtplbcbamnjnhlaaGreatDoorMT00
import Derived.Test.YtplbcbamnjnhlaaGreatDoorMT40
import Derived.Test.YtplbcbamnjnhlaaGreatDoorMT30
import Derived.Deep.Cut
import Derived.Deep.CutBlock
import Derived.Deep.DeepCutAuto
set_option maxRecDepth 100000
set_option maxHeartbeats 40000000
namespace Go.Proofs.YtplbcbamnjnhlaaGreatDoor
open Go.RowKit

theorem D2_no {k : Nat} {l : List UInt8} (h : ¬(k = 2 ∧ l.length = 74)) : D2 k l = D1 k := if_neg h
theorem D3_no {k : Nat} {l : List UInt8} (h : ¬(k = 3 ∧ l.length = 6)) : D3 k l = D2 k l := if_neg h
theorem D4_no {k : Nat} {l : List UInt8} (h : ¬(k = 4 ∧ l.length = 68)) : D4 k l = D3 k l := if_neg h
theorem D5_no {k : Nat} {l : List UInt8} (h : ¬((k = 5 ∨ k = 6) ∧ l.length = 33)) : D5 k l = D4 k l := if_neg h
theorem D2_yes {l : List UInt8} (h : l.length = 74) : D2 2 l = ⟨2, (co ((l.drop 0).take 6) : Nat), (l.drop 6).take 32, (co ((l.drop (6 + 32)).take 1) : Nat), (l.drop 39).take 32, (co ((l.drop 71).take 3) : Nat), []⟩ := (if_pos ⟨rfl, h⟩).trans rfl
theorem D3_yes {l : List UInt8} (h : l.length = 6) : D3 3 l = ⟨3, (co ((l.drop 0).take 6) : Nat), z32, 0, z32, 0, []⟩ := (if_pos ⟨rfl, h⟩).trans rfl
theorem D4_yes {l : List UInt8} (h : l.length = 68) : D4 4 l = ⟨4, 0, (l.drop 0).take 32, (co ((l.drop (0 + 32)).take 1) : Nat), (l.drop 33).take 32, (co ((l.drop 65).take 3) : Nat), []⟩ := (if_pos ⟨rfl, h⟩).trans rfl
theorem D5_yes {k : Nat} {l : List UInt8} (hk : k = 5 ∨ k = 6) (h : l.length = 33) : D5 k l = ⟨(k : Nat), 0, (l.drop 0).take 32, (co ((l.drop (0 + 32)).take 1) : Nat), z32, 0, []⟩ := by
 refine (if_pos ⟨hk, h⟩).trans ?_
 rcases hk with rfl | rfl <;> rfl
theorem D2_at (l : List UInt8) {k : Nat} (h : k ≠ 2) : D2 k l = ⟨(k : Nat), 0, z32, 0, z32, 0, []⟩ := D2_no (fun x => h x.1)
theorem D3_at (l : List UInt8) {k : Nat} (h : k ≠ 2) (h3 : k ≠ 3) : D3 k l = ⟨(k : Nat), 0, z32, 0, z32, 0, []⟩ := (D3_no (fun x => h3 x.1)).trans (D2_at l h)
theorem D4_at (l : List UInt8) {k : Nat} (h : k ≠ 2) (h3 : k ≠ 3) (h4 : k ≠ 4) : D4 k l = ⟨(k : Nat), 0, z32, 0, z32, 0, []⟩ := (D4_no (fun x => h4 x.1)).trans (D3_at l h h3)
theorem yi {K : Act → World → Prop} {Q : Exit → Act → World → Prop} {a : Act} {w : World} (h : Q .ret a w) : Exit.then K Q .ret a w := h
theorem qjf (l : List UInt8) (A : Option Addr) (c B : Nat) (w : World) (hr : Rd w B A (ak l)) (hB : B ≤ w.heap.size) (hl : l.length ≤ 68719476736) (hc : l.length ≤ c) :
  Calls Tryz.prog 66 #[.slice A l.length c] w (zn l w) := by
 have HBW := Lh hB
 have HR := Lh hr
 clear hr
 go_enter Tryz.func66, Tryz.ntmps66
 go_wp2_with (refine ai (some 2) rfl ?_)
 refine Stop.go (av rfl 42 rfl lk rfl ?_)
 have hb1 : Below w.heap.size w (w.alloc (.cells (ag 0 0 z32 0 z32 0 (.slice none 0 0)).toArray 42)) := (br _ _).alloc (nr _) _
 have HG1 := Lh (hzn w (.cells (ag 0 0 z32 0 z32 0 (.slice none 0 0)).toArray 42))
 have HR1 := Lh (HR.o.below (hb1.mono hB))
 have HB1 := Lh hb1
 clear hb1 HR hB
 generalize w.alloc (.cells (ag 0 0 z32 0 z32 0 (.slice none 0 0)).toArray 42) = w1 at *
 by_cases h0 : l.length = 0
 ·have HN := Lh (show gc l = none by rw [List.length_eq_zero_iff.1 h0]; exact qfa)
  have h00 : ((l.length : Int) == 0) = true := by simp [h0]
  clear h0
  go_wp2_with (refine ai (some 27) rfl ?_)
  refine Stop.go (bl rfl 42 rfl (vs := #[]) (by rfl) (kp _) ?_)
  refine ac rfl 42 rfl rfl rfl (ce (bb ..) (cw _ _ _ _ _ _ _ rfl rfl) HG1.o (by rw [List.size_toArray, ah, ah]; rfl) (bd _ _ _ _ _ _ _ _ _)) ?_
  go_wp2_with fail
  refine mz rfl rfl rfl rfl rfl rfl (setRow_heap _ _ _ _ _ _ HG1.o) ?_
  exact jn HN.o rfl (below_setRow HB1.o (nr _) _)
 ·have h0' : 0 < l.length := by omega
  have h00 : ((l.length : Int) == 0) = false := by simp only [beq_eq_false_iff_ne]; omega
  obtain ⟨n, hn⟩ : ∃ n, l.length = n + 1 := ⟨l.length - 1, by omega⟩
  have hnl : n < l.length := by omega
  obtain ⟨ab, ao, rfl, hab, hcell⟩ := HR1.o.byte hnl
  obtain ⟨d, hd⟩ : ∃ d, d = l[n].toNat := ⟨_, rfl⟩
  rw [← hd] at hcell
  have en : l.length - 1 = n := by omega
  by_cases hd10 : d = 10
  ·have HP := Lh (show gc l = sj (l.take n) by
    have := qcn h0' (by apply UInt8.toNat_inj.1; simp only [en]; rw [← hd, hd10]; rfl)
    rwa [en] at this)
   have HT := Lh (show (l.take n).length = n by rw [List.length_take]; omega)
   have hXL := HT.o
   have HRT := Lh (show Rd w1 B (some ⟨ab, ao, none⟩) (ak (l.take n)) by have := HR1.o.take_ n; rwa [show (ak l).take n = ak (l.take n) by simp [ak]] at this)
   subst hd10
   have hu := qdh (some ⟨ab, ao, none⟩) (n + 1) c n (by omega)
   clear hd en HR1 h0 h0'
   rw [hn] at hl hc hnl h00 ⊢
   clear hn
   have hsub : ((n + 1 : Nat) : Int) - 1 = (n : Int) := by omega
   have HU := qgz (l.take n) (some ⟨ab, ao, none⟩) c B w1 HRT.o (Nat.le_trans HBW.o HB1.o.size) (by rw [HT.o]; omega)
   rw [HT.o] at HU
   have HUU := Lh HU
   obtain ⟨X, hX⟩ : ∃ X, X = l.take n := ⟨_, rfl⟩
   rw [← hX] at HP HUU hXL
   have HXL := Lh hXL
   clear HU HRT HT hX hXL
   go_wp2_with fail
   refine HUU.o.mono ?_
   rintro e w2 ⟨hb2, hcase⟩
   have HB2 := Lh (HB1.o.trans (hb2.mono HB1.o.size))
   have HG2 := Lh ((hb2.block _ (gl HG1.o)).trans HG1.o)
   cases hun : dn X with
   |none =>
    rw [hun] at hcase
    obtain rfl : e = _ := hcase
    have HN := Lh (HP.o.trans (qrv hun))
    clear hun hb2 HG1 HB1 HP HUU
    go_wp2_with (refine ai (some 38) rfl ?_)
    refine Stop.go (bl rfl 42 rfl (vs := #[]) (by rfl) (kp _) ?_)
    refine ac rfl 42 rfl rfl rfl (ce (bb ..) (cw _ _ _ _ _ _ _ rfl rfl) HG2.o (by rw [List.size_toArray, ah, ah]; rfl) (bd _ _ _ _ _ _ _ _ _)) ?_
    go_wp2_with fail
    refine mz rfl rfl rfl rfl rfl rfl (setRow_heap _ _ _ _ _ _ HG2.o) ?_
    exact jn HN.o rfl (below_setRow HB2.o (nr _) _)
   |some F =>
    rw [hun] at hcase
    obtain ⟨vF, rfl, hoF⟩ := hcase
    have HUN := Lh hun
    obtain ⟨AF, cF, rfl, hcF, _⟩ := ap hoF
    have HRF := Lh (Rd.of_own hoF)
    have hFl : F.length ≤ 68719476736 := by
     have := congrArg List.length (qp hun)
     have h3 := jv F
     have h4 : X.length ≤ 68719476736 := by rw [HXL.o]; omega
     omega
    clear hun hb2 HG1 HB1 HUU hoF
    go_wp2_with fail
    refine (qjg F AF cF w2.heap.size w2 HRF.o (nr _) hFl hcF).mono ?_
    rintro e w3 ⟨hb3, hcase⟩
    have HB3 := Lh (HB2.o.trans (hb3.mono HB2.o.size))
    have HG3 := Lh ((hb3.block _ (gl HG2.o)).trans HG2.o)
    cases hfo : dv F with
    |none =>
     rw [hfo] at hcase
     obtain ⟨x, hx0, hx1, hx2, rfl⟩ := hcase
     have HN := Lh (HP.o.trans (qkd HUN.o (show el F = none by unfold el; rw [hfo])))
     have hxne : (x != 0) = true := by simpa using hx0
     clear hfo hb3 HG2 HB2 HP HUN HRF
     go_wp2_with (refine ai (some 54) rfl ?_)
     refine Stop.go (bl rfl 42 rfl (vs := #[]) (by rfl) (kp _) ?_)
     refine ac rfl 42 rfl rfl rfl (ce (bb ..) (cw _ _ _ _ _ _ _ rfl rfl) HG3.o (by rw [List.size_toArray, ah, ah]; rfl) (bd _ _ _ _ _ _ _ _ _)) ?_
     go_wp2_with fail
     refine mz rfl rfl rfl rfl rfl rfl (setRow_heap _ _ _ _ _ _ HG3.o) ?_
     exact jn HN.o rfl (below_setRow HB3.o (nr _) _)
    |some kln =>
     obtain ⟨k, load, z⟩ := kln
     rw [hfo] at hcase
     obtain ⟨AL, cL, rfl, hrL⟩ := hcase
     by_cases hz : z = F.length
     ·have hfo2 : el F = some (k, load) := by unfold el; rw [hfo]; simp only; rw [if_pos hz]
      have hLl := (rh hfo2).2
      have HN := Lh (HP.o.trans (qru HUN.o hfo2))
      obtain ⟨kn, hkn⟩ : ∃ kn : Nat, kn = k.toNat := ⟨_, rfl⟩
      have hk8 : kn < 256 := by rw [hkn]; exact UInt8.toNat_lt _
      rw [← hkn] at HN ⊢
      have hzb : ((z : Int) != (F.length : Int)) = false := by simp [hz]
      have HZ := Lh (And.intro hfo hz)
      clear hfo hb3 HG2 HB2 HP HUN HRF hkn hz hfo2
      go_wp2_with (refine ai (some 56) rfl ?_)
      refine Stop.go (ar 1 _ _ _ (fun Q' hQ' => ?_))
      simp only [T1, T0]
      go_wp2_with fail
      try simp only [dr1, dr0]
      refine Stop.go (bl rfl 42 rfl (vs := #[(0, .int .i64 (kn : Nat))]) (by rfl) (qkb _ _) ?_)
      refine av rfl 42 rfl lk rfl ?_
      refine ac rfl 42 rfl rfl rfl (ch (g := w3.heap.size) rfl (bb ..) (cw _ _ _ _ _ _ _ rfl rfl) (by rw [List.size_toArray, ah, ah]) (bd _ _ _ _ _ _ _ _ _)) ?_
      have hb4 : Below w3.heap.size w3 (w3.alloc (.cells (ag (kn : Nat) 0 z32 0 z32 0 (.slice none 0 0)).toArray 42)) := (br _ _).alloc (nr _) _
      have HT1 := Lh (At32.mk (r := D1 kn) (v := .slice none 0 0) (cu.new (t := 42) w3 rfl rfl) (er.nil _ _) (hrL.below hb4) ((hb4.block _ (gl HG3.o)).trans HG3.o) (HB3.o.trans (hb4.mono HB3.o.size)) (gl HG3.o) : At32 w (w3.alloc (.cells (ag (kn : Nat) 0 z32 0 z32 0 (.slice none 0 0)).toArray 42)) w3.heap.size AL load (D1 kn) (.slice none 0 0))
      clear hb4 hrL HG3 HB3
      generalize w3.alloc (.cells (ag (kn : Nat) 0 z32 0 z32 0 (.slice none 0 0)).toArray 42) = w4 at *
      generalize w3.heap.size = m at *
      generalize ha : Act.put _ _ _ = z9; simp [Act.put] at ha; subst ha

      go_upto_region 11 with fail
      go_cut [64] from 58 (fun v wx => v = .bool (decide (kn = 2 ∧ load.length = 74)) ∧ wx = w4)
      case first =>
       clear HN
       by_cases hk : kn = 2
       ·have hkb : ((kn : Int) == 2) = true := by rw [hk]; rfl
        by_cases hl : load.length = 74
        ·have hlb : ((load.length : Int) == 74) = true := by rw [hl]; rfl
         have HC := Lh (decide_eq_true (p := kn = 2 ∧ load.length = 74) ⟨hk, hl⟩)
         clear hk hl
         go_wp2_with fail
         go_meet
         case rel => exact ⟨congrArg Value.bool HC.o.symm, rfl⟩
        ·have hlb : ((load.length : Int) == 74) = false := by simp only [beq_eq_false_iff_ne]; omega
         have HC := Lh (decide_eq_false (p := kn = 2 ∧ load.length = 74) (fun h => hl h.2))
         clear hk hl
         go_wp2_with fail
         go_meet
         case rel => exact ⟨congrArg Value.bool HC.o.symm, rfl⟩
       ·have hkb : ((kn : Int) == 2) = false := by simp only [beq_eq_false_iff_ne]; omega
        have HC := Lh (decide_eq_false (p := kn = 2 ∧ load.length = 74) (fun h => hk h.1))
        clear hk
        go_wp2_with fail
        go_meet
        case rel => exact ⟨congrArg Value.bool HC.o.symm, rfl⟩
      case rest =>
       obtain ⟨hv, hw⟩ := hcut
       subst hv
       subst wc
       obtain ⟨b, hb⟩ : ∃ b, b = decide (kn = 2 ∧ load.length = 74) := ⟨_, rfl⟩
       rw [← hb]
       have HBB := Lh hb
       clear hb
       go_upto_if 64 with fail
       go_cut [] from 12 (fun wx => Hid (At32 w wx m AL load (D2 kn load) (.slice none 0 0)))
       case first => as_aux_lemma =>
        clear HN
        cases b with
        |false =>
         go_wp2_with fail
         go_meet
         case rel => exact Lh (by rw [D2_no (of_decide_eq_false HBB.o.symm)]; exact HT1.o)
        |true =>
         obtain ⟨rfl, hl⟩ := of_decide_eq_true HBB.o.symm
         have HL := Lh hl
         clear hl HBB
         have HA0 := Lh (show At32 w w4 m AL load ⟨2, 0, z32, 0, z32, 0, []⟩ (.slice none 0 0) from HT1.o)
         clear HT1
         have HLK := Lh (show z32.length = 32 from rfl)
         have HLM := Lh (show z32.length = 32 from rfl)
         have hv := rr load AL cL m 0 6 w4 HA0.o.ld (by decide) (by rw [HL.o]; decide) (by omega)
         rw [show ((0 : Nat) : Int) = 0 from rfl, show ((6 : Nat) : Int) = 6 from rfl] at hv
         have HV := Lh hv
         clear hv
         go_wp2_with fail
         refine HV.o.mono ?_
         rintro e _ ⟨rfl, rfl⟩
         clear HV
         obtain ⟨x, hx⟩ : ∃ x : Nat, x = co ((load.drop 0).take 6) := ⟨_, rfl⟩
         have Hx := Lh hx
         rw [← hx]
         clear hx
         obtain ⟨w10, hst, hgm, hot, hbl⟩ := bo (P := Tryz.prog) w4 (g := m) (off := 1) (vs := [.int .i64 (x : Nat)]) (v := .int .i64 (x : Nat)) (ty := 3) rfl (by kernel_rfl) HA0.o.rec_.blk (by simp [ah, HLK.o]) (fun u hu => by rw [List.mem_singleton.1 hu]; rfl) (xi 2 0 z32 0 z32 0 (.slice none 0 0) (x : Nat))
         have HA1 := Lh (HA0.o.stored (r' := ⟨2, (x : Nat), z32, 0, z32, 0, []⟩) ⟨rfl, rfl⟩ rfl hgm hot (hbl m w4 (br _ _) (nr _)))
         have HST := Lh hst
         clear hst hgm hot hbl
         go_wp2_with (refine ai none rfl ?_)
         refine Stop.go (ac rfl 3 rfl rfl rfl HST.o ?_)
         clear HST
         clear HA0
         have hv := tz load AL cL m 6 w10 HA1.o.ld (Nat.le_of_lt HA1.o.rec_.lt) (by rw [HL.o]; decide) (by omega)
         rw [show ((6 : Nat) : Int) = 6 from rfl] at hv
         have HV := Lh hv
         clear hv
         go_wp2_with fail
         refine HV.o.mono ?_
         rintro e w11 ⟨rfl, hb⟩
         have HA2 := Lh (HA1.o.later hb)
         clear HV hb
         clear HLK
         obtain ⟨kh, hkh⟩ : ∃ kh, kh = (load.drop 6).take 32 := ⟨_, rfl⟩
         obtain ⟨kk, hkk⟩ : ∃ kk : Int, kk = (co ((load.drop (6 + 32)).take 1) : Nat) := ⟨_, rfl⟩
         have HLK := Lh (show kh.length = 32 by rw [hkh, List.length_take, List.length_drop, HL.o]; decide)
         rw [← hkh, ← hkk]
         have HKH := Lh hkh
         have HKK := Lh hkk
         clear hkh hkk
         obtain ⟨w12, hst, hgm, hot, hbl⟩ := bo (P := Tryz.prog) w11 (g := m) (off := 2) (vs := af kh kk) (v := hkv kh kk) (ty := 34) (dl _ _) (al _ _ HLK.o) HA2.o.rec_.blk (by simp [ah, ae, HLK.o, bg]) (bc _ _) (nj 2 (x : Nat) z32 0 z32 0 (.slice none 0 0) kh kk rfl HLK.o)
         have HA3 := Lh (HA2.o.stored (r' := ⟨2, (x : Nat), kh, kk, z32, 0, []⟩) ⟨HLK.o, rfl⟩ rfl hgm hot (hbl m w11 (br _ _) (nr _)))
         have HST := Lh hst
         clear hst hgm hot hbl
         go_wp2_with (refine ai none rfl ?_)
         refine Stop.go (ac rfl 34 rfl rfl rfl HST.o ?_)
         clear HST
         clear HA2 HA1
         clear HLM
         go_wp2_with fail
         go_loopw [12] (fun v12 wr => ∃ i : Nat, i ≤ 32 ∧ v12 = .int .i64 i ∧ Hid (At32 w wr m AL load ⟨2, (x : Nat), kh, kk, (load.drop 39).take i ++ List.replicate (32 - i) 0, 0, []⟩ (.slice none 0 0))) (fun v12 _ => 32 - (intOf v12).toNat)
         case atStart => exact ⟨0, by omega, rfl, HA3.o⟩
         case round =>
          obtain ⟨i, hi, rfl, HI⟩ := hrel
          by_cases hlt : i < 32
          ·have hin : 39 + i < load.length := by rw [HL.o]; omega
           obtain ⟨ab, ao, rfl, hab, hcell⟩ := HI.o.ld.byte hin
           have HT_ := Lh (show ((load.drop 39).take i).length = i by rw [List.length_take, List.length_drop, HL.o]; omega)
           have HS := Lh (show (load.drop 39).take (i + 1) = (load.drop 39).take i ++ [load[39 + i]] by
            rw [List.take_succ_eq_append_getElem (by rw [List.length_drop, HL.o]; omega), List.getElem_drop])
           obtain ⟨w9, hst, hgm, hot, hbl⟩ := bo (P := Tryz.prog) wr (g := m) (off := 35 + i) (vs := [.int .u8 (load[39 + i].toNat : Nat)]) (v := .int .u8 (load[39 + i].toNat : Nat)) (ty := 5) rfl (by kernel_rfl) HI.o.rec_.blk (by simp [ah, HLK.o, HT_.o]; omega) (fun u hu => by rw [List.mem_singleton.1 hu]; rfl) (qhs 2 (x : Nat) kh kk 0 (.slice none 0 0) _ i _ HLK.o HT_.o hlt)
           have HT9 := Lh (HI.o.stored (r' := ⟨2, (x : Nat), kh, kk, (load.drop 39).take (i + 1) ++ List.replicate (32 - (i + 1)) 0, 0, []⟩) ⟨HLK.o, by simp [List.length_take, List.length_drop, HL.o]; omega⟩ rfl (by rw [HS.o]; exact hgm) hot (hbl m wr (br _ _) (nr _)))
           have HST := Lh hst
           obtain ⟨d, hd⟩ : ∃ d, d = load[39 + i].toNat := ⟨_, rfl⟩
           rw [← hd] at hcell HST
           obtain ⟨b, hb⟩ : ∃ b, b = 39 + i := ⟨_, rfl⟩
           have hbi : (39 : Int) + (i : Int) = (b : Int) := by omega
           rw [show ao + (39 + i) = ao + b by omega] at hcell
           have hbl2 : b < load.length := by omega
           clear hst hgm hot hbl hd hb HS hin
           go_wp2_with (refine ai (some 78) rfl ?_)
           refine Stop.go (ar 5 _ _ _ (fun Q' hQ' => ?_))
           simp only [T1, T0]
           go_wp2_with fail
           simp only [dr1, dr0]
           refine Stop.go (ac rfl 5 rfl rfl rfl HST.o ?_)
           go_wp2_with fail
           refine ⟨⟨i + 1, by omega, rfl, HT9⟩, ?_⟩
           simp [intOf]; omega
          ·obtain rfl : i = 32 := by omega
           have HT5 := Lh (show At32 w wr m AL load ⟨2, (x : Nat), kh, kk, (load.drop 39).take 32, 0, []⟩ (.slice none 0 0) by have := HI.o; rwa [Nat.sub_self, List.replicate_zero, List.append_nil] at this)
           clear HI hlt hi
           obtain ⟨mh, hmh⟩ : ∃ mh, mh = (load.drop 39).take 32 := ⟨_, rfl⟩
           rw [← hmh] at HT5
           have Hmh := Lh hmh
           have HLM := Lh (show mh.length = 32 by rw [hmh, List.length_take, List.length_drop, HL.o]; decide)
           clear hmh
           have hv := rr load AL cL m 71 3 wr HT5.o.ld (by decide) (by rw [HL.o]; decide) (by omega)
           rw [show ((71 : Nat) : Int) = 71 from rfl, show ((3 : Nat) : Int) = 3 from rfl] at hv
           have HV := Lh hv
           clear hv
           go_wp2_with fail
           refine HV.o.mono ?_
           rintro e _ ⟨rfl, rfl⟩
           clear HV
           obtain ⟨y, hy⟩ : ∃ y : Nat, y = co ((load.drop 71).take 3) := ⟨_, rfl⟩
           have Hy := Lh hy
           rw [← hy]
           clear hy
           obtain ⟨w14, hst, hgm, hot, hbl⟩ := bo (P := Tryz.prog) wr (g := m) (off := 67) (vs := [.int .i64 (y : Nat)]) (v := .int .i64 (y : Nat)) (ty := 3) rfl (by kernel_rfl) HT5.o.rec_.blk (by simp [ah, HLK.o, HLM.o]) (fun u hu => by rw [List.mem_singleton.1 hu]; rfl) (row_ms 2 (x : Nat) kh kk 0 (.slice none 0 0) mh (y : Nat) HLK.o HLM.o)
           have HA6 := Lh (HT5.o.stored (r' := ⟨2, (x : Nat), kh, kk, mh, (y : Nat), []⟩) ⟨HLK.o, HLM.o⟩ rfl hgm hot (hbl m wr (br _ _) (nr _)))
           have HST := Lh hst
           clear hst hgm hot hbl
           go_wp2_with (refine ai none rfl ?_)
           refine Stop.go (ac rfl 3 rfl rfl rfl HST.o ?_)
           clear HST
           go_wp2_with fail
           go_meet
           case rel => exact Lh (by rw [D2_yes HL.o, ← Hx.o, ← HKH.o, ← HKK.o, ← Hmh.o, ← Hy.o]; exact HA6.o)
       case rest =>
        have HT2 := Lh hcut.o
        clear hcut HT1 HBB
        generalize wc = wd2 at *
        go_upto_region 19 with fail
        go_cut [92] from 58 (fun v wx => v = .bool (decide (kn = 3 ∧ load.length = 6)) ∧ wx = wd2)
        case first =>
         clear HN
         by_cases hk : kn = 3
         ·have hkb : ((kn : Int) == 3) = true := by rw [hk]; rfl
          by_cases hl : load.length = 6
          ·have hlb : ((load.length : Int) == 6) = true := by rw [hl]; rfl
           have HC := Lh (decide_eq_true (p := kn = 3 ∧ load.length = 6) ⟨hk, hl⟩)
           clear hk hl
           go_wp2_with fail
           go_meet
           case rel => exact ⟨congrArg Value.bool HC.o.symm, rfl⟩
          ·have hlb : ((load.length : Int) == 6) = false := by simp only [beq_eq_false_iff_ne]; omega
           have HC := Lh (decide_eq_false (p := kn = 3 ∧ load.length = 6) (fun h => hl h.2))
           clear hk hl
           go_wp2_with fail
           go_meet
           case rel => exact ⟨congrArg Value.bool HC.o.symm, rfl⟩
         ·have hkb : ((kn : Int) == 3) = false := by simp only [beq_eq_false_iff_ne]; omega
          have HC := Lh (decide_eq_false (p := kn = 3 ∧ load.length = 6) (fun h => hk h.1))
          clear hk
          go_wp2_with fail
          go_meet
          case rel => exact ⟨congrArg Value.bool HC.o.symm, rfl⟩
        case rest =>
         obtain ⟨hv, hw⟩ := hcut
         subst hv
         subst wc
         obtain ⟨b, hb⟩ : ∃ b, b = decide (kn = 3 ∧ load.length = 6) := ⟨_, rfl⟩
         rw [← hb]
         have HBB := Lh hb
         clear hb
         go_upto_if 92 with fail
         go_cut [] from 12 (fun wx => Hid (At32 w wx m AL load (D3 kn load) (.slice none 0 0)))
         case first => as_aux_lemma =>
          clear HN
          cases b with
          |false =>
           go_wp2_with fail
           go_meet
           case rel => exact Lh (by rw [D3_no (of_decide_eq_false HBB.o.symm)]; exact HT2.o)
          |true =>
           obtain ⟨rfl, hl⟩ := of_decide_eq_true HBB.o.symm
           have HL := Lh hl
           clear hl HBB
           have HA0 := Lh (show At32 w wd2 m AL load ⟨3, 0, z32, 0, z32, 0, []⟩ (.slice none 0 0) from (by have := HT2.o; rwa [D2_at load (by decide)] at this))
           clear HT2
           have HLK := Lh (show z32.length = 32 from rfl)
           have HLM := Lh (show z32.length = 32 from rfl)
           have hv := rr load AL cL m 0 6 wd2 HA0.o.ld (by decide) (by rw [HL.o]; decide) (by omega)
           rw [show ((0 : Nat) : Int) = 0 from rfl, show ((6 : Nat) : Int) = 6 from rfl] at hv
           have HV := Lh hv
           clear hv
           go_wp2_with fail
           refine HV.o.mono ?_
           rintro e _ ⟨rfl, rfl⟩
           clear HV
           obtain ⟨x, hx⟩ : ∃ x : Nat, x = co ((load.drop 0).take 6) := ⟨_, rfl⟩
           have Hx := Lh hx
           rw [← hx]
           clear hx
           obtain ⟨w10, hst, hgm, hot, hbl⟩ := bo (P := Tryz.prog) wd2 (g := m) (off := 1) (vs := [.int .i64 (x : Nat)]) (v := .int .i64 (x : Nat)) (ty := 3) rfl (by kernel_rfl) HA0.o.rec_.blk (by simp [ah, HLK.o]) (fun u hu => by rw [List.mem_singleton.1 hu]; rfl) (xi 3 0 z32 0 z32 0 (.slice none 0 0) (x : Nat))
           have HA1 := Lh (HA0.o.stored (r' := ⟨3, (x : Nat), z32, 0, z32, 0, []⟩) ⟨rfl, rfl⟩ rfl hgm hot (hbl m wd2 (br _ _) (nr _)))
           have HST := Lh hst
           clear hst hgm hot hbl
           go_wp2_with (refine ai none rfl ?_)
           refine Stop.go (ac rfl 3 rfl rfl rfl HST.o ?_)
           clear HST
           clear HA0
           go_wp2_with fail
           go_meet
           case rel => exact Lh (by rw [D3_yes HL.o, ← Hx.o]; exact HA1.o)
         case rest =>
          have HT3 := Lh hcut.o
          clear hcut HT2 HBB
          generalize wc = wd3 at *
          go_upto_region 21 with fail
          go_cut [102] from 58 (fun v wx => v = .bool (decide (kn = 4 ∧ load.length = 68)) ∧ wx = wd3)
          case first =>
           clear HN
           by_cases hk : kn = 4
           ·have hkb : ((kn : Int) == 4) = true := by rw [hk]; rfl
            by_cases hl : load.length = 68
            ·have hlb : ((load.length : Int) == 68) = true := by rw [hl]; rfl
             have HC := Lh (decide_eq_true (p := kn = 4 ∧ load.length = 68) ⟨hk, hl⟩)
             clear hk hl
             go_wp2_with fail
             go_meet
             case rel => exact ⟨congrArg Value.bool HC.o.symm, rfl⟩
            ·have hlb : ((load.length : Int) == 68) = false := by simp only [beq_eq_false_iff_ne]; omega
             have HC := Lh (decide_eq_false (p := kn = 4 ∧ load.length = 68) (fun h => hl h.2))
             clear hk hl
             go_wp2_with fail
             go_meet
             case rel => exact ⟨congrArg Value.bool HC.o.symm, rfl⟩
           ·have hkb : ((kn : Int) == 4) = false := by simp only [beq_eq_false_iff_ne]; omega
            have HC := Lh (decide_eq_false (p := kn = 4 ∧ load.length = 68) (fun h => hk h.1))
            clear hk
            go_wp2_with fail
            go_meet
            case rel => exact ⟨congrArg Value.bool HC.o.symm, rfl⟩
          case rest =>
           obtain ⟨hv, hw⟩ := hcut
           subst hv
           subst wc
           obtain ⟨b, hb⟩ : ∃ b, b = decide (kn = 4 ∧ load.length = 68) := ⟨_, rfl⟩
           rw [← hb]
           have HBB := Lh hb
           clear hb
           go_upto_if 102 with fail
           go_cut [] from 12 (fun wx => Hid (At32 w wx m AL load (D4 kn load) (.slice none 0 0)))
           case first => as_aux_lemma =>
            clear HN
            cases b with
            |false =>
             go_wp2_with fail
             go_meet
             case rel => exact Lh (by rw [D4_no (of_decide_eq_false HBB.o.symm)]; exact HT3.o)
            |true =>
             obtain ⟨rfl, hl⟩ := of_decide_eq_true HBB.o.symm
             have HL := Lh hl
             clear hl HBB
             have HA0 := Lh (show At32 w wd3 m AL load ⟨4, 0, z32, 0, z32, 0, []⟩ (.slice none 0 0) from (by have := HT3.o; rwa [D3_at load (by decide) (by decide)] at this))
             clear HT3
             have HLK := Lh (show z32.length = 32 from rfl)
             have HLM := Lh (show z32.length = 32 from rfl)
             have hv := tz load AL cL m 0 wd3 HA0.o.ld (Nat.le_of_lt HA0.o.rec_.lt) (by rw [HL.o]; decide) (by omega)
             rw [show ((0 : Nat) : Int) = 0 from rfl] at hv
             have HV := Lh hv
             clear hv
             go_wp2_with fail
             refine HV.o.mono ?_
             rintro e w11 ⟨rfl, hb⟩
             have HA2 := Lh (HA0.o.later hb)
             clear HV hb
             clear HLK
             obtain ⟨kh, hkh⟩ : ∃ kh, kh = (load.drop 0).take 32 := ⟨_, rfl⟩
             obtain ⟨kk, hkk⟩ : ∃ kk : Int, kk = (co ((load.drop (0 + 32)).take 1) : Nat) := ⟨_, rfl⟩
             have HLK := Lh (show kh.length = 32 by rw [hkh, List.length_take, List.length_drop, HL.o]; decide)
             rw [← hkh, ← hkk]
             have HKH := Lh hkh
             have HKK := Lh hkk
             clear hkh hkk
             obtain ⟨w12, hst, hgm, hot, hbl⟩ := bo (P := Tryz.prog) w11 (g := m) (off := 2) (vs := af kh kk) (v := hkv kh kk) (ty := 34) (dl _ _) (al _ _ HLK.o) HA2.o.rec_.blk (by simp [ah, ae, HLK.o, bg]) (bc _ _) (nj 4 0 z32 0 z32 0 (.slice none 0 0) kh kk rfl HLK.o)
             have HA3 := Lh (HA2.o.stored (r' := ⟨4, 0, kh, kk, z32, 0, []⟩) ⟨HLK.o, rfl⟩ rfl hgm hot (hbl m w11 (br _ _) (nr _)))
             have HST := Lh hst
             clear hst hgm hot hbl
             go_wp2_with (refine ai none rfl ?_)
             refine Stop.go (ac rfl 34 rfl rfl rfl HST.o ?_)
             clear HST
             clear HA2 HA0
             clear HLM
             go_wp2_with fail
             go_loopw [13] (fun v12 wr => ∃ i : Nat, i ≤ 32 ∧ v12 = .int .i64 i ∧ Hid (At32 w wr m AL load ⟨4, 0, kh, kk, (load.drop 33).take i ++ List.replicate (32 - i) 0, 0, []⟩ (.slice none 0 0))) (fun v12 _ => 32 - (intOf v12).toNat)
             case atStart => exact ⟨0, by omega, rfl, HA3.o⟩
             case round =>
              obtain ⟨i, hi, rfl, HI⟩ := hrel
              by_cases hlt : i < 32
              ·have hin : 33 + i < load.length := by rw [HL.o]; omega
               obtain ⟨ab, ao, rfl, hab, hcell⟩ := HI.o.ld.byte hin
               have HT_ := Lh (show ((load.drop 33).take i).length = i by rw [List.length_take, List.length_drop, HL.o]; omega)
               have HS := Lh (show (load.drop 33).take (i + 1) = (load.drop 33).take i ++ [load[33 + i]] by
                rw [List.take_succ_eq_append_getElem (by rw [List.length_drop, HL.o]; omega), List.getElem_drop])
               obtain ⟨w9, hst, hgm, hot, hbl⟩ := bo (P := Tryz.prog) wr (g := m) (off := 35 + i) (vs := [.int .u8 (load[33 + i].toNat : Nat)]) (v := .int .u8 (load[33 + i].toNat : Nat)) (ty := 5) rfl (by kernel_rfl) HI.o.rec_.blk (by simp [ah, HLK.o, HT_.o]; omega) (fun u hu => by rw [List.mem_singleton.1 hu]; rfl) (qhs 4 0 kh kk 0 (.slice none 0 0) _ i _ HLK.o HT_.o hlt)
               have HT9 := Lh (HI.o.stored (r' := ⟨4, 0, kh, kk, (load.drop 33).take (i + 1) ++ List.replicate (32 - (i + 1)) 0, 0, []⟩) ⟨HLK.o, by simp [List.length_take, List.length_drop, HL.o]; omega⟩ rfl (by rw [HS.o]; exact hgm) hot (hbl m wr (br _ _) (nr _)))
               have HST := Lh hst
               obtain ⟨d, hd⟩ : ∃ d, d = load[33 + i].toNat := ⟨_, rfl⟩
               rw [← hd] at hcell HST
               obtain ⟨b, hb⟩ : ∃ b, b = 33 + i := ⟨_, rfl⟩
               have hbi : (33 : Int) + (i : Int) = (b : Int) := by omega
               rw [show ao + (33 + i) = ao + b by omega] at hcell
               have hbl2 : b < load.length := by omega
               clear hst hgm hot hbl hd hb HS hin
               go_wp2_with (refine ai (some 113) rfl ?_)
               refine Stop.go (ar 5 _ _ _ (fun Q' hQ' => ?_))
               simp only [T1, T0]
               go_wp2_with fail
               simp only [dr1, dr0]
               refine Stop.go (ac rfl 5 rfl rfl rfl HST.o ?_)
               go_wp2_with fail
               refine ⟨⟨i + 1, by omega, rfl, HT9⟩, ?_⟩
               simp [intOf]; omega
              ·obtain rfl : i = 32 := by omega
               have HT5 := Lh (show At32 w wr m AL load ⟨4, 0, kh, kk, (load.drop 33).take 32, 0, []⟩ (.slice none 0 0) by have := HI.o; rwa [Nat.sub_self, List.replicate_zero, List.append_nil] at this)
               clear HI hlt hi
               obtain ⟨mh, hmh⟩ : ∃ mh, mh = (load.drop 33).take 32 := ⟨_, rfl⟩
               rw [← hmh] at HT5
               have Hmh := Lh hmh
               have HLM := Lh (show mh.length = 32 by rw [hmh, List.length_take, List.length_drop, HL.o]; decide)
               clear hmh
               have hv := rr load AL cL m 65 3 wr HT5.o.ld (by decide) (by rw [HL.o]; decide) (by omega)
               rw [show ((65 : Nat) : Int) = 65 from rfl, show ((3 : Nat) : Int) = 3 from rfl] at hv
               have HV := Lh hv
               clear hv
               go_wp2_with fail
               refine HV.o.mono ?_
               rintro e _ ⟨rfl, rfl⟩
               clear HV
               obtain ⟨y, hy⟩ : ∃ y : Nat, y = co ((load.drop 65).take 3) := ⟨_, rfl⟩
               have Hy := Lh hy
               rw [← hy]
               clear hy
               obtain ⟨w14, hst, hgm, hot, hbl⟩ := bo (P := Tryz.prog) wr (g := m) (off := 67) (vs := [.int .i64 (y : Nat)]) (v := .int .i64 (y : Nat)) (ty := 3) rfl (by kernel_rfl) HT5.o.rec_.blk (by simp [ah, HLK.o, HLM.o]) (fun u hu => by rw [List.mem_singleton.1 hu]; rfl) (row_ms 4 0 kh kk 0 (.slice none 0 0) mh (y : Nat) HLK.o HLM.o)
               have HA6 := Lh (HT5.o.stored (r' := ⟨4, 0, kh, kk, mh, (y : Nat), []⟩) ⟨HLK.o, HLM.o⟩ rfl hgm hot (hbl m wr (br _ _) (nr _)))
               have HST := Lh hst
               clear hst hgm hot hbl
               go_wp2_with (refine ai none rfl ?_)
               refine Stop.go (ac rfl 3 rfl rfl rfl HST.o ?_)
               clear HST
               go_wp2_with fail
               go_meet
               case rel => exact Lh (by rw [D4_yes HL.o, ← HKH.o, ← HKK.o, ← Hmh.o, ← Hy.o]; exact HA6.o)
           case rest =>
            have HT4 := Lh hcut.o
            clear hcut HT3 HBB
            generalize wc = wd4 at *
            go_upto_region 28 with fail
            go_cut [131] from 58 (fun v wx => v = .bool (decide ((kn = 5 ∨ kn = 6) ∧ load.length = 33)) ∧ wx = wd4)
            case first =>
             clear HN
             by_cases hk : kn = 5
             ·have hkb : ((kn : Int) == 5) = true := by rw [hk]; rfl
              by_cases hl : load.length = 33
              ·have hlb : ((load.length : Int) == 33) = true := by rw [hl]; rfl
               have HC := Lh (decide_eq_true (p := (kn = 5 ∨ kn = 6) ∧ load.length = 33) ⟨.inl hk, hl⟩)
               clear hk hl
               go_wp2_with fail
               go_meet
               case rel => exact ⟨congrArg Value.bool HC.o.symm, rfl⟩
              ·have hlb : ((load.length : Int) == 33) = false := by simp only [beq_eq_false_iff_ne]; omega
               have HC := Lh (decide_eq_false (p := (kn = 5 ∨ kn = 6) ∧ load.length = 33) (fun h => hl h.2))
               clear hk hl
               go_wp2_with fail
               go_meet
               case rel => exact ⟨congrArg Value.bool HC.o.symm, rfl⟩
             ·have hkb : ((kn : Int) == 5) = false := by simp only [beq_eq_false_iff_ne]; omega
              have HK5 := Lh hk
              clear hk
              by_cases hk : kn = 6
              ·have hkb6 : ((kn : Int) == 6) = true := by rw [hk]; rfl
               by_cases hl : load.length = 33
               ·have hlb : ((load.length : Int) == 33) = true := by rw [hl]; rfl
                have HC := Lh (decide_eq_true (p := (kn = 5 ∨ kn = 6) ∧ load.length = 33) ⟨.inr hk, hl⟩)
                clear hk hl
                go_wp2_with fail
                go_meet
                case rel => exact ⟨congrArg Value.bool HC.o.symm, rfl⟩
               ·have hlb : ((load.length : Int) == 33) = false := by simp only [beq_eq_false_iff_ne]; omega
                have HC := Lh (decide_eq_false (p := (kn = 5 ∨ kn = 6) ∧ load.length = 33) (fun h => hl h.2))
                clear hk hl
                go_wp2_with fail
                go_meet
                case rel => exact ⟨congrArg Value.bool HC.o.symm, rfl⟩
              ·have hkb6 : ((kn : Int) == 6) = false := by simp only [beq_eq_false_iff_ne]; omega
               have HC := Lh (decide_eq_false (p := (kn = 5 ∨ kn = 6) ∧ load.length = 33) (fun h => h.1.elim HK5.o hk))
               clear hk
               go_wp2_with fail
               go_meet
               case rel => exact ⟨congrArg Value.bool HC.o.symm, rfl⟩
            case rest =>
             obtain ⟨hv, hw⟩ := hcut
             subst hv
             subst wc
             obtain ⟨b, hb⟩ : ∃ b, b = decide ((kn = 5 ∨ kn = 6) ∧ load.length = 33) := ⟨_, rfl⟩
             rw [← hb]
             have HBB := Lh hb
             clear hb
             go_upto_if 131 with fail
             go_cut [] from 12 (fun wx => Hid (At32 w wx m AL load (D5 kn load) (.slice none 0 0)))
             case first => as_aux_lemma =>
              clear HN
              cases b with
              |false =>
               go_wp2_with fail
               go_meet
               case rel => exact Lh (by rw [D5_no (of_decide_eq_false HBB.o.symm)]; exact HT4.o)
              |true =>
               obtain ⟨hk56, hl⟩ := of_decide_eq_true HBB.o.symm
               have HK56 := Lh hk56
               have HL := Lh hl
               clear hl HBB
               have HA0 := Lh (show At32 w wd4 m AL load ⟨(kn : Nat), 0, z32, 0, z32, 0, []⟩ (.slice none 0 0) from (by have := HT4.o; rwa [D4_at load (by omega) (by omega) (by omega)] at this))
               clear HT4 hk56
               have HLK := Lh (show z32.length = 32 from rfl)
               have HLM := Lh (show z32.length = 32 from rfl)
               have hv := tz load AL cL m 0 wd4 HA0.o.ld (Nat.le_of_lt HA0.o.rec_.lt) (by rw [HL.o]; decide) (by omega)
               rw [show ((0 : Nat) : Int) = 0 from rfl] at hv
               have HV := Lh hv
               clear hv
               go_wp2_with fail
               refine HV.o.mono ?_
               rintro e w11 ⟨rfl, hb⟩
               have HA2 := Lh (HA0.o.later hb)
               clear HV hb
               clear HLK
               obtain ⟨kh, hkh⟩ : ∃ kh, kh = (load.drop 0).take 32 := ⟨_, rfl⟩
               obtain ⟨kk, hkk⟩ : ∃ kk : Int, kk = (co ((load.drop (0 + 32)).take 1) : Nat) := ⟨_, rfl⟩
               have HLK := Lh (show kh.length = 32 by rw [hkh, List.length_take, List.length_drop, HL.o]; decide)
               rw [← hkh, ← hkk]
               have HKH := Lh hkh
               have HKK := Lh hkk
               clear hkh hkk
               obtain ⟨w12, hst, hgm, hot, hbl⟩ := bo (P := Tryz.prog) w11 (g := m) (off := 2) (vs := af kh kk) (v := hkv kh kk) (ty := 34) (dl _ _) (al _ _ HLK.o) HA2.o.rec_.blk (by simp [ah, ae, HLK.o, bg]) (bc _ _) (nj (kn : Nat) 0 z32 0 z32 0 (.slice none 0 0) kh kk rfl HLK.o)
               have HA3 := Lh (HA2.o.stored (r' := ⟨(kn : Nat), 0, kh, kk, z32, 0, []⟩) ⟨HLK.o, rfl⟩ rfl hgm hot (hbl m w11 (br _ _) (nr _)))
               have HST := Lh hst
               clear hst hgm hot hbl
               go_wp2_with (refine ai none rfl ?_)
               refine Stop.go (ac rfl 34 rfl rfl rfl HST.o ?_)
               clear HST
               clear HA2 HA0
               go_wp2_with fail
               go_meet
               case rel => exact Lh (by rw [D5_yes HK56.o HL.o, ← HKH.o, ← HKK.o]; exact HA3.o)
             case rest =>
              have HT5 := Lh hcut.o
              clear hcut HT4 HBB
              generalize wc = wd5 at *
              go_upto_block 4 with fail
              go_cut [] from 12 (fun wx => ∃ (A : Option Addr) (n c : Nat), Hid (At32 w wx m AL load (D7 kn load) (.slice A n c)))
              case first => as_aux_lemma =>
               clear HN
               by_cases k7 : kn = 7
               ·have hkb : ((kn : Int) == 7) = true := by rw [k7]; rfl
                have HK7 := Lh k7
                have HT0 := Lh (show At32 w wd5 m AL load ⟨7, 0, z32, 0, z32, 0, []⟩ (.slice none 0 0) by have := HT5.o; rwa [k7, D5_no (by omega), D4_at load (by decide) (by decide) (by decide)] at this)
                clear HT5 k7
                go_wp2_with fail
                go_loopw [14] (fun v14 wr => ∃ (a : Nat) (xs : List KeyD) (A : Option Addr) (n c : Nat), Hid (a = 33 * xs.length) ∧ a ≤ load.length ∧ v14 = .int .i64 a ∧ Hid (xs = (List.range xs.length).map fun j => fk load (33 * j)) ∧ Hid (At32 w wr m AL load ⟨7, 0, z32, 0, z32, 0, xs⟩ (.slice A n c))) (fun v14 _ => load.length + 33 - (intOf v14).toNat)
                case atStart => exact ⟨0, [], none, 0, 0, Lh rfl, Nat.zero_le _, rfl, Lh rfl, HT0⟩
                case round =>
                 obtain ⟨a, xs, A7, n7, c7, hia, hal, rfl, HXS, HT⟩ := hrel
                 by_cases hle : a + 33 ≤ load.length
                 ·have hlb : (a : Int) + 33 ≤ (load.length : Int) := by omega
                  go_wp2_with fail
                  refine pt [4, 5, 6] [1] [] (fun w' => w'.cell? ⟨m, 68, none⟩ = some (.slice A7 n7 c7)) HT.o.rec_.keys_ (by kernel_rfl) (by kernel_rfl) ?_
                  refine fx 4 (by decide) (fun Q0 hQ0 => ?_)
                  simp only [T1, T0]
                  have HC5 := Lh HT.o.rec_.keys_
                  have hc5 := HC5.o
                  go_wp2_with fail
                  try simp only [dr1, dr0]
                  refine ig (fun Q1 hQ1 => ?_)
                  go_wp2_with fail
                  have HTd := Lh (HT.o.later ((br _ _).drew))
                  refine (tz load AL cL m a _ HTd.o.ld (Nat.le_of_lt HTd.o.rec_.lt) hle (by omega)).mono ?_
                  rintro e w6 ⟨rfl, hb6⟩
                  have HT6 := Lh (HTd.o.later hb6)
                  obtain ⟨kh, hkh⟩ : ∃ kh, kh = (load.drop a).take 32 := ⟨_, rfl⟩
                  obtain ⟨kk, hkk⟩ : ∃ kk : Int, kk = (co ((load.drop (a + 32)).take 1) : Nat) := ⟨_, rfl⟩
                  have hb1 := qnf load (a + 32) 1 (by omega)
                  have HLK := Lh (show kh.length = 32 by rw [hkh, List.length_take, List.length_drop]; omega)
                  have HKB := Lh (show -9223372036854775808 ≤ kk ∧ kk ≤ 9223372036854775807 by rw [hkk]; simp at hb1; omega)
                  have HXS2 := Lh (show xs ++ [(kh, kk)] = (List.range (xs ++ [(kh, kk)]).length).map fun j => fk load (33 * j) by
                   rw [List.length_append, List.length_singleton, List.range_succ, List.map_append, ← HXS.o, List.map_singleton, ← hia.o, hkh, hkk]
                   rfl)
                  have HA2 := Lh (show a + 33 = 33 * (xs ++ [(kh, kk)]).length by rw [List.length_append, List.length_singleton, hia.o]; omega)
                  rw [← hkh, ← hkk]
                  clear hkh hkk hb6 hb1
                  go_wp2_with fail
                  refine ⟨HT6.o.rec_.keys_, ?_⟩
                  refine ig (fun Q2 hQ2 => ?_)
                  refine cd rfl 28 34 rfl rfl (vs := af kh kk) Tryz.underlying28 (z := hkv z32 0) (qmd kh kk HLK.o) (dl _ _) (by rw [ae]; omega) (by rw [ae, HLK.o]; decide) ?_
                  have hb7 : Below w6.heap.size w6 (w6.alloc (.cells (af kh kk).toArray 34)) := (br _ _).alloc (nr _) _
                  have HT7 := Lh (HT6.o.later hb7)
                  have HG7 := Lh (hzn w6 (.cells (af kh kk).toArray 34))
                  refine jm (hQ2 _ _ ⟨HT7.o.rec_.keys_, ?_⟩)
                  generalize ha : Act.put _ _ _ = z9; simp [Act.put] at ha; subst ha
                  have HM6 := Lh (HT6.o.rec_.lt)
                  have hs7 : (w6.alloc (.cells (af kh kk).toArray 34)).heap.size = w6.heap.size + 1 := Array.size_push _
                  have hxl : xs.length ≤ load.length := by have := hia.o; omega
                  generalize w6.alloc (.cells (af kh kk).toArray 34) = w7 at *
                  refine ig (fun Q3 hQ3 => ?_)
                  have hn7 : n7 = xs.length := HT7.o.keys.sl.n_eq
                  subst hn7
                  refine ay nt rfl rfl rfl rfl (show w7.ownsRow (m + 1) 34 33 (.slice A7 xs.length c7) xs.length (xs.flatMap fun x => af x.1 x.2) from HT7.o.keys.1) (Rd.row (B := w7.heap.size) HG7.o (by rw [hs7]; omega)) (m := 1) (by rw [ae, HLK.o]) (bc _ _) ?h63 ?hby ?hbase ?_
                  case h63 => simp only [maxLen]; omega
                  case hby => omega
                  case hbase => have := HM6.o; omega
                  intro v8 w8 hown8 hg8 _ _
                  have hm7 : m + 1 ≤ w7.heap.size := by have := HM6.o; omega
                  have hb8 : Below (m + 1) w7 w8 := ax ((br _ _).mono hm7) hg8 HT7.o.keys.1 (nr _) hm7
                  obtain ⟨A8, c8, rfl, _, _⟩ := ap hown8
                  have HO8 := Lh hown8
                  have hm8 : w8.heap[m]? = some (.cells (ag 7 0 z32 0 z32 0 (.slice A7 xs.length c7)).toArray 42 (0, 0)) := (hb8.block m (Nat.lt_succ_self _)).trans HT7.o.rec_.blk
                  have HB8 := Lh hb8
                  have hc8 : w8.cell? ⟨m, 68, none⟩ = some (.slice A7 xs.length c7) := (cu.mk hm8 rfl rfl).keys_
                  refine jm (hQ3 _ _ ⟨hc8, ?_⟩)
                  generalize ha : Act.put _ _ _ = z9; simp [Act.put] at ha; subst ha
                  refine fx 2 (by decide) (fun Q4 hQ4 => ?_)
                  simp only [T1, T0]
                  obtain ⟨w9, hst, hgm, hot, hbl⟩ := bo (P := Tryz.prog) w8 (g := m) (off := 68) (vs := [.slice A8 (xs.length + 1) c8]) (v := .slice A8 (xs.length + 1) c8) (ty := 28) rfl (by kernel_rfl) hm8 (by simp [ah, bg]) (fun u hu => by rw [List.mem_singleton.1 hu]; rfl) (qeo 7 0 z32 0 z32 0 (.slice A7 xs.length c7) (.slice A8 (xs.length + 1) c8) rfl rfl)
                  have HST9 := Lh hst
                  have HT9 := Lh (HT7.o.pushed (ks := xs ++ [(kh, kk)]) HB8.o (v8 := .slice A8 (xs.length + 1) c8) ⟨by simpa using HO8.o, fun x hx => by
                   rcases List.mem_append.1 hx with hx | hx
                   ·exact HT7.o.keys.2 x hx
                   ·rw [List.mem_singleton.1 hx]
                    exact ⟨HLK.o, HKB.o⟩⟩ hgm hot (hbl m w8 (br _ _) (nr _)))
                  clear hst hgm hot hbl
                  go_wp2_with (refine ai none rfl ?_)
                  refine Stop.go (ac rfl 28 rfl rfl rfl HST9.o ?_)
                  refine jm (hQ4 _ _ ?_)
                  generalize ha : Act.put _ _ _ = z9; simp [Act.put] at ha; subst ha
                  simp only [dr1, dr0]
                  refine lu ⟨by rfl, ⟨(fun _ => ⟨_, fun w' hI => jo Tryz.underlying28 hI⟩), trivial⟩, ?_⟩
                  go_wp2_with fail
                  refine ⟨⟨a + 33, xs ++ [(kh, kk)], A8, xs.length + 1, c8, HA2, hle, (by rw [Int.natCast_add]; rfl), HXS2, HT9⟩, ?_⟩
                  simp [intOf]; omega
                 ·have hlb : ¬ ((a : Int) + 33 ≤ (load.length : Int)) := by omega
                  have HF := Lh (show D7 kn load = ⟨7, 0, z32, 0, z32, 0, xs⟩ by
                   have h1 : xs.length = load.length / 33 := by have := hia.o; omega
                   rw [HXS.o, h1, HK7.o]
                   exact (if_pos rfl).trans rfl)
                  clear hle
                  go_wp2_with fail
                  go_meet
                  case rel => exact ⟨A7, n7, c7, Lh (by rw [HF.o]; exact HT.o)⟩
               ·have hkb : ((kn : Int) == 7) = false := by simp only [beq_eq_false_iff_ne]; omega
                have HF := Lh (show D7 kn load = D5 kn load from if_neg k7)
                clear k7
                go_wp2_with fail
                go_loopw [14] (fun v14 wr => v14 = .int .i64 0 ∧ wr = wd5) (fun _ _ => 0)
                case atStart => exact ⟨rfl, rfl⟩
                case round =>
                 obtain ⟨rfl, hw⟩ := hrel
                 subst hw
                 go_wp2_with fail
                 go_meet
                 case rel => exact ⟨none, 0, 0, Lh (by rw [HF.o]; exact HT5.o)⟩
              case rest => as_aux_lemma =>
               obtain ⟨A6, n6, c6, HT6⟩ := hcut
               clear HT5
               generalize wc = w6 at *
               obtain ⟨R, hR⟩ : ∃ R, R = D7 kn load := ⟨_, rfl⟩
               have hok := D7_ok kn load
               have HHS := Lh (show Hs R by rw [hR]; exact (qrz kn load).1)
               have HDEC := Lh (show okT (kn : Nat) load = true → R = decR (kn : Nat) load by rw [hR]; exact D7_dec kn load)
               rw [← hR] at HT6 hok
               have HOK := Lh hok
               clear hR hok
               have hn6 : n6 = R.keys.length := HT6.o.keys.sl.n_eq
               subst hn6
               go_wp2_with fail
               refine qj [1, 5, 6] [0, 4, 8] [6, 8] (by kernel_rfl) (by kernel_rfl) ?_
               refine bh 1 (by decide) (fun Q1 hQ1 => ?_)
               simp only [T1, T0]
               refine aa rfl 42 rfl rfl fc rfl (cw _ _ _ _ _ _ _ HHS.o.1 HHS.o.2) HT6.o.rec_.all_ ?_
               refine hQ1 _ _ ?_
               simp only [dr1, dr0]
               generalize ha : Act.put _ _ _ = z9; simp [Act.put] at ha; subst ha
               refine ie (fun Q1 hQ1 => ?_)
               go_wp2_with fail
               have HTd := Lh (HT6.o.later ((br _ _).drew))
               refine (zz R A6 R.keys.length c6 _ _ HHS.o HTd.o.keys.sl (nr _)).mono ?_
               rintro e w7 ⟨rfl, hb7⟩
               have HD7 := Lh hb7
               have HB7 := Lh (cg hb7)
               have HT7 := Lh (HT6.o.later HB7.o)
               clear hb7 HTd
               cases hrb : au R with
               |false =>
                have HNO := Lh (show gc l = none by rw [HN.o, ← HOK.o, hrb]; rfl)
                clear hrb
                go_wp2_with fail
                refine ⟨HD7.o, ?_⟩
                refine bh 2 (by decide) (fun Q2 hQ2 => ?_)
                simp only [T1, T0]
                go_wp2_with fail
                try simp only [dr1, dr0]
                refine jg rfl ?_
                generalize ha : Act.put _ _ _ = z9; simp [Act.put] at ha; subst ha
                refine jg rfl ?_
                generalize ha : Act.put _ _ _ = z9; simp [Act.put] at ha; subst ha
                refine jg rfl ?_
                generalize ha : Act.put _ _ _ = z9; simp [Act.put] at ha; subst ha
                refine jg rfl ?_
                generalize ha : Act.put _ _ _ = z9; simp [Act.put] at ha; subst ha
                refine jg rfl ?_
                generalize ha : Act.put _ _ _ = z9; simp [Act.put] at ha; subst ha
                refine jg rfl ?_
                generalize ha : Act.put _ _ _ = z9; simp [Act.put] at ha; subst ha
                refine bh 1 (by decide) (fun Q3 hQ3 => ?_)
                simp only [T1, T0]
                go_wp2_with fail
                try simp only [dr1, dr0]
                refine jr ⟨by rfl, ⟨(fun _ => ⟨_, _, rfl, by simpa using HT6.o.rec_.all_ 0 _ rfl⟩), Text.no_want rfl, Text.no_want rfl, trivial⟩, ?_⟩
                have HGX := Lh HT7.o.row
                have HBX := Lh HT7.o.below
                go_wp2_with (refine ai (some 165) rfl ?_)
                refine Stop.go (bl rfl 42 rfl (vs := #[]) (by rfl) (kp _) ?_)
                refine ac rfl 42 rfl rfl rfl (ce (bb ..) (cw _ _ _ _ _ _ _ rfl rfl) HGX.o (by rw [List.size_toArray, ah, ah]; rfl) (bd _ _ _ _ _ _ _ _ _)) ?_
                go_step
                go_step
                go_step
                go_step
                go_step
                go_step
                refine wp_ret ?_
                repeat refine yi ?_
                refine mz rfl rfl rfl rfl rfl rfl (setRow_heap _ _ _ _ _ _ HGX.o) ?_
                exact jn HNO.o rfl (below_setRow HBX.o (nr _) _)
               |true =>
                have HRT := Lh hrb
                clear hrb
                go_wp2_with fail
                refine ⟨HD7.o, ?_⟩
                refine bh 2 (by decide) (fun Q2 hQ2 => ?_)
                simp only [T1, T0]
                go_wp2_with fail
                try simp only [dr1, dr0]
                refine bh 1 (by decide) (fun Q2 hQ2 => ?_)
                simp only [T1, T0]
                refine aw (by rfl) 42 rfl rfl fc rfl (cw _ _ _ _ _ _ _ HHS.o.1 HHS.o.2) HT7.o.rec_.all_ ?_
                refine hQ2 _ _ ?_
                simp only [dr1, dr0]
                generalize ha : Act.put _ _ _ = z9; simp [Act.put] at ha; subst ha
                refine ie (fun Q2 hQ2 => ?_)
                go_wp2_with fail
                refine (yy R A6 R.keys.length c6 _ _ HHS.o HT7.o.keys.sl (nr _) HRT.o).mono ?_
                rintro e w8 ⟨v, rfl, hown, hb8⟩
                obtain ⟨A8, c8, rfl, _, _⟩ := ap hown
                have HD8 := Lh (HD7.o.trans (hb8.mono HD7.o.size))
                have HB8 := Lh (HB7.o.trans (hb8.mono HB7.o.size))
                have HT8 := Lh (HT6.o.later HB8.o)
                obtain ⟨X, hX⟩ : ∃ X, X = dx R := ⟨_, rfl⟩
                obtain ⟨xn, hxn⟩ : ∃ xn, xn = X.length := ⟨_, rfl⟩
                rw [← hX] at hown ⊢
                have hHOK := HOK.o
                rw [← hX, HRT.o] at hHOK
                obtain ⟨sa, hsa⟩ : ∃ sa : ByteArray, sa = ⟨X.toArray⟩ := ⟨_, rfl⟩
                obtain ⟨sb, hsb⟩ : ∃ sb : ByteArray, sb = ⟨load.toArray⟩ := ⟨_, rfl⟩
                have hcva : (convert 44 9 (.slice A8 xn c8)).run Tryz.prog w8 = .ok (.string sa) w8 := by
                 rw [hsa]
                 exact ot (P := Tryz.prog) (Rd.of_own hown) Tryz.underlying44 Tryz.underlying5 Tryz.underlying9 xn hxn c8
                have hcvb : ∀ w', Below w6.heap.size w6 w' → (convert 44 9 (.slice AL load.length cL)).run Tryz.prog w' = .ok (.string sb) w' := by
                 intro w' hb
                 rw [hsb]
                 exact ot (P := Tryz.prog) (HT6.o.later hb).ld Tryz.underlying44 Tryz.underlying5 Tryz.underlying9 load.length rfl cL
                have HCVB := Lh hcvb
                have hcvb1 := hcvb _ HB8.o
                have hq := str_eq X load
                rw [← hsa, ← hsb] at hq
                rw [← hxn]
                have HXX := Lh (And.intro hX hxn)
                clear hcvb hsa hsb hX hxn hown hb8
                obtain ⟨q, hq2⟩ : ∃ q, q = decide (X = load) := ⟨_, rfl⟩
                rw [← hq2] at hq hHOK
                have HQ := Lh hHOK
                clear hHOK hq2
                go_wp2_with fail
                refine ⟨HD8.o, ?_⟩
                refine ie (fun Q3 hQ3 => ?_)
                go_wp2_with fail
                refine ⟨HD8.o, ?_⟩
                refine bh 4 (by decide) (fun Q4 hQ4 => ?_)
                simp only [T1, T0]
                cases q with
                |false =>
                 have HNO := Lh (show gc l = none by rw [HN.o, ← HQ.o]; rfl)
                 go_wp2_with fail
                 try simp only [dr1, dr0]
                 refine jr ⟨by rfl, ⟨(fun _ => ⟨_, _, rfl, by simpa using HT6.o.rec_.all_ 0 _ rfl⟩), (fun _ => ⟨_, _, rfl, by simpa using HT6.o.rec_.all_ 0 _ rfl⟩), (fun _ => ⟨_, fun w' hb => HCVB.o w' ⟨hb.os, hb.tape, hb.output, hb.size, hb.block⟩⟩), trivial⟩, ?_⟩
                 have HGX := Lh HT8.o.row
                 have HBX := Lh HT8.o.below
                 go_wp2_with (refine ai (some 165) rfl ?_)
                 refine Stop.go (bl rfl 42 rfl (vs := #[]) (by rfl) (kp _) ?_)
                 refine ac rfl 42 rfl rfl rfl (ce (bb ..) (cw _ _ _ _ _ _ _ rfl rfl) HGX.o (by rw [List.size_toArray, ah, ah]; rfl) (bd _ _ _ _ _ _ _ _ _)) ?_
                 go_step
                 go_step
                 go_step
                 go_step
                 go_step
                 go_step
                 refine wp_ret ?_
                 repeat refine yi ?_
                 refine mz rfl rfl rfl rfl rfl rfl (setRow_heap _ _ _ _ _ _ HGX.o) ?_
                 exact jn HNO.o rfl (below_setRow HBX.o (nr _) _)
                |true =>
                 have HYES := Lh (show gc l = some R by rw [HN.o, ← HQ.o, HDEC.o HQ.o.symm]; rfl)
                 go_wp2_with fail
                 try simp only [dr1, dr0]
                 refine jr ⟨by rfl, ⟨(fun _ => ⟨_, _, rfl, by simpa using HT6.o.rec_.all_ 0 _ rfl⟩), (fun _ => ⟨_, _, rfl, by simpa using HT6.o.rec_.all_ 0 _ rfl⟩), (fun _ => ⟨_, fun w' hb => HCVB.o w' ⟨hb.os, hb.tape, hb.output, hb.size, hb.block⟩⟩), trivial⟩, ?_⟩
                 go_wp2_with (refine ai (some 166) rfl ?_)
                 refine Stop.go (aa rfl 42 rfl rfl fc rfl (cw _ _ _ _ _ _ _ HHS.o.1 HHS.o.2) HT8.o.rec_.all_ ?_)
                 refine ac rfl 42 rfl rfl rfl (ce (bb ..) (cw _ _ _ _ _ _ _ HHS.o.1 HHS.o.2) HT8.o.row (by rw [List.size_toArray, ah, ah, HHS.o.1, HHS.o.2]; rfl) (bd _ _ _ _ _ _ _ _ _)) ?_
                 go_step
                 go_step
                 go_step
                 go_step
                 go_step
                 go_step
                 refine wp_ret ?_
                 repeat refine yi ?_
                 refine mz rfl HHS.o.1 HHS.o.2 rfl rfl rfl (setRow_heap _ _ _ _ _ _ HT8.o.row) ?_
                 have HKX := HT8.o.keys.other (w' := w8.setRow w.heap.size (ag R.kind R.seq R.kh R.kk R.mh R.ms (.slice A6 R.keys.length c6)).toArray) (Nat.lt_succ_of_lt HT8.o.m_) fun k hk => setRow_other _ _ _ _ hk
                 exact qeq HYES.o rfl (HKX.more (Nat.le_succ_of_le (Nat.le_of_lt HT8.o.m_))) (below_setRow HT8.o.below (nr _) _)
     ·have HN := Lh (HP.o.trans (qkd HUN.o (show el F = none by unfold el; rw [hfo]; simp only; rw [if_neg hz])))
      have hzb : ((z : Int) != (F.length : Int)) = true := by simp; omega
      clear hfo hb3 HG2 HB2 HP HUN HRF hz hrL
      go_wp2_with (refine ai (some 54) rfl ?_)
      refine Stop.go (bl rfl 42 rfl (vs := #[]) (by rfl) (kp _) ?_)
      refine ac rfl 42 rfl rfl rfl (ce (bb ..) (cw _ _ _ _ _ _ _ rfl rfl) HG3.o (by rw [List.size_toArray, ah, ah]; rfl) (bd _ _ _ _ _ _ _ _ _)) ?_
      go_wp2_with fail
      refine mz rfl rfl rfl rfl rfl rfl (setRow_heap _ _ _ _ _ _ HG3.o) ?_
      exact jn HN.o rfl (below_setRow HB3.o (nr _) _)
  ·have HN := Lh (show gc l = none from yd h0' (by
    intro he
    apply hd10
    rw [hd]
    simp only [en] at he
    rw [he]
    rfl))
   have hne : ((d : Int) != 10) = true := by simp; omega
   clear hd en h0 h0'
   rw [hn] at hl hc hnl h00 ⊢
   clear hn
   have hsub : ((n + 1 : Nat) : Int) - 1 = (n : Int) := by omega
   go_wp2_with (refine ai (some 27) rfl ?_)
   refine Stop.go (bl rfl 42 rfl (vs := #[]) (by rfl) (kp _) ?_)
   refine ac rfl 42 rfl rfl rfl (ce (bb ..) (cw _ _ _ _ _ _ _ rfl rfl) HG1.o (by rw [List.size_toArray, ah, ah]; rfl) (bd _ _ _ _ _ _ _ _ _)) ?_
   go_wp2_with fail
   refine mz rfl rfl rfl rfl rfl rfl (setRow_heap _ _ _ _ _ _ HG1.o) ?_
   exact jn HN.o rfl (below_setRow HB1.o (nr _) _)
end Go.Proofs.YtplbcbamnjnhlaaGreatDoor
