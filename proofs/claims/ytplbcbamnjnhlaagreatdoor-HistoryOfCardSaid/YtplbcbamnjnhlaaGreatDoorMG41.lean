/- Texts of this proof joined: RefAll, RefLine, Hist8. -/
import Derived.Test.YtplbcbamnjnhlaaGreatDoorMG00
import Derived.Test.YtplbcbamnjnhlaaGreatDoorMG31
import Derived.Test.YtplbcbamnjnhlaaGreatDoorMG40
import Derived.Test.YtplbcbamnjnhlaaGreatDoorMG38
import Derived.Test.YtplbcbamnjnhlaaGreatDoorMG30
import Derived.Test.YtplbcbamnjnhlaaGreatDoorMG19
import Derived.Test.YtplbcbamnjnhlaaGreatDoorMG24
import Derived.Test.YtplbcbamnjnhlaaGreatDoorMG17
import Derived.Test.YtplbcbamnjnhlaaGreatDoorMG36
import Derived.Test.YtplbcbamnjnhlaaGreatDoorMG37
import Derived.Test.YtplbcbamnjnhlaaGreatDoorMG29
set_option maxRecDepth 100000
set_option maxHeartbeats 40000000
namespace Go.Proofs.YtplbcbamnjnhlaaGreatDoor
open Go.RowKit

theorem qc5 : oe Tryz.prog 50 42 69 120 (recv 0 0 z32 0 z32 0 (.slice none 0 0)) := u1 Tryz.underlying50 (by kernel_rfl) rfl (by omega)
theorem qay (k s : Int) (kh : List UInt8) (kk : Int) (mh : List UInt8) (ms : Int) (v : Value) (h1 : kh.length = 32) (h2 : mh.length = 32) : (Tryz.prog.info? 42).map (fun i => (i.zero, i.size)) = some (some (recv 0 0 z32 0 z32 0 (.slice none 0 0)), (ag k s kh kk mh ms v).length) := by rw [ah, h1, h2]; kernel_rfl
def RefAllTo (l : List UInt8) (w : World) (e : Ending) (w' : World) : Prop :=
 ∃ rs n v, e = .returned (.tuple #[v, .int .i64 (n : Nat)]) ∧ js l rs n ∧ OwnL eRec w' w.heap.size 42 v rs ∧ Below w.heap.size w w'
theorem qhg (l : List UInt8) (A : Option Addr) (c B : Nat) (w : World) (hr : Rd w B A (ak l)) (hB : B ≤ w.heap.size) (hl : l.length ≤ 68719476736) (hc : l.length ≤ c) :
  Calls Tryz.prog 40 #[.slice A l.length c] w (RefAllTo l w) := by
 have HBW := Lh hB
 have HR := Lh hr
 clear hr hB
 go_enter Tryz.func40, Tryz.ntmps40
 go_wp2_with fail
 go_loopw [4, 5, 6] (fun v4 v5 v6 wr => ∃ (n i : Nat) (rs : List RecD) (A4 : Option Addr) (c4 : Nat), n ≤ i ∧ i ≤ l.length ∧ v5 = .int .i64 n ∧ v6 = .int .i64 i ∧ v4 = .slice A4 rs.length c4 ∧ Hid (OwnL eRec wr w.heap.size 42 (.slice A4 rs.length c4) rs) ∧
  Hid (l.take n = rs.flatMap bm ∧ ∀ r ∈ rs, jj r) ∧ Hid (∀ j, j < i - n → (l.drop n)[j]? ≠ some 10) ∧ Hid (Below w.heap.size w wr)) (fun _ _ v6 _ => l.length - (intOf v6).toNat)
 case atStart => exact ⟨0, 0, [], none, 0, by omega, by omega, rfl, rfl, rfl, OwnL.nil _ _ _, ⟨rfl, fun r hr => nomatch hr⟩, (fun j hj => by omega), br _ _⟩
 case round =>
  obtain ⟨n, i, rs, A4, c4, hni, hil, rfl, rfl, rfl, HO, HL, HF, HB⟩ := hrel
  have hn : n ≤ l.length := Nat.le_trans hni hil
  have HRn := Lh ((HR.o.below (HB.o.mono HBW.o)).cut n c hc)
  have hdl : (l.drop n).length = l.length - n := by rw [List.length_drop]
  by_cases hlt : i < l.length
  ·obtain ⟨k, hk⟩ : ∃ k, k = i - n := ⟨_, rfl⟩
   have hkl : k < l.length - n := by omega
   obtain ⟨ab, ao, hAe, hab, hcell⟩ := (HR.o.below (HB.o.mono HBW.o)).byte hlt
   subst hAe
   obtain ⟨d, hd⟩ : ∃ d, d = l[i].toNat := ⟨_, rfl⟩
   rw [← hd] at hcell
   have hlk : (l.drop n)[k]? = some l[i] := by rw [List.getElem?_drop, show n + k = i by omega, List.getElem?_eq_getElem hlt]
   by_cases hd10 : d = 10
   ·obtain ⟨q, hq⟩ : ∃ q, q = i + 1 := ⟨_, rfl⟩
    have hqi : (i : Int) + 1 = (q : Int) := by omega
    have hql : q ≤ l.length := by omega
    have hnq : n ≤ q := by omega
    have hu2 := qg4 (some ⟨ab, ao, none⟩) l.length c n q hnq (by omega)
    have HTL := Lh (show ((l.drop n).take (k + 1)).length = q - n by rw [List.length_take, hdl]; omega)
    have HP := Lh (qd6 ((l.drop n).take (k + 1)) (cutA (some ⟨ab, ao, none⟩) c n) (c - n) B wr (HRn.o.upto (k + 1)) (Nat.le_trans HBW.o HB.o.size) (by rw [HTL.o]; omega) (by rw [HTL.o]; omega))
    rw [HTL.o] at HP
    have HFD := Lh (show wk (l.drop n) k from ⟨by rw [hlk]; exact congrArg some (UInt8.toNat_inj.1 (hd.symm.trans hd10)), fun j hj => HF.o j (by omega)⟩)
    have HQ := Lh (show q = n + k + 1 by omega)
    clear hd hlk hk hdl HF hq
    subst hd10
    go_wp2_with fail
    refine HP.o.mono ?_
    rintro e w2 ⟨hb2, hcase⟩
    have HO2 := Lh (HO.o.later hb2)
    have HLT := Lh (show ∀ g, (Value.slice A4 rs.length c4).ownBlock = some g → g < wr.heap.size by
     obtain ⟨css, h1, _⟩ := HO.o
     exact fun g hg => (h1.lt g hg).2)
    have HB2 := Lh (HB.o.trans (hb2.mono HB.o.size))
    rcases hcase with ⟨hnone, rfl⟩ | ⟨r, v, hsome, rfl, hks⟩
    ·have HA := Lh (show js l rs n from ⟨hn, HL.o.1, HL.o.2, fun j hj => by rw [hj.one HFD.o]; exact hnone⟩)
     clear hnone hb2 HO HB
     have hb3 : Below w2.heap.size w2 (w2.alloc (.cells (ag dw.kind dw.seq dw.kh dw.kk dw.mh dw.ms (.slice none 0 0)).toArray 42)) := (br _ _).alloc (nr _) _
     have HO3 := Lh (HO2.o.later hb3)
     have HB3 := Lh (HB2.o.trans (hb3.mono HB2.o.size))
     clear hb3
     go_wp2_with (refine ai (some 7) rfl ?_)
     refine Stop.go (ax rfl 42 rfl iw rfl ?_)
     refine ac rfl 42 rfl rfl rfl (cg (g := w2.heap.size) rfl (a7 ..) (dc _ _ _ _ _ _ _ rfl rfl) (by rw [List.size_toArray, ah, ah]; rfl) (bb _ _ _ _ _ _ _ _ _)) ?_
     generalize w2.alloc (.cells (ag dw.kind dw.seq dw.kh dw.kk dw.mh dw.ms (.slice none 0 0)).toArray 42) = w3 at *
     go_wp2_with fail
     go_ret2
     exact ⟨rs, n, _, rfl, HA.o, HO3.o, HB3.o⟩
    ·obtain ⟨hgr, hline⟩ := zg hsome
     have HGR := Lh hgr
     have HLN := Lh (show l.take q = (rs ++ [r]).flatMap bm by
      rw [HQ.o, Nat.add_assoc, List.take_add, HL.o.1, hline, List.flatMap_append]
      simp)
     have HG2 := Lh (show ∀ x ∈ rs ++ [r], jj x from fun x hx => by
      rcases List.mem_append.1 hx with hx | hx
      ·exact HL.o.2 x hx
      ·rw [List.mem_singleton.1 hx]; exact HGR.o)
     obtain ⟨AK, cK, rfl, _, _⟩ := ap hks.1
     have hsz := si HL.o.1
     have hb3 : Below w2.heap.size w2 (w2.alloc (.cells (ag r.kind r.seq r.kh r.kk r.mh r.ms (.slice AK r.keys.length cK)).toArray 42)) := (br _ _).alloc (nr _) _
     have HO3 := Lh (HO2.o.later hb3)
     have HB3 := Lh (HB2.o.trans (hb3.mono HB2.o.size))
     have HK3 := Lh (hks.later hb3)
     have HA3 := Lh (cu.new (t := 42) (kind := r.kind) (seq := r.seq) (kk := r.kk) (ms := r.ms) (v := .slice AK r.keys.length cK) w2 hgr.2.1.1 hgr.2.1.2)
     have HHS := Lh hgr.2.1
     clear hb3 hb2 hks hline hsome hgr HO HO2 HB HB2 HP HL
     go_wp2_with (refine ai (some 7) rfl ?_)
     refine Stop.go (ax rfl 42 rfl iw rfl ?_)
     refine ac rfl 42 rfl rfl rfl (cg (g := w2.heap.size) rfl (a7 ..) (dc _ _ _ _ _ _ _ HHS.o.1 HHS.o.2) (by rw [List.size_toArray, ah, ah, HHS.o.1, HHS.o.2]; rfl) (bb _ _ _ _ _ _ _ _ _)) ?_
     generalize w2.alloc (.cells (ag r.kind r.seq r.kh r.kk r.mh r.ms (.slice AK r.keys.length cK)).toArray 42) = w3 at *
     go_wp2_with (refine ai (some 34) rfl ?_)
     refine Stop.go (aa rfl 42 rfl rfl ef rfl (dc _ _ _ _ _ _ _ HHS.o.1 HHS.o.2) HA3.o.all_ ?_)
     refine cb rfl 50 42 rfl rfl Tryz.underlying50 (qay r.kind r.seq r.kh r.kk r.mh r.ms (.slice AK r.keys.length cK) HHS.o.1 HHS.o.2) (a7 ..) (by rw [ah]; omega) (by rw [ah, HHS.o.1, HHS.o.2]; decide) ?_
     have hb4 : Below w3.heap.size w3 (w3.alloc (.cells (ag r.kind r.seq r.kh r.kk r.mh r.ms (.slice AK r.keys.length cK)).toArray 42)) := (br _ _).alloc (nr _) _
     have HO4 := Lh (HO3.o.later hb4)
     have HB4 := Lh (HB3.o.trans (hb4.mono HB3.o.size))
     have HK4 := Lh (HK3.o.later hb4)
     have HG4 := Lh (hzn w3 (.cells (ag r.kind r.seq r.kh r.kk r.mh r.ms (.slice AK r.keys.length cK)).toArray 42))
     have HS4 := Lh (show (w3.alloc (.cells (ag r.kind r.seq r.kh r.kk r.mh r.ms (.slice AK r.keys.length cK)).toArray 42)).heap.size = w3.heap.size + 1 from Array.size_push _)
     generalize w3.alloc (.cells (ag r.kind r.seq r.kh r.kk r.mh r.ms (.slice AK r.keys.length cK)).toArray 42) = w4 at *
     clear hb4 HO3 HB3 HK3
     obtain ⟨css, hcs1, hcs2, hcs3⟩ := HO4.o
     have HC3 := Lh hcs3
     have hbw4 := HB4.o.size
     refine az qc5 rfl rfl rfl rfl hcs1 (Rd.row (B := w4.heap.size) HG4.o (by rw [HS4.o]; omega)) (m := 1) (by rw [ah, HHS.o.1, HHS.o.2]) (bb _ _ _ _ _ _ _ _ _) ?h63 ?hby ?hbase ?_
     case h63 => simp only [maxLen]; omega
     case hby => omega
     case hbase => exact hbw4
     intro v5 w5 hown5 hg5 hor5 _
     have HO5 := Lh (OwnL.snoc hcs2 HC3.o (x := r) (fun w' ha => qdm HHS.o HK4.o HLT.o ha) hown5 hg5 hor5)
     have HB5 := Lh (aw HB4.o hg5 hcs1 (nr _) hbw4)
     obtain ⟨A5, c5, rfl, _, _⟩ := ap hown5
     clear hown5 hg5 hor5 hcs1 hcs3 HC3 hcs2
     generalize ha : Act.put _ _ _ = z9; simp [Act.put] at ha; subst ha
     go_wp2_with fail
     refine ⟨⟨q, q, rs ++ [r], A5, c5, nr _, hql, rfl, rfl, ?_, ?_, Lh ⟨HLN.o, HG2.o⟩, Lh (fun j hj => by omega), HB5⟩, ?_⟩
     ·rw [List.length_append]; rfl
     ·rw [List.length_append]; exact HO5
     ·simp [intOf]; omega
   ·have hne : ((d : Int) != 10) = true := by simp; omega
    have HF2 := Lh (show ∀ j, j < i + 1 - n → (l.drop n)[j]? ≠ some 10 by
     intro j hj
     by_cases h : j < i - n
     ·exact HF.o j h
     ·obtain rfl : j = k := by omega
      rw [hlk]
      intro he
      injection he with he
      exact hd10 (by rw [hd, he]; rfl))
    clear hd hlk hk hdl
    go_wp2_with fail
    refine ⟨⟨n, i + 1, rs, A4, c4, by omega, by omega, rfl, (by go_num), rfl, HO, HL, HF2, HB⟩, ?_⟩
    simp [intOf]; omega
  ·have HA := Lh (show js l rs n from ⟨hn, HL.o.1, HL.o.2, fun j hj => absurd hj.1 (by
    by_cases h : j < i - n
    ·exact HF.o j h
    ·rw [List.getElem?_eq_none (by rw [hdl]; omega)]
     simp)⟩)
   clear HF hdl
   go_wp2_with fail
   go_ret2
   exact ⟨rs, n, _, rfl, HA.o, HO.o, HB.o⟩

theorem r5 (r : RecD) (A : Option Addr) (n c B : Nat) (w : World) (hr : Hs r) (h1 : SlR eKey w B (.slice A n c) r.keys) (hB : B ≤ w.heap.size) (hR : av r = true) (hks : ∀ x ∈ r.keys, x.1.length = 32) :
  Calls Tryz.prog 41 #[rv r (.slice A n c)] w fun e w' => ∃ v, e = .returned v ∧ w'.ownsRow w.heap.size 5 1 v (bm r).length (ak (bm r)) ∧ Below w.heap.size w w' := by
 have HR := Lh hr
 have HBW := Lh hB
 have HRT := Lh hR
 obtain ⟨K, hK⟩ : ∃ K : UInt8, r.kind = (K.toNat : Int) := ⟨UInt8.ofNat r.kind.toNat, by
  have := kj hR
  rw [UInt8.toNat_ofNat']
  omega⟩
 have HK := Lh hK
 have hk8 := K.toNat_lt
 have HLL := Lh (xo r hr hks hR)
 have HLN := Lh (show bm r = eo (cv K (dx r)) ++ [10] by unfold bm; rw [hK]; simp)
 have HB1 := Lh ((br _ _).alloc (nr _) (.cells (ag r.kind r.seq r.kh r.kk r.mh r.ms (.slice A n c)).toArray 42) : Below w.heap.size w _)
 have HG1 := Lh (cu.new (t := 42) (kind := r.kind) (seq := r.seq) (kk := r.kk) (ms := r.ms) (v := .slice A n c) w hr.1 hr.2)
 have HK1 := Lh (h1.fut HB1.o hB (nr B))
 clear hr h1 hB hks hK hR
 go_enter Tryz.func41, Tryz.ntmps41
 go_wp2_with (refine ai (some 1) rfl ?_)
 refine Stop.go (bx rfl _ rfl rfl (a7 ..) ?_)
 generalize w.alloc (.cells (ag r.kind r.seq r.kh r.kk r.mh r.ms (.slice A n c)).toArray 42) = w1 at *
 go_wp2_with fail
 refine t9 [4, 5, 6, 7, 8] [1, 3] [] (fun w' => Below w1.drew.heap.size w1.drew w') 7 _ (br _ _) (by kernel_rfl) rfl rfl (by kernel_rfl) ?_
 have HBD := Lh (show Below w1.heap.size w1 w1.drew from (br _ _).drew)
 have HG2 := Lh (HG1.o.later HBD.o)
 have HK2 := Lh (HK1.o.below (HBD.o.mono (Nat.le_trans HBW.o HB1.o.size)))
 have HBN := Lh (show B ≤ w1.drew.heap.size from Nat.le_trans (Nat.le_trans HBW.o HB1.o.size) HBD.o.size)
 generalize w1.drew = w2 at *
 have c0 : w2.cell? ⟨w.heap.size, 0, none⟩ = some (.int .i64 K.toNat) := by rw [← HK.o]; exact HG2.o.kind_
 have HC0 := Lh (show ∀ w', Below w2.heap.size w2 w' → w'.cell? ⟨w.heap.size, 0, none⟩ = some (.int .i64 K.toNat) from fun w' hb => by rw [← HK.o]; exact (HG2.o.later hb).kind_)
 have HCA := Lh (show ∀ w', Below w2.heap.size w2 w' → ∀ j u, (ag r.kind r.seq r.kh r.kk r.mh r.ms (.slice A n c))[j]? = some u → w'.cell? ⟨w.heap.size, 0 + j, none⟩ = some u from fun w' hb => (HG2.o.later hb).all_)
 refine wpF_seg 3 (by decide) (fun Q0 hQ0 => ?_)
 simp only [T1, T0]
 go_wp2_with fail
 try simp only [dr1, dr0]
 refine wpF_seg 1 (by decide) (fun Q1 hQ1 => ?_)
 simp only [T1, T0]
 refine aa rfl 42 rfl rfl ef rfl (dc _ _ _ _ _ _ _ HR.o.1 HR.o.2) HG2.o.all_ ?_
 refine hQ1 _ _ ?_
 simp only [dr1, dr0]
 generalize ha : Act.put _ _ _ = z9; simp [Act.put] at ha; subst ha
 obtain ⟨LL, hLL⟩ : ∃ L, L = dx r := ⟨_, rfl⟩
 rw [← hLL] at HLL HLN
 obtain ⟨F, hF⟩ : ∃ F, F = cv K LL := ⟨_, rfl⟩
 have HFL := Lh (show F.length ≤ 10000 by rw [hF, iu]; have := mm LL.length (by have := HLL.o; omega); have := HLL.o; omega)
 rw [← hF] at HLN
 obtain ⟨S, hS⟩ : ∃ S, S = eo F := ⟨_, rfl⟩
 have hsl : S.length ≤ 20000 := by rw [hS, jk]; have := HFL.o; omega
 rw [← hS] at HLN
 have HEL := Lh hLL
 have HEF := Lh hF
 have HES := Lh hS
 have HB2 := Lh (br w2.heap.size w2)
 clear hLL hF hS
 refine t8 (by decide) rfl (fun Q1 hQ1 => ?_) (fun Q1 hQ1 => ?_)
 ·have hbf : Below w2.heap.size w2 (w2.alloc (.cells #[.int .u8 10] 5)) := (br _ _).alloc (nr _) _
  have HF3 := Lh (hzn w2 (.cells #[.int .u8 10] 5))
  have HB3 := Lh (HB2.o.trans (hbf.mono HB2.o.size))
  clear hbf
  go_wp2_with fail
  generalize w2.alloc (.cells #[.int .u8 10] 5) = w3 at *
  refine ⟨HB3.o, ?_⟩
  refine lx (by decide) (fun Q1 hQ1 => ?_)
  go_wp2_with fail
  refine (vh r A n c B _ HR.o (HK2.o.below (HB3.o.mono HBN.o)) (Nat.le_trans HBN.o HB3.o.size) HRT.o).mono ?_
  rintro e w4 ⟨v4, rfl, ho4, hb4⟩
  rw [← HEL.o] at ho4
  obtain ⟨A4, c4, rfl, _, _⟩ := ap ho4
  have HB4 := Lh (HB3.o.trans (hb4.mono HB3.o.size))
  have HF4 := Lh (show w4.heap[w2.heap.size]? = some (.cells #[.int .u8 10] 5 (0, 0)) from (hb4.block _ (gl HF3.o)).trans HF3.o)
  have HL4 := Lh (Rd.of_own ho4)
  clear ho4 hb4
  go_wp2_with fail
  refine ⟨HB4.o, ?_⟩
  refine lx (by decide) (fun Q1 hQ1 => ?_)
  go_wp2_with fail
  refine (tc K LL _ _ _ _ HL4.o (nr _) (by have := HLL.o; omega)).mono ?_
  rintro e w5 ⟨v5, rfl, ho5, hb5⟩
  rw [← HEF.o] at ho5
  obtain ⟨A5, c5, rfl, _, _⟩ := ap ho5
  have HB5 := Lh (HB4.o.trans (hb5.mono HB4.o.size))
  have HF5 := Lh (show w5.heap[w2.heap.size]? = some (.cells #[.int .u8 10] 5 (0, 0)) from (hb5.block _ (gl HF4.o)).trans HF4.o)
  have HL5 := Lh (Rd.of_own ho5)
  clear ho5 hb5
  go_wp2_with fail
  refine ⟨HB5.o, ?_⟩
  refine lx (by decide) (fun Q1 hQ1 => ?_)
  go_wp2_with fail
  refine (p5 F _ _ _ _ HL5.o (nr _) (by have := HFL.o; omega)).mono ?_
  rintro e w6 ⟨v6, rfl, ho6, hb6⟩
  rw [← HES.o] at ho6
  obtain ⟨A6, c6, rfl, _, _⟩ := ap ho6
  have HB6 := Lh (HB5.o.trans (hb6.mono HB5.o.size))
  have HF6 := Lh (show w6.heap[w2.heap.size]? = some (.cells #[.int .u8 10] 5 (0, 0)) from (hb6.block _ (gl HF5.o)).trans HF5.o)
  have HO6 := Lh (fg ho6 (show w2.heap.size ≤ w5.heap.size from HB5.o.size))
  clear ho6 hb6
  go_wp2_with fail
  refine ⟨HB6.o, ?_⟩
  refine qq ?_
  refine lx (by decide) (fun Q1 hQ1 => ?_)
  refine az gy rfl rfl rfl rfl HO6.o (Rd.row (B := w6.heap.size) HF6.o (gl HF6.o)) (m := 1) rfl (by simp [Value.oneCell']) ?h63 ?hby ?hbase ?_
  case h63 => simp only [maxLen]; omega
  case hby => omega
  case hbase => exact HB6.o.size
  intro v7 w7 hown7 hg7 _ _
  have HB7 := Lh (aw HB6.o hg7 HO6.o (nr _) HB6.o.size)
  have HO7 := Lh hown7
  clear hown7 hg7
  refine jg (hQ1 _ _ ⟨HB7.o, ?_⟩)
  generalize ha : Act.put _ _ _ = z9; simp [Act.put] at ha; subst ha
  refine ng 1 (by decide) (fun Q2 hQ2 => ?_)
  simp only [T1, T0]
  go_wp2_with fail
  try simp only [dr1, dr0]
  refine t6 ⟨by rfl, ⟨(fun _ => ⟨_, fun w' hI => jm Tryz.underlying3 (HC0.o w' hI)⟩), (fun _ => ⟨_, fun w' hI => fx ef rfl (dc _ _ _ _ _ _ _ HR.o.1 HR.o.2) (HCA.o w' hI)⟩), trivial⟩, ?_⟩
  go_wp2_with fail
  go_ret
  refine ⟨v7, rfl, ?_, HB1.o.trans ((HBD.o.trans (HB7.o.mono HBD.o.size)).mono HB1.o.size)⟩
  have h7 := fg HO7.o (show w.heap.size ≤ w2.heap.size from Nat.le_trans HB1.o.size HBD.o.size)
  rw [HLN.o, bn, List.length_append]
  exact h7
 ·go_wp2_with fail
  refine (vh r A n c B _ HR.o (HK2.o.below (HB2.o.mono HBN.o)) (Nat.le_trans HBN.o HB2.o.size) HRT.o).mono ?_
  rintro e w8 ⟨v8, rfl, ho8, hb8⟩
  rw [← HEL.o] at ho8
  obtain ⟨A8, c8, rfl, _, _⟩ := ap ho8
  have HB8 := Lh (HB2.o.trans (hb8.mono HB2.o.size))
  have HL8 := Lh (Rd.of_own ho8)
  clear ho8 hb8
  go_wp2_with fail
  refine ⟨HB8.o, ?_⟩
  refine t8 (by decide) rfl (fun Q1 hQ1 => ?_) (fun Q1 hQ1 => ?_)
  ·have hbf : Below w8.heap.size w8 (w8.alloc (.cells #[.int .u8 10] 5)) := (br _ _).alloc (nr _) _
   have HF9 := Lh (hzn w8 (.cells #[.int .u8 10] 5))
   have HB9 := Lh (HB8.o.trans (hbf.mono HB8.o.size))
   have HL9 := Lh ((HL8.o.below hbf).more hbf.size)
   clear hbf
   go_wp2_with fail
   generalize w8.alloc (.cells #[.int .u8 10] 5) = w9 at *
   refine ⟨HB9.o, ?_⟩
   refine lx (by decide) (fun Q1 hQ1 => ?_)
   go_wp2_with fail
   refine (tc K LL _ _ _ _ HL9.o (nr _) (by have := HLL.o; omega)).mono ?_
   rintro e w10 ⟨v10, rfl, ho10, hb10⟩
   rw [← HEF.o] at ho10
   obtain ⟨A10, c10, rfl, _, _⟩ := ap ho10
   have HB10 := Lh (HB9.o.trans (hb10.mono HB9.o.size))
   have HF10 := Lh (show w10.heap[w8.heap.size]? = some (.cells #[.int .u8 10] 5 (0, 0)) from (hb10.block _ (gl HF9.o)).trans HF9.o)
   have HL10 := Lh (Rd.of_own ho10)
   clear ho10 hb10
   go_wp2_with fail
   refine ⟨HB10.o, ?_⟩
   refine lx (by decide) (fun Q1 hQ1 => ?_)
   go_wp2_with fail
   refine (p5 F _ _ _ _ HL10.o (nr _) (by have := HFL.o; omega)).mono ?_
   rintro e w11 ⟨v11, rfl, ho11, hb11⟩
   rw [← HES.o] at ho11
   obtain ⟨A11, c11, rfl, _, _⟩ := ap ho11
   have HB11 := Lh (HB10.o.trans (hb11.mono HB10.o.size))
   have HF11 := Lh (show w11.heap[w8.heap.size]? = some (.cells #[.int .u8 10] 5 (0, 0)) from (hb11.block _ (gl HF10.o)).trans HF10.o)
   have HO11 := Lh (fg ho11 (show w2.heap.size ≤ w10.heap.size from HB10.o.size))
   clear ho11 hb11
   go_wp2_with fail
   refine ⟨HB11.o, ?_⟩
   refine qq ?_
   refine lx (by decide) (fun Q1 hQ1 => ?_)
   refine az gy rfl rfl rfl rfl HO11.o (Rd.row (B := w11.heap.size) HF11.o (gl HF11.o)) (m := 1) rfl (by simp [Value.oneCell']) ?h63 ?hby ?hbase ?_
   case h63 => simp only [maxLen]; omega
   case hby => omega
   case hbase => exact HB11.o.size
   intro v12 w12 hown12 hg12 _ _
   have HB12 := Lh (aw HB11.o hg12 HO11.o (nr _) HB11.o.size)
   have HO12 := Lh hown12
   clear hown12 hg12
   refine jg (hQ1 _ _ ⟨HB12.o, ?_⟩)
   generalize ha : Act.put _ _ _ = z9; simp [Act.put] at ha; subst ha
   refine ng 1 (by decide) (fun Q2 hQ2 => ?_)
   simp only [T1, T0]
   go_wp2_with fail
   try simp only [dr1, dr0]
   refine t6 ⟨by rfl, ⟨(fun _ => ⟨_, fun w' hI => jm Tryz.underlying3 (HC0.o w' hI)⟩), (fun _ => ⟨_, fun w' hI => fx ef rfl (dc _ _ _ _ _ _ _ HR.o.1 HR.o.2) (HCA.o w' hI)⟩), trivial⟩, ?_⟩
   go_wp2_with fail
   go_ret
   refine ⟨v12, rfl, ?_, HB1.o.trans ((HBD.o.trans (HB12.o.mono HBD.o.size)).mono HB1.o.size)⟩
   have h7 := fg HO12.o (show w.heap.size ≤ w2.heap.size from Nat.le_trans HB1.o.size HBD.o.size)
   rw [HLN.o, bn, List.length_append]
   exact h7
  ·go_wp2_with fail
   refine (tc K LL _ _ _ _ HL8.o (nr _) (by have := HLL.o; omega)).mono ?_
   rintro e w13 ⟨v13, rfl, ho13, hb13⟩
   rw [← HEF.o] at ho13
   obtain ⟨A13, c13, rfl, _, _⟩ := ap ho13
   have HB13 := Lh (HB8.o.trans (hb13.mono HB8.o.size))
   have HL13 := Lh (Rd.of_own ho13)
   clear ho13 hb13
   go_wp2_with fail
   refine ⟨HB13.o, ?_⟩
   refine t8 (by decide) rfl (fun Q1 hQ1 => ?_) (fun Q1 hQ1 => ?_)
   ·have hbf : Below w13.heap.size w13 (w13.alloc (.cells #[.int .u8 10] 5)) := (br _ _).alloc (nr _) _
    have HF14 := Lh (hzn w13 (.cells #[.int .u8 10] 5))
    have HB14 := Lh (HB13.o.trans (hbf.mono HB13.o.size))
    have HL14 := Lh ((HL13.o.below hbf).more hbf.size)
    clear hbf
    go_wp2_with fail
    generalize w13.alloc (.cells #[.int .u8 10] 5) = w14 at *
    refine ⟨HB14.o, ?_⟩
    refine lx (by decide) (fun Q1 hQ1 => ?_)
    go_wp2_with fail
    refine (p5 F _ _ _ _ HL14.o (nr _) (by have := HFL.o; omega)).mono ?_
    rintro e w15 ⟨v15, rfl, ho15, hb15⟩
    rw [← HES.o] at ho15
    obtain ⟨A15, c15, rfl, _, _⟩ := ap ho15
    have HB15 := Lh (HB14.o.trans (hb15.mono HB14.o.size))
    have HF15 := Lh (show w15.heap[w13.heap.size]? = some (.cells #[.int .u8 10] 5 (0, 0)) from (hb15.block _ (gl HF14.o)).trans HF14.o)
    have HO15 := Lh (fg ho15 (show w2.heap.size ≤ w14.heap.size from HB14.o.size))
    clear ho15 hb15
    go_wp2_with fail
    refine ⟨HB15.o, ?_⟩
    refine qq ?_
    refine lx (by decide) (fun Q1 hQ1 => ?_)
    refine az gy rfl rfl rfl rfl HO15.o (Rd.row (B := w15.heap.size) HF15.o (gl HF15.o)) (m := 1) rfl (by simp [Value.oneCell']) ?h63 ?hby ?hbase ?_
    case h63 => simp only [maxLen]; omega
    case hby => omega
    case hbase => exact HB15.o.size
    intro v16 w16 hown16 hg16 _ _
    have HB16 := Lh (aw HB15.o hg16 HO15.o (nr _) HB15.o.size)
    have HO16 := Lh hown16
    clear hown16 hg16
    refine jg (hQ1 _ _ ⟨HB16.o, ?_⟩)
    generalize ha : Act.put _ _ _ = z9; simp [Act.put] at ha; subst ha
    refine ng 1 (by decide) (fun Q2 hQ2 => ?_)
    simp only [T1, T0]
    go_wp2_with fail
    try simp only [dr1, dr0]
    refine t6 ⟨by rfl, ⟨(fun _ => ⟨_, fun w' hI => jm Tryz.underlying3 (HC0.o w' hI)⟩), (fun _ => ⟨_, fun w' hI => fx ef rfl (dc _ _ _ _ _ _ _ HR.o.1 HR.o.2) (HCA.o w' hI)⟩), trivial⟩, ?_⟩
    go_wp2_with fail
    go_ret
    refine ⟨v16, rfl, ?_, HB1.o.trans ((HBD.o.trans (HB16.o.mono HBD.o.size)).mono HB1.o.size)⟩
    have h7 := fg HO16.o (show w.heap.size ≤ w2.heap.size from Nat.le_trans HB1.o.size HBD.o.size)
    rw [HLN.o, bn, List.length_append]
    exact h7
   ·go_wp2_with fail
    refine (p5 F _ _ _ _ HL13.o (nr _) (by have := HFL.o; omega)).mono ?_
    rintro e w17 ⟨v17, rfl, ho17, hb17⟩
    rw [← HES.o] at ho17
    obtain ⟨A17, c17, rfl, _, _⟩ := ap ho17
    have HB17 := Lh (HB13.o.trans (hb17.mono HB13.o.size))
    have HO17 := Lh (fg ho17 (show w2.heap.size ≤ w13.heap.size from HB13.o.size))
    clear ho17 hb17
    go_wp2_with fail
    refine ⟨HB17.o, ?_⟩
    refine qdx ?_
    refine ib (fun Q1 hQ1 => ?_)
    have hbf : Below w17.heap.size w17 (w17.alloc (.cells #[.int .u8 10] 5)) := (br _ _).alloc (nr _) _
    have HF18 := Lh (hzn w17 (.cells #[.int .u8 10] 5))
    have HB18 := Lh (HB17.o.trans (hbf.mono HB17.o.size))
    have HO18 := Lh (bt HO17.o hbf)
    clear hbf
    go_wp2_with fail
    generalize w17.alloc (.cells #[.int .u8 10] 5) = w18 at *
    refine ⟨HB18.o, ?_⟩
    refine ib (fun Q1 hQ1 => ?_)
    refine az gy rfl rfl rfl rfl HO18.o (Rd.row (B := w18.heap.size) HF18.o (gl HF18.o)) (m := 1) rfl (by simp [Value.oneCell']) ?h63 ?hby ?hbase ?_
    case h63 => simp only [maxLen]; omega
    case hby => omega
    case hbase => exact HB18.o.size
    intro v19 w19 hown19 hg19 _ _
    have HB19 := Lh (aw HB18.o hg19 HO18.o (nr _) HB18.o.size)
    have HO19 := Lh hown19
    clear hown19 hg19
    refine jg (hQ1 _ _ ⟨HB19.o, ?_⟩)
    generalize ha : Act.put _ _ _ = z9; simp [Act.put] at ha; subst ha
    refine fz 1 (by decide) (fun Q2 hQ2 => ?_)
    simp only [T1, T0]
    go_wp2_with fail
    try simp only [dr1, dr0]
    refine kw ⟨by rfl, ⟨(fun _ => ⟨_, fun w' hI => jm Tryz.underlying3 (HC0.o w' hI)⟩), (fun _ => ⟨_, fun w' hI => fx ef rfl (dc _ _ _ _ _ _ _ HR.o.1 HR.o.2) (HCA.o w' hI)⟩), trivial⟩, ?_⟩
    go_wp2_with fail
    go_ret
    refine ⟨v19, rfl, ?_, HB1.o.trans ((HBD.o.trans (HB19.o.mono HBD.o.size)).mono HB1.o.size)⟩
    have h7 := fg HO19.o (show w.heap.size ≤ w2.heap.size from Nat.le_trans HB1.o.size HBD.o.size)
    rw [HLN.o, bn, List.length_append]
    exact h7

def RB3 (S : Nat → Prop) (w : World) (b : bd) (L P O : Value) : Prop :=
 SlR f7 w w.heap.size L (fh b.live) ∧ SlR eK w w.heap.size P b.pins ∧ SlR f7 w w.heap.size O b.ints ∧ (Far S w L ∧ Far S w P ∧ Far S w O)
theorem qd4 {α : Type} {E : Elt α} {w w' : World} {v : Value} {xs : List α} (h : SlR E w w.heap.size v xs) (hrep : ∀ cs x, E.rep w w.heap.size cs x → E.rep w' w.heap.size cs x) (hb : ∀ p, v.ownBlock = some p → p < w.heap.size → w'.heap[p]? = w.heap[p]?) : SlR E w' w.heap.size v xs := by
 obtain ⟨A, c, css, rfl, h1, h2, h3, h4, h5⟩ := h
 refine ⟨A, c, css, rfl, h1, h2, h3, ?_, fun i cs x hc hx => hrep _ _ (h5 i cs x hc hx)⟩
 intro hn
 obtain ⟨q, off, rfl, hq, hc⟩ := h4 hn
 exact ⟨q, off, rfl, hq, fun j u hu => (World.cell?_of_block (w := w) (w' := w') (a := ⟨q, off + j, none⟩) (hb q rfl hq)).trans (hc j u hu)⟩
section
variable {S S' : Nat → Prop} {w w' : World} {b : bd} {L P O : Value}
theorem RB3.below (h : RB3 S w b L P O) (hb : Below w.heap.size w w') : RB3 S w' b L P O :=
 ⟨h.1.fut hb (nr _) hb.size, h.2.1.fut hb (nr _) hb.size, h.2.2.1.fut hb (nr _) hb.size, h.2.2.2.1.more hb.size, h.2.2.2.2.1.more hb.size, h.2.2.2.2.2.more hb.size⟩
theorem RB3.app {row : Option Nat} (h : RB3 S w b L P O) (hg : w.grownBy w' row) (hr : ∀ p, row = some p → S p) (hS' : ∀ p, S' p → S p ∨ p = w.heap.size) : RB3 S' w' b L P O := by
 have key : ∀ v, Far S w v → ∀ p, v.ownBlock = some p → p < w.heap.size → w'.heap[p]? = w.heap[p]? := fun v hf p hp hlt => hg.block p hlt fun e => (hf p hp).1 (hr p e.symm)
 have far : ∀ v, Far S w v → Far S' w' v := fun v hf p hp => ⟨fun hs => by
  have h1 := hf p hp
  rcases hS' p hs with h2 | h2
  ·exact h1.1 h2
  ·omega, Nat.lt_of_lt_of_le (hf p hp).2 hg.size⟩
 exact ⟨(qd4 (w' := w') h.1 (fun _ _ h => h) (key L h.2.2.2.1)).more hg.size, (qd4 (w' := w') h.2.1 (fun _ _ h => h) (key P h.2.2.2.2.1)).more hg.size, (qd4 (w' := w') h.2.2.1 (fun _ _ h => h) (key O h.2.2.2.2.2)).more hg.size, far L h.2.2.2.1, far P h.2.2.2.2.1, far O h.2.2.2.2.2⟩
end
structure Bk3 where
 L : Nat → Value
 P : Nat → Value
 O : Nat → Value
def yl (rs : List RecD) (us : Nat → Value) (i : Nat) : List Value := (List.range i).flatMap fun j => ag (rs.getD j dw).kind (rs.getD j dw).seq (rs.getD j dw).kh (rs.getD j dw).kk (rs.getD j dw).mh (rs.getD j dw).ms (us j)
def qca (rs : List RecD) (i : Nat) : List Value := (List.range i).map fun j => Value.int .i64 (evAt rs j : Nat)
def t4 (rs : List RecD) (t : Bk3) (i : Nat) : List Value := (List.range i).flatMap fun j => aj (bkAt ay rs (j + 1)) (t.L j) (t.P j) (t.O j)
theorem qfh (rs : List RecD) (us : Nat → Value) (i : Nat) : yl rs us (i + 1) = yl rs us i ++ ag (rs.getD i dw).kind (rs.getD i dw).seq (rs.getD i dw).kh (rs.getD i dw).kk (rs.getD i dw).mh (rs.getD i dw).ms (us i) := by
 unfold yl
 rw [List.range_succ, List.flatMap_append]
 simp
theorem qis (rs : List RecD) (i : Nat) : qca rs (i + 1) = qca rs i ++ [Value.int .i64 (evAt rs i : Nat)] := by
 unfold qca
 rw [List.range_succ, List.map_append]
 rfl
theorem qip (rs : List RecD) (t : Bk3) (i : Nat) : t4 rs t (i + 1) = t4 rs t i ++ aj (bkAt ay rs (i + 1)) (t.L i) (t.P i) (t.O i) := by
 unfold t4
 rw [List.range_succ, List.flatMap_append]
 simp
theorem qgp {rs : List RecD} {t t' : Bk3} {i : Nat} (h : ∀ j, j < i → t.L j = t'.L j ∧ t.P j = t'.P j ∧ t.O j = t'.O j) : t4 rs t i = t4 rs t' i := by
 unfold t4
 rw [List.flatMap_eq_foldl, List.flatMap_eq_foldl]
 have key : ∀ (l : List Nat) (acc : List Value), (∀ j ∈ l, j < i) → l.foldl (fun acc j => acc ++ aj (bkAt ay rs (j + 1)) (t.L j) (t.P j) (t.O j)) acc = l.foldl (fun acc j => acc ++ aj (bkAt ay rs (j + 1)) (t'.L j) (t'.P j) (t'.O j)) acc := by
  intro l
  induction l with
  |nil => intros; rfl
  |cons a l ih =>
   intro acc hl
   obtain ⟨h1, h2, h3⟩ := h a (hl a (by simp))
   rw [List.foldl_cons, List.foldl_cons, h1, h2, h3]
   exact ih _ fun j hj => hl j (by simp [hj])
 exact key _ _ fun j hj => by simpa using hj
def ownS (v6 v7 v8 : Value) (p : Nat) : Prop := v6.ownBlock = some p ∨ v7.ownBlock = some p ∨ v8.ownBlock = some p
structure EvS (w0 w : World) (q M : Nat) (rs : List RecD) (us : Nat → Value) (A1 : Option Addr) (i6 i7 i8 : Nat) (b : bd) (v6 v7 v8 : Value) (t : Bk3) (L P O : Value) : Prop where
 recs : w.ownsRow M 42 69 v6 i6 (yl rs us i6)
 ats : w.ownsRow M 3 1 v7 i7 (qca rs i7)
 books : w.ownsRow M 30 5 v8 i8 (t4 rs t i8)
 told : ∀ j, j < i8 → RB3 (ownS v6 v7 v8) w (bkAt ay rs (j + 1)) (t.L j) (t.P j) (t.O j)
 row : w.heap[q]? = some (.cells (aj b L P O).toArray 30 (0, 0))
 now : RB3 (ownS v6 v7 v8) w b L P O
 all : sj w M A1 us rs
 below : Below w0.heap.size w0 w
 qlt : w0.heap.size ≤ q ∧ q < M ∧ M ≤ w.heap.size
section
variable {w0 w w' : World} {q M : Nat} {rs : List RecD} {us : Nat → Value} {A1 : Option Addr} {i6 i7 i8 i6' i7' i8' : Nat} {b b' : bd} {v6 v7 v8 v6' v7' v8' : Value} {t t' : Bk3} {L P O L' P' O' : Value}
theorem EvS.later (h : EvS w0 w q M rs us A1 i6 i7 i8 b v6 v7 v8 t L P O) (hb : Below w.heap.size w w') : EvS w0 w' q M rs us A1 i6 i7 i8 b v6 v7 v8 t L P O :=
 ⟨bt h.recs hb, bt h.ats hb, bt h.books hb, fun j hj => (h.told j hj).below hb, (hb.block _ (gl h.row)).trans h.row, h.now.below hb, h.all.stay (pt.of_below hb h.qlt.2.2), h.below.trans (hb.mono h.below.size), h.qlt.1, h.qlt.2.1, Nat.le_trans h.qlt.2.2 hb.size⟩
theorem EvS.drew (h : EvS w0 w q M rs us A1 i6 i7 i8 b v6 v7 v8 t L P O) : EvS w0 w.drew q M rs us A1 i6 i7 i8 b v6 v7 v8 t L P O := h.later (br _ _).drew
theorem EvS.lt (h : EvS w0 w q M rs us A1 i6 i7 i8 b v6 v7 v8 t L P O) : ∀ p, ownS v6 v7 v8 p → M ≤ p ∧ p < w.heap.size := fun p hp => by
 rcases hp with hp | hp | hp
 ·exact h.recs.lt p hp
 ·exact h.ats.lt p hp
 ·exact h.books.lt p hp
theorem EvS.grow {row : Option Nat} (h : EvS w0 w q M rs us A1 i6 i7 i8 b v6 v7 v8 t L P O) (hg : w.grownBy w' row) (hr : ∀ p, row = some p → ownS v6 v7 v8 p) (hS : ∀ p, ownS v6' v7' v8' p → ownS v6 v7 v8 p ∨ p = w.heap.size)
  (h6 : w'.ownsRow M 42 69 v6' i6' (yl rs us i6')) (h7 : w'.ownsRow M 3 1 v7' i7' (qca rs i7')) (h8 : w'.ownsRow M 30 5 v8' i8' (t4 rs t' i8'))
  (ht : ∀ j, j < i8' → (j < i8 ∧ t'.L j = t.L j ∧ t'.P j = t.P j ∧ t'.O j = t.O j) ∨ (bkAt ay rs (j + 1) = b ∧ t'.L j = L ∧ t'.P j = P ∧ t'.O j = O)) : EvS w0 w' q M rs us A1 i6' i7' i8' b v6' v7' v8' t' L P O := by
 have hrow : ∀ k, k < M → w'.heap[k]? = w.heap[k]? := fun k hk => hg.block k (by have := h.qlt; omega) (fun e => by have := (h.lt k (hr k e.symm)).1; omega)
 refine ⟨h6, h7, h8, fun j hj => ?_, (hrow q h.qlt.2.1).trans h.row, h.now.app hg hr hS, h.all.stay fun k hk => .inl (hrow k hk), ?_, h.qlt.1, h.qlt.2.1, Nat.le_trans h.qlt.2.2 hg.size⟩
 ·rcases ht j hj with ⟨h1, h2, h3, h4⟩ | ⟨h1, h2, h3, h4⟩
  ·rw [h2, h3, h4]; exact (h.told j h1).app hg hr hS
  ·rw [h1, h2, h3, h4]; exact h.now.app hg hr hS
 ·exact ⟨hg.os.trans h.below.os, hg.tape.trans h.below.tape, hg.output.trans h.below.output, Nat.le_trans h.below.size hg.size, fun k hk => (hrow k (by have := h.qlt; omega)).trans (h.below.block k hk)⟩
theorem EvS.app6 (h : EvS w0 w q M rs us A1 i6 i7 i8 b v6 v7 v8 t L P O) (hg : w.grownBy w' v6.ownBlock) (ho : w'.ownsRow M 42 69 v6' (i6 + 1) (yl rs us (i6 + 1))) (hor : v6'.ownBlock = v6.ownBlock ∨ v6'.ownBlock = some w.heap.size) :
  EvS w0 w' q M rs us A1 (i6 + 1) i7 i8 b v6' v7 v8 t L P O :=
 h.grow hg (fun p hp => .inl hp) (fun p hp => by
  rcases hp with hp | hp | hp
  ·rcases hor with e | e
   ·exact .inl (.inl (e ▸ hp))
   ·rw [e] at hp; injection hp with hp; exact .inr hp.symm
  ·exact .inl (.inr (.inl hp))
  ·exact .inl (.inr (.inr hp))) ho (m7 h.ats h.recs (by decide) hg) (m7 h.books h.recs (by decide) hg) (fun j hj => .inl ⟨hj, rfl, rfl, rfl⟩)
theorem EvS.app7 (h : EvS w0 w q M rs us A1 i6 i7 i8 b v6 v7 v8 t L P O) (hg : w.grownBy w' v7.ownBlock) (ho : w'.ownsRow M 3 1 v7' (i7 + 1) (qca rs (i7 + 1))) (hor : v7'.ownBlock = v7.ownBlock ∨ v7'.ownBlock = some w.heap.size) :
  EvS w0 w' q M rs us A1 i6 (i7 + 1) i8 b v6 v7' v8 t L P O :=
 h.grow hg (fun p hp => .inr (.inl hp)) (fun p hp => by
  rcases hp with hp | hp | hp
  ·exact .inl (.inl hp)
  ·rcases hor with e | e
   ·exact .inl (.inr (.inl (e ▸ hp)))
   ·rw [e] at hp; injection hp with hp; exact .inr hp.symm
  ·exact .inl (.inr (.inr hp))) (m7 h.recs h.ats (by decide) hg) ho (m7 h.books h.ats (by decide) hg) (fun j hj => .inl ⟨hj, rfl, rfl, rfl⟩)
def Bk3.snoc (t : Bk3) (i : Nat) (L P O : Value) : Bk3 := ⟨fun j => if j = i then L else t.L j, fun j => if j = i then P else t.P j, fun j => if j = i then O else t.O j⟩
theorem qiq (rs : List RecD) (t : Bk3) (i : Nat) (L P O : Value) : t4 rs (t.snoc i L P O) (i + 1) = t4 rs t i ++ aj (bkAt ay rs (i + 1)) L P O := by
 rw [qip, qgp (t' := t)]
 ·simp [Bk3.snoc]
 ·intro j hj
  have : j ≠ i := by omega
  simp [Bk3.snoc, this]
theorem EvS.app8 (h : EvS w0 w q M rs us A1 i6 i7 i8 b v6 v7 v8 t L P O) (hb : b = bkAt ay rs (i8 + 1)) (hg : w.grownBy w' v8.ownBlock) (ho : w'.ownsRow M 30 5 v8' (i8 + 1) (t4 rs t i8 ++ aj b L P O)) (hor : v8'.ownBlock = v8.ownBlock ∨ v8'.ownBlock = some w.heap.size) :
  EvS w0 w' q M rs us A1 i6 i7 (i8 + 1) b v6 v7 v8' (t.snoc i8 L P O) L P O :=
 h.grow hg (fun p hp => .inr (.inr hp)) (fun p hp => by
  rcases hp with hp | hp | hp
  ·exact .inl (.inl hp)
  ·exact .inl (.inr (.inl hp))
  ·rcases hor with e | e
   ·exact .inl (.inr (.inr (e ▸ hp)))
   ·rw [e] at hp; injection hp with hp; exact .inr hp.symm) (m7 h.recs h.books (by decide) hg) (m7 h.ats h.books (by decide) hg) (by rw [qiq, ← hb]; exact ho) (fun j hj => by
  by_cases e : j = i8
  ·subst e
   exact .inr ⟨hb.symm, by simp [Bk3.snoc], by simp [Bk3.snoc], by simp [Bk3.snoc]⟩
  ·exact .inl ⟨by omega, by simp [Bk3.snoc, e], by simp [Bk3.snoc, e], by simp [Bk3.snoc, e]⟩)
theorem RB3.five {S : Nat → Prop} {cs2 : Array Value} {cs : Array Value} {ty : TypeId} (h : RB3 S w b L P O) (hq : w.heap[q]? = some (.cells cs ty (0, 0))) (h5 : cs.size = 5) : RB3 S (w.setRow q cs2) b L P O := by
 have ho : ∀ k, k ≠ q → (w.setRow q cs2).heap[k]? = w.heap[k]? := fun k hk => setRow_other _ _ _ _ hk
 refine ⟨?_, ?_, ?_, h.2.2.2.1.more (by rw [setRow_size]; omega), h.2.2.2.2.1.more (by rw [setRow_size]; omega), h.2.2.2.2.2.more (by rw [setRow_size]; omega)⟩
 ·rw [setRow_size]; exact nh hq h5 ho (by decide) (fun _ _ h => h) h.1
 ·rw [setRow_size]; exact nh hq h5 ho (by decide) (fun _ _ h => h) h.2.1
 ·rw [setRow_size]; exact nh hq h5 ho (by decide) (fun _ _ h => h) h.2.2.1
theorem ve {g base : Nat} {e : TypeId} {size n : Nat} {v : Value} {xs : List Value} {cs : Array Value} (h : w.ownsRow base e size v n xs) (hg : g < base) : (w.setRow g cs).ownsRow base e size v n xs := by
 refine ⟨h.1, ?_⟩
 rcases h.2 with h' | ⟨p, cap, cur, rfl, hp, hh, r⟩
 ·exact .inl h'
 ·exact .inr ⟨p, cap, cur, rfl, hp, (setRow_other _ _ _ _ (by omega)).trans hh, r⟩
theorem EvS.turn (h : EvS w0 w q M rs us A1 i6 i7 i8 b v6 v7 v8 t L P O) (hn : RB3 (ownS v6 v7 v8) w b' L' P' O') : EvS w0 (w.setRow q (aj b' L' P' O').toArray) q M rs us A1 i6 i7 i8 b' v6 v7 v8 t L' P' O' :=
 ⟨ve h.recs h.qlt.2.1, ve h.ats h.qlt.2.1, ve h.books h.qlt.2.1, fun j hj => (h.told j hj).five h.row rfl, setRow_heap _ _ _ _ _ _ h.row, hn.five h.row rfl,
  h.all.stay (fun k _ => by
   by_cases e : k = q
   ·subst e; exact .inr (um h.row (nr 5))
   ·exact .inl (setRow_other _ _ _ _ e)), below_setRow h.below h.qlt.1 _, h.qlt.1, h.qlt.2.1, by rw [setRow_size]; exact h.qlt.2.2⟩
end
end Go.Proofs.YtplbcbamnjnhlaaGreatDoor
