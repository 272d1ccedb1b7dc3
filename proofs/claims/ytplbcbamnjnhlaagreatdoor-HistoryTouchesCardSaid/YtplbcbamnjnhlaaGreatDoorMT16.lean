/- Texts of this proof joined: Line, TakeKey. -/
import Derived.Test.YtplbcbamnjnhlaaGreatDoorMT00
import Derived.Test.YtplbcbamnjnhlaaGreatDoorMT15
import Derived.Test.YtplbcbamnjnhlaaGreatDoorMT14
import Derived.Test.YtplbcbamnjnhlaaGreatDoorMT07
import Derived.Test.YtplbcbamnjnhlaaGreatDoorMT06
import Derived.Test.YtplbcbamnjnhlaaGreatDoorMT11
import Derived.Test.YtplbcbamnjnhlaaGreatDoorMT10
import Derived.Test.YtplbcbamnjnhlaaGreatDoorMT12
set_option maxRecDepth 100000
set_option maxHeartbeats 40000000
namespace Go.Proofs.YtplbcbamnjnhlaaGreatDoor
open Go.RowKit

def ca (r : RecD) : List UInt8 := eo (cv (UInt8.ofNat r.kind.toNat) (dx r)) ++ [10]
theorem oo : ∀ xs : List KeyD, (∀ x ∈ xs, x.1.length = 32) → (xs.flatMap keyB).length = 33 * xs.length
 |[], _ => rfl
 |x :: r, h => by
  rw [List.flatMap_cons, List.length_append, fi x (h x (by simp)), oo r fun y hy => h y (by simp [hy]), List.length_cons]
  omega
theorem qal (r : RecD) (hr : Hs r) (hk : ∀ x ∈ r.keys, x.1.length = 32) (h : au r = true) : (dx r).length ≤ 9000 := by
 have hn : r.keys.length ≤ 256 := by
  by_cases h7 : r.kind = 7
  ·obtain ⟨kind, seq, kh, kk, mh, ms, keys⟩ := r
   simp only at h7
   subst h7
   exact (xk (qdk h).2).1
  ·have : r.keys = [] := by
    unfold au at h
    simp only [h7, if_false, Bool.and_eq_true, decide_eq_true_eq] at h
    exact h.2
   rw [this]
   simp
 have h2 := oo r.keys hk
 have h3 : (keyB (r.kh, r.kk)).length = 33 := fi _ hr.1
 unfold dx
 simp only [List.length_append, h2]
 repeat' split
 all_goals simp [bx, h3, hr.2]
 all_goals omega
def xc (r : RecD) (N : Nat) (e : Ending) (w' : World) : Prop :=
 if au r = true then ∃ v, e = .returned (.tuple #[v, .int .i64 0]) ∧ w'.ownsRow N 5 1 v (ca r).length (ak (ca r)) else e = .returned (.tuple #[.slice none 0 0, .int .i64 1])
theorem qto {r : RecD} {N : Nat} {e : Ending} {w' : World} (h : au r = false) (he : e = .returned (.tuple #[.slice none 0 0, .int .i64 1])) : xc r N e w' := by unfold xc; rw [h, if_neg (by simp)]; exact he
theorem qot {r : RecD} {N : Nat} {e : Ending} {w' : World} {v : Value} (h : au r = true) (he : e = .returned (.tuple #[v, .int .i64 0])) (ho : w'.ownsRow N 5 1 v (ca r).length (ak (ca r))) : xc r N e w' := by
 unfold xc; rw [if_pos h]; exact ⟨v, he, ho⟩
theorem qfi (r : RecD) (A : Option Addr) (n c B : Nat) (w : World) (hr : Hs r) (h1 : SlR eKey w B (.slice A n c) r.keys) (hB : B ≤ w.heap.size) (hks : ∀ x ∈ r.keys, x.1.length = 32) :
  Calls Tryz.prog 35 #[rv r (.slice A n c)] w fun e w' => xc r w.heap.size e w' ∧ Below w.heap.size w w' := by
 have HR := Lh hr
 have HKS := Lh hks
 have HBW := Lh hB
 have HB1 := Lh ((br _ _).alloc (nr _) (.cells (ag r.kind r.seq r.kh r.kk r.mh r.ms (.slice A n c)).toArray 38) : Below w.heap.size w _)
 have HG1 := Lh (cu.new (t := 38) (kind := r.kind) (seq := r.seq) (kk := r.kk) (ms := r.ms) (v := .slice A n c) w hr.1 hr.2)
 have HK1 := Lh (h1.fut HB1.o hB (nr B))
 clear hr h1 hB hks
 go_enter Tryz.func35, Tryz.ntmps35
 go_wp2_with (refine ai (some 1) rfl ?_)
 refine Stop.go (bn rfl _ rfl rfl (bb ..) ?_)
 generalize w.alloc (.cells (ag r.kind r.seq r.kh r.kk r.mh r.ms (.slice A n c)).toArray 38) = w1 at *
 go_wp2_with (refine ai (some 6) rfl ?_)
 refine Stop.go (aa rfl 38 rfl rfl dr rfl (bk _ _ _ _ _ _ _ HR.o.1 HR.o.2) HG1.o.all_ ?_)
 go_wp2_with fail
 refine (vo r A n c B _ HR.o HK1.o (Nat.le_trans HBW.o HB1.o.size)).mono ?_
 rw [qbh]
 rintro e w2 ⟨rfl, hb2⟩
 cases hR : au r
 ·have HB2 := Lh (HB1.o.trans (hb2.mono HB1.o.size))
  have HRF := Lh hR
  clear hb2 hR
  go_wp2_with fail
  go_ret2
  exact ⟨qto HRF.o rfl, HB2.o⟩
 ·have HRT := Lh hR
  obtain ⟨K, hK⟩ : ∃ K : UInt8, r.kind = (K.toNat : Int) := ⟨UInt8.ofNat r.kind.toNat, by
   have := lq hR
   rw [UInt8.toNat_ofNat']
   omega⟩
  have HK := Lh hK
  have hk8 := K.toNat_lt
  have HG2 := Lh (HG1.o.later hb2)
  have HB2 := Lh (HB1.o.trans (hb2.mono HB1.o.size))
  have HK2 := Lh (HK1.o.below (hb2.mono (Nat.le_trans HBW.o HB1.o.size)))
  have HLL := Lh (qal r HR.o HKS.o hR)
  have HLN := Lh (show ca r = eo (cv K (dx r)) ++ [10] by unfold ca; rw [hK]; simp)
  clear hb2 hR HK1 HG1 HB1
  have c0 : w2.cell? ⟨w.heap.size, 0, none⟩ = some (.int .i64 K.toNat) := by rw [← HK.o]; exact HG2.o.kind_
  clear hK
  go_wp2_with fail
  refine qj [4, 5] [1, 3] [] (by kernel_rfl) (by kernel_rfl) ?_
  refine bh 3 (by decide) (fun Q0 hQ0 => ?_)
  simp only [T1, T0]
  go_wp2_with fail
  try simp only [dr1, dr0]
  refine bh 1 (by decide) (fun Q1 hQ1 => ?_)
  simp only [T1, T0]
  refine aa rfl 38 rfl rfl dr rfl (bk _ _ _ _ _ _ _ HR.o.1 HR.o.2) HG2.o.all_ ?_
  refine hQ1 _ _ ?_
  simp only [dr1, dr0]
  generalize ha : Act.put _ _ _ = z9; simp [Act.put] at ha; subst ha
  refine ie (fun Q1 hQ1 => ?_)
  go_wp2_with fail
  refine (load_any r A n c B _ HR.o (HK2.o.below (br _ _).drew) (Nat.le_trans HBW.o HB2.o.size) HRT.o).mono ?_
  rintro e w3 ⟨g3, rfl, hr3, hb3, hs3, hg3⟩
  have HB3 := Lh hb3
  have HR3 := Lh (Rd.row (B := w3.heap.size) hr3 (by rw [hs3]; omega))
  obtain ⟨L, hL⟩ : ∃ L, L = dx r := ⟨_, rfl⟩
  rw [← hL] at HR3 HLL HLN
  simp only [← hL]
  clear hr3 hb3 hs3 hL
  go_wp2_with fail
  refine ⟨HB3.o, ?_⟩
  refine ie (fun Q2 hQ2 => ?_)
  go_wp2_with fail
  refine (seal_any K L _ _ _ _ HR3.o (nr _) (by have := HLL.o; omega)).mono ?_
  rintro e w4 ⟨v4, rfl, ho4, hb4⟩
  have HB4 := Lh (HB3.o.trans (hb4.mono HB3.o.size))
  have HO4 := Lh ho4
  clear ho4 hb4
  go_wp2_with fail
  refine ⟨HB4.o, ?_⟩
  refine bh 5 (by decide) (fun Q3 hQ3 => ?_)
  simp only [T1, T0]
  go_wp2_with fail
  try simp only [dr1, dr0]
  refine jr ⟨by rfl, ⟨(fun _ => ⟨_, _, rfl, c0⟩), (fun _ => ⟨_, _, rfl, by simpa using HG2.o.all_ 0 _ rfl⟩), trivial⟩, ?_⟩
  have HB5 := Lh (HB2.o.trans ((cg HB4.o).mono HB2.o.size))
  obtain ⟨F, hF⟩ : ∃ F, F = cv K L := ⟨_, rfl⟩
  have HFL := Lh (show F.length ≤ 10000 by rw [hF, iu]; have := nh L.length (by have := HLL.o; omega); have := HLL.o; omega)
  rw [← hF] at HO4 HLN
  obtain ⟨A4, c4, rfl, _, _⟩ := ap HO4.o
  have HR4 := Lh (Rd.of_own HO4.o)
  clear hF HB3 HR3 HB4
  go_wp2_with fail
  have hb6 : Below w4.heap.size w4 (w4.alloc (.cells #[.slice A4 F.length c4] 44)) := (br _ _).alloc (nr _) _
  refine (pack_any w4.heap.size 0 1 F A4 c4 (w4.heap.size + 1) _ (ri w4 _ _) (by omega) ((HR4.o.below hb6).more (by omega)) (by simp) (by have := HFL.o; omega)).mono ?_
  rintro e w7 ⟨v7, rfl, ho7, hb7⟩
  have HB7 := Lh (HB5.o.trans ((hb6.trans (hb7.mono hb6.size)).mono HB5.o.size))
  have HO7 := Lh (fv ho7 (Nat.le_trans HB5.o.size hb6.size))
  obtain ⟨S, hS⟩ : ∃ S, S = eo F := ⟨_, rfl⟩
  have HSL := Lh (show S.length ≤ 20000 by rw [hS, jv]; have := HFL.o; omega)
  rw [← hS] at HO7 HLN
  clear hb6 hb7 ho7 hS
  have hs7 := HB7.o.size
  obtain ⟨A7, c7, rfl, _, _⟩ := ap HO7.o
  have hsl := HSL.o
  go_wp2_with (at_builtin; refine ay im rfl rfl rfl rfl (HO7.o.alloc _) (Rd.row (B := w7.heap.size + 1) (hzn w7 _) (by omega)) rfl (by simp [Value.oneCell']) ?h63 ?hby ?hbase ?_)
  case h63 => simp only [maxLen]; omega
  case hby => omega
  case hbase => simp; omega
  intro v8 w8 hown8 hg8 _ _
  have B8 := Lh (ax (HB7.o.alloc hs7 _) hg8 (HO7.o.alloc _) (nr _) (by simp; omega))
  have HO8 := Lh hown8
  clear hown8 hg8
  go_wp2_with fail
  go_ret2
  refine ⟨qot HRT.o rfl ?_, B8.o⟩
  have h8 := HO8.o
  rw [HLN.o, bt, List.length_append]
  exact h8

section
variable {P : Program} {ops : Array Oper} {I : World → Prop} {G : List Nat}
theorem fx {Q : Act → World → Prop} (n : Nat) {k : Nat} {l : List Oper} {a : Act} {w : World} (hG : (List.range' k n).all (fun i => !G.contains i) = true)
  (h : ∀ Q' : Exit → Act → World → Prop, (∀ a w, Stop (TextI.wpS P ops I G Q (k + n) (l.drop n) a w) → Q' .normal a w) → wpList P ops Q' (l.take n) a w) : Stop (TextI.wpS P ops I G Q k l a w) :=
 ⟨TextI.wpS_seg n k l a w hG fun Q' hQ' => h Q' fun a w hh => hQ' a w hh.o⟩
theorem ig {Q : Act → World → Prop} {k : Nat} {o : Oper} {r : List Oper} {a : Act} {w : World}
  (h : ∀ Q' : Exit → Act → World → Prop, (∀ a' w', I w' ∧ Stop (TextI.wpS P ops I G Q (k + 1) r a' w') → Q' .normal a' w') → wpList P ops Q' [o] a w) : Stop (TextI.wpS P ops I G Q k (o :: r) a w) :=
 ⟨TextI.wpS_one fun Q' hQ' => h Q' fun a w hh => hQ' a w ⟨hh.1, hh.2.o⟩⟩
theorem lu {Q : Act → World → Prop} {k : Nat} {a : Act} {w : World} (h : Q a w) : Stop (TextI.wpS P ops I G Q k [] a w) := ⟨h⟩
theorem pt {id : Nat} {Q : Exit → Act → World → Prop} {a : Act} {w : World} {l : List Oper} (G LD ex : List Nat) (I : World → Prop) (hI : I w.drew) (hm : P.follows .mixedOrders = true) (hB : Text.growB P l.toArray G LD ex = true)
  (h : Stop (TextI.wpS P l.toArray I G (fun a' w' => Text.chk l.toArray ex a' = true ∧ TextI.oldAll P l.toArray I a' LD ∧ Q .normal a' w') 0 l a w.drew)) : (Code.region id l.toArray true).wp P Q a w :=
 TextI.wp_inv G LD ex I hI hm hB h.o
end
theorem RdrR.low {w w' : World} {g N : Nat} {l : List UInt8} {a : Nat} {sp : Bool} (h : RdrR w g l a sp) (hb : Below N w w') (hN : g < N) : RdrR w' g l a sp := by
 obtain ⟨A, c, h1, h2, h3⟩ := h
 exact ⟨A, c, (hb.block g hN).trans h1, h2.below (hb.mono (Nat.le_of_lt hN)), h3⟩
theorem gm {w w' w'' : World} {g N : Nat} (h : w.grownBy w' (some g)) (hb : Below N w' w'') (hN : w.heap.size ≤ N) (hs : w.heap.size ≤ w''.heap.size) : w.grownBy w'' (some g) :=
 ⟨hb.os.trans h.os, hb.tape.trans h.tape, hb.output.trans h.output, hs, fun k hk hne => (hb.block k (Nat.lt_of_lt_of_le hk hN)).trans (h.block k hk hne)⟩
theorem xj (h : List UInt8) (k k' : Int) (hh : h.length = 32) : ((af h k).toArray.toList.take 32 ++ [Value.int .i64 k'] ++ (af h k).toArray.toList.drop (32 + 1)).toArray = (af h k').toArray := by
 have hl : (ak h).length = 32 := by rw [am, hh]
 unfold af
 rw [List.take_append_of_le_length (by simp [hl]), List.take_of_length_le (by simp [hl]), List.drop_of_length_le (by simp [hl]), List.append_nil]
theorem zy {fn : Func} {p : Tmp} {Q : Ending → World → Prop} (h : fn.results = #[.cell p 34]) {a : Act} {w : World} {g : Nat} {hh : List UInt8} {k : Int} {fr : Nat × Nat} {t : TypeId} (hl : hh.length = 32) (hd : a.defers = [])
  (hp : a.tmps.getD p undef = .pointer (some ⟨g, 0, none⟩)) (hg : w.heap[g]? = some (.cells (af hh k).toArray t fr)) (hq : Q (.returned (hkv hh k)) w) : bodyPost Tryz.prog fn Q .ret a w :=
 bodyPost_ret (v := hkv hh k) (results_cell_row h _ w g t _ fr _ hp hg qjo rfl (al hh k hl)) hd hq
def KeyOk (g : Nat) (l : List UInt8) (a : Nat) (w : World) (e : Ending) (w' : World) : Prop :=
 e = .returned (hkv ((l.drop a).take 32) (co ((l.drop (a + 32)).take 1))) ∧ RdrR w' g l (a + 33) false ∧ w.grownBy w' (some g)
theorem qns (g : Nat) (l : List UInt8) (a : Nat) (w : World) (h : RdrR w g l a false) (hn : a + 33 ≤ l.length) :
  Calls Tryz.prog 118 #[.pointer (some ⟨g, 0, none⟩)] w (KeyOk g l a w) := by
 have HGW := Lh h.lt
 have H := Lh h
 clear h
 go_enter Tryz.func118, Tryz.ntmps118
 go_wp2_with (refine ai (some 2) rfl ?_)
 refine Stop.go (av rfl 34 rfl ge rfl ?_)
 have hb1 : Below w.heap.size w (w.alloc (.cells (af z32 0).toArray 34)) := (br _ _).alloc (nr _) _
 have HG1 := Lh (hzn w (.cells (af z32 0).toArray 34))
 have HS1 := Lh (show (w.alloc (.cells (af z32 0).toArray 34)).heap.size = w.heap.size + 1 from Array.size_push _)
 have HR1 := Lh (H.o.later hb1)
 have HB1 := Lh hb1
 clear hb1
 generalize w.alloc (.cells (af z32 0).toArray 34) = w1 at *
 go_wp2_with (refine ai (some 3) rfl ?_)
 refine Stop.go (av rfl 34 rfl ge rfl ?_)
 have hb2 : Below w1.heap.size w1 (w1.alloc (.cells (af z32 0).toArray 34)) := (br _ _).alloc (nr _) _
 have HG2 := Lh (hzn w1 (.cells (af z32 0).toArray 34))
 have HG21 := Lh ((hb2.block _ (gl HG1.o)).trans HG1.o)
 have HR2 := Lh (HR1.o.later hb2)
 have HB2 := Lh (HB1.o.trans (hb2.mono HB1.o.size))
 clear hb2
 generalize w1.alloc (.cells (af z32 0).toArray 34) = w2 at *
 generalize w1.heap.size = m at *
 go_wp2_with fail
 refine pt [3] [] [] (fun _ => True) trivial (by kernel_rfl) (by kernel_rfl) ?_
 refine fx 3 (by decide) (fun Q0 hQ0 => ?_)
 simp only [T1, T0]
 go_wp2_with fail
 try simp only [dr1, dr0]
 refine ig (fun Q1 hQ1 => ?_)
 go_wp2_with fail
 refine (tv g l a 32 _ HR2.o.drew (by omega)).mono ?_
 rintro e w3 ⟨rfl, hr3, hrd3, hg3, hs3⟩
 have HGM := Lh (show m < w2.heap.size from (gl HG2.o))
 have HMG := Lh (show g < m by have := HGW.o; have := HS1.o; omega)
 have HG3 := Lh ((hg3.block m HGM.o (by intro e; injection e with e; have := HMG.o; omega)).trans HG2.o)
 have HG31 := Lh ((hg3.block w.heap.size (Nat.lt_trans (by rw [HS1.o]; omega) HGM.o) (by intro e; injection e with e; have := HGW.o; omega)).trans HG21.o)
 have HT3 := Lh (Rd.row (B := w3.heap.size) hr3 hs3)
 have HR3 := Lh hrd3
 have HS3 := Lh hs3
 have HW3 := Lh (show w.grownBy w3 (some g) from dy (kj HB2.o.drew) hg3)
 have HSM := Lh (show m < w3.heap.size from Nat.lt_trans HGM.o hs3)
 clear hr3 hrd3 hg3 hs3
 go_wp2_with fail
 refine ⟨trivial, ?_⟩
 refine fx 1 (by decide) (fun Q3 hQ3 => ?_)
 simp only [T1, T0]
 obtain ⟨hh, hhd⟩ : ∃ hh, hh = (l.drop a).take 32 := ⟨_, rfl⟩
 have HHL := Lh (show hh.length = 32 by rw [hhd, List.length_take, List.length_drop]; omega)
 rw [← hhd] at HT3
 refine ls rfl _ _ rfl rfl rfl rfl bg HHL.o HG3.o HT3.o (br m w3) (nr _) ?_
 intro w4 hg4 hb4 hs4
 refine hQ3 _ _ ?_
 simp only [dr1, dr0]
 refine lu ⟨by rfl, trivial, ?_⟩
 have HR4 := Lh (HR3.o.low hb4 HMG.o)
 have HG41 := Lh ((hb4.block w.heap.size (by rw [HS1.o]; omega)).trans HG31.o)
 have HW4 := Lh (gm HW3.o hb4 (by rw [HS1.o]; omega) (by rw [hs4]; exact HW3.o.size))
 clear hb4
 have HS4 := Lh hs4
 clear hs4
 go_wp2_with fail
 refine (qjk g l (a + 32) 1 _ HR4.o (by decide) (by decide) (by omega)).mono ?_
 rintro e w5 ⟨rfl, hr5, hg5⟩
 obtain ⟨k, hkd⟩ : ∃ k, k = co ((l.drop (a + 32)).take 1) := ⟨_, rfl⟩
 have hk8 : k < 256 := by
  rw [hkd]
  refine Nat.lt_of_lt_of_le (tr _) ?_
  rw [List.length_take, List.length_drop, Nat.min_eq_left (by omega)]
  decide
 rw [← hkd]
 have HS45 : Hid (w4.heap.size ≤ w5.heap.size) := hg5.size
 have HM4 := Lh (show m < w4.heap.size by rw [HS4.o]; exact HSM.o)
 have HG5 := Lh ((hg5.block m HM4.o (by intro e; injection e with e; have := HMG.o; omega)).trans hg4.o)
 have HG51 := Lh ((hg5.block w.heap.size (Nat.lt_trans (by rw [HS1.o]; omega) HM4.o) (by intro e; injection e with e; have := HGW.o; omega)).trans HG41.o)
 have HR5 := Lh hr5
 have HW5 := Lh (dy HW4.o hg5)
 clear hr5 hg5
 obtain ⟨w6, hst6, hg6, hot6, hbl6⟩ := bo (P := Tryz.prog) w5 (g := m) (off := 32) (vs := [.int .i64 k]) (v := .int .i64 k) (ty := 3) rfl (by kernel_rfl) HG5.o (by simp [ae, HHL.o]) (fun u hu => by rw [List.mem_singleton.1 hu]; rfl) (xj hh 0 k HHL.o)
 have HR6 := Lh (HR5.o.low (hbl6 m w5 (br m w5) (nr _)) HMG.o)
 have HW6 := Lh (gm HW5.o (hbl6 m w5 (br m w5) (nr _)) (by rw [HS1.o]; omega) (Nat.le_trans HW5.o.size (hbl6 m w5 (br m w5) (nr _)).size))
 have HST6 := Lh hst6
 have HG6 := Lh hg6
 have HG61 := Lh ((hot6 w.heap.size (by rw [HS1.o]; omega)).trans HG51.o)
 have HKD := Lh hkd
 clear hst6 hg6 hot6 hbl6 hkd
 go_wp2_with (refine ai none rfl ?_)
 refine Stop.go (ac rfl 3 rfl rfl rfl HST6.o ?_)
 go_wp2_with (refine ai (some 13) rfl ?_)
 refine Stop.go (aa rfl 34 rfl rfl ba.ut rfl (al hh _ HHL.o) (aq HG6.o) ?_)
 refine ac rfl 34 rfl rfl rfl (ce (dl _ _) (al _ _ HHL.o) HG61.o (by simp [ae, HHL.o, bg]) (bc _ _)) ?_
 go_wp2_with fail
 refine zy rfl HHL.o rfl rfl (setRow_heap _ _ _ _ _ _ HG61.o) ?_
 have hbz : Below w.heap.size w6 (w6.setRow w.heap.size (af hh k).toArray) := below_setRow (br _ _) (nr _) _
 refine ⟨?_, HR6.o.low hbz HGW.o, gm HW6.o hbz (nr _) (Nat.le_trans HW6.o.size hbz.size)⟩
 rw [← hhd, ← HKD.o]
theorem ip : ∀ w, (zeroValue 36).run Tryz.prog w = .ok (hkv z32 0) w := fun _ => by kernel_rfl
theorem qbi {fn : Func} {p : Tmp} {Q : Ending → World → Prop} (h : fn.results = #[.cell p 36]) {a : Act} {w : World} {g : Nat} {hh : List UInt8} {k : Int} {fr : Nat × Nat} {t : TypeId} (hl : hh.length = 32) (hd : a.defers = [])
  (hp : a.tmps.getD p undef = .pointer (some ⟨g, 0, none⟩)) (hg : w.heap[g]? = some (.cells (af hh k).toArray t fr)) (hq : Q (.returned (hkv hh k)) w) : bodyPost Tryz.prog fn Q .ret a w :=
 bodyPost_ret (v := hkv hh k) (results_cell_row h _ w g t _ fr _ hp hg jw.ut rfl (dj hh k hl)) hd hq
def MarkOk (g : Nat) (l : List UInt8) (a : Nat) (w : World) (e : Ending) (w' : World) : Prop :=
 e = .returned (hkv ((l.drop a).take 32) (co ((l.drop (a + 32)).take 3))) ∧ RdrR w' g l (a + 35) false ∧ w.grownBy w' (some g)
theorem qkt (g : Nat) (l : List UInt8) (a : Nat) (w : World) (h : RdrR w g l a false) (hn : a + 35 ≤ l.length) :
  Calls Tryz.prog 119 #[.pointer (some ⟨g, 0, none⟩)] w (MarkOk g l a w) := by
 have HGW := Lh h.lt
 have H := Lh h
 clear h
 go_enter Tryz.func119, Tryz.ntmps119
 go_wp2_with (refine ai (some 2) rfl ?_)
 refine Stop.go (av rfl 36 rfl ip rfl ?_)
 have hb1 : Below w.heap.size w (w.alloc (.cells (af z32 0).toArray 36)) := (br _ _).alloc (nr _) _
 have HG1 := Lh (hzn w (.cells (af z32 0).toArray 36))
 have HS1 := Lh (show (w.alloc (.cells (af z32 0).toArray 36)).heap.size = w.heap.size + 1 from Array.size_push _)
 have HR1 := Lh (H.o.later hb1)
 have HB1 := Lh hb1
 clear hb1
 generalize w.alloc (.cells (af z32 0).toArray 36) = w1 at *
 go_wp2_with (refine ai (some 3) rfl ?_)
 refine Stop.go (av rfl 36 rfl ip rfl ?_)
 have hb2 : Below w1.heap.size w1 (w1.alloc (.cells (af z32 0).toArray 36)) := (br _ _).alloc (nr _) _
 have HG2 := Lh (hzn w1 (.cells (af z32 0).toArray 36))
 have HG21 := Lh ((hb2.block _ (gl HG1.o)).trans HG1.o)
 have HR2 := Lh (HR1.o.later hb2)
 have HB2 := Lh (HB1.o.trans (hb2.mono HB1.o.size))
 clear hb2
 generalize w1.alloc (.cells (af z32 0).toArray 36) = w2 at *
 generalize w1.heap.size = m at *
 go_wp2_with fail
 refine pt [3] [] [] (fun _ => True) trivial (by kernel_rfl) (by kernel_rfl) ?_
 refine fx 3 (by decide) (fun Q0 hQ0 => ?_)
 simp only [T1, T0]
 go_wp2_with fail
 try simp only [dr1, dr0]
 refine ig (fun Q1 hQ1 => ?_)
 go_wp2_with fail
 refine (tv g l a 32 _ HR2.o.drew (by omega)).mono ?_
 rintro e w3 ⟨rfl, hr3, hrd3, hg3, hs3⟩
 have HGM := Lh (show m < w2.heap.size from (gl HG2.o))
 have HMG := Lh (show g < m by have := HGW.o; have := HS1.o; omega)
 have HG3 := Lh ((hg3.block m HGM.o (by intro e; injection e with e; have := HMG.o; omega)).trans HG2.o)
 have HG31 := Lh ((hg3.block w.heap.size (Nat.lt_trans (by rw [HS1.o]; omega) HGM.o) (by intro e; injection e with e; have := HGW.o; omega)).trans HG21.o)
 have HT3 := Lh (Rd.row (B := w3.heap.size) hr3 hs3)
 have HR3 := Lh hrd3
 have HS3 := Lh hs3
 have HW3 := Lh (show w.grownBy w3 (some g) from dy (kj HB2.o.drew) hg3)
 have HSM := Lh (show m < w3.heap.size from Nat.lt_trans HGM.o hs3)
 clear hr3 hrd3 hg3 hs3
 go_wp2_with fail
 refine ⟨trivial, ?_⟩
 refine fx 1 (by decide) (fun Q3 hQ3 => ?_)
 simp only [T1, T0]
 obtain ⟨hh, hhd⟩ : ∃ hh, hh = (l.drop a).take 32 := ⟨_, rfl⟩
 have HHL := Lh (show hh.length = 32 by rw [hhd, List.length_take, List.length_drop]; omega)
 rw [← hhd] at HT3
 refine ls rfl _ _ rfl rfl rfl rfl bg HHL.o HG3.o HT3.o (br m w3) (nr _) ?_
 intro w4 hg4 hb4 hs4
 refine hQ3 _ _ ?_
 simp only [dr1, dr0]
 refine lu ⟨by rfl, trivial, ?_⟩
 have HR4 := Lh (HR3.o.low hb4 HMG.o)
 have HG41 := Lh ((hb4.block w.heap.size (by rw [HS1.o]; omega)).trans HG31.o)
 have HW4 := Lh (gm HW3.o hb4 (by rw [HS1.o]; omega) (by rw [hs4]; exact HW3.o.size))
 clear hb4
 have HS4 := Lh hs4
 clear hs4
 go_wp2_with fail
 refine (qjk g l (a + 32) 3 _ HR4.o (by decide) (by decide) (by omega)).mono ?_
 rintro e w5 ⟨rfl, hr5, hg5⟩
 obtain ⟨k, hkd⟩ : ∃ k, k = co ((l.drop (a + 32)).take 3) := ⟨_, rfl⟩
 have hk8 : k < 16777216 := by
  rw [hkd]
  refine Nat.lt_of_lt_of_le (tr _) ?_
  rw [List.length_take, List.length_drop, Nat.min_eq_left (by omega)]
  decide
 rw [← hkd]
 have HS45 : Hid (w4.heap.size ≤ w5.heap.size) := hg5.size
 have HM4 := Lh (show m < w4.heap.size by rw [HS4.o]; exact HSM.o)
 have HG5 := Lh ((hg5.block m HM4.o (by intro e; injection e with e; have := HMG.o; omega)).trans hg4.o)
 have HG51 := Lh ((hg5.block w.heap.size (Nat.lt_trans (by rw [HS1.o]; omega) HM4.o) (by intro e; injection e with e; have := HGW.o; omega)).trans HG41.o)
 have HR5 := Lh hr5
 have HW5 := Lh (dy HW4.o hg5)
 clear hr5 hg5
 obtain ⟨w6, hst6, hg6, hot6, hbl6⟩ := bo (P := Tryz.prog) w5 (g := m) (off := 32) (vs := [.int .i64 k]) (v := .int .i64 k) (ty := 3) rfl (by kernel_rfl) HG5.o (by simp [ae, HHL.o]) (fun u hu => by rw [List.mem_singleton.1 hu]; rfl) (xj hh 0 k HHL.o)
 have HR6 := Lh (HR5.o.low (hbl6 m w5 (br m w5) (nr _)) HMG.o)
 have HW6 := Lh (gm HW5.o (hbl6 m w5 (br m w5) (nr _)) (by rw [HS1.o]; omega) (Nat.le_trans HW5.o.size (hbl6 m w5 (br m w5) (nr _)).size))
 have HST6 := Lh hst6
 have HG6 := Lh hg6
 have HG61 := Lh ((hot6 w.heap.size (by rw [HS1.o]; omega)).trans HG51.o)
 have HKD := Lh hkd
 clear hst6 hg6 hot6 hbl6 hkd
 go_wp2_with (refine ai none rfl ?_)
 refine Stop.go (ac rfl 3 rfl rfl rfl HST6.o ?_)
 go_wp2_with (refine ai (some 13) rfl ?_)
 refine Stop.go (aa rfl 36 rfl rfl jw.ut rfl (dj hh _ HHL.o) (aq HG6.o) ?_)
 refine ac rfl 36 rfl rfl rfl (ce (dl _ _) (dj _ _ HHL.o) HG61.o (by simp [ae, HHL.o, bg]) (bc _ _)) ?_
 go_wp2_with fail
 refine qbi rfl HHL.o rfl rfl (setRow_heap _ _ _ _ _ _ HG61.o) ?_
 have hbz : Below w.heap.size w6 (w6.setRow w.heap.size (af hh k).toArray) := below_setRow (br _ _) (nr _) _
 refine ⟨?_, HR6.o.low hbz HGW.o, gm HW6.o hbz (nr _) (Nat.le_trans HW6.o.size hbz.size)⟩
 rw [← hhd, ← HKD.o]
end Go.Proofs.YtplbcbamnjnhlaaGreatDoor
