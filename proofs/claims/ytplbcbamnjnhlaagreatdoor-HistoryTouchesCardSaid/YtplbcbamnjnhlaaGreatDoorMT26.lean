import Derived.Test.YtplbcbamnjnhlaaGreatDoorMT00
import Derived.Test.YtplbcbamnjnhlaaGreatDoorMT25
import Derived.Test.YtplbcbamnjnhlaaGreatDoorMT11
set_option maxRecDepth 100000
set_option maxHeartbeats 40000000
namespace Go.Proofs.YtplbcbamnjnhlaaGreatDoor
open Go.RowKit

abbrev dg := Int × (K32 × K32)
def an (x : dg) : List Value := .int .i64 x.1 :: ee x.2
def qaq (x : dg) : Value := .agg (an x).toArray
theorem bq (x : dg) : (an x).length = 67 := by unfold an; rw [List.length_cons, ia]
theorem ey (x : dg) : ∀ u ∈ an x, u.oneCell' = true := by
 intro u hu
 rcases List.mem_cons.1 hu with rfl | h
 ·rfl
 ·exact pd _ u h
def gh : Elt dg where
 size := 67
 rep := fun _ _ cs x => cs = an x
 len := fun h => by rw [h, bq]
 keep := fun h _ => h
 more := fun h _ => h
 one := fun h u hu => by rw [h] at hu; exact ey _ u hu
def eK : Elt K32 where
 size := 33
 rep := fun _ _ cs x => cs = encK x
 len := fun h => by rw [h, bi]
 keep := fun h _ => h
 more := fun h _ => h
 one := fun h u hu => by rw [h] at hu; exact bc _ _ u hu
def dt (l : List dg) : List Value := l.flatMap an
theorem ju {α : Type} {E : Elt α} {enc : α → List Value} {w : World} {base : Nat} {t : TypeId} {v : Value} {xs : List α} (hE : ∀ x ∈ xs, E.rep w w.heap.size (enc x) x) (ho : w.ownsRow base t E.size v xs.length (xs.flatMap enc)) : SlR E w w.heap.size v xs := by
 obtain ⟨A, c, rfl, h1, h2⟩ := ap ho
 refine ⟨A, c, xs.map enc, rfl, h1, h2, by simp, ?_, ?_⟩
 ·rw [← List.flatMap_def]
  exact Rd.of_own ho
 ·intro i cs x hc hx
  rw [List.getElem?_map, hx] at hc
  injection hc with hc
  subst hc
  exact hE x (List.mem_of_getElem? hx)
theorem qe (x : dg) : (Tryz.prog.info? 79).map (fun i => (i.zero, i.size)) = some (some (qaq (0, (zk32, zk32))), (an x).length) := by rw [bq]; kernel_rfl
theorem tf (x : dg) : (Tryz.prog.info? 79).map (·.size) = some (an x).length := by rw [bq]; kernel_rfl
theorem tg : Tryz.prog.underlying 79 = some (.struct (Tryz.prog.fieldsOf 79)) := by kernel_rfl
theorem jb : pr Tryz.prog 27 79 67 88 (qaq (0, (zk32, zk32))) := yf Tryz.underlying27 (by kernel_rfl) rfl (by omega)
theorem ra {w : World} {q off : Nat} {x : dg} (h : ∀ j u, (an x)[j]? = some u → w.cell? ⟨q, off + j, none⟩ = some u) : ∀ j u, (encK x.2.1)[j]? = some u → w.cell? ⟨q, off + 1 + j, none⟩ = some u := fun j u hu => by
 have := h (1 + j) u (by
  unfold an ee
  rw [Nat.add_comm, List.getElem?_cons_succ, List.getElem?_append_left (by rw [ae, x.2.1.2]; have := (List.getElem?_eq_some_iff.1 hu).1; rw [bi] at this; omega)]
  exact hu)
 rwa [← Nat.add_assoc] at this
theorem qfj (a b : K32) (w : World) : Calls Tryz.prog 55 #[kv a, kv b] w fun e w' => e = .returned (.bool (eb a b)) ∧ Below w.heap.size w w' := by
 go_enter Tryz.func55, Tryz.ntmps55
 go_wp2_with (refine ai (some 2) rfl ?_)
 refine Stop.go (bn rfl 34 rfl rfl (vs := encK a) rfl ?_)
 refine bn rfl 34 rfl rfl (vs := encK b) rfl ?_
 have HG1 := Lh (aq (Go.heap_alloc2_old w (.cells (encK a).toArray 34) (.cells (encK b).toArray 34)))
 have HG2 := Lh (aq (Go.heap_alloc2_new w (.cells (encK a).toArray 34) (.cells (encK b).toArray 34)))
 have HB := Lh (((br _ _).alloc (nr _) (.cells (encK a).toArray 34)).alloc (by rw [sz_]; omega) (.cells (encK b).toArray 34) : Below w.heap.size w _)
 have HSZ := Lh (show ((w.alloc (.cells (encK a).toArray 34)).alloc (.cells (encK b).toArray 34)).heap.size = w.heap.size + 2 by rw [sz_, sz_])
 rw [show (w.alloc (.cells (encK a).toArray 34)).heap.size = w.heap.size + 1 from sz_ _ _]
 generalize ((w.alloc (.cells (encK a).toArray 34)).alloc (.cells (encK b).toArray 34)) = w1 at *
 generalize ha : Act.put _ _ _ = z9; simp [Act.put] at ha; subst ha
 go_wp2_with fail
 refine pt [1, 3, 4] [0, 2] [] (fun w' => Below w1.drew.heap.size w1.drew w') (br _ _) (by kernel_rfl) (by kernel_rfl) ?_
 have HG1d := Lh (show ∀ j u, (encK a)[j]? = some u → w1.drew.cell? ⟨w.heap.size, 0 + j, none⟩ = some u from HG1.o)
 have HG2d := Lh (show ∀ j u, (encK b)[j]? = some u → w1.drew.cell? ⟨w.heap.size + 1, 0 + j, none⟩ = some u from HG2.o)
 have HBd := Lh HB.o.drew
 have HSd := Lh (show w1.drew.heap.size = w.heap.size + 2 from HSZ.o)
 clear HG1 HG2 HB HSZ
 generalize w1.drew = w2 at *
 have HL1 := Lh (show ∀ w', Below w2.heap.size w2 w' → (Instr.loadAt 34 (.pointer (some ⟨w.heap.size, 0, none⟩))).run Tryz.prog w' = .ok (kv a) w' from fun w' hb => fw ba.ut rfl (al _ _ a.2) (fun j u hu => (hb.cell (p := ⟨w.heap.size, 0 + j, none⟩) (by rw [HSd.o]; show w.heap.size < _; omega)).trans (HG1d.o j u hu)))
 have HL2 := Lh (show ∀ w', Below w2.heap.size w2 w' → (Instr.loadAt 34 (.pointer (some ⟨w.heap.size + 1, 0, none⟩))).run Tryz.prog w' = .ok (kv b) w' from fun w' hb => fw ba.ut rfl (al _ _ b.2) (fun j u hu => (hb.cell (p := ⟨w.heap.size + 1, 0 + j, none⟩) (by rw [HSd.o]; show w.heap.size + 1 < _; omega)).trans (HG2d.o j u hu)))
 refine fx 1 (by decide) (fun Q1 hQ1 => ?_)
 simp only [T1, T0]
 refine bz rfl (v := kv a) (du rfl rfl (HL1.o _ (br _ _))) ?_
 refine hQ1 _ _ ?_
 simp only [dr1, dr0]
 generalize ha : Act.put _ _ _ = z9; simp [Act.put] at ha; subst ha
 refine ig (fun Q2 hQ2 => ?_)
 go_wp2_with fail
 refine (rt a.1.1 a.1.2 w2 a.2).mono ?_
 rintro e w3 ⟨rfl, hb3⟩
 have HB3 := Lh hb3
 clear hb3
 obtain ⟨s1, hs1⟩ : ∃ s1 : ByteArray, s1 = ⟨(dc a.1.1 a.1.2).toArray⟩ := ⟨_, rfl⟩
 rw [← hs1]
 have HS1 := Lh hs1
 clear hs1
 go_wp2_with fail
 refine ⟨HB3.o, ?_⟩
 refine fx 1 (by decide) (fun Q1 hQ1 => ?_)
 simp only [T1, T0]
 refine bz rfl (v := kv b) (du rfl rfl (HL2.o _ HB3.o)) ?_
 refine hQ1 _ _ ?_
 simp only [dr1, dr0]
 generalize ha : Act.put _ _ _ = z9; simp [Act.put] at ha; subst ha
 refine ig (fun Q2 hQ2 => ?_)
 go_wp2_with fail
 refine (rt b.1.1 b.1.2 w3 b.2).mono ?_
 rintro e w4 ⟨rfl, hb4⟩
 have HB4 := Lh (HB3.o.trans (hb4.mono HB3.o.size))
 clear hb4
 obtain ⟨s2, hs2⟩ : ∃ s2 : ByteArray, s2 = ⟨(dc b.1.1 b.1.2).toArray⟩ := ⟨_, rfl⟩
 rw [← hs2]
 have HS2 := Lh hs2
 clear hs2
 go_wp2_with fail
 refine ⟨HB4.o, ?_⟩
 have HT : ∀ k : K32, (dc k.1.1 k.1.2).length ≤ 68719476736 := fun k => by
  cases hk : kOk k.1.2
  ·rw [(qx k.1.1 k.1.2).2 hk]; decide
  ·rw [rz k.1.1 k.1.2 k.2 hk]; decide
 have HLS := Lh (qfk (dc a.1.1 a.1.2) (dc b.1.1 b.1.2) w4 (HT a) (HT b))
 rw [← HS1.o, ← HS2.o] at HLS
 clear HT
 have HKL := Lh (show eb a b = Op.bytesLess (dc a.1.1 a.1.2) (dc b.1.1 b.1.2) from rfl)
 obtain ⟨z, hz⟩ : ∃ z, z = Op.bytesLess (dc a.1.1 a.1.2) (dc b.1.1 b.1.2) := ⟨_, rfl⟩
 rw [← hz] at HLS HKL
 clear hz
 refine ig (fun Q2 hQ2 => ?_)
 go_wp2_with fail
 refine HLS.o.mono ?_
 rintro e w5 ⟨rfl, hb5⟩
 have HB5 := Lh (HB4.o.trans (hb5.mono HB4.o.size))
 clear hb5
 go_wp2_with fail
 refine ⟨HB5.o, ?_⟩
 refine fx 1 (by decide) (fun Q1 hQ1 => ?_)
 simp only [T1, T0]
 go_wp2_with fail
 simp only [dr1, dr0]
 refine lu ⟨by rfl, ⟨fun _ => ⟨_, fun w' hb => HL1.o w' hb⟩, fun _ => ⟨_, fun w' hb => HL2.o w' hb⟩, trivial⟩, ?_⟩
 go_wp2_with fail
 go_ret
 exact ⟨rt1 (bu HKL.o.symm), HBd.o.trans (HB5.o.mono (by rw [HSd.o]; omega))⟩

def qhh (l : List dg) (w : World) (e : Ending) (w' : World) : Prop := ∃ v, e = .returned v ∧ w'.ownsRow w.heap.size 79 67 v l.length (dt l) ∧ Below w.heap.size w w'
theorem qcf (l : List dg) (k : K32) (A : Option Addr) (n c B : Nat) (w : World) (h : SlR gh w B (.slice A n c) l) (hB : B ≤ w.heap.size) (hl : l.length ≤ 1000000) :
  Calls Tryz.prog 34 #[.slice A n c, kv k] w (qhh (l.filter fun x => decide (x.2.1 ≠ k)) w) := by
 have hn := h.n_eq
 subst hn
 have hcl := h.n_le
 have HS := Lh h
 have HBW := Lh hB
 clear h hB
 go_enter Tryz.func34, Tryz.ntmps34
 go_wp2_with (refine ai (some 3) rfl ?_)
 refine Stop.go (bn rfl 34 rfl rfl (vs := encK k) rfl ?_)
 have HG1 := Lh (aq (vs := encK k) (hzn w (.cells (encK k).toArray 34)))
 have HB1 := Lh ((br _ _).alloc (nr _) (.cells (encK k).toArray 34) : Below w.heap.size w _)
 have HS1 := Lh (sz_ w (.cells (encK k).toArray 34))
 have HSL1 := Lh (HS.o.below (HB1.o.mono HBW.o))
 generalize w.alloc (.cells (encK k).toArray 34) = w1 at *
 generalize ha : Act.put _ _ _ = z9; simp [Act.put] at ha; subst ha
 go_wp2_with fail
 go_loopw [5, 6] (fun v5 v6 wr => ∃ (i : Nat) (l' : List dg) (A5 : Option Addr) (c5 : Nat), i ≤ l.length ∧ v6 = .int .i64 i ∧ v5 = .slice A5 l'.length c5 ∧ Hid (l' = (l.take i).filter fun x => decide (x.2.1 ≠ k)) ∧
  Hid (wr.ownsRow w1.heap.size 79 67 (.slice A5 l'.length c5) l'.length (dt l')) ∧ Hid (Below w1.heap.size w1 wr)) (fun _ v6 _ => l.length - (intOf v6).toNat)
 case atStart => exact ⟨0, [], none, 0, Nat.zero_le _, rfl, rfl, rfl, World.ownsRow_nil _ _ _ _, br _ _⟩
 case round =>
  obtain ⟨i, l', A5, c5, hi, rfl, rfl, HL, HO, HB⟩ := hrel
  by_cases hlt : i < l.length
  ·obtain ⟨q, off, cs, rfl, _, hqB, hrep, hcell⟩ := (HSL1.o.below (HB.o.mono (by rw [HS1.o]; have := HBW.o; omega))).get hlt (by decide)
   obtain ⟨x, hx⟩ : ∃ x, x = l[i] := ⟨_, rfl⟩
   rw [← hx] at hrep
   have hrep : cs = an x := hrep
   subst hrep
   have HC := Lh (show ∀ j u, (an x)[j]? = some u → wr.cell? ⟨q, off + i * 67 + j, none⟩ = some u from fun j u hu => by rw [Nat.add_assoc]; exact hcell j u hu)
   have HX := Lh hx
   have HQB := Lh hqB
   have HG2 := Lh (show ∀ j u, (encK k)[j]? = some u → wr.cell? ⟨w.heap.size, 0 + j, none⟩ = some u from fun j u hu => (HB.o.cell (p := ⟨w.heap.size, 0 + j, none⟩) (by rw [HS1.o]; show w.heap.size < _; omega)).trans (HG1.o j u hu))
   have HLE := Lh (show l'.length ≤ i by rw [HL.o]; exact Nat.le_trans (List.length_filter_le _ _) (by rw [List.length_take]; omega))
   clear hcell hx hqB
   go_wp2_with fail
   refine Text.wp_text [6] (by kernel_rfl) (by kernel_rfl) (fun Q' hQ' => ?_)
   have HCd := Lh (show ∀ j u, (an x)[j]? = some u → wr.drew.cell? ⟨q, off + i * 67 + j, none⟩ = some u from HC.o)
   have HGd := Lh (show ∀ j u, (encK k)[j]? = some u → wr.drew.cell? ⟨w.heap.size, 0 + j, none⟩ = some u from HG2.o)
   have HOd := Lh (show wr.drew.ownsRow w1.heap.size 79 67 (.slice A5 l'.length c5) l'.length (dt l') from HO.o.drew)
   have HBd := Lh HB.o.drew
   clear HC HG2 HO HB
   generalize wr.drew = w2 at *
   go_wp2_with (refine ai (some 17) rfl ?_)
   refine Stop.go (aa rfl 34 rfl rfl ba.ut rfl (cs := encK x.2.1) (al _ _ (x.2.1).2) (ra HCd.o) ?_)
   refine aa rfl 34 rfl rfl ba.ut rfl (cs := encK k) (al _ _ k.2) HGd.o ?_
   refine ei rfl .neq 34 rfl rfl rfl (ez ba.gd ..) (js ba (x.2.1).2 k.2) ?_
   have heq : (!(decide ((x.2.1).1.1 = k.1.1) && decide ((x.2.1).1.2 = k.1.2))) = decide (x.2.1 ≠ k) := by
    by_cases he : x.2.1 = k
    ·simp [he]
    ·have : ¬ ((x.2.1).1.1 = k.1.1 ∧ (x.2.1).1.2 = k.1.2) := fun h => he (Subtype.ext (Prod.ext h.1 h.2))
     rw [decide_eq_true he]
     rw [← Bool.decide_and, decide_eq_false this]
     rfl
   rw [heq]
   clear heq
   obtain ⟨d, hdd⟩ : ∃ d, d = decide (x.2.1 ≠ k) := ⟨_, rfl⟩
   rw [← hdd]
   have HDD := Lh hdd.symm
   clear hdd
   generalize ha : Act.put _ _ _ = z9; simp [Act.put] at ha; subst ha
   go_wp2_with fail
   refine ⟨by rfl, ?_⟩
   cases d
   rotate_left
   ·have HD := Lh HDD.o
    go_wp2_with (refine ai (some 24) rfl ?_)
    refine Stop.go (aa rfl 79 rfl rfl tg rfl (cs := an x) (tf x) HCd.o ?_)
    refine cd rfl 27 79 rfl rfl (vs := an x) Tryz.underlying27 (qe x) rfl (by rw [bq]; omega) (by rw [bq]; decide) ?_
    have hb4 : Below w2.heap.size w2 (w2.alloc (.cells (an x).toArray 79)) := (br _ _).alloc (nr _) _
    have HO4 := Lh (bw HOd.o hb4)
    have HB4 := Lh (HBd.o.trans (hb4.mono HBd.o.size))
    have HG4 := Lh (hzn w2 (.cells (an x).toArray 79))
    have HS4 := Lh (sz_ w2 (.cells (an x).toArray 79))
    clear hb4
    generalize w2.alloc (.cells (an x).toArray 79) = w4 at *
    have hbw4 := HB4.o.size
    have hle := HLE.o
    refine ay jb rfl rfl rfl rfl HO4.o (Rd.row (B := w4.heap.size) HG4.o (by rw [HS4.o]; omega)) (m := 1) (by rw [show (an x).toArray.toList = an x from rfl, bq]) (by intro u hu; exact ey _ u hu) ?h63 ?hby ?hbase ?_
    case h63 => simp only [maxLen]; omega
    case hby => omega
    case hbase => exact hbw4
    intro v5 w5 hown5 hg5 _ _
    obtain ⟨A6, c6, rfl, _, _⟩ := ap hown5
    have HB5 := Lh (ax HB4.o hg5 HO4.o (nr _) hbw4)
    have HO5 := Lh hown5
    clear hown5 hg5 hbw4 hle
    generalize ha : Act.put _ _ _ = z9; simp [Act.put] at ha; subst ha
    go_wp2_with fail
    go_roundw
    case rel =>
     refine ⟨i + 1, l' ++ [x], A6, c6, by omega, by go_num, by simp, ?_, ?_, HB5.o⟩
     ·rw [List.take_succ_eq_append_getElem hlt, List.filter_append, ← HL.o, ← HX.o, List.filter_cons, if_pos HD.o]
      rfl
     ·have hlen : (l' ++ [x]).length = l'.length + 1 := by simp
      have hcs : dt (l' ++ [x]) = dt l' ++ (an x).toArray.toList := by simp [dt]
      rw [hlen, hcs]
      exact HO5.o
    case measure => simp [intOf]; omega
   ·have HD := Lh HDD.o
    go_wp2_with fail
    go_roundw
    case rel =>
     refine ⟨i + 1, l', A5, c5, by omega, by go_num, rfl, ?_, HOd.o, HBd.o⟩
     rw [List.take_succ_eq_append_getElem hlt, List.filter_append, ← HL.o, ← HX.o, List.filter_cons, if_neg (by rw [HD.o]; exact Bool.false_ne_true)]
     exact (List.append_nil l').symm
    case measure => simp [intOf]; omega
  ·have hil : i = l.length := by omega
   subst hil
   have HP := Lh (show qhh (l.filter fun x => decide (x.2.1 ≠ k)) w (.returned (.slice A5 l'.length c5)) wr by
    have := HO.o
    have hL := HL.o
    rw [List.take_length] at hL
    rw [← hL]
    exact ⟨_, rfl, fv this HB1.o.size, HB1.o.trans (HB.o.mono HB1.o.size)⟩)
   go_wp2_with fail
   go_ret
   exact HP.o

def qqm (l : List K32) (w : World) (e : Ending) (w' : World) : Prop := ∃ v, e = .returned v ∧ w'.ownsRow w.heap.size 34 33 v l.length (df l) ∧ Below w.heap.size w w'
theorem qhk (l : List K32) (k : K32) (A : Option Addr) (n c B : Nat) (w : World) (h : SlR eK w B (.slice A n c) l) (hB : B ≤ w.heap.size) (hl : l.length ≤ 1000000) :
  Calls Tryz.prog 33 #[.slice A n c, kv k] w (qqm (l.filter fun x => decide (x ≠ k)) w) := by
 have hn := h.n_eq
 subst hn
 have hcl := h.n_le
 have HS := Lh h
 have HBW := Lh hB
 clear h hB
 go_enter Tryz.func33, Tryz.ntmps33
 go_wp2_with (refine ai (some 3) rfl ?_)
 refine Stop.go (bn rfl 34 rfl rfl (vs := encK k) rfl ?_)
 have HG1 := Lh (aq (vs := encK k) (hzn w (.cells (encK k).toArray 34)))
 have HB1 := Lh ((br _ _).alloc (nr _) (.cells (encK k).toArray 34) : Below w.heap.size w _)
 have HS1 := Lh (sz_ w (.cells (encK k).toArray 34))
 have HSL1 := Lh (HS.o.below (HB1.o.mono HBW.o))
 generalize w.alloc (.cells (encK k).toArray 34) = w1 at *
 generalize ha : Act.put _ _ _ = z9; simp [Act.put] at ha; subst ha
 go_wp2_with fail
 go_loopw [5, 6] (fun v5 v6 wr => ∃ (i : Nat) (l' : List K32) (A5 : Option Addr) (c5 : Nat), i ≤ l.length ∧ v6 = .int .i64 i ∧ v5 = .slice A5 l'.length c5 ∧ Hid (l' = (l.take i).filter fun x => decide (x ≠ k)) ∧
  Hid (wr.ownsRow w1.heap.size 34 33 (.slice A5 l'.length c5) l'.length (df l')) ∧ Hid (Below w1.heap.size w1 wr)) (fun _ v6 _ => l.length - (intOf v6).toNat)
 case atStart => exact ⟨0, [], none, 0, Nat.zero_le _, rfl, rfl, rfl, World.ownsRow_nil _ _ _ _, br _ _⟩
 case round =>
  obtain ⟨i, l', A5, c5, hi, rfl, rfl, HL, HO, HB⟩ := hrel
  by_cases hlt : i < l.length
  ·obtain ⟨q, off, cs, rfl, _, hqB, hrep, hcell⟩ := (HSL1.o.below (HB.o.mono (by rw [HS1.o]; have := HBW.o; omega))).get hlt (by decide)
   obtain ⟨x, hx⟩ : ∃ x, x = l[i] := ⟨_, rfl⟩
   rw [← hx] at hrep
   have hrep : cs = encK x := hrep
   subst hrep
   have HC := Lh (show ∀ j u, (encK x)[j]? = some u → wr.cell? ⟨q, off + i * 33 + j, none⟩ = some u from fun j u hu => by rw [Nat.add_assoc]; exact hcell j u hu)
   have HX := Lh hx
   have HQB := Lh hqB
   have HG2 := Lh (show ∀ j u, (encK k)[j]? = some u → wr.cell? ⟨w.heap.size, 0 + j, none⟩ = some u from fun j u hu => (HB.o.cell (p := ⟨w.heap.size, 0 + j, none⟩) (by rw [HS1.o]; show w.heap.size < _; omega)).trans (HG1.o j u hu))
   have HLE := Lh (show l'.length ≤ i by rw [HL.o]; exact Nat.le_trans (List.length_filter_le _ _) (by rw [List.length_take]; omega))
   clear hcell hx hqB
   go_wp2_with fail
   refine Text.wp_text [5] (by kernel_rfl) (by kernel_rfl) (fun Q' hQ' => ?_)
   have HCd := Lh (show ∀ j u, (encK x)[j]? = some u → wr.drew.cell? ⟨q, off + i * 33 + j, none⟩ = some u from HC.o)
   have HGd := Lh (show ∀ j u, (encK k)[j]? = some u → wr.drew.cell? ⟨w.heap.size, 0 + j, none⟩ = some u from HG2.o)
   have HOd := Lh (show wr.drew.ownsRow w1.heap.size 34 33 (.slice A5 l'.length c5) l'.length (df l') from HO.o.drew)
   have HBd := Lh HB.o.drew
   clear HC HG2 HO HB
   generalize wr.drew = w2 at *
   go_wp2_with (refine ai (some 16) rfl ?_)
   refine Stop.go (aa rfl 34 rfl rfl ba.ut rfl (cs := encK x) (al _ _ (x).2) HCd.o ?_)
   refine aa rfl 34 rfl rfl ba.ut rfl (cs := encK k) (al _ _ k.2) HGd.o ?_
   refine ei rfl .neq 34 rfl rfl rfl (ez ba.gd ..) (js ba (x).2 k.2) ?_
   have heq : (!(decide ((x).1.1 = k.1.1) && decide ((x).1.2 = k.1.2))) = decide (x ≠ k) := by
    by_cases he : x = k
    ·simp [he]
    ·have : ¬ ((x).1.1 = k.1.1 ∧ (x).1.2 = k.1.2) := fun h => he (Subtype.ext (Prod.ext h.1 h.2))
     rw [decide_eq_true he]
     rw [← Bool.decide_and, decide_eq_false this]
     rfl
   rw [heq]
   clear heq
   obtain ⟨d, hdd⟩ : ∃ d, d = decide (x ≠ k) := ⟨_, rfl⟩
   rw [← hdd]
   have HDD := Lh hdd.symm
   clear hdd
   generalize ha : Act.put _ _ _ = z9; simp [Act.put] at ha; subst ha
   go_wp2_with fail
   refine ⟨by rfl, ?_⟩
   cases d
   rotate_left
   ·have HD := Lh HDD.o
    go_wp2_with (refine ai (some 23) rfl ?_)
    refine Stop.go (aa rfl 34 rfl rfl ba.ut rfl (cs := encK x) (al _ _ x.2) HCd.o ?_)
    refine cd rfl 28 34 rfl rfl (vs := encK x) Tryz.underlying28 (qd _ _ x.2) rfl (by rw [bi]; omega) (by rw [bi]; decide) ?_
    have hb4 : Below w2.heap.size w2 (w2.alloc (.cells (encK x).toArray 34)) := (br _ _).alloc (nr _) _
    have HO4 := Lh (bw HOd.o hb4)
    have HB4 := Lh (HBd.o.trans (hb4.mono HBd.o.size))
    have HG4 := Lh (hzn w2 (.cells (encK x).toArray 34))
    have HS4 := Lh (sz_ w2 (.cells (encK x).toArray 34))
    clear hb4
    generalize w2.alloc (.cells (encK x).toArray 34) = w4 at *
    have hbw4 := HB4.o.size
    have hle := HLE.o
    refine ay nt rfl rfl rfl rfl HO4.o (Rd.row (B := w4.heap.size) HG4.o (by rw [HS4.o]; omega)) (m := 1) (by rw [show (encK x).toArray.toList = encK x from rfl, bi]) (by intro u hu; exact bc _ _ u hu) ?h63 ?hby ?hbase ?_
    case h63 => simp only [maxLen]; omega
    case hby => omega
    case hbase => exact hbw4
    intro v5 w5 hown5 hg5 _ _
    obtain ⟨A6, c6, rfl, _, _⟩ := ap hown5
    have HB5 := Lh (ax HB4.o hg5 HO4.o (nr _) hbw4)
    have HO5 := Lh hown5
    clear hown5 hg5 hbw4 hle
    generalize ha : Act.put _ _ _ = z9; simp [Act.put] at ha; subst ha
    go_wp2_with fail
    go_roundw
    case rel =>
     refine ⟨i + 1, l' ++ [x], A6, c6, by omega, by go_num, by simp, ?_, ?_, HB5.o⟩
     ·rw [List.take_succ_eq_append_getElem hlt, List.filter_append, ← HL.o, ← HX.o, List.filter_cons, if_pos HD.o]
      rfl
     ·have hlen : (l' ++ [x]).length = l'.length + 1 := by simp
      have hcs : df (l' ++ [x]) = df l' ++ (encK x).toArray.toList := by simp [df]
      rw [hlen, hcs]
      exact HO5.o
    case measure => simp [intOf]; omega
   ·have HD := Lh HDD.o
    go_wp2_with fail
    go_roundw
    case rel =>
     refine ⟨i + 1, l', A5, c5, by omega, by go_num, rfl, ?_, HOd.o, HBd.o⟩
     rw [List.take_succ_eq_append_getElem hlt, List.filter_append, ← HL.o, ← HX.o, List.filter_cons, if_neg (by rw [HD.o]; exact Bool.false_ne_true)]
     exact (List.append_nil l').symm
    case measure => simp [intOf]; omega
  ·have hil : i = l.length := by omega
   subst hil
   have HP := Lh (show qqm (l.filter fun x => decide (x ≠ k)) w (.returned (.slice A5 l'.length c5)) wr by
    have := HO.o
    have hL := HL.o
    rw [List.take_length] at hL
    rw [← hL]
    exact ⟨_, rfl, fv this HB1.o.size, HB1.o.trans (HB.o.mono HB1.o.size)⟩)
   go_wp2_with fail
   go_ret
   exact HP.o
end Go.Proofs.YtplbcbamnjnhlaaGreatDoor
