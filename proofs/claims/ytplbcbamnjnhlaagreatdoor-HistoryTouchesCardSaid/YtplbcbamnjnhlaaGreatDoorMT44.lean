/- Texts of this proof joined: HistA, HistB. -/
import Derived.Test.YtplbcbamnjnhlaaGreatDoorMT00
import Derived.Test.YtplbcbamnjnhlaaGreatDoorMT35
import Derived.Test.YtplbcbamnjnhlaaGreatDoorMT36
import Derived.Test.YtplbcbamnjnhlaaGreatDoorMT37
import Derived.Test.YtplbcbamnjnhlaaGreatDoorMT29
import Derived.Test.YtplbcbamnjnhlaaGreatDoorShelf
set_option maxRecDepth 100000
set_option maxHeartbeats 40000000
namespace Go.Proofs.YtplbcbamnjnhlaaGreatDoor
open Go.RowKit

def qbc : List Value := [.string ⟨#[]⟩, .string ⟨#[104, 101, 97, 100]⟩, .string ⟨#[105, 110, 116, 101, 110, 116]⟩, .string ⟨#[99, 111, 109, 109, 105, 116]⟩, .string ⟨#[108, 105, 118, 101]⟩, .string ⟨#[112, 105, 110]⟩, .string ⟨#[117, 110, 112, 105, 110]⟩, .string ⟨#[100, 101, 108, 101, 116, 101]⟩]
theorem words_u : Tryz.prog.underlying 154 = some (.array 8 9) := by kernel_rfl
theorem qsc (w : World) : Calls Tryz.prog 90 #[] w fun e w' => e = .returned (.agg qbc.toArray) ∧ Below w.heap.size w w' := by
 go_enter Tryz.func90, Tryz.ntmps90
 have hb := (br w.heap.size w).alloc (nr _) (.cells qbc.toArray 154)
 have hg := hzn w (.cells qbc.toArray 154)
 go_wp2_with fail
 exact bodyPost_ret (v := .agg qbc.toArray) (results_cell_row rfl _ _ w.heap.size _ qbc.toArray _ _ rfl hg words_u rfl (by kernel_rfl)) rfl ⟨rfl, hb⟩
theorem qbf : pr Tryz.prog 116 9 1 16 (.string ⟨#[]⟩) := yf (by kernel_rfl) (by kernel_rfl) rfl (by omega)
theorem yc (A2 : Option Addr) (c2 : Nat) (w : World) :
  Calls Tryz.prog 62 #[rv fj (.slice A2 0 c2)] w fun e w' => ∃ v, e = .returned v ∧ w'.ownsRow w.heap.size 9 1 v 1 [.string ⟨#[104, 101, 97, 100]⟩] ∧ Below w.heap.size w w' := by
 go_enter Tryz.func62, Tryz.ntmps62
 go_wp2_with (refine ai (some 1) rfl ?_)
 refine Stop.go (bn rfl _ rfl rfl (vs := ag 1 0 z32 0 z32 0 (.slice A2 0 c2)) rfl ?_)
 have HB1 := Lh ((br _ _).alloc (nr _) (.cells (ag 1 0 z32 0 z32 0 (.slice A2 0 c2)).toArray 38) : Below w.heap.size w _)
 have HG1 := Lh (hzn w (.cells (ag 1 0 z32 0 z32 0 (.slice A2 0 c2)).toArray 38))
 have HS1 := Lh (sz_ w (.cells (ag 1 0 z32 0 z32 0 (.slice A2 0 c2)).toArray 38))
 generalize w.alloc (.cells (ag 1 0 z32 0 z32 0 (.slice A2 0 c2)).toArray 38) = w1 at *
 generalize ha : Act.put _ _ _ = z9; simp [Act.put] at ha; subst ha
 have c0 : w1.cell? ⟨w.heap.size, 0, none⟩ = some (.int .i64 1) := by rw [cell_of_row _ _ _ _ _ _ HG1.o]; rfl
 go_wp2_with fail
 refine qj [1, 5, 6] [3] [] (by kernel_rfl) (by kernel_rfl) ?_
 have HG2 := Lh (show w1.drew.heap[w.heap.size]? = some (.cells (ag 1 0 z32 0 z32 0 (.slice A2 0 c2)).toArray 38 (0, 0)) from HG1.o)
 have HB2 := Lh (HB1.o.drew)
 have HS2 := Lh (show w.heap.size < w1.drew.heap.size by have := HS1.o; exact Nat.lt_of_lt_of_le (by omega) (Nat.le_of_eq this.symm))
 clear c0 HB1 HG1 HS1
 generalize w1.drew = w2 at *
 obtain ⟨g, hg⟩ : ∃ g, g = w.heap.size := ⟨_, rfl⟩
 rw [← hg] at HG2 HS2 HB2 ⊢
 have HGE := Lh hg
 clear hg
 refine bh 1 (by decide) (fun Q1 hQ1 => ?_)
 simp only [T1, T0]
 go_wp2_with fail
 try simp only [dr1, dr0]
 refine ie (fun Q1 hQ1 => ?_)
 go_wp2_with fail
 refine (qsc w2).mono ?_
 rintro e w3 ⟨rfl, hb3⟩
 have HB3 := Lh hb3
 have HG3 := Lh ((hb3.block g HS2.o).trans HG2.o)
 clear hb3
 go_wp2_with fail
 refine ⟨HB3.o, ?_⟩
 have c0 : w3.cell? ⟨g, 0, none⟩ = some (.int .i64 1) := by rw [cell_of_row _ _ _ _ _ _ HG3.o]; rfl
 have hix : ∀ w' : World, (Instr.index 154 (.agg qbc.toArray) (.int .i64 1)).run Tryz.prog w' = .ok (.string ⟨#[104, 101, 97, 100]⟩) w' := fun w' => by kernel_rfl
 refine bh 3 (by decide) (fun Q1 hQ1 => ?_)
 simp only [T1, T0]
 go_wp2_with fail
 try simp only [dr1, dr0]
 clear hix c0
 have hb4 : Below w3.heap.size w3 (w3.alloc (.cells #[.string ⟨#[104, 101, 97, 100]⟩] 9)) := (br _ _).alloc (nr _) _
 have HG4 := Lh (hzn w3 (.cells #[.string ⟨#[104, 101, 97, 100]⟩] 9))
 have HR4 := Lh ((hb4.block g (gl HG3.o)).trans HG3.o)
 have HB4 := Lh (HB3.o.trans (hb4.mono HB3.o.size))
 clear hb4
 refine ie (fun Q1 hQ1 => ?_)
 go_wp2_with fail
 generalize w3.alloc (.cells #[.string ⟨#[104, 101, 97, 100]⟩] 9) = w4 at *
 refine ⟨HB4.o, ?_⟩
 refine ie (fun Q1 hQ1 => ?_)
 have hbase : g ≤ w4.heap.size := by have := HS2.o; have := HB4.o.size; omega
 refine ay (v := nilV) qbf rfl rfl rfl rfl (World.ownsRow_nil w4 g 9 1) (Rd.row (B := w4.heap.size) HG4.o (gl HG4.o)) (m := 1) rfl (fun u hu => by simp at hu; subst hu; rfl) (by simp [maxLen]) (by omega) hbase ?_
 intro v5 w5 hown5 hg5 hor5 _
 have hnb : Below w4.heap.size w4 w5 := ⟨hg5.os, hg5.tape, hg5.output, hg5.size, fun k hk => hg5.block k hk (fun h => by cases h)⟩
 have HB5 := Lh (HB4.o.trans (hnb.mono HB4.o.size))
 have HR5 := Lh ((hnb.block g (gl HR4.o)).trans HR4.o)
 have HO5 := Lh (show w5.ownsRow g 9 1 v5 1 [.string ⟨#[104, 101, 97, 100]⟩] from hown5)
 obtain ⟨A5, c5, hv5, _, _⟩ := ap hown5
 subst hv5
 clear hown5 hg5 hor5 hnb hbase
 refine hQ1 _ _ ⟨HB5.o, ?_⟩
 generalize ha : Act.put _ _ _ = z9; simp [Act.put] at ha; subst ha
 refine bh 1 (by decide) (fun Q1 hQ1 => ?_)
 simp only [T1, T0]
 go_wp2_with fail
 try simp only [dr1, dr0]
 have HC0 := Lh (show w2.cell? ⟨g, 0, none⟩ = some (.int .i64 1) by rw [cell_of_row _ _ _ _ _ _ HG2.o]; rfl)
 refine jr ⟨by rfl, ⟨fun _ => ⟨_, _, rfl, HC0.o⟩, trivial⟩, ?_⟩
 have HBZ := Lh (HB2.o.trans (HB5.o.mono (Nat.le_of_lt HS2.o)))
 clear HC0 HG2 HB2 HB3 HG3 HG4 HR4 HB4 HB5
 have c0 : w5.cell? ⟨g, 0, none⟩ = some (.int .i64 1) := by rw [cell_of_row _ _ _ _ _ _ HR5.o]; rfl
 have hgl := (gl HR5.o)
 go_wp2_with (refine ai (some 37) rfl ?_)
 refine Stop.go (aa rfl 34 rfl rfl ba.ut rfl (cs := af z32 0) (al _ _ bg) (cu.key_ ⟨HR5.o, bg, bg⟩) ?_)
 refine cd rfl 28 34 rfl rfl (vs := af z32 0) Tryz.underlying28 (z := hkv z32 0) (qd _ _ bg) rfl (by rw [ae]; omega) (by rw [ae]; decide) ?_
 have hb6 : Below w5.heap.size w5 (w5.alloc (.cells (af z32 0).toArray 34)) := (br _ _).alloc (nr _) _
 have HO6 := Lh (bw HO5.o hb6)
 have HR6 := Lh ((hb6.block g hgl).trans HR5.o)
 have HB6 := Lh (HBZ.o.trans (hb6.mono (Nat.le_of_lt hgl)))
 clear hb6 hgl c0 HO5 HR5 HBZ
 generalize w5.alloc (.cells (af z32 0).toArray 34) = w6 at *
 have c0 : w6.cell? ⟨g, 0, none⟩ = some (.int .i64 1) := by rw [cell_of_row _ _ _ _ _ _ HR6.o]; rfl
 generalize ha : Act.put _ _ _ = z9; simp [Act.put] at ha; subst ha
 go_wp2_with fail
 go_loopw [3, 52] (fun v3 v52 wr => v3 = .slice A5 1 c5 ∧ v52 = .int .i64 0 ∧ wr = w6) (fun _ _ _ => 0)
 case atStart => exact ⟨rfl, rfl, rfl⟩
 case round =>
  obtain ⟨rfl, rfl, rfl⟩ := hrel
  go_wp2_with fail
  go_ret
  exact ⟨_, rfl, by rw [← HGE.o]; exact HO6.o, by rw [← HGE.o]; exact HB6.o⟩
def qfq : List UInt8 := [48, 32, 104, 101, 97, 100, 32, 108, 105, 118, 101, 61, 48, 32, 112, 105, 110, 115, 61, 48, 10]
def evT (A2 : Option Addr) (c2 : Nat) : List Value := evc 0 fj (.slice A2 0 c2) 0 0
theorem rf : Hs fj := ⟨bg, bg⟩
theorem qda (B b : Nat) (bs : List Value) (s : ByteArray) (w : World) (h : Lib.IsBuilder 115 5 B b bs w) (hlen : bs.length + s.size ≤ 140737488355328) (hBw : B ≤ w.heap.size) :
  Calls Tryz.prog 63 #[.pointer (some ⟨b, 0, none⟩), .string s] w fun e w' => e = .returned (.tuple #[.int .i64 s.size, .nilIface]) ∧ (Lib.BuilderAt 115 5 B b (.pointer (some ⟨b, 0, none⟩)) (bs ++ Lib.strCells s) w' ∧ Below B w w') :=
 Any.Builder_WriteString ({ Tryz.lays156 with } : Lays.n166 Tryz.prog Tryz.lays156_ren) Tryz.Builder_Extra_156 B b bs s w h hlen hBw
theorem qf {T e : TypeId} {B b : Nat} {bs : List Value} {w w' : World} (h : Lib.IsBuilder T e B b bs w) (hb : Below w.heap.size w w') : Lib.IsBuilder T e B b bs w' := by
 have key : ∀ p, Lib.BuilderAt T e B b p bs w → Lib.BuilderAt T e B b p bs w' := fun p ⟨h1, v, h2, h3, h4⟩ => ⟨h1, v, (hb.block _ (gl h2)).trans h2, bw h3 hb, h4⟩
 rcases h with h | h
 ·exact .inl (key _ h)
 ·exact .inr (key _ h)
theorem qtv {T e e2 : TypeId} {g b base size n : Nat} {bs xs : List Value} {v2 : Value} {w w' : World} (h : Lib.IsBuilder T e g b bs w) (h2 : w.ownsRow base e2 size v2 n xs) (hg : w.grownBy w' v2.ownBlock) (hT : T ≠ e2 ∧ e ≠ e2) : Lib.IsBuilder T e g b bs w' := by
 have key : ∀ p, Lib.BuilderAt T e g b p bs w → Lib.BuilderAt T e g b p bs w' := fun p ⟨h1, v, h3, h4, h5⟩ =>
  ⟨h1, v, (hg.block _ (gl h3) (fun e => pb h2 h3 hT.1 e.symm)).trans h3, oc h4 h2 hT.2 hg, h5⟩
 rcases h with h | h
 ·exact .inl (key _ h)
 ·exact .inr (key _ h)
theorem qrb {w : World} {base : Nat} {t : TypeId} {u : Value} (hb : base ≤ w.heap.size) : (w.alloc (.cells #[u] t)).ownsRow base t 1 (.slice (some ⟨w.heap.size, 0, none⟩) 1 1) 1 [u] :=
 ⟨rfl, .inr ⟨w.heap.size, 1, #[u], rfl, hb, hzn w _, nr _, by simp [maxLen], rfl, rfl⟩⟩
theorem digs0 : (⟨(Lib.decDigits 0).toArray⟩ : ByteArray) = ⟨#[48]⟩ := by
 rw [Lib.decDigits]
 rfl
theorem qja (p c : Nat) (A2 : Option Addr) (c2 : Nat) (w : World) (h : ∀ j u, (evT A2 c2)[j]? = some u → w.cell? ⟨p, j, none⟩ = some u) (hp : p < w.heap.size) :
  Calls Tryz.prog 39 #[.slice (some ⟨p, 0, none⟩) 1 c] w fun e w' => e = .returned (.string ⟨qfq.toArray⟩) ∧ Below w.heap.size w w' := by
 have H := Lh h
 have HP := Lh hp
 clear h hp
 obtain ⟨g, hg⟩ : ∃ g, g = w.heap.size := ⟨_, rfl⟩
 have hb1 : Below w.heap.size w (w.alloc (.cells #[.pointer none, .slice none 0 0] 115)) := (br _ _).alloc (nr _) _
 have HI1 := Lh (Lib.fresh_isBuilder 115 5 w)
 have HB1 := Lh hb1
 have HS1 := Lh (sz_ w (.cells #[.pointer none, .slice none 0 0] 115))
 clear hb1
 go_enter Tryz.func39, Tryz.ntmps39
 go_wp2_with fail
 generalize w.alloc (.cells #[.pointer none, .slice none 0 0] 115) = w1 at *
 rw [← hg] at HI1 HB1 HS1 ⊢
 have HGE := Lh hg
 clear hg
 go_loopw [9] (fun v9 wr => ∃ k : Nat, v9 = .int .i64 k ∧ ((k = 0 ∧ wr = w1) ∨ (k = 1 ∧ Hid (Lib.IsBuilder 115 5 g g (Lib.byteCells qfq) wr) ∧ Hid (Below g w wr)))) (fun v9 _ => 1 - (intOf v9).toNat)
 case atStart => exact ⟨0, rfl, .inl ⟨rfl, rfl⟩⟩
 case round =>
  obtain ⟨k, rfl, ⟨rfl, rfl⟩ | ⟨rfl, HI, HB⟩⟩ := hrel
  rotate_left
  ·go_wp2_with fail
   refine (Tryz.Builder_String_any g g qfq wr HI.o (by have := HB.o.size; have := HGE.o; omega)).mono ?_
   rintro e w9 ⟨rfl, hb9⟩
   have HB9 := Lh (HB.o.trans hb9)
   clear hb9
   go_wp2_with fail
   go_ret
   exact ⟨rfl, by rw [← HGE.o]; exact HB9.o⟩
  ·have HC1 := Lh (show ∀ j u, (evT A2 c2)[j]? = some u → wr.cell? ⟨p, j, none⟩ = some u from fun j u hu => (HB1.o.cell (p := ⟨p, j, none⟩) (by show p < g; have := HP.o; have := HGE.o; omega)).trans (H.o j u hu))
   have HEL := Lh (km (at_ := 0) (u := .slice A2 0 c2) (lv := 0) (pn := 0) rf)
   go_wp2_with (refine ai (some 12) rfl ?_)
   refine Stop.go (aa rfl 60 rfl rfl ev_u rfl (cs := (evT A2 c2)) (qjt rf) (fun j u hu => by rw [show 0 + j = j from Nat.zero_add j]; exact HC1.o j u hu) ?_)
   refine av rfl 60 rfl qdf (vs := evc 0 dq (.slice none 0 0) 0 0) rfl ?_
   refine ac rfl 60 rfl rfl rfl (ch (vs := (evT A2 c2)) (g := wr.heap.size) rfl rfl (qjt rf) (by rw [List.size_toArray]; exact HEL.o.trans (km (r := dq) ⟨rfl, rfl⟩).symm) qdp) ?_
   have hb2 : Below wr.heap.size wr (wr.alloc (.cells (evT A2 c2).toArray 60)) := (br _ _).alloc (nr _) _
   have HE2 := Lh (hzn wr (.cells (evT A2 c2).toArray 60))
   have HB2 := Lh hb2
   have HI2 := Lh (qf HI1.o hb2)
   have HS2 := Lh (sz_ wr (.cells (evT A2 c2).toArray 60))
   clear hb2
   generalize wr.alloc (.cells (evT A2 c2).toArray 60) = w2 at *
   obtain ⟨e0, he0⟩ : ∃ e0, e0 = wr.heap.size := ⟨_, rfl⟩
   rw [← he0] at HE2 HS2 HB2 HS1 ⊢
   have HEE := Lh he0
   clear he0
   generalize ha : Act.put _ _ _ = z9; simp [Act.put] at ha; subst ha
   go_wp2_with fail
   refine qc (fun w' => Below w2.drew.heap.size w2.drew w') [8] 9 (by kernel_rfl) rfl ?_
   have HE3 := Lh (show w2.drew.heap[e0]? = some (.cells (evT A2 c2).toArray 60 (0, 0)) from HE2.o)
   have HI3 := Lh (qf HI2.o (br _ _).drew)
   have HBG := Lh (show Below g w w2.drew from (HB1.o.trans (HB2.o.mono (by have := HS1.o; omega))).drew)
   have HS3 := Lh (show w2.drew.heap.size = e0 + 1 from HS2.o)
   have HEG := Lh (show e0 = g + 1 from HS1.o)
   clear HE2 HI2 HB2 HS2 HI1 HB1 HS1 HC1
   generalize w2.drew = w3 at *
   have he3 : e0 < w3.heap.size := by rw [HS3.o]; omega
   have ce0 : w3.cell? ⟨e0, 0, none⟩ = some (.int .i64 0) := by rw [cell_of_row _ _ _ _ _ _ HE3.o]; rfl
   have HC1 := Lh (show ∀ j u, (ag fj.kind fj.seq fj.kh fj.kk fj.mh fj.ms (.slice A2 0 c2))[j]? = some u → w3.cell? ⟨e0, 1 + j, none⟩ = some u from fun j u hu => by
    have := aq (vs := (evT A2 c2)) HE3.o (1 + j) u (qrq j u hu)
    rwa [Nat.zero_add] at this)
   have HC0 := Lh ce0
   have HEW := Lh he3
   clear ce0 he3
   refine wq1 (i := 0) (v := .pointer (some ⟨e0, 0, none⟩)) rfl (by kernel_rfl) rfl (fun wq => by go_simp) (br _ _) ?_
   generalize ha : Act.put _ _ _ = z9; simp [Act.put] at ha; subst ha
   refine wq3 (i := 1) (v := .int .i64 0) rfl (by kernel_rfl) rfl (fun wq hbq => du rfl rfl (iz (k := .i64) (by kernel_rfl) ((hbq.cell (p := ⟨e0, 0, none⟩) HEW.o).trans HC0.o))) (br _ _) ?_
   generalize ha : Act.put _ _ _ = z9; simp [Act.put] at ha; subst ha
   refine wq1 (i := 4) (v := .pointer (some ⟨e0, 1, none⟩)) rfl (by kernel_rfl) rfl (fun wq => by go_simp) (br _ _) ?_
   generalize ha : Act.put _ _ _ = z9; simp [Act.put] at ha; subst ha
   refine wq3 (i := 5) (v := rv fj (.slice A2 0 c2)) rfl (by kernel_rfl) rfl (fun wq hbq => du rfl rfl (fw dr rfl (bk _ _ _ _ _ _ (.slice A2 0 c2) bg bg) (fun j u hu => (hbq.cell (p := ⟨e0, 1 + j, none⟩) HEW.o).trans (HC1.o j u hu)))) (br _ _) ?_
   generalize ha : Act.put _ _ _ = z9; simp [Act.put] at ha; subst ha
   refine ea (i := 2) (by kernel_rfl) rfl (fun Q' hQ' => ?_)
   go_wp2_with fail
   refine (Tryz.strconv_Itoa_small 0 (by omega) w3).mono ?_
   rintro e w4 ⟨rfl, rfl⟩
   rw [show (⟨(Lib.decDigits 0).toArray⟩ : ByteArray) = ⟨#[48]⟩ from digs0]
   go_wp2_with fail
   refine ⟨okU (br _ _), ?_⟩
   refine qdg (i := 3) (j := 6) (by kernel_rfl) rfl rfl (fun Q' hQ' => ?_) (fun Q' hQ' => ?_)
   focus
    have hbl : Below w4.heap.size w4 (w4.alloc (.cells #[.string ⟨#[48]⟩] 9)) := (br _ _).alloc (nr _) _
    have hol := qrb (w := w4) (base := g) (t := 9) (u := .string ⟨#[48]⟩) (by have := HS3.o; have := HEG.o; omega)
    go_wp2_with fail
    generalize w4.alloc (.cells #[.string ⟨#[48]⟩] 9) = w5 at *
    have HBL := Lh hbl
    have HOL := Lh hol
    have HQ5 := Lh (nr w4.heap.size)
    clear hbl hol
    refine ⟨okU HBL.o, ?_⟩
    refine ea (i := 6) (by kernel_rfl) rfl (fun Q' hQ' => ?_)
    go_wp2_with fail
    refine (yc A2 c2 w5).mono ?_
    rintro e w6 ⟨v6, rfl, ho6, hb6⟩
    obtain ⟨A6, c6, hv6, _, _⟩ := ap ho6
    subst hv6
    have HB6 := Lh (HBL.o.trans (hb6.mono HBL.o.size))
    have HO6 := Lh ho6
    have HOL6 := Lh (bw HOL.o hb6)
    clear ho6 hb6 HBL HOL
    go_wp2_with fail
    refine ⟨okU HB6.o, ?_⟩
   rotate_left
   focus
    go_wp2_with fail
    refine (yc A2 c2 w4).mono ?_
    rintro e w5 ⟨v6, rfl, ho6, hb6⟩
    obtain ⟨A6, c6, hv6, _, _⟩ := ap ho6
    subst hv6
    have HB5 := Lh hb6
    have HO5 := Lh ho6
    clear ho6 hb6
    go_wp2_with fail
    refine ⟨okU HB5.o, ?_⟩
    refine ea (i := 3) (by kernel_rfl) rfl (fun Q' hQ' => ?_)
    have hbl : Below w5.heap.size w5 (w5.alloc (.cells #[.string ⟨#[48]⟩] 9)) := (br _ _).alloc (nr _) _
    have hol := qrb (w := w5) (base := g) (t := 9) (u := .string ⟨#[48]⟩) (by have := HS3.o; have := HEG.o; have := HB5.o.size; omega)
    go_wp2_with fail
    generalize w5.alloc (.cells #[.string ⟨#[48]⟩] 9) = w6 at *
    have HB6 := Lh (HB5.o.trans (hbl.mono HB5.o.size))
    have HOL6 := Lh hol
    have HO6 := Lh (bw HO5.o hbl)
    have HQ5 := Lh (show w4.heap.size ≤ w5.heap.size from HB5.o.size)
    clear hbl hol HB5 HO5
    refine ⟨okU HB6.o, ?_⟩
   rotate_left
   all_goals
    have hbase : g ≤ w6.heap.size := by have := HS3.o; have := HEG.o; have := HB6.o.size; omega
    refine ea (i := 7) (by kernel_rfl) rfl (fun Q' hQ' => ?_)
    refine ay qbf rfl rfl rfl rfl HOL6.o (Rd.of_own HO6.o) (m := 1) rfl (fun u hu => by simp at hu; subst hu; rfl) (by simp [maxLen]) (by omega) hbase ?_
    intro v7 w7 hown7 hg7 hor7 _
    have HB7 := Lh (show Below w4.heap.size w4 w7 from HB6.o.grown hg7 HB6.o.size (fun k hk => by cases hk; exact HQ5.o))
    have HO7 := Lh (show w7.ownsRow g 9 1 v7 2 [.string ⟨#[48]⟩, .string ⟨#[104, 101, 97, 100]⟩] from hown7)
    obtain ⟨A7, c7, hv7, _, _⟩ := ap hown7
    subst hv7
    clear hown7 hg7 hor7 hbase HOL6 HO6 HB6
    generalize ha : Act.put _ _ _ = z9; simp [Act.put] at ha; subst ha
    refine hQ' _ _ ⟨okU HB7.o, ?_⟩
    refine ea (i := 8) (by kernel_rfl) rfl (fun Q' hQ' => ?_)
    go_wp2_with fail
    refine ⟨iy (by kernel_rfl), ?_⟩
    refine rn (by kernel_rfl) ?_ _
    have HE7 := Lh ((HB7.o.block e0 HEW.o).trans HE3.o)
    have HI7 := Lh (qf HI3.o HB7.o)
    have HBG7 := Lh (HBG.o.trans (HB7.o.mono (by have := HS3.o; have := HEG.o; omega)))
    have HEW7 := Lh (Nat.lt_of_lt_of_le HEW.o HB7.o.size)
    clear HE3 HI3 HBG HS3 HB7 HEW HC0 HC1 HQ5
    go_wp2_with fail
    refine qc (fun w' => w'.heap[e0]? = some (.cells (evT A2 c2).toArray 60 (0, 0))) [11] 12 (by kernel_rfl) rfl ?_
    have HE8 := Lh (show w7.drew.heap[e0]? = some (.cells (evT A2 c2).toArray 60 (0, 0)) from HE7.o)
    have HI8 := Lh (qf HI7.o (br _ _).drew)
    have HBG8 := Lh (HBG7.o.drew)
    have HEW8 := Lh (show e0 < w7.drew.heap.size from HEW7.o)
    have HO8 := Lh (HO7.o.drew)
    clear HE7 HI7 HBG7 HEW7 HO7
    generalize w7.drew = w8 at *
    refine wq1 (i := 0) (v := .slice A7 2 c7) rfl (by kernel_rfl) rfl (fun wq => by go_simp) HE8.o ?_
    generalize ha : Act.put _ _ _ = z9; simp [Act.put] at ha; subst ha
    refine wq1 (i := 1) (v := .pointer (some ⟨e0, 70, none⟩)) rfl (by kernel_rfl) rfl (fun wq => by go_simp) HE8.o ?_
    generalize ha : Act.put _ _ _ = z9; simp [Act.put] at ha; subst ha
    refine wq3 (i := 2) (v := .int .i64 0) rfl (by kernel_rfl) rfl (fun wq hbq => du rfl rfl (iz (k := .i64) (by kernel_rfl) (by rw [cell_of_row _ _ _ _ _ _ hbq, ← Array.getElem?_toList]; exact (zg rf).1))) HE8.o ?_
    generalize ha : Act.put _ _ _ = z9; simp [Act.put] at ha; subst ha
    refine wq1 (i := 5) (v := .pointer (some ⟨e0, 71, none⟩)) rfl (by kernel_rfl) rfl (fun wq => by go_simp) HE8.o ?_
    generalize ha : Act.put _ _ _ = z9; simp [Act.put] at ha; subst ha
    refine wq3 (i := 6) (v := .int .i64 0) rfl (by kernel_rfl) rfl (fun wq hbq => du rfl rfl (iz (k := .i64) (by kernel_rfl) (by rw [cell_of_row _ _ _ _ _ _ hbq, ← Array.getElem?_toList]; exact (zg rf).2))) HE8.o ?_
    generalize ha : Act.put _ _ _ = z9; simp [Act.put] at ha; subst ha
    refine ea (i := 3) (by kernel_rfl) rfl (fun Q' hQ' => ?_)
    go_wp2_with fail
    refine (Tryz.strconv_Itoa_small 0 (by omega) w8).mono ?_
    rintro e w9 ⟨rfl, rfl⟩
    rw [show (⟨(Lib.decDigits 0).toArray⟩ : ByteArray) = ⟨#[48]⟩ from digs0]
    go_wp2_with fail
    refine ⟨okU HE8.o, ?_⟩
    refine wq1 (i := 4) (v := .string ⟨#[108, 105, 118, 101, 61, 48]⟩) rfl (by kernel_rfl) rfl (fun wq => by kernel_rfl) HE8.o ?_
    generalize ha : Act.put _ _ _ = z9; simp [Act.put] at ha; subst ha
    refine ea (i := 7) (by kernel_rfl) rfl (fun Q' hQ' => ?_)
    go_wp2_with fail
    refine (Tryz.strconv_Itoa_small 0 (by omega) w9).mono ?_
    rintro e wa ⟨rfl, rfl⟩
    rw [show (⟨(Lib.decDigits 0).toArray⟩ : ByteArray) = ⟨#[48]⟩ from digs0]
    go_wp2_with fail
    refine ⟨okU HE8.o, ?_⟩
    refine wq1 (i := 8) (v := .string ⟨#[112, 105, 110, 115, 61, 48]⟩) rfl (by kernel_rfl) rfl (fun wq => by kernel_rfl) HE8.o ?_
    generalize ha : Act.put _ _ _ = z9; simp [Act.put] at ha; subst ha
    refine ea (i := 9) (by kernel_rfl) rfl (fun Q' hQ' => ?_)
    go_wp2_with fail
    have hb10 : Below wa.heap.size wa (wa.alloc (.cells #[.string ⟨#[108, 105, 118, 101, 61, 48]⟩, .string ⟨#[112, 105, 110, 115, 61, 48]⟩] 9)) := (br _ _).alloc (nr _) _
    have HG10 := Lh (hzn wa (.cells #[.string ⟨#[108, 105, 118, 101, 61, 48]⟩, .string ⟨#[112, 105, 110, 115, 61, 48]⟩] 9))
    have HO10 := Lh (bw HO8.o hb10)
    have HB10 := Lh hb10
    have HE10 := Lh ((hb10.block e0 HEW8.o).trans HE8.o)
    have HGA := Lh (show g ≤ wa.heap.size by have := HEW8.o; have := HEG.o; omega)
    have HI10 := Lh (qf HI8.o hb10)
    clear hb10 HO8 HI8 HE8 HEW8
    generalize wa.alloc (.cells #[.string ⟨#[108, 105, 118, 101, 61, 48]⟩, .string ⟨#[112, 105, 110, 115, 61, 48]⟩] 9) = wb at *
    refine ⟨okU HE10.o, ?_⟩
    refine ea (i := 10) (by kernel_rfl) rfl (fun Q' hQ' => ?_)
    have hbase : g ≤ wb.heap.size := by have := HGA.o; have := HB10.o.size; omega
    refine ay (v := .slice A7 (1 + 1) c7) qbf rfl rfl rfl rfl HO10.o (Rd.row (B := wb.heap.size) HG10.o (gl HG10.o)) (m := 2) rfl (fun u hu => by simp at hu; rcases hu with rfl | rfl <;> rfl) (by simp [maxLen]) (by omega) hbase ?_
    intro vc wc hownc hgc horc _
    have HEC := Lh ((hgc.block e0 (gl HE10.o) (fun e => pb HO10.o HE10.o (by decide) e.symm)).trans HE10.o)
    have HIC := Lh (qtv HI10.o HO10.o hgc (by decide))
    have HBC := Lh (show Below g w wc from (HBG8.o.trans (HB10.o.mono HGA.o)).grown hgc hbase (fun k hk => (HO10.o.lt k hk).1))
    have HOC := Lh (show wc.ownsRow g 9 1 vc 4 [.string ⟨#[48]⟩, .string ⟨#[104, 101, 97, 100]⟩, .string ⟨#[108, 105, 118, 101, 61, 48]⟩, .string ⟨#[112, 105, 110, 115, 61, 48]⟩] from hownc)
    have HSC := Lh (show g ≤ wc.heap.size from Nat.le_trans hbase hgc.size)
    obtain ⟨Bc, cc, hvc⟩ := ob HOC.o (by omega)
    subst hvc
    have HCC := Lh (show 4 ≤ cc by
     obtain ⟨_, _, e, h4, _⟩ := ap HOC.o
     injection e with _ _ e
     omega)
    clear hownc hgc horc hbase HE10 HO10 HI10 HB10 HG10 HBG8 HGA
    generalize ha : Act.put _ _ _ = z9; simp [Act.put] at ha; subst ha
    refine hQ' _ _ ⟨okU HEC.o, ?_⟩
    refine ea (i := 11) (by kernel_rfl) rfl (fun Q' hQ' => ?_)
    go_wp2_with fail
    refine ⟨iy (by kernel_rfl), ?_⟩
    refine rn (by kernel_rfl) ?_ _
    clear HEC
    have HXS := Lh (show ∀ (j : Nat) (x : ByteArray), ([⟨#[48]⟩, ⟨#[104, 101, 97, 100]⟩, ⟨#[108, 105, 118, 101, 61, 48]⟩, ⟨#[112, 105, 110, 115, 61, 48]⟩] : List ByteArray)[j]? = some x → wc.cell? ⟨Bc, 0 + j, none⟩ = some (.string x) from fun j x hx => by
     rw [Nat.zero_add]
     have hj : j < 4 := (List.getElem?_eq_some_iff.1 hx).1
     rw [HOC.o.cellAt j (by omega)]
     match j, hj, hx with
     |0, _, hx => injection hx with hx; subst hx; rfl
     |1, _, hx => injection hx with hx; subst hx; rfl
     |2, _, hx => injection hx with hx; subst hx; rfl
     |3, _, hx => injection hx with hx; subst hx; rfl)
    have HBL := Lh (HOC.o.lt Bc rfl).2
    go_wp2_with fail
    refine (Tryz.strings_Join Bc 0 cc [⟨#[48]⟩, ⟨#[104, 101, 97, 100]⟩, ⟨#[108, 105, 118, 101, 61, 48]⟩, ⟨#[112, 105, 110, 115, 61, 48]⟩] ⟨#[32]⟩ wc HXS.o HBL.o (by decide) HCC.o (by decide)).mono ?_
    rintro e wd ⟨rfl, hbd⟩
    rw [show (⟨(Lib.join (([⟨#[48]⟩, ⟨#[104, 101, 97, 100]⟩, ⟨#[108, 105, 118, 101, 61, 48]⟩, ⟨#[112, 105, 110, 115, 61, 48]⟩] : List ByteArray).map (·.data.toList)) (⟨#[32]⟩ : ByteArray).data.toList).toArray⟩ : ByteArray) = ⟨#[48, 32, 104, 101, 97, 100, 32, 108, 105, 118, 101, 61, 48, 32, 112, 105, 110, 115, 61, 48]⟩ by rfl]
    have HID := Lh (qf HIC.o hbd)
    have HBD := Lh (HBC.o.trans (hbd.mono HSC.o))
    have HSD := Lh (Nat.le_trans HSC.o hbd.size)
    clear hbd HIC HBC HSC HXS HBL HOC
    go_wp2_with fail
    rw [show ((⟨#[48, 32, 104, 101, 97, 100, 32, 108, 105, 118, 101, 61, 48, 32, 112, 105, 110, 115, 61, 48]⟩ : ByteArray) ++ ⟨#[10]⟩) = ⟨qfq.toArray⟩ by rfl]
    refine (qda g g [] ⟨qfq.toArray⟩ wd HID.o (by decide) HSD.o).mono ?_
    rintro e we ⟨rfl, hat, hbe⟩
    have HIE := Lh (show Lib.IsBuilder 115 5 g g (Lib.byteCells qfq) we from .inr (by
     rw [List.nil_append] at hat
     exact hat))
    have HBE := Lh (HBD.o.trans hbe)
    clear hat hbe HID HBD HSD
    go_wp2_with fail
    go_roundw
    case rel => exact ⟨1, by go_num, .inr ⟨rfl, HIE, HBE⟩⟩
    case measure => simp [intOf]

def hr2 : RecD := ⟨5, 0, z32, 1, z32, 0, []⟩
def hb1 : bj := io az fj
def hb2 : bj := io hb1 hr2
theorem hm1 : mayD az fj = true := by decide
theorem hm2 : mayD hb1 hr2 = true := by decide +kernel
theorem hg1 : Good hb1 := qcz good0 hs0
theorem hg2 : Good hb2 := qcz hg1 hs0
theorem hl2 : hb2.live.length ≤ 10000 ∧ hb2.pins.length ≤ 10000 := by decide +kernel
theorem hrecs : qer hb2 = [fj, hr2] := by kernel_rfl
theorem hn2 : nEv az [fj, hr2] = 2 := by decide +kernel
theorem hev1 : evAt [fj, hr2] 1 = 9 := by decide +kernel
theorem hev2 : evAt [fj, hr2] 2 = 55 := by decide +kernel
theorem hbk1 : (bkAt az [fj, hr2] 1).live.length = 0 ∧ (bkAt az [fj, hr2] 1).pins.length = 0 := by decide +kernel
theorem hbk2 : (bkAt az [fj, hr2] 2).pins.length = 1 := by decide +kernel
theorem hlen : (yz hb2).length ≤ 1000000000 := by decide +kernel
structure Aw49 (w wc : World) (g kq : Nat) (b : bj) : Prop where
 book : eh wc g b
 key : wc.heap[kq]? = some (.cells (encK ak1).toArray 34 (0, 0))
 below : Below w.heap.size w wc
 gle : w.heap.size ≤ g ∧ g + 4 ≤ kq
theorem Aw49.later {w wc w' : World} {g kq : Nat} {b : bj} (h : Aw49 w wc g kq b) (hb : Below wc.heap.size wc w') : Aw49 w w' g kq b :=
 ⟨h.book.below hb h.book.lt, (hb.block _ (gl h.key)).trans h.key, h.below.trans (hb.mono h.below.size), h.gle⟩
theorem Aw49.write {w wc w' : World} {g kq : Nat} {b b' : bj} (h : Aw49 w wc g kq b) (hb : eh w' g b') (hs : fp g wc w') : Aw49 w w' g kq b' :=
 ⟨hb, (hs.block _ (gl h.key) (.inr h.gle.2)).trans h.key, h.below.trans (hs.below h.gle.1 h.below.size), h.gle⟩
theorem qcy (w : World) : Calls Tryz.prog 18 #[] w fun e w' => e = .returned (.bool true) ∧ Below w.heap.size w w' := by
 go_enter Tryz.func18, Tryz.ntmps18
 go_wp2_with fail
 refine (qrd w).mono ?_
 rintro e w1 ⟨rfl, hbk, hb1, hs1⟩
 have HBK := Lh hbk
 have HB1 := Lh hb1
 have HS1 := Lh hs1
 clear hbk hb1 hs1
 go_wp2_with (refine ai (some 6) rfl ?_)
 refine Stop.go (bl rfl 34 rfl (vs := #[(1, .int .i64 1)]) (by rfl) (qpp 1 _) ?_)
 refine av rfl 34 rfl ge (vs := af z32 0) rfl ?_
 refine ac rfl 34 rfl rfl rfl (ch (vs := encK ak1) (g := w1.heap.size) rfl rfl (al _ _ ak1.2) (by rw [List.size_toArray, bi, ae]; rfl) (bc _ _)) ?_
 have HM2 := Lh (show Aw49 w (w1.alloc (.cells (encK ak1).toArray 34)) w.heap.size w1.heap.size az from by
  have hb2 : Below w1.heap.size w1 (w1.alloc (.cells (encK ak1).toArray 34)) := (br _ _).alloc (nr _) _
  exact ⟨HBK.o.below hb2 HBK.o.lt, hzn _ _, HB1.o.trans (hb2.mono HB1.o.size), nr _, by rw [HS1.o]; omega⟩)
 clear HBK HB1 HS1
 generalize w1.alloc (.cells (encK ak1).toArray 34) = w2 at *
 generalize w1.heap.size = kq at *
 obtain ⟨g, hg⟩ : ∃ g, g = w.heap.size := ⟨_, rfl⟩
 rw [← hg] at HM2 ⊢
 clear hg
 generalize ha : Act.put _ _ _ = z9; simp [Act.put] at ha; subst ha
 go_wp2_with (refine ai (some 8) rfl ?_)
 refine Stop.go (bl rfl 38 rfl (vs := #[(0, .int .i64 1)]) (by rfl) (qmw 1 _) ?_)
 generalize ha : Act.put _ _ _ = z9; simp [Act.put] at ha; subst ha
 go_wp2_with fail
 refine (vh g az fj none 0 0 w2.heap.size w2 HM2.o.book good0 hs0 SlR.nil_ (nr _)).mono ?_
 rintro e w3 ⟨rfl, hbk, hbs⟩
 rw [hm1]
 have HM3 := Lh (show Aw49 w w3 g kq hb1 from HM2.o.write hbk hbs)
 clear hbk hbs HM2
 go_wp2_with (refine ai (some 11) rfl ?_)
 refine Stop.go (aa rfl 34 rfl rfl ba.ut rfl (cs := encK ak1) (al _ _ ak1.2) (aq (vs := encK ak1) HM3.o.key) ?_)
 refine bl rfl 38 rfl (vs := #[(0, .int .i64 5), (2, kv ak1)]) (by rfl) (qpq 5 ak1 _) ?_
 generalize ha : Act.put _ _ _ = z9; simp [Act.put] at ha; subst ha
 go_wp2_with fail
 refine (vh g hb1 hr2 none 0 0 w3.heap.size w3 HM3.o.book hg1 hs0 SlR.nil_ (nr _)).mono ?_
 rintro e w4 ⟨rfl, hbk, hbs⟩
 rw [hm2]
 have HM4 := Lh (show Aw49 w w4 g kq hb2 from HM3.o.write hbk hbs)
 clear hbk hbs HM3
 go_wp2_with fail
 refine (qly g hb2 w4 HM4.o.book hg2 hl2.1 hl2.2).mono ?_
 rintro e w5 ⟨v5, rfl, ho5, hb5⟩
 obtain ⟨A5, c5, hv5, hc5, _⟩ := ap ho5
 subst hv5
 have HO5 := Lh ho5
 have HM5 := Lh (HM4.o.later hb5)
 have HC5 := Lh hc5
 clear ho5 hb5 HM4 hc5
 go_wp2_with fail
 refine (of_any (yz hb2) A5 c5 w5.heap.size w5 (Rd.of_own HO5.o) (nr _) hlen HC5.o).mono ?_
 rintro e w6 ⟨rs, n0, us, A6, M, v6, hat, rfl, hrow, hra, hM1, hM2, hb6⟩
 obtain ⟨h1, _⟩ := qay hat (qqb hg2)
 rw [hrecs] at h1
 subst h1
 rw [hn2] at hrow ⊢
 rw [hev2]
 obtain ⟨p, c6, hv6⟩ := ob hrow (by omega)
 subst hv6
 obtain ⟨A2, c2, hu, _⟩ := hra.keys 0 (by decide)
 have HB6 := Lh (show Below w.heap.size w w6 from (HM5.o.later hb6).below)
 have hfull : me [fj, hr2] us 2 = evc 0 fj (us 0) 0 0 ++ evc 9 hr2 (us 1) (bkAt az [fj, hr2] 2).live.length 1 := by
  rw [sg, sg, hev1, hbk1.1, hbk1.2, hbk2]
  rfl
 rw [hfull] at hrow
 have hl0 : (evc 0 fj (us 0) 0 0).length = 72 := km rf
 have HCE := Lh (show ∀ j u, (evT A2 c2)[j]? = some u → w6.cell? ⟨p, j, none⟩ = some u from fun j u hju => by
  have hj : j < 72 := by
   have := (List.getElem?_eq_some_iff.1 hju).1
   rwa [show (evT A2 c2).length = 72 from km rf] at this
  rw [hrow.cellAt j (by omega), List.getElem?_append_left (by omega), hu]
  exact hju)
 have ca1 : w6.cell? ⟨p, 72, none⟩ = some (.int .i64 9) := by
  rw [hrow.cellAt _ (by omega), List.getElem?_append_right (by omega), hl0]
  rfl
 have ca2 : w6.cell? ⟨p, 143, none⟩ = some (.int .i64 1) := by
  rw [hrow.cellAt _ (by omega), List.getElem?_append_right (by omega), hl0]
  exact (zg hs0).2
 have HPL := Lh (show p < w6.heap.size from (hrow.lt p rfl).2)
 have hc6 : 2 ≤ c6 := by
  obtain ⟨_, _, e, h4, _⟩ := ap hrow
  injection e with _ _ e
  omega
 clear hrow hra hM1 hM2 hb6 hat hu hfull hl0 HM5 HO5
 go_wp2_with fail
 refine (qja p c6 A2 c2 w6 HCE.o HPL.o).mono ?_
 rintro e w7 ⟨rfl, hb7⟩
 rw [show (⟨qfq.toArray⟩ : ByteArray) = ⟨#[48, 32, 104, 101, 97, 100, 32, 108, 105, 118, 101, 61, 48, 32, 112, 105, 110, 115, 61, 48, 10]⟩ from rfl]
 have HB7 := Lh (HB6.o.trans (hb7.mono HB6.o.size))
 clear hb7 ca1 ca2
 go_wp2_with fail
 go_ret
 exact ⟨rfl, HB7.o⟩
end Go.Proofs.YtplbcbamnjnhlaaGreatDoor
