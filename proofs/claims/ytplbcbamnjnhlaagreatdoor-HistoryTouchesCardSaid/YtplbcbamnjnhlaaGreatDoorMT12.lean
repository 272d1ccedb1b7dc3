import Derived.Test.YtplbcbamnjnhlaaGreatDoorMT00
import Derived.Test.YtplbcbamnjnhlaaGreatDoorMT11
set_option maxRecDepth 100000
set_option maxHeartbeats 40000000
namespace Go.Proofs.YtplbcbamnjnhlaaGreatDoor
open Go.RowKit

def dq : RecD := ⟨0, 0, z32, 0, z32, 0, []⟩
def pk (r : RecD) : Bool := decide (0 ≤ r.seq ∧ r.seq ≤ 1099511627776)
def lr (r : RecD) : Bool := decide (0 ≤ r.ms ∧ r.ms ≤ 1048576)
def ed (r : RecD) : RecD :=
 if r.kind = 2 then ⟨2, r.seq, r.kh, r.kk, r.mh, r.ms, []⟩ else if r.kind = 3 then ⟨3, r.seq, z32, 0, z32, 0, []⟩
 else if r.kind = 4 then ⟨4, 0, r.kh, r.kk, r.mh, r.ms, []⟩ else if r.kind = 5 ∨ r.kind = 6 then ⟨r.kind, 0, r.kh, r.kk, z32, 0, []⟩
 else if r.kind = 7 then ⟨7, 0, z32, 0, z32, 0, r.keys⟩ else ⟨r.kind, 0, z32, 0, z32, 0, []⟩
def gv (r : RecD) : Bool :=
 if r.kind = 1 then true else if r.kind = 2 then pk r && lr r && kOk r.kk else if r.kind = 3 then pk r
 else if r.kind = 4 then lr r && kOk r.kk else if r.kind = 5 ∨ r.kind = 6 then kOk r.kk else if r.kind = 7 then fl r.keys else false
theorem rk (w : World) : (Instr.build 38 #[]).run Tryz.prog w = .ok (rv dq (.slice none 0 0)) w := by
 unfold Instr.build
 simp only [Sem.run_bind, gn, Result.andThen_ok, bb, run_underlying dr, qcj, mw]
 rfl
theorem qgk (k : Int) (w : World) : (Instr.build 38 #[(0, .int .i64 k)]).run Tryz.prog w = .ok (recv k 0 z32 0 z32 0 (.slice none 0 0)) w := by
 unfold Instr.build
 simp only [Sem.run_bind, gn, Result.andThen_ok, bb, run_underlying dr, qcj, mw]
 rfl
section
variable (k s : Int) (kh : List UInt8) (kk : Int) (mh : List UInt8) (ms : Int) (v : Value)
theorem xi (s' : Int) : ((ag k s kh kk mh ms v).toArray.toList.take 1 ++ [Value.int .i64 s'] ++ (ag k s kh kk mh ms v).toArray.toList.drop (1 + 1)).toArray = (ag k s' kh kk mh ms v).toArray := rfl
theorem nj (kh' : List UInt8) (kk' : Int) (h : kh.length = 32) (h' : kh'.length = 32) : ((ag k s kh kk mh ms v).toArray.toList.take 2 ++ af kh' kk' ++ (ag k s kh kk mh ms v).toArray.toList.drop (2 + (af kh' kk').length)).toArray = (ag k s kh' kk' mh ms v).toArray := by
 have e : ag k s kh kk mh ms v = ([.int .i64 k, .int .i64 s] ++ af kh kk) ++ (af mh ms ++ [v]) := yp
 have l : ([.int .i64 k, .int .i64 s] ++ af kh kk : List Value).length = 2 + (af kh' kk').length := by simp [ae, h, h']
 have e2 : (ag k s kh kk mh ms v).drop (2 + (af kh' kk').length) = af mh ms ++ [v] := by rw [e, ← l, List.drop_left]
 simp only [e2]
 simp [ag]
theorem zx (mh' : List UInt8) (ms' : Int) (hk : kh.length = 32) (h : mh.length = 32) (h' : mh'.length = 32) : ((ag k s kh kk mh ms v).toArray.toList.take 35 ++ af mh' ms' ++ (ag k s kh kk mh ms v).toArray.toList.drop (35 + (af mh' ms').length)).toArray = (ag k s kh kk mh' ms' v).toArray := by
 have e : ag k s kh kk mh ms v = ([.int .i64 k, .int .i64 s] ++ af kh kk) ++ (af mh ms ++ [v]) := yp
 have l0 : ([.int .i64 k, .int .i64 s] ++ af kh kk : List Value).length = 35 := by simp [ae, hk]
 have e1 : (ag k s kh kk mh ms v).take 35 = [.int .i64 k, .int .i64 s] ++ af kh kk := by rw [e, ← l0, List.take_left]
 have e' : ag k s kh kk mh ms v = (([.int .i64 k, .int .i64 s] ++ af kh kk) ++ af mh ms) ++ [v] := by rw [e]; simp
 have l : (([.int .i64 k, .int .i64 s] ++ af kh kk) ++ af mh ms : List Value).length = 35 + (af mh' ms').length := by rw [List.length_append, l0, ae, ae, h, h']
 have e2 : (ag k s kh kk mh ms v).drop (35 + (af mh' ms').length) = [v] := by rw [e', ← l, List.drop_left]
 simp only [e1, e2]
 simp [ag]
theorem qeo (v' : Value) (hk : kh.length = 32) (h : mh.length = 32) : ((ag k s kh kk mh ms v).toArray.toList.take 68 ++ [v'] ++ (ag k s kh kk mh ms v).toArray.toList.drop (68 + 1)).toArray = (ag k s kh kk mh ms v').toArray := by
 have e' : ag k s kh kk mh ms v = (([.int .i64 k, .int .i64 s] ++ af kh kk) ++ af mh ms) ++ [v] := by simp [ag]
 have l : (([.int .i64 k, .int .i64 s] ++ af kh kk) ++ af mh ms : List Value).length = 68 := by simp [ae, hk, h]
 have e1 : (ag k s kh kk mh ms v).take 68 = ([.int .i64 k, .int .i64 s] ++ af kh kk) ++ af mh ms := by rw [e', ← l, List.take_left]
 have e2 : (ag k s kh kk mh ms v).drop (68 + 1) = [] := List.drop_eq_nil_of_le (by rw [ah, hk, h]; exact nr _)
 simp only [e1, e2]
 simp [ag]
end
theorem bo {P : Program} (w : World) {g off : Nat} {ty : TypeId} {vs : List Value} {v : Value} (hv : v.cells = vs.toArray) (hi : (P.info? ty).map (·.size) = some vs.length) {cur new : Array Value} {t : TypeId} (hg : w.heap[g]? = some (.cells cur t (0, 0)))
  (hl : off + vs.length ≤ cur.size) (h1 : ∀ u ∈ vs, u.oneCell' = true) (hn : (cur.toList.take off ++ vs ++ cur.toList.drop (off + vs.length)).toArray = new) :
  ∃ w', (Instr.storeAt ty (.pointer (some ⟨g, off, none⟩)) v).run P w = .ok () w' ∧ w'.heap[g]? = some (.cells new t (0, 0)) ∧ (∀ k, k ≠ g → w'.heap[k]? = w.heap[k]?) ∧ ∀ B w0, Below B w0 w → B ≤ g → Below B w0 w' := by
 subst hn
 exact ⟨_, jt hv hi hg hl h1, setRow_heap _ _ _ _ _ _ hg, fun k hk => setRow_other _ _ _ _ hk, fun B w0 hb hB => below_setRow hb hB _⟩
theorem ii {fn : Func} {p u : Tmp} {x : Value} {Q : Ending → World → Prop} (h : fn.results = #[.cell p 38, .tmp u]) {a : Act} {w : World} {g : Nat} {k s : Int} {kh : List UInt8} {kk : Int} {mh : List UInt8} {ms : Int} {v : Value} {fr : Nat × Nat} {t : TypeId} (l1 : kh.length = 32) (l2 : mh.length = 32) (hd : a.defers = [])
  (hp : a.tmps.getD p undef = .pointer (some ⟨g, 0, none⟩)) (hu : a.tmps.getD u undef = x) (hg : w.heap[g]? = some (.cells (ag k s kh kk mh ms v).toArray t fr)) (hq : Q (.returned (.tuple #[recv k s kh kk mh ms v, x])) w) : bodyPost Tryz.prog fn Q .ret a w := by
 refine bodyPost_ret (v := .tuple #[recv k s kh kk mh ms v, x]) ?_ hd hq
 rw [results_cell_tmp h, hp, hu]
 simp [asAddr, Result.andThen, run_loadVar_row w g t 38 (ag k s kh kk mh ms v).toArray fr _ hg dr rfl (bk k s kh kk mh ms v l1 l2)]
def OnlyTo (w : World) (r : RecD) (B : Nat) (e : Ending) (w' : World) : Prop :=
 ∃ v, e = .returned (.tuple #[rv (ed r) v, .bool (gv r)]) ∧ SlR eKey w' B v (ed r).keys ∧ Below w.heap.size w w'
theorem only_any (r : RecD) (A : Option Addr) (n c B : Nat) (w : World) (hr : Hs r) (h1 : SlR eKey w B (.slice A n c) r.keys) (hB : B ≤ w.heap.size) :
  Calls Tryz.prog 74 #[rv r (.slice A n c)] w (OnlyTo w r B) := by
 obtain ⟨kind, seq, kh, kk, mh, ms, keys⟩ := r
 obtain ⟨hk, hm⟩ := hr
 simp only at hk hm h1
 obtain ⟨b1, hb1⟩ : ∃ b, b = decide (0 ≤ seq) := ⟨_, rfl⟩
 obtain ⟨b2, hb2⟩ : ∃ b, b = decide (seq ≤ 1099511627776) := ⟨_, rfl⟩
 obtain ⟨b3, hb3⟩ : ∃ b, b = decide (0 ≤ ms) := ⟨_, rfl⟩
 obtain ⟨b4, hb4⟩ : ∃ b, b = decide (ms ≤ 1048576) := ⟨_, rfl⟩
 have HSQ := Lh (show pk ⟨kind, seq, kh, kk, mh, ms, keys⟩ = (b1 && b2) by rw [hb1, hb2]; unfold pk; by_cases h : 0 ≤ seq <;> simp [h])
 have HMK := Lh (show lr ⟨kind, seq, kh, kk, mh, ms, keys⟩ = (b3 && b4) by rw [hb3, hb4]; unfold lr; by_cases h : 0 ≤ ms <;> simp [h])
 have hb1' := hb1.symm
 have hb3' := hb3.symm
 have HB2 := Lh hb2
 have HB4 := Lh hb4
 clear hb1 hb2 hb3 hb4
 have hr1 : cu ((w.alloc (.cells (ag kind seq kh kk mh ms (.slice A n c)).toArray 38)).alloc (.cells (ag 0 0 z32 0 z32 0 (.slice none 0 0)).toArray 38)) w.heap.size 38 kind seq kh kk mh ms (.slice A n c) :=
  (cu.new w hk hm).later ((br _ _).alloc (nr _) _)
 have hg2 := Go.heap_alloc2_new w (.cells (ag kind seq kh kk mh ms (.slice A n c)).toArray 38) (.cells (ag 0 0 z32 0 z32 0 (.slice none 0 0)).toArray 38)
 have hbw : Below w.heap.size w ((w.alloc (.cells (ag kind seq kh kk mh ms (.slice A n c)).toArray 38)).alloc (.cells (ag 0 0 z32 0 z32 0 (.slice none 0 0)).toArray 38)) :=
  ((br _ _).alloc (nr _) _).alloc (Nat.le_of_lt (by show _ < (Array.push _ _).size; rw [Array.size_push]; exact Nat.lt_succ_self _)) _
 go_enter Tryz.func74, Tryz.ntmps74
 go_wp2_with (refine ai (some 1) rfl ?_)
 refine Stop.go (bn rfl _ rfl rfl rfl (av rfl _ rfl gn rfl ?_))
 rw [show (w.alloc (.cells (ag kind seq kh kk mh ms (.slice A n c)).toArray 38)).heap.size = w.heap.size + 1 from Array.size_push _]
 have hs2 : ((w.alloc (.cells (ag kind seq kh kk mh ms (.slice A n c)).toArray 38)).alloc (.cells (ag 0 0 z32 0 z32 0 (.slice none 0 0)).toArray 38)).heap.size = w.heap.size + 2 := by
  show (Array.push (Array.push _ _) _).size = _
  rw [Array.size_push, Array.size_push]
 generalize ((w.alloc (.cells (ag kind seq kh kk mh ms (.slice A n c)).toArray 38)).alloc (.cells (ag 0 0 z32 0 z32 0 (.slice none 0 0)).toArray 38)) = w1 at *
 have c0 := hr1.kind_
 go_wp2_with (refine ai (some 7) rfl ?_)
 refine Stop.go (ar 2 _ _ _ (fun Q' hQ' => ?_))
 simp only [T1, T0]
 go_wp2_with fail
 try simp only [dr1, dr0]
 refine Stop.go (bl rfl 38 rfl (vs := #[(0, .int .i64 kind)]) (by rfl) (qgk kind _) ?_)
 refine av rfl 38 rfl gn rfl ?_
 refine ac rfl 38 rfl rfl rfl (ch (g := w1.heap.size) rfl (bb ..) (bk _ _ _ _ _ _ _ rfl rfl) rfl (bd _ _ _ _ _ _ _ _ _)) ?_
 have hb2 : Below w1.heap.size w1 (w1.alloc (.cells (ag kind 0 z32 0 z32 0 (.slice none 0 0)).toArray 38)) := (br _ _).alloc (nr _) _
 have hg3 := hzn w1 (.cells (ag kind 0 z32 0 z32 0 (.slice none 0 0)).toArray 38)
 have HR1 := Lh (hr1.later hb2)
 have HBW := Lh (hbw.trans (hb2.mono hbw.size))
 have HG2 := Lh ((hb2.block _ (gl hg2)).trans hg2)
 have HK1 := Lh (h1.fut HBW.o hB (nr B))
 rw [hs2] at hg3 ⊢
 have HG3 := Lh hg3
 have HSB := Lh hB
 clear hr1 c0 hbw hg2 hg3 hb2 hs2 h1 hB
 generalize w1.alloc (.cells (ag kind 0 z32 0 z32 0 (.slice none 0 0)).toArray 38) = w2 at *
 have c0 := HR1.o.kind_
 have c1 := HR1.o.seq_
 have c67 := HR1.o.size_
 have c68 := HR1.o.keys_
 go_wp2_with (refine ai (some 10) rfl ?_)
 refine Stop.go (ar 4 _ _ _ (fun Q' hQ' => ?_))
 simp only [T1, T0]
 go_wp2_with fail
 try simp only [dr1, dr0]
 refine Stop.go (nz (b := b1) (v := .pointer (some ⟨w.heap.size, 1, none⟩)) (by cases b1 <;> rfl) (fun _ => rfl) ?_)
 refine nz (b := b1) (v := .int .i64 seq) (by cases b1 <;> rfl) (fun h => by subst h; exact du rfl rfl (iz Tryz.underlying3 c1)) ?_
 refine nz (b := b1) (v := .bool b2) (by cases b1 <;> rfl) (fun h => by subst h; rw [HB2.o]; rfl) ?_
 refine bz rfl (v := .bool (b1 && b2)) (by cases b1 <;> rfl) ?_
 refine bz rfl (v := .bool (b1 && b2)) (by rfl) ?_
 generalize ha : Act.put _ _ _ = z9; simp [Act.put] at ha; subst ha
 generalize hx14 : (if b1 = true then Value.pointer (some ⟨w.heap.size, 1, none⟩) else undef) = x14
 generalize hx15 : (if b1 = true then Value.int .i64 seq else undef) = x15
 generalize hx16 : (if b1 = true then Value.bool b2 else undef) = x16
 generalize (b1 && b2) = sq at *
 clear hx14 hx15 hx16 hb1' HB2
 go_wp2_with (refine ai (some 18) rfl ?_)
 refine Stop.go (ar 5 _ _ _ (fun Q' hQ' => ?_))
 simp only [T1, T0]
 go_wp2_with fail
 try simp only [dr1, dr0]
 refine Stop.go (nz (b := b3) (v := .pointer (some ⟨w.heap.size, 35, none⟩)) (by cases b3 <;> rfl) (fun _ => rfl) ?_)
 refine nz (b := b3) (v := .pointer (some ⟨w.heap.size, 67, none⟩)) (by cases b3 <;> rfl) (fun h => by subst h; rfl) ?_
 refine nz (b := b3) (v := .int .i64 ms) (by cases b3 <;> rfl) (fun h => by subst h; exact du rfl rfl (iz Tryz.underlying3 c67)) ?_
 refine nz (b := b3) (v := .bool b4) (by cases b3 <;> rfl) (fun h => by subst h; rw [HB4.o]; rfl) ?_
 refine bz rfl (v := .bool (b3 && b4)) (by cases b3 <;> rfl) ?_
 refine bz rfl (v := .bool (b3 && b4)) (by rfl) ?_
 generalize ha : Act.put _ _ _ = z9; simp [Act.put] at ha; subst ha
 generalize hx23 : (if b3 = true then Value.pointer (some ⟨w.heap.size, 35, none⟩) else undef) = x23
 generalize hx24 : (if b3 = true then Value.pointer (some ⟨w.heap.size, 67, none⟩) else undef) = x24
 generalize hx25 : (if b3 = true then Value.int .i64 ms else undef) = x25
 generalize hx26 : (if b3 = true then Value.bool b4 else undef) = x26
 generalize (b3 && b4) = mk at *
 clear hx23 hx24 hx25 hx26 hb3' HB4
 by_cases k1 : kind = 1
 ·subst k1
  have HO := Lh (show ed ⟨1, seq, kh, kk, mh, ms, keys⟩ = ⟨1, 0, z32, 0, z32, 0, []⟩ from by unfold ed; simp)
  have HOK := Lh (show gv ⟨1, seq, kh, kk, mh, ms, keys⟩ = (true) from by unfold gv; simp)
  go_wp2_with (refine ai (some 32) rfl ?_)
  refine Stop.go (aa rfl 38 rfl rfl dr rfl (bk _ _ _ _ _ _ _ rfl rfl) (aq HG3.o) ?_)
  refine ac rfl 38 rfl rfl rfl (ce (bb ..) (bk _ _ _ _ _ _ _ rfl rfl) HG2.o (by simp [ah, bg]) (bd _ _ _ _ _ _ _ _ _)) ?_
  have HBX := HBW
  go_wp2_with fail
  refine ii rfl rfl rfl rfl rfl rfl (setRow_heap _ _ _ _ _ _ HG2.o) ?_
  exact ⟨.slice none 0 0, by rw [HO.o, HOK.o]; rfl, by rw [HO.o]; exact SlR.nil_, below_setRow HBX.o (Nat.le_succ _) _⟩
 by_cases k2 : kind = 2
 ·subst k2
  have HO := Lh (show ed ⟨2, seq, kh, kk, mh, ms, keys⟩ = ⟨2, seq, kh, kk, mh, ms, []⟩ from by unfold ed; simp)
  have HOK := Lh (show gv ⟨2, seq, kh, kk, mh, ms, keys⟩ = (sq && mk && kOk kk) from by unfold gv; simp [HSQ.o, HMK.o])
  go_wp2_with fail
  refine TextI.wp_inv [7, 9, 11] [1, 3, 5] [] (fun w' => w'.heap[w.heap.size]? = some (.cells (ag 2 seq kh kk mh ms (.slice A n c)).toArray 38 (0, 0))) HR1.o.blk (by kernel_rfl) (by kernel_rfl) ?_
  refine TextI.wpS_seg 3 _ _ _ _ (by decide) (fun Q2 hQ2 => ?_)
  simp only [T1, T0]
  go_wp2_with fail
  try simp only [dr1, dr0]
  refine TextI.wpS_seg 1 _ _ _ _ (by decide) (fun Q2 hQ2 => ?_)
  simp only [T1, T0]
  refine aa rfl 34 rfl rfl ba.ut rfl (al _ _ hk) HR1.o.key_ ?_
  refine hQ2 _ _ ?_
  simp only [dr1, dr0]
  generalize ha : Act.put _ _ _ = z9; simp [Act.put] at ha; subst ha
  refine TextI.wpS_seg 1 _ _ _ _ (by decide) (fun Q2 hQ2 => ?_)
  simp only [T1, T0]
  go_wp2_with fail
  try simp only [dr1, dr0]
  refine TextI.wpS_seg 1 _ _ _ _ (by decide) (fun Q2 hQ2 => ?_)
  simp only [T1, T0]
  refine aa rfl 36 rfl rfl jw.ut rfl (dj _ _ hm) HR1.o.mark_ ?_
  refine hQ2 _ _ ?_
  simp only [dr1, dr0]
  generalize ha : Act.put _ _ _ = z9; simp [Act.put] at ha; subst ha
  refine TextI.wpS_seg 1 _ _ _ _ (by decide) (fun Q2 hQ2 => ?_)
  simp only [T1, T0]
  go_wp2_with fail
  try simp only [dr1, dr0]
  obtain ⟨w3, hst1, hg4, hot1, hbl1⟩ := bo w2.drew (g := w.heap.size + 2) (off := 1) (vs := [.int .i64 seq]) (v := .int .i64 seq) (ty := 3) rfl (by kernel_rfl) HG3.o (by simp [ah, bg]) (fun u hu => by rw [List.mem_singleton.1 hu]; rfl) (xi 2 0 z32 0 z32 0 (.slice none 0 0) seq)
  have HG4 := Lh hg4
  have HOT1 := Lh hot1
  have HBL1 := Lh hbl1
  have HST1 := Lh hst1
  clear hg4 hot1 hbl1 hst1
  obtain ⟨w4, hst2, hg5, hot2, hbl2⟩ := bo w3 (g := w.heap.size + 2) (off := 2) (vs := af kh kk) (v := hkv kh kk) (ty := 34) (dl _ _) (al _ _ hk) HG4.o (by simp [ah, ae, hk, bg]) (bc _ _) (nj 2 seq z32 0 z32 0 (.slice none 0 0) kh kk rfl hk)
  have HG5 := Lh hg5
  have HOT2 := Lh hot2
  have HBL2 := Lh hbl2
  have HST2 := Lh hst2
  clear hg5 hot2 hbl2 hst2
  obtain ⟨w5, hst3, hg6, hot3, hbl3⟩ := bo w4 (g := w.heap.size + 2) (off := 35) (vs := af mh ms) (v := hkv mh ms) (ty := 36) (dl _ _) (dj _ _ hm) HG5.o (by simp [ah, ae, hk, hm, bg]) (bc _ _) (zx 2 seq kh kk z32 0 (.slice none 0 0) mh ms hk rfl hm)
  have HG6 := Lh hg6
  have HOT3 := Lh hot3
  have HBL3 := Lh hbl3
  have HST3 := Lh hst3
  clear hg6 hot3 hbl3 hst3
  refine TextI.wpS_one (fun Q1 hQ1 => ?_)
  refine ac rfl 3 rfl rfl rfl HST1.o ?_
  refine hQ1 _ _ ⟨(HOT1.o _ (by omega)).trans HR1.o.blk, ?_⟩
  generalize ha : Act.put _ _ _ = z9; simp [Act.put] at ha; subst ha
  refine TextI.wpS_seg 1 _ _ _ _ (by decide) (fun Q2 hQ2 => ?_)
  simp only [T1, T0]
  go_wp2_with fail
  try simp only [dr1, dr0]
  refine TextI.wpS_one (fun Q1 hQ1 => ?_)
  refine ac rfl 34 rfl rfl rfl HST2.o ?_
  refine hQ1 _ _ ⟨(HOT2.o _ (by omega)).trans ((HOT1.o _ (by omega)).trans HR1.o.blk), ?_⟩
  generalize ha : Act.put _ _ _ = z9; simp [Act.put] at ha; subst ha
  refine TextI.wpS_seg 1 _ _ _ _ (by decide) (fun Q2 hQ2 => ?_)
  simp only [T1, T0]
  go_wp2_with fail
  try simp only [dr1, dr0]
  refine TextI.wpS_one (fun Q1 hQ1 => ?_)
  refine ac rfl 36 rfl rfl rfl HST3.o ?_
  refine hQ1 _ _ ⟨(HOT3.o _ (by omega)).trans ((HOT2.o _ (by omega)).trans ((HOT1.o _ (by omega)).trans HR1.o.blk)), ?_⟩
  generalize ha : Act.put _ _ _ = z9; simp [Act.put] at ha; subst ha
  refine ⟨by rfl, ⟨fun _ => ⟨_, fun w' hI => iz Tryz.underlying3 (show w'.cell? ⟨w.heap.size, 1, none⟩ = some (.int .i64 seq) from (show cu w' w.heap.size 38 2 seq kh kk mh ms (.slice A n c) from ⟨hI, hk, hm⟩).seq_)⟩, fun _ => ⟨_, fun w' hI => fw ba.ut rfl (al _ _ hk) (show cu w' w.heap.size 38 2 seq kh kk mh ms (.slice A n c) from ⟨hI, hk, hm⟩).key_⟩, fun _ => ⟨_, fun w' hI => fw jw.ut rfl (dj _ _ hm) (show cu w' w.heap.size 38 2 seq kh kk mh ms (.slice A n c) from ⟨hI, hk, hm⟩).mark_⟩, trivial⟩, ?_⟩
  have HR5 := Lh (show cu w5 w.heap.size 38 2 seq kh kk mh ms (.slice A n c) from ⟨(HOT3.o _ (by omega)).trans ((HOT2.o _ (by omega)).trans ((HOT1.o _ (by omega)).trans HR1.o.blk)), hk, hm⟩)
  have HG25 := Lh ((HOT3.o (w.heap.size + 1) (by omega)).trans ((HOT2.o _ (by omega)).trans ((HOT1.o _ (by omega)).trans HG2.o)))
  have HBX := Lh (HBL3.o _ _ (HBL2.o _ _ (HBL1.o _ _ HBW.o.drew (by omega)) (by omega)) (by omega))
  have c68' := HR5.o.keys_
  clear HOT1 HOT2 HOT3 HBL1 HBL2 HBL3 HST1 HST2 HST3 HG4 HG5 c0 c1 c67 c68
  have HGW := HG6
  cases sq
  ·go_wp2_with fail
   refine Text.wp_grow [8] [0, 7] [] (by kernel_rfl) (by kernel_rfl) ?_
   refine Text.wpS_seg 1 _ _ _ _ (by decide) (fun Q2 hQ2 => ?_)
   simp only [T1, T0]
   refine aa rfl 38 rfl rfl dr rfl (bk _ _ _ _ _ _ _ hk hm) (aq HGW.o) ?_
   refine hQ2 _ _ ?_
   simp only [dr1, dr0]
   generalize ha : Act.put _ _ _ = z9; simp [Act.put] at ha; subst ha
   refine Text.wpS_seg 6 _ _ _ _ (by decide) (fun Q2 hQ2 => ?_)
   simp only [T1, T0]
   go_wp2_with fail
   try simp only [dr1, dr0]
   refine Text.wpS_seg 1 _ _ _ _ (by decide) (fun Q2 hQ2 => ?_)
   simp only [T1, T0]
   go_wp2_with fail
   try simp only [dr1, dr0]
   refine Text.wpS_one (fun Q1 hQ1 => ?_)
   go_wp2_with fail
   refine ⟨br _ _, ?_⟩
   have HG26 := HG25
   have HBY := Lh HBX.o.drew
   refine Text.wpS_seg 1 _ _ _ _ (by decide) (fun Q2 hQ2 => ?_)
   simp only [T1, T0]
   go_wp2_with fail
   try simp only [dr1, dr0]
   refine Text.wpS_seg 1 _ _ _ _ (by decide) (fun Q2 hQ2 => ?_)
   simp only [T1, T0]
   refine ac rfl 38 rfl rfl rfl (ce (bb ..) (bk _ _ _ _ _ _ _ hk hm) HG26.o (by simp [ah, hk, hm, bg]) (bd _ _ _ _ _ _ _ _ _)) ?_
   refine hQ2 _ _ ?_
   simp only [dr1, dr0]
   generalize ha : Act.put _ _ _ = z9; simp [Act.put] at ha; subst ha
   refine Text.wpS_seg 1 _ _ _ _ (by decide) (fun Q2 hQ2 => ?_)
   simp only [T1, T0]
   go_wp2_with fail
   try simp only [dr1, dr0]
   refine ⟨by rfl, ⟨(fun _ => ⟨_, _, rfl, aq HGW.o 0 _ rfl⟩), Text.no_want rfl, trivial⟩, ?_⟩
   go_wp2_with fail
   refine ii rfl hk hm rfl rfl rfl (setRow_heap _ _ _ _ _ _ HG26.o) ?_
   refine ⟨.slice none 0 0, by rw [HO.o, HOK.o]; rfl, ?_, below_setRow HBY.o (Nat.le_succ _) _⟩
   rw [HO.o]
   exact SlR.nil_
  ·cases mk
   ·go_wp2_with fail
    refine Text.wp_grow [8] [0, 7] [] (by kernel_rfl) (by kernel_rfl) ?_
    refine Text.wpS_seg 1 _ _ _ _ (by decide) (fun Q2 hQ2 => ?_)
    simp only [T1, T0]
    refine aa rfl 38 rfl rfl dr rfl (bk _ _ _ _ _ _ _ hk hm) (aq HGW.o) ?_
    refine hQ2 _ _ ?_
    simp only [dr1, dr0]
    generalize ha : Act.put _ _ _ = z9; simp [Act.put] at ha; subst ha
    refine Text.wpS_seg 6 _ _ _ _ (by decide) (fun Q2 hQ2 => ?_)
    simp only [T1, T0]
    go_wp2_with fail
    try simp only [dr1, dr0]
    refine Text.wpS_seg 1 _ _ _ _ (by decide) (fun Q2 hQ2 => ?_)
    simp only [T1, T0]
    go_wp2_with fail
    try simp only [dr1, dr0]
    refine Text.wpS_one (fun Q1 hQ1 => ?_)
    go_wp2_with fail
    refine ⟨br _ _, ?_⟩
    have HG26 := HG25
    have HBY := Lh HBX.o.drew
    refine Text.wpS_seg 1 _ _ _ _ (by decide) (fun Q2 hQ2 => ?_)
    simp only [T1, T0]
    go_wp2_with fail
    try simp only [dr1, dr0]
    refine Text.wpS_seg 1 _ _ _ _ (by decide) (fun Q2 hQ2 => ?_)
    simp only [T1, T0]
    refine ac rfl 38 rfl rfl rfl (ce (bb ..) (bk _ _ _ _ _ _ _ hk hm) HG26.o (by simp [ah, hk, hm, bg]) (bd _ _ _ _ _ _ _ _ _)) ?_
    refine hQ2 _ _ ?_
    simp only [dr1, dr0]
    generalize ha : Act.put _ _ _ = z9; simp [Act.put] at ha; subst ha
    refine Text.wpS_seg 1 _ _ _ _ (by decide) (fun Q2 hQ2 => ?_)
    simp only [T1, T0]
    go_wp2_with fail
    try simp only [dr1, dr0]
    refine ⟨by rfl, ⟨(fun _ => ⟨_, _, rfl, aq HGW.o 0 _ rfl⟩), Text.no_want rfl, trivial⟩, ?_⟩
    go_wp2_with fail
    refine ii rfl hk hm rfl rfl rfl (setRow_heap _ _ _ _ _ _ HG26.o) ?_
    refine ⟨.slice none 0 0, by rw [HO.o, HOK.o]; rfl, ?_, below_setRow HBY.o (Nat.le_succ _) _⟩
    rw [HO.o]
    exact SlR.nil_
   ·go_wp2_with fail
    refine Text.wp_grow [8] [0, 7] [] (by kernel_rfl) (by kernel_rfl) ?_
    refine Text.wpS_seg 1 _ _ _ _ (by decide) (fun Q2 hQ2 => ?_)
    simp only [T1, T0]
    refine aa rfl 38 rfl rfl dr rfl (bk _ _ _ _ _ _ _ hk hm) (aq HGW.o) ?_
    refine hQ2 _ _ ?_
    simp only [dr1, dr0]
    generalize ha : Act.put _ _ _ = z9; simp [Act.put] at ha; subst ha
    refine Text.wpS_seg 6 _ _ _ _ (by decide) (fun Q2 hQ2 => ?_)
    simp only [T1, T0]
    go_wp2_with fail
    try simp only [dr1, dr0]
    refine Text.wpS_seg 1 _ _ _ _ (by decide) (fun Q2 hQ2 => ?_)
    simp only [T1, T0]
    refine aw (by rfl) 34 rfl rfl ba.ut rfl (al _ _ hk) HR5.o.key_ ?_
    refine hQ2 _ _ ?_
    simp only [dr1, dr0]
    generalize ha : Act.put _ _ _ = z9; simp [Act.put] at ha; subst ha
    refine Text.wpS_one (fun Q1 hQ1 => ?_)
    go_wp2_with fail
    refine (tc kh kk _ hk).mono ?_
    rintro e w6 ⟨rfl, hb6⟩
    have HB6 := Lh hb6
    have HG26 := Lh (((cg hb6).block _ (gl HG25.o)).trans HG25.o)
    have HBY := Lh (HBX.o.trans ((cg hb6).mono HBX.o.size))
    clear hb6
    go_wp2_with fail
    refine ⟨HB6.o, ?_⟩
    refine Text.wpS_seg 1 _ _ _ _ (by decide) (fun Q2 hQ2 => ?_)
    simp only [T1, T0]
    go_wp2_with fail
    try simp only [dr1, dr0]
    refine Text.wpS_seg 1 _ _ _ _ (by decide) (fun Q2 hQ2 => ?_)
    simp only [T1, T0]
    refine ac rfl 38 rfl rfl rfl (ce (bb ..) (bk _ _ _ _ _ _ _ hk hm) HG26.o (by simp [ah, hk, hm, bg]) (bd _ _ _ _ _ _ _ _ _)) ?_
    refine hQ2 _ _ ?_
    simp only [dr1, dr0]
    generalize ha : Act.put _ _ _ = z9; simp [Act.put] at ha; subst ha
    refine Text.wpS_seg 1 _ _ _ _ (by decide) (fun Q2 hQ2 => ?_)
    simp only [T1, T0]
    go_wp2_with fail
    try simp only [dr1, dr0]
    refine ⟨by rfl, ⟨(fun _ => ⟨_, _, rfl, aq HGW.o 0 _ rfl⟩), (fun _ => ⟨_, _, rfl, HR5.o.key_ 0 _ (List.getElem?_eq_getElem (by rw [ae]; omega))⟩), trivial⟩, ?_⟩
    go_wp2_with fail
    refine ii rfl hk hm rfl rfl rfl (setRow_heap _ _ _ _ _ _ HG26.o) ?_
    refine ⟨.slice none 0 0, by rw [HO.o, HOK.o]; rfl, ?_, below_setRow HBY.o (Nat.le_succ _) _⟩
    rw [HO.o]
    exact SlR.nil_
 by_cases k3 : kind = 3
 ·subst k3
  have HO := Lh (show ed ⟨3, seq, kh, kk, mh, ms, keys⟩ = ⟨3, seq, z32, 0, z32, 0, []⟩ from by unfold ed; simp)
  have HOK := Lh (show gv ⟨3, seq, kh, kk, mh, ms, keys⟩ = (sq) from by unfold gv; simp [HSQ.o])
  go_wp2_with (refine ai (some 56) rfl ?_)
  refine Stop.go (ar 3 _ _ _ (fun Q' hQ' => ?_))
  simp only [T1, T0]
  go_wp2_with fail
  try simp only [dr1, dr0]
  obtain ⟨w3, hst1, hg4, hot1, hbl1⟩ := bo w2 (g := w.heap.size + 2) (off := 1) (vs := [.int .i64 seq]) (v := .int .i64 seq) (ty := 3) rfl (by kernel_rfl) HG3.o (by simp [ah, bg]) (fun u hu => by rw [List.mem_singleton.1 hu]; rfl) (xi 3 0 z32 0 z32 0 (.slice none 0 0) seq)
  have HG4 := Lh hg4
  have HOT1 := Lh hot1
  have HBL1 := Lh hbl1
  have HST1 := Lh hst1
  clear hg4 hot1 hbl1 hst1
  refine Stop.go (ac rfl 3 rfl rfl rfl HST1.o ?_)
  have HBX := Lh (HBL1.o _ _ HBW.o (by omega))
  have HG25 := Lh ((HOT1.o (w.heap.size + 1) (by omega)).trans HG2.o)
  go_wp2_with (refine ai (some 59) rfl ?_)
  refine Stop.go (aa rfl 38 rfl rfl dr rfl (bk _ _ _ _ _ _ _ rfl rfl) (aq HG4.o) ?_)
  refine ar 1 _ _ _ (fun Q' hQ' => ?_)
  simp only [T1, T0]
  go_wp2_with fail
  try simp only [dr1, dr0]
  refine Stop.go (ac rfl 38 rfl rfl rfl (ce (bb ..) (bk _ _ _ _ _ _ _ rfl rfl) HG25.o (by simp [ah, bg]) (bd _ _ _ _ _ _ _ _ _)) ?_)
  go_wp2_with fail
  refine ii rfl rfl rfl rfl rfl rfl (setRow_heap _ _ _ _ _ _ HG25.o) ?_
  exact ⟨.slice none 0 0, by rw [HO.o, HOK.o]; rfl, by rw [HO.o]; exact SlR.nil_, below_setRow HBX.o (Nat.le_succ _) _⟩
 by_cases k4 : kind = 4
 ·subst k4
  have HO := Lh (show ed ⟨4, seq, kh, kk, mh, ms, keys⟩ = ⟨4, 0, kh, kk, mh, ms, []⟩ from by unfold ed; simp)
  have HOK := Lh (show gv ⟨4, seq, kh, kk, mh, ms, keys⟩ = (mk && kOk kk) from by unfold gv; simp [HMK.o])
  go_wp2_with fail
  refine TextI.wp_inv [5, 7] [1, 3] [] (fun w' => w'.heap[w.heap.size]? = some (.cells (ag 4 seq kh kk mh ms (.slice A n c)).toArray 38 (0, 0))) HR1.o.blk (by kernel_rfl) (by kernel_rfl) ?_
  refine TextI.wpS_seg 1 _ _ _ _ (by decide) (fun Q2 hQ2 => ?_)
  simp only [T1, T0]
  go_wp2_with fail
  try simp only [dr1, dr0]
  refine TextI.wpS_seg 1 _ _ _ _ (by decide) (fun Q2 hQ2 => ?_)
  simp only [T1, T0]
  refine aa rfl 34 rfl rfl ba.ut rfl (al _ _ hk) HR1.o.key_ ?_
  refine hQ2 _ _ ?_
  simp only [dr1, dr0]
  generalize ha : Act.put _ _ _ = z9; simp [Act.put] at ha; subst ha
  refine TextI.wpS_seg 1 _ _ _ _ (by decide) (fun Q2 hQ2 => ?_)
  simp only [T1, T0]
  go_wp2_with fail
  try simp only [dr1, dr0]
  refine TextI.wpS_seg 1 _ _ _ _ (by decide) (fun Q2 hQ2 => ?_)
  simp only [T1, T0]
  refine aa rfl 36 rfl rfl jw.ut rfl (dj _ _ hm) HR1.o.mark_ ?_
  refine hQ2 _ _ ?_
  simp only [dr1, dr0]
  generalize ha : Act.put _ _ _ = z9; simp [Act.put] at ha; subst ha
  refine TextI.wpS_seg 1 _ _ _ _ (by decide) (fun Q2 hQ2 => ?_)
  simp only [T1, T0]
  go_wp2_with fail
  try simp only [dr1, dr0]
  obtain ⟨w3, hst1, hg4, hot1, hbl1⟩ := bo w2.drew (g := w.heap.size + 2) (off := 2) (vs := af kh kk) (v := hkv kh kk) (ty := 34) (dl _ _) (al _ _ hk) HG3.o (by simp [ah, ae, hk, bg]) (bc _ _) (nj 4 0 z32 0 z32 0 (.slice none 0 0) kh kk rfl hk)
  have HG4 := Lh hg4
  have HOT1 := Lh hot1
  have HBL1 := Lh hbl1
  have HST1 := Lh hst1
  clear hg4 hot1 hbl1 hst1
  obtain ⟨w4, hst2, hg5, hot2, hbl2⟩ := bo w3 (g := w.heap.size + 2) (off := 35) (vs := af mh ms) (v := hkv mh ms) (ty := 36) (dl _ _) (dj _ _ hm) HG4.o (by simp [ah, ae, hk, hm, bg]) (bc _ _) (zx 4 0 kh kk z32 0 (.slice none 0 0) mh ms hk rfl hm)
  have HG5 := Lh hg5
  have HOT2 := Lh hot2
  have HBL2 := Lh hbl2
  have HST2 := Lh hst2
  clear hg5 hot2 hbl2 hst2
  refine TextI.wpS_one (fun Q1 hQ1 => ?_)
  refine ac rfl 34 rfl rfl rfl HST1.o ?_
  refine hQ1 _ _ ⟨(HOT1.o _ (by omega)).trans HR1.o.blk, ?_⟩
  generalize ha : Act.put _ _ _ = z9; simp [Act.put] at ha; subst ha
  refine TextI.wpS_seg 1 _ _ _ _ (by decide) (fun Q2 hQ2 => ?_)
  simp only [T1, T0]
  go_wp2_with fail
  try simp only [dr1, dr0]
  refine TextI.wpS_one (fun Q1 hQ1 => ?_)
  refine ac rfl 36 rfl rfl rfl HST2.o ?_
  refine hQ1 _ _ ⟨(HOT2.o _ (by omega)).trans ((HOT1.o _ (by omega)).trans HR1.o.blk), ?_⟩
  generalize ha : Act.put _ _ _ = z9; simp [Act.put] at ha; subst ha
  refine ⟨by rfl, ⟨fun _ => ⟨_, fun w' hI => fw ba.ut rfl (al _ _ hk) (show cu w' w.heap.size 38 4 seq kh kk mh ms (.slice A n c) from ⟨hI, hk, hm⟩).key_⟩, fun _ => ⟨_, fun w' hI => fw jw.ut rfl (dj _ _ hm) (show cu w' w.heap.size 38 4 seq kh kk mh ms (.slice A n c) from ⟨hI, hk, hm⟩).mark_⟩, trivial⟩, ?_⟩
  have HR5 := Lh (show cu w4 w.heap.size 38 4 seq kh kk mh ms (.slice A n c) from ⟨(HOT2.o _ (by omega)).trans ((HOT1.o _ (by omega)).trans HR1.o.blk), hk, hm⟩)
  have HG25 := Lh ((HOT2.o (w.heap.size + 1) (by omega)).trans ((HOT1.o _ (by omega)).trans HG2.o))
  have HBX := Lh (HBL2.o _ _ (HBL1.o _ _ HBW.o.drew (by omega)) (by omega))
  have HGW := HG5
  clear HOT1 HOT2 HBL1 HBL2 HST1 HST2 HG4 c0 c1 c67 c68
  cases mk
  ·go_wp2_with fail
   refine Text.wp_grow [5] [0, 4] [] (by kernel_rfl) (by kernel_rfl) ?_
   refine Text.wpS_seg 1 _ _ _ _ (by decide) (fun Q2 hQ2 => ?_)
   simp only [T1, T0]
   refine aa rfl 38 rfl rfl dr rfl (bk _ _ _ _ _ _ _ hk hm) (aq HGW.o) ?_
   refine hQ2 _ _ ?_
   simp only [dr1, dr0]
   generalize ha : Act.put _ _ _ = z9; simp [Act.put] at ha; subst ha
   refine Text.wpS_seg 3 _ _ _ _ (by decide) (fun Q2 hQ2 => ?_)
   simp only [T1, T0]
   go_wp2_with fail
   try simp only [dr1, dr0]
   refine Text.wpS_seg 1 _ _ _ _ (by decide) (fun Q2 hQ2 => ?_)
   simp only [T1, T0]
   go_wp2_with fail
   try simp only [dr1, dr0]
   refine Text.wpS_one (fun Q1 hQ1 => ?_)
   go_wp2_with fail
   refine ⟨br _ _, ?_⟩
   have HG26 := HG25
   have HBY := Lh HBX.o.drew
   refine Text.wpS_seg 1 _ _ _ _ (by decide) (fun Q2 hQ2 => ?_)
   simp only [T1, T0]
   go_wp2_with fail
   try simp only [dr1, dr0]
   refine Text.wpS_seg 1 _ _ _ _ (by decide) (fun Q2 hQ2 => ?_)
   simp only [T1, T0]
   refine ac rfl 38 rfl rfl rfl (ce (bb ..) (bk _ _ _ _ _ _ _ hk hm) HG26.o (by simp [ah, hk, hm, bg]) (bd _ _ _ _ _ _ _ _ _)) ?_
   refine hQ2 _ _ ?_
   simp only [dr1, dr0]
   generalize ha : Act.put _ _ _ = z9; simp [Act.put] at ha; subst ha
   refine Text.wpS_seg 1 _ _ _ _ (by decide) (fun Q2 hQ2 => ?_)
   simp only [T1, T0]
   go_wp2_with fail
   try simp only [dr1, dr0]
   refine ⟨by rfl, ⟨(fun _ => ⟨_, _, rfl, aq HGW.o 0 _ rfl⟩), Text.no_want rfl, trivial⟩, ?_⟩
   go_wp2_with fail
   refine ii rfl hk hm rfl rfl rfl (setRow_heap _ _ _ _ _ _ HG26.o) ?_
   refine ⟨.slice none 0 0, by rw [HO.o, HOK.o]; rfl, ?_, below_setRow HBY.o (Nat.le_succ _) _⟩
   rw [HO.o]
   exact SlR.nil_
  ·go_wp2_with fail
   refine Text.wp_grow [5] [0, 4] [] (by kernel_rfl) (by kernel_rfl) ?_
   refine Text.wpS_seg 1 _ _ _ _ (by decide) (fun Q2 hQ2 => ?_)
   simp only [T1, T0]
   refine aa rfl 38 rfl rfl dr rfl (bk _ _ _ _ _ _ _ hk hm) (aq HGW.o) ?_
   refine hQ2 _ _ ?_
   simp only [dr1, dr0]
   generalize ha : Act.put _ _ _ = z9; simp [Act.put] at ha; subst ha
   refine Text.wpS_seg 3 _ _ _ _ (by decide) (fun Q2 hQ2 => ?_)
   simp only [T1, T0]
   go_wp2_with fail
   try simp only [dr1, dr0]
   refine Text.wpS_seg 1 _ _ _ _ (by decide) (fun Q2 hQ2 => ?_)
   simp only [T1, T0]
   refine aw (by rfl) 34 rfl rfl ba.ut rfl (al _ _ hk) HR5.o.key_ ?_
   refine hQ2 _ _ ?_
   simp only [dr1, dr0]
   generalize ha : Act.put _ _ _ = z9; simp [Act.put] at ha; subst ha
   refine Text.wpS_one (fun Q1 hQ1 => ?_)
   go_wp2_with fail
   refine (tc kh kk _ hk).mono ?_
   rintro e w6 ⟨rfl, hb6⟩
   have HB6 := Lh hb6
   have HG26 := Lh (((cg hb6).block _ (gl HG25.o)).trans HG25.o)
   have HBY := Lh (HBX.o.trans ((cg hb6).mono HBX.o.size))
   clear hb6
   go_wp2_with fail
   refine ⟨HB6.o, ?_⟩
   refine Text.wpS_seg 1 _ _ _ _ (by decide) (fun Q2 hQ2 => ?_)
   simp only [T1, T0]
   go_wp2_with fail
   try simp only [dr1, dr0]
   refine Text.wpS_seg 1 _ _ _ _ (by decide) (fun Q2 hQ2 => ?_)
   simp only [T1, T0]
   refine ac rfl 38 rfl rfl rfl (ce (bb ..) (bk _ _ _ _ _ _ _ hk hm) HG26.o (by simp [ah, hk, hm, bg]) (bd _ _ _ _ _ _ _ _ _)) ?_
   refine hQ2 _ _ ?_
   simp only [dr1, dr0]
   generalize ha : Act.put _ _ _ = z9; simp [Act.put] at ha; subst ha
   refine Text.wpS_seg 1 _ _ _ _ (by decide) (fun Q2 hQ2 => ?_)
   simp only [T1, T0]
   go_wp2_with fail
   try simp only [dr1, dr0]
   refine ⟨by rfl, ⟨(fun _ => ⟨_, _, rfl, aq HGW.o 0 _ rfl⟩), (fun _ => ⟨_, _, rfl, HR5.o.key_ 0 _ (List.getElem?_eq_getElem (by rw [ae]; omega))⟩), trivial⟩, ?_⟩
   go_wp2_with fail
   refine ii rfl hk hm rfl rfl rfl (setRow_heap _ _ _ _ _ _ HG26.o) ?_
   refine ⟨.slice none 0 0, by rw [HO.o, HOK.o]; rfl, ?_, below_setRow HBY.o (Nat.le_succ _) _⟩
   rw [HO.o]
   exact SlR.nil_
 by_cases k5 : kind = 5
 ·subst k5
  have HO := Lh (show ed ⟨5, seq, kh, kk, mh, ms, keys⟩ = ⟨5, 0, kh, kk, z32, 0, []⟩ from by unfold ed; simp)
  have HOK := Lh (show gv ⟨5, seq, kh, kk, mh, ms, keys⟩ = (kOk kk) from by unfold gv; simp)
  go_wp2_with (refine ai (some 79) rfl ?_)
  refine Stop.go (ar 1 _ _ _ (fun Q' hQ' => ?_))
  simp only [T1, T0]
  go_wp2_with fail
  try simp only [dr1, dr0]
  refine Stop.go (aa rfl 34 rfl rfl ba.ut rfl (al _ _ hk) HR1.o.key_ ?_)
  refine ar 1 _ _ _ (fun Q' hQ' => ?_)
  simp only [T1, T0]
  go_wp2_with fail
  try simp only [dr1, dr0]
  obtain ⟨w3, hst1, hg4, hot1, hbl1⟩ := bo w2 (g := w.heap.size + 2) (off := 2) (vs := af kh kk) (v := hkv kh kk) (ty := 34) (dl _ _) (al _ _ hk) HG3.o (by simp [ah, ae, hk, bg]) (bc _ _) (nj 5 0 z32 0 z32 0 (.slice none 0 0) kh kk rfl hk)
  have HG4 := Lh hg4
  have HOT1 := Lh hot1
  have HBL1 := Lh hbl1
  have HST1 := Lh hst1
  clear hg4 hot1 hbl1 hst1
  refine Stop.go (ac rfl 34 rfl rfl rfl HST1.o ?_)
  have HR5 := Lh (show cu w3 w.heap.size 38 5 seq kh kk mh ms (.slice A n c) from ⟨(HOT1.o _ (by omega)).trans HR1.o.blk, hk, hm⟩)
  have HG25 := Lh ((HOT1.o (w.heap.size + 1) (by omega)).trans HG2.o)
  have HBX := Lh (HBL1.o _ _ HBW.o (by omega))
  have HGW := HG4
  clear HOT1 HBL1 HST1 c0 c1 c67 c68
  go_wp2_with fail
  refine Text.wp_grow [3] [0, 2] [] (by kernel_rfl) (by kernel_rfl) ?_
  refine Text.wpS_seg 1 _ _ _ _ (by decide) (fun Q2 hQ2 => ?_)
  simp only [T1, T0]
  refine aa rfl 38 rfl rfl dr rfl (bk _ _ _ _ _ _ _ hk rfl) (aq HGW.o) ?_
  refine hQ2 _ _ ?_
  simp only [dr1, dr0]
  generalize ha : Act.put _ _ _ = z9; simp [Act.put] at ha; subst ha
  refine Text.wpS_seg 1 _ _ _ _ (by decide) (fun Q2 hQ2 => ?_)
  simp only [T1, T0]
  go_wp2_with fail
  try simp only [dr1, dr0]
  refine Text.wpS_seg 1 _ _ _ _ (by decide) (fun Q2 hQ2 => ?_)
  simp only [T1, T0]
  refine aa rfl 34 rfl rfl ba.ut rfl (al _ _ hk) HR5.o.key_ ?_
  refine hQ2 _ _ ?_
  simp only [dr1, dr0]
  generalize ha : Act.put _ _ _ = z9; simp [Act.put] at ha; subst ha
  refine Text.wpS_one (fun Q1 hQ1 => ?_)
  go_wp2_with fail
  refine (tc kh kk _ hk).mono ?_
  rintro e w6 ⟨rfl, hb6⟩
  have HB6 := Lh hb6
  have HG26 := Lh (((cg hb6).block _ (gl HG25.o)).trans HG25.o)
  have HBY := Lh (HBX.o.trans ((cg hb6).mono HBX.o.size))
  clear hb6
  go_wp2_with fail
  refine ⟨HB6.o, ?_⟩
  refine Text.wpS_seg 1 _ _ _ _ (by decide) (fun Q2 hQ2 => ?_)
  simp only [T1, T0]
  refine ac rfl 38 rfl rfl rfl (ce (bb ..) (bk _ _ _ _ _ _ _ hk rfl) HG26.o (by simp [ah, hk, bg]) (bd _ _ _ _ _ _ _ _ _)) ?_
  refine hQ2 _ _ ?_
  simp only [dr1, dr0]
  generalize ha : Act.put _ _ _ = z9; simp [Act.put] at ha; subst ha
  refine Text.wpS_seg 1 _ _ _ _ (by decide) (fun Q2 hQ2 => ?_)
  simp only [T1, T0]
  go_wp2_with fail
  try simp only [dr1, dr0]
  refine ⟨by rfl, ⟨(fun _ => ⟨_, _, rfl, aq HGW.o 0 _ rfl⟩), (fun _ => ⟨_, _, rfl, HR5.o.key_ 0 _ (List.getElem?_eq_getElem (by rw [ae]; omega))⟩), trivial⟩, ?_⟩
  go_wp2_with fail
  refine ii rfl hk rfl rfl rfl rfl (setRow_heap _ _ _ _ _ _ HG26.o) ?_
  refine ⟨.slice none 0 0, by rw [HO.o, HOK.o]; rfl, ?_, below_setRow HBY.o (Nat.le_succ _) _⟩
  rw [HO.o]
  exact SlR.nil_
 by_cases k6 : kind = 6
 ·subst k6
  have HO := Lh (show ed ⟨6, seq, kh, kk, mh, ms, keys⟩ = ⟨6, 0, kh, kk, z32, 0, []⟩ from by unfold ed; simp)
  have HOK := Lh (show gv ⟨6, seq, kh, kk, mh, ms, keys⟩ = (kOk kk) from by unfold gv; simp)
  go_wp2_with (refine ai (some 79) rfl ?_)
  refine Stop.go (ar 1 _ _ _ (fun Q' hQ' => ?_))
  simp only [T1, T0]
  go_wp2_with fail
  try simp only [dr1, dr0]
  refine Stop.go (aa rfl 34 rfl rfl ba.ut rfl (al _ _ hk) HR1.o.key_ ?_)
  refine ar 1 _ _ _ (fun Q' hQ' => ?_)
  simp only [T1, T0]
  go_wp2_with fail
  try simp only [dr1, dr0]
  obtain ⟨w3, hst1, hg4, hot1, hbl1⟩ := bo w2 (g := w.heap.size + 2) (off := 2) (vs := af kh kk) (v := hkv kh kk) (ty := 34) (dl _ _) (al _ _ hk) HG3.o (by simp [ah, ae, hk, bg]) (bc _ _) (nj 6 0 z32 0 z32 0 (.slice none 0 0) kh kk rfl hk)
  have HG4 := Lh hg4
  have HOT1 := Lh hot1
  have HBL1 := Lh hbl1
  have HST1 := Lh hst1
  clear hg4 hot1 hbl1 hst1
  refine Stop.go (ac rfl 34 rfl rfl rfl HST1.o ?_)
  have HR5 := Lh (show cu w3 w.heap.size 38 6 seq kh kk mh ms (.slice A n c) from ⟨(HOT1.o _ (by omega)).trans HR1.o.blk, hk, hm⟩)
  have HG25 := Lh ((HOT1.o (w.heap.size + 1) (by omega)).trans HG2.o)
  have HBX := Lh (HBL1.o _ _ HBW.o (by omega))
  have HGW := HG4
  clear HOT1 HBL1 HST1 c0 c1 c67 c68
  go_wp2_with fail
  refine Text.wp_grow [3] [0, 2] [] (by kernel_rfl) (by kernel_rfl) ?_
  refine Text.wpS_seg 1 _ _ _ _ (by decide) (fun Q2 hQ2 => ?_)
  simp only [T1, T0]
  refine aa rfl 38 rfl rfl dr rfl (bk _ _ _ _ _ _ _ hk rfl) (aq HGW.o) ?_
  refine hQ2 _ _ ?_
  simp only [dr1, dr0]
  generalize ha : Act.put _ _ _ = z9; simp [Act.put] at ha; subst ha
  refine Text.wpS_seg 1 _ _ _ _ (by decide) (fun Q2 hQ2 => ?_)
  simp only [T1, T0]
  go_wp2_with fail
  try simp only [dr1, dr0]
  refine Text.wpS_seg 1 _ _ _ _ (by decide) (fun Q2 hQ2 => ?_)
  simp only [T1, T0]
  refine aa rfl 34 rfl rfl ba.ut rfl (al _ _ hk) HR5.o.key_ ?_
  refine hQ2 _ _ ?_
  simp only [dr1, dr0]
  generalize ha : Act.put _ _ _ = z9; simp [Act.put] at ha; subst ha
  refine Text.wpS_one (fun Q1 hQ1 => ?_)
  go_wp2_with fail
  refine (tc kh kk _ hk).mono ?_
  rintro e w6 ⟨rfl, hb6⟩
  have HB6 := Lh hb6
  have HG26 := Lh (((cg hb6).block _ (gl HG25.o)).trans HG25.o)
  have HBY := Lh (HBX.o.trans ((cg hb6).mono HBX.o.size))
  clear hb6
  go_wp2_with fail
  refine ⟨HB6.o, ?_⟩
  refine Text.wpS_seg 1 _ _ _ _ (by decide) (fun Q2 hQ2 => ?_)
  simp only [T1, T0]
  refine ac rfl 38 rfl rfl rfl (ce (bb ..) (bk _ _ _ _ _ _ _ hk rfl) HG26.o (by simp [ah, hk, bg]) (bd _ _ _ _ _ _ _ _ _)) ?_
  refine hQ2 _ _ ?_
  simp only [dr1, dr0]
  generalize ha : Act.put _ _ _ = z9; simp [Act.put] at ha; subst ha
  refine Text.wpS_seg 1 _ _ _ _ (by decide) (fun Q2 hQ2 => ?_)
  simp only [T1, T0]
  go_wp2_with fail
  try simp only [dr1, dr0]
  refine ⟨by rfl, ⟨(fun _ => ⟨_, _, rfl, aq HGW.o 0 _ rfl⟩), (fun _ => ⟨_, _, rfl, HR5.o.key_ 0 _ (List.getElem?_eq_getElem (by rw [ae]; omega))⟩), trivial⟩, ?_⟩
  go_wp2_with fail
  refine ii rfl hk rfl rfl rfl rfl (setRow_heap _ _ _ _ _ _ HG26.o) ?_
  refine ⟨.slice none 0 0, by rw [HO.o, HOK.o]; rfl, ?_, below_setRow HBY.o (Nat.le_succ _) _⟩
  rw [HO.o]
  exact SlR.nil_
 by_cases k7 : kind = 7
 ·subst k7
  have HO := Lh (show ed ⟨7, seq, kh, kk, mh, ms, keys⟩ = ⟨7, 0, z32, 0, z32, 0, keys⟩ from by unfold ed; simp)
  have HOK := Lh (show gv ⟨7, seq, kh, kk, mh, ms, keys⟩ = (fl keys) from by unfold gv; simp)
  go_wp2_with (refine ai (some 88) rfl ?_)
  refine Stop.go (ar 3 _ _ _ (fun Q' hQ' => ?_))
  simp only [T1, T0]
  go_wp2_with fail
  try simp only [dr1, dr0]
  obtain ⟨w3, hst1, hg4, hot1, hbl1⟩ := bo w2 (g := w.heap.size + 2) (off := 68) (vs := [.slice A n c]) (v := .slice A n c) (ty := 28) rfl (by kernel_rfl) HG3.o (by simp [ah, bg]) (fun u hu => by rw [List.mem_singleton.1 hu]; rfl) (qeo 7 0 z32 0 z32 0 (.slice none 0 0) (.slice A n c) rfl rfl)
  have HG4 := Lh hg4
  have HOT1 := Lh hot1
  have HBL1 := Lh hbl1
  have HST1 := Lh hst1
  clear hg4 hot1 hbl1 hst1
  refine Stop.go (ac rfl 28 rfl rfl rfl HST1.o ?_)
  have HR5 := Lh (show cu w3 w.heap.size 38 7 seq kh kk mh ms (.slice A n c) from ⟨(HOT1.o _ (by omega)).trans HR1.o.blk, hk, hm⟩)
  have HG25 := Lh ((HOT1.o (w.heap.size + 1) (by omega)).trans HG2.o)
  have HBX := Lh (HBL1.o _ _ HBW.o (by omega))
  have HK5 := Lh (HK1.o.keep (w' := w3) (fun p hp => by
   have hne : p.block ≠ w.heap.size + 2 := by have := HSB.o; omega
   unfold World.cell?
   rw [HOT1.o p.block hne]))
  have HGW := HG4
  have c68' := HR5.o.keys_
  clear HOT1 HBL1 HST1 c0 c1 c67 c68
  go_wp2_with fail
  refine Text.wp_grow [3] [0, 2] [] (by kernel_rfl) (by kernel_rfl) ?_
  refine Text.wpS_seg 1 _ _ _ _ (by decide) (fun Q2 hQ2 => ?_)
  simp only [T1, T0]
  refine aa rfl 38 rfl rfl dr rfl (bk _ _ _ _ _ _ _ rfl rfl) (aq HGW.o) ?_
  refine hQ2 _ _ ?_
  simp only [dr1, dr0]
  generalize ha : Act.put _ _ _ = z9; simp [Act.put] at ha; subst ha
  refine Text.wpS_seg 1 _ _ _ _ (by decide) (fun Q2 hQ2 => ?_)
  simp only [T1, T0]
  go_wp2_with fail
  try simp only [dr1, dr0]
  refine Text.wpS_seg 1 _ _ _ _ (by decide) (fun Q2 hQ2 => ?_)
  simp only [T1, T0]
  go_wp2_with fail
  try simp only [dr1, dr0]
  refine Text.wpS_one (fun Q1 hQ1 => ?_)
  go_wp2_with fail
  refine (qoa A c B n keys _ (HK5.o.below (br _ _).drew) (Nat.le_trans HSB.o HBX.o.size)).mono ?_
  rintro e w6 ⟨rfl, hb6⟩
  have HB6 := Lh hb6
  have HG26 := Lh (((cg hb6).block _ (gl HG25.o)).trans HG25.o)
  have HBY := Lh (HBX.o.trans ((cg hb6).mono HBX.o.size))
  clear hb6
  go_wp2_with fail
  refine ⟨HB6.o, ?_⟩
  refine Text.wpS_seg 1 _ _ _ _ (by decide) (fun Q2 hQ2 => ?_)
  simp only [T1, T0]
  refine ac rfl 38 rfl rfl rfl (ce (bb ..) (bk _ _ _ _ _ _ _ rfl rfl) HG26.o (by simp [ah, bg]) (bd _ _ _ _ _ _ _ _ _)) ?_
  refine hQ2 _ _ ?_
  simp only [dr1, dr0]
  generalize ha : Act.put _ _ _ = z9; simp [Act.put] at ha; subst ha
  refine Text.wpS_seg 1 _ _ _ _ (by decide) (fun Q2 hQ2 => ?_)
  simp only [T1, T0]
  go_wp2_with fail
  try simp only [dr1, dr0]
  refine ⟨by rfl, ⟨(fun _ => ⟨_, _, rfl, aq HGW.o 0 _ rfl⟩), (fun _ => ⟨_, _, rfl, c68'⟩), trivial⟩, ?_⟩
  go_wp2_with fail
  refine ii rfl rfl rfl rfl rfl rfl (setRow_heap _ _ _ _ _ _ HG26.o) ?_
  refine ⟨.slice A n c, by rw [HO.o, HOK.o]; rfl, ?_, below_setRow HBY.o (Nat.le_succ _) _⟩
  rw [HO.o]
  exact SlR.keep (HK5.o.below ((cg HB6.o).mono (Nat.le_trans HSB.o HBX.o.size))) (fun p hp => by
   have hne : p.block ≠ w.heap.size + 1 := by have := HSB.o; omega
   unfold World.cell?
   rw [setRow_other _ _ _ _ hne])
 have HO := Lh (show ed ⟨kind, seq, kh, kk, mh, ms, keys⟩ = ⟨kind, 0, z32, 0, z32, 0, []⟩ from by unfold ed; simp [k2, k3, k4, k5, k6, k7])
 have HOK := Lh (show gv ⟨kind, seq, kh, kk, mh, ms, keys⟩ = false from by unfold gv; simp [k1, k2, k3, k4, k5, k6, k7])
 go_wp2_with (refine ai (some 95) rfl ?_)
 refine Stop.go (aa rfl 38 rfl rfl dr rfl (bk _ _ _ _ _ _ _ rfl rfl) (aq HG3.o) ?_)
 refine ac rfl 38 rfl rfl rfl (ce (bb ..) (bk _ _ _ _ _ _ _ rfl rfl) HG2.o (by simp [ah, bg]) (bd _ _ _ _ _ _ _ _ _)) ?_
 have HBX := HBW
 go_wp2_with fail
 refine ii rfl rfl rfl rfl rfl rfl (setRow_heap _ _ _ _ _ _ HG2.o) ?_
 exact ⟨.slice none 0 0, by rw [HO.o, HOK.o]; rfl, by rw [HO.o]; exact SlR.nil_, below_setRow HBX.o (Nat.le_succ _) _⟩
end Go.Proofs.YtplbcbamnjnhlaaGreatDoor
