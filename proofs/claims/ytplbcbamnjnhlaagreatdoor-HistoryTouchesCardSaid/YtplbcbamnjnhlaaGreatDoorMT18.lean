import Derived.Test.YtplbcbamnjnhlaaGreatDoorMT00
import Derived.Test.YtplbcbamnjnhlaaGreatDoorMT17
import Derived.Deep.Cut
import Derived.Deep.CutBlock
set_option maxRecDepth 100000
set_option maxHeartbeats 40000000
namespace Go.Proofs.YtplbcbamnjnhlaaGreatDoor
open Go.RowKit

def fk (l : List UInt8) (a : Nat) : KeyD := ((l.drop a).take 32, (co ((l.drop (a + 32)).take 1) : Nat))
def decR (kind : Int) (l : List UInt8) : RecD :=
 if kind = 2 then ⟨2, (co (l.take 6) : Nat), (fk l 6).1, (fk l 6).2, (l.drop 39).take 32, (co ((l.drop 71).take 3) : Nat), []⟩ else if kind = 3 then ⟨3, (co (l.take 6) : Nat), z32, 0, z32, 0, []⟩
 else if kind = 4 then ⟨4, 0, (fk l 0).1, (fk l 0).2, (l.drop 33).take 32, (co ((l.drop 65).take 3) : Nat), []⟩ else if kind = 5 ∨ kind = 6 then ⟨kind, 0, (fk l 0).1, (fk l 0).2, z32, 0, []⟩
 else if kind = 7 then ⟨7, 0, z32, 0, z32, 0, (List.range (l.length / 33)).map fun i => fk l (33 * i)⟩ else ⟨kind, 0, z32, 0, z32, 0, []⟩
def lenT (kind : Int) (l : List UInt8) : Bool :=
 if kind = 1 then decide (l = [1]) else if kind = 2 then decide (l.length = 74) else if kind = 3 then decide (l.length = 6) else if kind = 4 then decide (l.length = 68) else if kind = 5 ∨ kind = 6 then decide (l.length = 33)
 else if kind = 7 then decide (l.length % 33 = 0) else decide (l.length = 0)
def okT (kind : Int) (l : List UInt8) : Bool := lenT kind l && au (decR kind l)
def er (w : World) (base : Nat) (v : Value) (xs : List KeyD) : Prop :=
 w.ownsRow base 34 33 v xs.length (xs.flatMap fun x => af x.1 x.2) ∧ ∀ x ∈ xs, x.1.length = 32 ∧ -9223372036854775808 ≤ x.2 ∧ x.2 ≤ 9223372036854775807
theorem er.nil (w : World) (base : Nat) : er w base (.slice none 0 0) [] := ⟨World.ownsRow_nil _ _ _ _, fun _ h => nomatch h⟩
theorem er.sl {w : World} {base : Nat} {v : Value} {xs : List KeyD} (h : er w base v xs) : SlR eKey w w.heap.size v xs := by
 obtain ⟨h, hb⟩ := h
 obtain ⟨A, c, rfl, h1, h2⟩ := ap h
 refine ⟨A, c, xs.map fun x => af x.1 x.2, rfl, h1, h2, by simp, ?_, fun i cs x hc hx => ?_⟩
 ·have := Rd.of_own h
  rwa [List.flatMap_def] at this
 ·rw [List.getElem?_map, hx] at hc
  cases hc
  obtain ⟨a, b, c⟩ := hb x (List.mem_of_getElem? hx)
  exact qdq a b c
theorem er.more {w : World} {base base' : Nat} {v : Value} {xs : List KeyD} (h : er w base v xs) (hb : base' ≤ base) : er w base' v xs := ⟨fv h.1 hb, h.2⟩
theorem er.later {w w' : World} {base : Nat} {v : Value} {xs : List KeyD} (h : er w base v xs) (hb : Below w.heap.size w w') : er w' base v xs := ⟨bw h.1 hb, h.2⟩
theorem er.other {w w' : World} {base g : Nat} {v : Value} {xs : List KeyD} (h : er w base v xs) (hg : g < base) (ho : ∀ k, k ≠ g → w'.heap[k]? = w.heap[k]?) : er w' base v xs := by
 obtain ⟨⟨h1, h2⟩, h3⟩ := h
 refine ⟨⟨h1, ?_⟩, h3⟩
 rcases h2 with h' | ⟨g', cap, cur, rfl, hg', hh, r⟩
 ·exact .inl h'
 ·exact .inr ⟨g', cap, cur, rfl, hg', (ho g' (by omega)).trans hh, r⟩
theorem er.other2 {w w' : World} {base g : Nat} {v : Value} {xs : List KeyD} {cs : Array Value} {t : TypeId} {fr : Nat × Nat} (h : er w base v xs) (hg : w.heap[g]? = some (.cells cs t fr)) (ht : t ≠ 34)
  (ho : ∀ k, k < w.heap.size → k ≠ g → w'.heap[k]? = w.heap[k]?) : er w' base v xs := by
 obtain ⟨⟨h1, h2⟩, h3⟩ := h
 refine ⟨⟨h1, ?_⟩, h3⟩
 rcases h2 with h' | ⟨g', cap, cur, rfl, hg', hh, r⟩
 ·exact .inl h'
 ·refine .inr ⟨g', cap, cur, rfl, hg', (ho g' (gl hh) ?_).trans hh, r⟩
  rintro rfl
  rw [hh] at hg
  injection hg with hg
  injection hg with _ hg
  exact ht hg.symm
def TakeTo (kind : Int) (l : List UInt8) (w : World) (e : Ending) (w' : World) : Prop :=
 ∃ r v, e = .returned (.tuple #[rv r v, .bool (okT kind l)]) ∧ Hs r ∧ er w' (w.heap.size + 1) v r.keys ∧ (okT kind l = true → r = decR kind l) ∧ Below w.heap.size w w'
structure AtT (w wc : World) (m g : Nat) (l : List UInt8) (a : Nat) (sp : Bool) (r : RecD) (v : Value) : Prop where
 rec_ : cu wc m 38 r.kind r.seq r.kh r.kk r.mh r.ms v
 keys : er wc (m + 1) v r.keys
 rdr : RdrR wc g l a sp
 row : wc.heap[w.heap.size]? = some (.cells (ag 0 0 z32 0 z32 0 (.slice none 0 0)).toArray 38 (0, 0))
 below : Below w.heap.size w wc
 m_ : w.heap.size < g ∧ g < m
theorem AtT.taken {w wc w' : World} {m g : Nat} {l : List UInt8} {a a' : Nat} {sp sp' : Bool} {r : RecD} {v : Value} (h : AtT w wc m g l a sp r v) (hr : RdrR w' g l a' sp') (hg : wc.grownBy w' (some g)) : AtT w w' m g l a' sp' r v := by
 have ho : ∀ k, k < wc.heap.size → k ≠ g → w'.heap[k]? = wc.heap[k]? := fun k hk hn => hg.block k hk (by intro e; injection e with e; exact hn e)
 obtain ⟨A, c, hgb, _⟩ := h.rdr
 exact ⟨⟨(ho m h.rec_.lt (by have := h.m_; omega)).trans h.rec_.blk, h.rec_.hk, h.rec_.hm⟩, h.keys.other2 hgb (by decide) ho, hr, (ho _ (gl h.row) (by have := h.m_; omega)).trans h.row,
  h.below.trans (ib hg (by have := h.m_; omega) h.below.size), h.m_⟩
theorem AtT.stored {w wc w' : World} {m g : Nat} {l : List UInt8} {a : Nat} {sp : Bool} {r r' : RecD} {v : Value} (h : AtT w wc m g l a sp r v) (hs : Hs r') (hk : r'.keys = r.keys)
  (hm : w'.heap[m]? = some (.cells (ag r'.kind r'.seq r'.kh r'.kk r'.mh r'.ms v).toArray 38 (0, 0))) (ho : ∀ k, k ≠ m → w'.heap[k]? = wc.heap[k]?) (hb : Below m wc w') : AtT w w' m g l a sp r' v :=
 ⟨⟨hm, hs.1, hs.2⟩, hk ▸ h.keys.other2 h.rec_.blk (by decide) (fun k _ hn => ho k hn), h.rdr.low hb h.m_.2, (ho _ (by have := h.m_; omega)).trans h.row, h.below.trans (hb.mono (by have := h.m_; omega)), h.m_⟩
theorem AtT.pushed {w wc w8 w9 : World} {m g : Nat} {l : List UInt8} {a : Nat} {sp : Bool} {r : RecD} {v v8 : Value} {ks : List KeyD} (h : AtT w wc m g l a sp r v) (h8 : Below (m + 1) wc w8) (hk8 : er w8 (m + 1) v8 ks)
  (hm : w9.heap[m]? = some (.cells (ag r.kind r.seq r.kh r.kk r.mh r.ms v8).toArray 38 (0, 0))) (ho : ∀ k, k ≠ m → w9.heap[k]? = w8.heap[k]?) (hb : Below m w8 w9) : AtT w w9 m g l a sp ⟨r.kind, r.seq, r.kh, r.kk, r.mh, r.ms, ks⟩ v8 :=
 ⟨⟨hm, h.rec_.hk, h.rec_.hm⟩, hk8.other (Nat.lt_succ_self _) ho, h.rdr.low ((h8.mono (Nat.le_succ _)).trans hb) h.m_.2, (ho _ (by have := h.m_; omega)).trans ((h8.block _ (by have := h.m_; omega)).trans h.row),
  h.below.trans ((h8.mono (by have := h.m_; omega)).trans (hb.mono (by have := h.m_; omega))), h.m_⟩
theorem nn {l : List UInt8} {a n a' b : Nat} {sp sp' : Bool} (h : je l a sp n a' sp') : (!sp' && decide (a' + b = l.length)) = (!sp && decide (a + n + b = l.length)) := by
 obtain ⟨h1, h2⟩ := h
 cases sp'
 ·rw [h2 rfl]
  cases sp
  ·rfl
  ·exact nomatch h1
 ·cases sp
  ·have h3 : l.length < a + n := of_decide_eq_true (show decide (l.length < a + n) = true from h1.symm)
   show false = (true && decide (a + n + b = l.length))
   rw [decide_eq_false (by omega)]
   rfl
  ·rfl
theorem qad {l : List UInt8} {a n a' : Nat} {sp sp' : Bool} (h : je l a sp n a' sp') (hs : sp' = false) : sp = false ∧ a' = a + n := by
 obtain ⟨h1, h2⟩ := h
 subst hs
 refine ⟨?_, h2 rfl⟩
 cases sp
 ·rfl
 ·exact nomatch h1
theorem qkv {b c : Bool} (h : (!b && c) = true) : b = false := by
 cases b
 ·rfl
 ·exact nomatch h
section
variable {l : List UInt8} {a4 a5 a6 x : Nat} {s4 s5 s6 : Bool} {kh mh : List UInt8} {kk ms : Int}
theorem qsp (h4 : je l 0 false 1 a4 s4 ∧ (s4 = false → 1 = co ((l.drop 0).take 1))) : (!s4 && decide (a4 = l.length)) = lenT 1 l := by
 rw [show a4 = a4 + 0 from rfl, nn h4.1]
 show (true && decide (0 + 1 + 0 = l.length)) = decide (l = [1])
 cases s4
 ·have h1 := h4.2 rfl
  match l, h1 with
  |[], _ => rfl
  |[c], h1 =>
   have : c = 1 := by
    apply UInt8.toNat_inj.1
    simpa [co] using h1.symm
   subst this
   rfl
  |c :: d :: r, _ => simp
 ·have h1 : l.length < 0 + 1 := of_decide_eq_true (show decide (l.length < 0 + 1) = true from h4.1.1.symm)
  match l, h1 with
  |[], _ => rfl
theorem qso (h4 : je l 0 false 1 a4 s4 ∧ (s4 = false → x = co ((l.drop 0).take 1))) (hx : x ≠ 1) : lenT 1 l = false := by
 show decide (l = [1]) = false
 rw [decide_eq_false_iff_not]
 rintro rfl
 have hs : s4 = false := h4.1.1
 exact hx (h4.2 hs)
theorem qhq (h4 : je l 0 false 6 a4 s4) (h5 : je l a4 s4 33 a5 s5) (h6 : je l a5 s5 35 a6 s6) : (!s6 && decide (a6 = l.length)) = lenT 2 l := by
 rw [show a6 = a6 + 0 from rfl, nn h6, Nat.add_assoc, nn h5, Nat.add_assoc, nn h4]
 simp [lenT, eq_comm]
theorem qhp (h4 : je l 0 false 6 a4 s4) : (!s4 && decide (a4 = l.length)) = lenT 3 l := by
 rw [show a4 = a4 + 0 from rfl, nn h4]
 simp [lenT, eq_comm]
theorem qho (h4 : je l 0 false 33 a4 s4) (h5 : je l a4 s4 35 a5 s5) : (!s5 && decide (a5 = l.length)) = lenT 4 l := by
 rw [show a5 = a5 + 0 from rfl, nn h5, Nat.add_assoc, nn h4]
 simp [lenT, eq_comm]
theorem qhn (h4 : je l 0 false 33 a4 s4) : (!s4 && decide (a4 = l.length)) = lenT 5 l := by
 rw [show a4 = a4 + 0 from rfl, nn h4]
 simp [lenT, eq_comm]
theorem qhm (h4 : je l 0 false 33 a4 s4) : (!s4 && decide (a4 = l.length)) = lenT 6 l := by
 rw [show a4 = a4 + 0 from rfl, nn h4]
 simp [lenT, eq_comm]
theorem qsn (h : lenT 2 l = true) (h4 : je l 0 false 6 a4 s4 ∧ (s4 = false → x = co ((l.drop 0).take 6))) (h5 : je l a4 s4 33 a5 s5 ∧ (s5 = false → kh = (l.drop a4).take 32 ∧ kk = co ((l.drop (a4 + 32)).take (33 - 32))))
  (h6 : je l a5 s5 35 a6 s6 ∧ (s6 = false → mh = (l.drop a5).take 32 ∧ ms = co ((l.drop (a5 + 32)).take (35 - 32)))) : (⟨2, x, kh, kk, mh, ms, []⟩ : RecD) = decR 2 l := by
 rw [← qhq h4.1 h5.1 h6.1] at h
 have e6 := qkv h
 obtain ⟨e5, f6⟩ := qad h6.1 e6
 obtain ⟨e4, f5⟩ := qad h5.1 e5
 obtain ⟨_, f4⟩ := qad h4.1 e4
 obtain ⟨rfl, rfl⟩ := h6.2 e6
 obtain ⟨rfl, rfl⟩ := h5.2 e5
 obtain rfl := h4.2 e4
 subst f6 f5 f4
 rfl
theorem qsm (h : lenT 3 l = true) (h4 : je l 0 false 6 a4 s4 ∧ (s4 = false → x = co ((l.drop 0).take 6))) : (⟨3, x, z32, 0, z32, 0, []⟩ : RecD) = decR 3 l := by
 rw [← qhp h4.1] at h
 obtain rfl := h4.2 (qkv h)
 rfl
theorem qsl (h : lenT 4 l = true) (h4 : je l 0 false 33 a4 s4 ∧ (s4 = false → kh = (l.drop 0).take 32 ∧ kk = co ((l.drop (0 + 32)).take (33 - 32))))
  (h5 : je l a4 s4 35 a5 s5 ∧ (s5 = false → mh = (l.drop a4).take 32 ∧ ms = co ((l.drop (a4 + 32)).take (35 - 32)))) : (⟨4, 0, kh, kk, mh, ms, []⟩ : RecD) = decR 4 l := by
 rw [← qho h4.1 h5.1] at h
 have e5 := qkv h
 obtain ⟨e4, f5⟩ := qad h5.1 e5
 obtain ⟨_, f4⟩ := qad h4.1 e4
 obtain ⟨rfl, rfl⟩ := h5.2 e5
 obtain ⟨rfl, rfl⟩ := h4.2 e4
 subst f5 f4
 rfl
theorem qsk (h : lenT 5 l = true) (h4 : je l 0 false 33 a4 s4 ∧ (s4 = false → kh = (l.drop 0).take 32 ∧ kk = co ((l.drop (0 + 32)).take (33 - 32)))) : (⟨5, 0, kh, kk, z32, 0, []⟩ : RecD) = decR 5 l := by
 rw [← qhn h4.1] at h
 obtain ⟨rfl, rfl⟩ := h4.2 (qkv h)
 rfl
theorem qsj (h : lenT 6 l = true) (h4 : je l 0 false 33 a4 s4 ∧ (s4 = false → kh = (l.drop 0).take 32 ∧ kk = co ((l.drop (0 + 32)).take (33 - 32)))) : (⟨6, 0, kh, kk, z32, 0, []⟩ : RecD) = decR 6 l := by
 rw [← qhm h4.1] at h
 obtain ⟨rfl, rfl⟩ := h4.2 (qkv h)
 rfl
end
def MidT (kind : Int) (l : List UInt8) (w wc : World) (m g : Nat) : Prop :=
 ∃ r A n c a sp, cu wc m 38 r.kind r.seq r.kh r.kk r.mh r.ms (.slice A n c) ∧ er wc (w.heap.size + 1) (.slice A n c) r.keys ∧ RdrR wc g l a sp ∧ wc.heap[w.heap.size]? = some (.cells (ag 0 0 z32 0 z32 0 (.slice none 0 0)).toArray 38 (0, 0)) ∧
  Below w.heap.size w wc ∧ (!sp && decide (a = l.length)) = lenT kind l ∧ (lenT kind l = true → r = decR kind l)
theorem AtT.later {w wc w' : World} {m g : Nat} {l : List UInt8} {a : Nat} {sp : Bool} {r : RecD} {v : Value} (h : AtT w wc m g l a sp r v) (hb : Below wc.heap.size wc w') : AtT w w' m g l a sp r v :=
 ⟨h.rec_.later hb, h.keys.later hb, h.rdr.later hb, (hb.block _ (gl h.row)).trans h.row, h.below.trans (hb.mono h.below.size), h.m_⟩
def Mid7 (l : List UInt8) (a : Nat) (sp : Bool) (xs : List KeyD) : Prop :=
 (sp = false → a = 33 * xs.length ∧ a ≤ l.length ∧ xs = (List.range xs.length).map fun i => fk l (33 * i)) ∧ (sp = true → l.length % 33 ≠ 0) ∧ xs.length ≤ l.length + 1
theorem mid7_len {l : List UInt8} {a : Nat} {sp : Bool} {xs : List KeyD} (h : Mid7 l a sp xs) (h0 : (if sp then 0 else l.length - a) = 0) : (!sp && decide (a = l.length)) = lenT 7 l ∧ (lenT 7 l = true → (⟨7, 0, z32, 0, z32, 0, xs⟩ : RecD) = decR 7 l) := by
 obtain ⟨h1, h2, _⟩ := h
 have e7 : lenT 7 l = decide (l.length % 33 = 0) := rfl
 rw [e7]
 cases sp
 ·obtain ⟨h3, h4, h5⟩ := h1 rfl
  have h6 : l.length - a = 0 := h0
  have h7 : a = l.length := by omega
  refine ⟨?_, fun _ => ?_⟩
  ·rw [decide_eq_true h7, decide_eq_true (by omega)]
   rfl
  ·have h8 : xs.length = l.length / 33 := by omega
   rw [h8] at h5
   rw [h5]
   rfl
 ·have h3 := h2 rfl
  rw [decide_eq_false h3]
  exact ⟨rfl, fun h => nomatch h⟩
theorem qtk {l : List UInt8} {a a6 : Nat} {sp sp6 : Bool} {xs : List KeyD} {kh : List UInt8} {kk : Int} (h : Mid7 l a sp xs) (h0 : 0 < (if sp then 0 else l.length - a)) (hn : je l a sp 33 a6 sp6 ∧ (sp6 = false → kh = (l.drop a).take 32 ∧ kk = co ((l.drop (a + 32)).take (33 - 32)))) :
  Mid7 l a6 sp6 (xs ++ [(kh, kk)]) ∧ (if sp6 then 0 else l.length - a6) < (if sp then 0 else l.length - a) := by
 obtain ⟨h1, _, h3⟩ := h
 obtain ⟨⟨hs, ha⟩, hv⟩ := hn
 cases sp with
 |true => exact absurd h0 (by simp)
 |false =>
  obtain ⟨e1, e2, e3⟩ := h1 rfl
  have h0' : 0 < l.length - a := h0
  rw [Bool.false_or] at hs
  cases sp6 with
  |false =>
   have h6 := ha rfl
   have hd : ¬ l.length < a + 33 := by simpa using hs.symm
   obtain ⟨rfl, rfl⟩ := hv rfl
   refine ⟨⟨fun _ => ⟨by rw [List.length_append, List.length_singleton]; omega, by omega, ?_⟩, (fun h => nomatch h), by rw [List.length_append, List.length_singleton]; omega⟩, ?_⟩
   ·rw [List.length_append, List.length_singleton, List.range_succ, List.map_append, ← e3]
    simp only [List.map_cons, List.map_nil, ← e1]
    rfl
   ·show l.length - a6 < l.length - a
    omega
  |true =>
   have hd : l.length < a + 33 := by simpa using hs.symm
   exact ⟨⟨(fun h => nomatch h), fun _ => by omega, by rw [List.length_append, List.length_singleton]; omega⟩, h0'⟩
theorem qmd (h : List UInt8) (k : Int) (hh : h.length = 32) : (Tryz.prog.info? 34).map (fun i => (i.zero, i.size)) = some (some (hkv z32 0), (af h k).length) := by rw [ae, hh]; kernel_rfl
theorem MidT.intro {kind : Int} {l : List UInt8} {w wc : World} {m g a n c : Nat} {sp : Bool} {r : RecD} {A : Option Addr} (h : AtT w wc m g l a sp r (.slice A n c)) (h1 : (!sp && decide (a = l.length)) = lenT kind l) (h2 : lenT kind l = true → r = decR kind l) : MidT kind l w wc m g :=
 ⟨r, A, n, c, a, sp, h.rec_, h.keys.more (by have := h.m_; omega), h.rdr, h.row, h.below, h1, h2⟩
theorem tx {kind : Int} {l : List UInt8} {w w' : World} {r : RecD} {v : Value} {b : Bool} (hb : b = okT kind l) (hr : Hs r) (hs : er w' (w.heap.size + 1) v r.keys) (hd : okT kind l = true → r = decR kind l) (hw : Below w.heap.size w w') :
  TakeTo kind l w (.returned (.tuple #[rv r v, .bool b])) w' := by subst hb; exact ⟨r, v, rfl, hr, hs, hd, hw⟩
theorem take_any (kind : Int) (l : List UInt8) (A : Option Addr) (c B : Nat) (w : World) (hr : Rd w B A (ak l)) (hB : B ≤ w.heap.size) (hl : l.length ≤ 1048576) :
  Calls Tryz.prog 88 #[.int .i64 kind, .slice A l.length c] w (TakeTo kind l w) := by
 have HR := Lh hr
 clear hr
 go_enter Tryz.func88, Tryz.ntmps88
 go_wp2_with (refine ai (some 4) rfl ?_)
 refine Stop.go (av rfl 38 rfl gn rfl ?_)
 have hb1 : Below w.heap.size w (w.alloc (.cells (ag 0 0 z32 0 z32 0 (.slice none 0 0)).toArray 38)) := (br _ _).alloc (nr _) _
 have HG1 := Lh (hzn w (.cells (ag 0 0 z32 0 z32 0 (.slice none 0 0)).toArray 38))
 have HR1 := Lh (HR.o.below (hb1.mono hB))
 have HB1 := Lh hb1
 clear hb1
 generalize w.alloc (.cells (ag 0 0 z32 0 z32 0 (.slice none 0 0)).toArray 38) = w1 at *
 go_wp2_with fail
 refine (qlb l A c B _ HR1.o (Nat.le_trans hB HB1.o.size) (by omega)).mono ?_
 rintro e w2 ⟨rfl, hr2, hb2, hs2⟩
 have HG2 := Lh ((hb2.block _ (gl HG1.o)).trans HG1.o)
 have HR2 := Lh hr2
 have HB2 := Lh (HB1.o.trans (hb2.mono HB1.o.size))
 have HS2 := Lh hs2
 have HWG := Lh (show w.heap.size < w1.heap.size from (gl HG1.o))
 clear hr2 hb2 hs2 HG1 HR1 HB1
 go_wp2_with (refine ai (some 11) rfl ?_)
 refine Stop.go (bl rfl 38 rfl (vs := #[(0, .int .i64 kind)]) (by rfl) (qgk kind _) ?_)
 refine av rfl 38 rfl gn rfl ?_
 refine ar 1 _ _ _ (fun Q' hQ' => ?_)
 simp only [T1, T0]
 go_wp2_with fail
 try simp only [dr1, dr0]
 refine Stop.go (ac rfl 38 rfl rfl rfl (ch (g := w2.heap.size) rfl (bb ..) (bk _ _ _ _ _ _ _ rfl rfl) (by rw [List.size_toArray, ah, ah]) (bd _ _ _ _ _ _ _ _ _)) ?_)
 have hb3 : Below w2.heap.size w2 (w2.alloc (.cells (ag kind 0 z32 0 z32 0 (.slice none 0 0)).toArray 38)) := (br _ _).alloc (nr _) _
 have HA3 := Lh (cu.new (t := 38) (kind := kind) (seq := 0) (kk := 0) (ms := 0) (v := .slice none 0 0) w2 (kh := z32) (mh := z32) rfl rfl)
 have HR3 := Lh (HR2.o.later hb3)
 have HG3 := Lh ((hb3.block _ (gl HG2.o)).trans HG2.o)
 have HB3 := Lh (HB2.o.trans (hb3.mono HB2.o.size))
 have HS3 := Lh (show (w2.alloc (.cells (ag kind 0 z32 0 z32 0 (.slice none 0 0)).toArray 38)).heap.size = w2.heap.size + 1 from Array.size_push _)
 clear hb3 HR2 HG2 HB2
 generalize w2.alloc (.cells (ag kind 0 z32 0 z32 0 (.slice none 0 0)).toArray 38) = w3 at *
 go_upto_block 0 with fail
 go_cut [] from 8 (fun wc => Hid (MidT kind l w wc w2.heap.size (w1.heap.size + 1)))
 case first =>
  have HM := Lh (show w.heap.size ≠ w2.heap.size ∧ w1.heap.size + 1 < w2.heap.size by have := HWG.o; have := HS2.o; omega)
  have HT3 := Lh (AtT.mk (r := ⟨kind, 0, z32, 0, z32, 0, []⟩) HA3.o (er.nil _ _) HR3.o HG3.o HB3.o ⟨by have := HWG.o; omega, HM.o.2⟩ : AtT w w3 w2.heap.size (w1.heap.size + 1) l 0 false ⟨kind, 0, z32, 0, z32, 0, []⟩ (.slice none 0 0))
  clear HA3 HR3 HG3 HB3 HM
  generalize w2.heap.size = m at *
  generalize w1.heap.size + 1 = g at *
  by_cases k2 : kind = 2
  ·subst k2
   go_wp2_with fail
   refine (qjl _ l 0 false 6 _ HT3.o.rdr (by decide) (by decide)).mono ?_
   rintro e w4 ⟨x, a4, sp4, rfl, hx, hnx, hxv, hr4, hg4⟩
   have hx2 : x < 281474976710656 := by simpa using hx
   clear hx
   have HT4 := Lh (HT3.o.taken hr4 hg4)
   have HX4 := Lh (And.intro hnx hxv)
   clear hnx hxv hr4 hg4
   go_wp2_with fail
   refine (pa _ l a4 sp4 _ HT4.o.rdr).mono ?_
   rintro e w5 ⟨kh, kk, a5, sp5, rfl, hlkh, hnx, hxv, hr4, hg4, _⟩
   have HLkh := Lh hlkh
   clear hlkh
   have HT5 := Lh (HT4.o.taken hr4 hg4)
   have HX5 := Lh (And.intro hnx hxv)
   clear hnx hxv hr4 hg4
   go_wp2_with fail
   refine (zv _ l a5 sp5 _ HT5.o.rdr).mono ?_
   rintro e w6 ⟨mh, ms, a6, sp6, rfl, hlmh, hnx, hxv, hr4, hg4, _⟩
   have HLmh := Lh hlmh
   clear hlmh
   have HT6 := Lh (HT5.o.taken hr4 hg4)
   have HX6 := Lh (And.intro hnx hxv)
   clear hnx hxv hr4 hg4
   obtain ⟨w7, hst, hgm, hot, hbl⟩ := bo (P := Tryz.prog) w6 (g := m) (off := 1) (vs := [.int .i64 x]) (v := .int .i64 x) (ty := 3) rfl (by kernel_rfl) HT6.o.rec_.blk (by simp [ah, bg]) (fun u hu => by rw [List.mem_singleton.1 hu]; rfl) (xi 2 0 z32 0 z32 0 (.slice none 0 0) x)
   have HT7 := Lh (HT6.o.stored (r' := ⟨2, x, z32, 0, z32, 0, []⟩) ⟨rfl, rfl⟩ rfl hgm hot (hbl m w6 (br _ _) (nr _)))
   have HST7 := Lh hst
   clear hst hgm hot hbl
   go_wp2_with (refine ai none rfl ?_)
   refine Stop.go (ac rfl 3 rfl rfl rfl HST7.o ?_)
   obtain ⟨w8, hst, hgm, hot, hbl⟩ := bo (P := Tryz.prog) w7 (g := m) (off := 2) (vs := af kh kk) (v := hkv kh kk) (ty := 34) (dl _ _) (al _ _ HLkh.o) HT7.o.rec_.blk (by simp [ah, ae, HLkh.o, bg]) (bc _ _) (nj 2 x z32 0 z32 0 (.slice none 0 0) kh kk rfl HLkh.o)
   have HT8 := Lh (HT7.o.stored (r' := ⟨2, x, kh, kk, z32, 0, []⟩) ⟨HLkh.o, rfl⟩ rfl hgm hot (hbl m w7 (br _ _) (nr _)))
   have HST8 := Lh hst
   clear hst hgm hot hbl
   go_wp2_with (refine ai none rfl ?_)
   refine Stop.go (ac rfl 34 rfl rfl rfl HST8.o ?_)
   obtain ⟨w9, hst, hgm, hot, hbl⟩ := bo (P := Tryz.prog) w8 (g := m) (off := 35) (vs := af mh ms) (v := hkv mh ms) (ty := 36) (dl _ _) (dj _ _ HLmh.o) HT8.o.rec_.blk (by simp [ah, ae, HLkh.o, HLmh.o, bg]) (bc _ _) (zx 2 x kh kk z32 0 (.slice none 0 0) mh ms HLkh.o rfl HLmh.o)
   have HT9 := Lh (HT8.o.stored (r' := ⟨2, x, kh, kk, mh, ms, []⟩) ⟨HLkh.o, HLmh.o⟩ rfl hgm hot (hbl m w8 (br _ _) (nr _)))
   have HST9 := Lh hst
   clear hst hgm hot hbl
   go_wp2_with (refine ai none rfl ?_)
   refine Stop.go (ac rfl 36 rfl rfl rfl HST9.o ?_)
   go_wp2_with fail
   go_meet
   case rel =>
    refine Lh (MidT.intro HT9.o ?_ ?_)
    ·exact qhq HX4.o.1 HX5.o.1 HX6.o.1
    ·exact fun h => qsn h HX4.o HX5.o HX6.o
  by_cases k3 : kind = 3
  ·subst k3
   go_wp2_with fail
   refine (qjl _ l 0 false 6 _ HT3.o.rdr (by decide) (by decide)).mono ?_
   rintro e w4 ⟨x, a4, sp4, rfl, hx, hnx, hxv, hr4, hg4⟩
   have hx2 : x < 281474976710656 := by simpa using hx
   clear hx
   have HT4 := Lh (HT3.o.taken hr4 hg4)
   have HX4 := Lh (And.intro hnx hxv)
   clear hnx hxv hr4 hg4
   obtain ⟨w5, hst, hgm, hot, hbl⟩ := bo (P := Tryz.prog) w4 (g := m) (off := 1) (vs := [.int .i64 x]) (v := .int .i64 x) (ty := 3) rfl (by kernel_rfl) HT4.o.rec_.blk (by simp [ah, bg]) (fun u hu => by rw [List.mem_singleton.1 hu]; rfl) (xi 3 0 z32 0 z32 0 (.slice none 0 0) x)
   have HT5 := Lh (HT4.o.stored (r' := ⟨3, x, z32, 0, z32, 0, []⟩) ⟨rfl, rfl⟩ rfl hgm hot (hbl m w4 (br _ _) (nr _)))
   have HST5 := Lh hst
   clear hst hgm hot hbl
   go_wp2_with (refine ai none rfl ?_)
   refine Stop.go (ac rfl 3 rfl rfl rfl HST5.o ?_)
   go_wp2_with fail
   go_meet
   case rel =>
    refine Lh (MidT.intro HT5.o ?_ ?_)
    ·exact qhp HX4.o.1
    ·exact fun h => qsm h HX4.o
  by_cases k4 : kind = 4
  ·subst k4
   go_wp2_with fail
   refine (pa _ l 0 false _ HT3.o.rdr).mono ?_
   rintro e w4 ⟨kh, kk, a4, sp4, rfl, hlkh, hnx, hxv, hr4, hg4, _⟩
   have HLkh := Lh hlkh
   clear hlkh
   have HT4 := Lh (HT3.o.taken hr4 hg4)
   have HX4 := Lh (And.intro hnx hxv)
   clear hnx hxv hr4 hg4
   go_wp2_with fail
   refine (zv _ l a4 sp4 _ HT4.o.rdr).mono ?_
   rintro e w5 ⟨mh, ms, a5, sp5, rfl, hlmh, hnx, hxv, hr4, hg4, _⟩
   have HLmh := Lh hlmh
   clear hlmh
   have HT5 := Lh (HT4.o.taken hr4 hg4)
   have HX5 := Lh (And.intro hnx hxv)
   clear hnx hxv hr4 hg4
   obtain ⟨w6, hst, hgm, hot, hbl⟩ := bo (P := Tryz.prog) w5 (g := m) (off := 2) (vs := af kh kk) (v := hkv kh kk) (ty := 34) (dl _ _) (al _ _ HLkh.o) HT5.o.rec_.blk (by simp [ah, ae, HLkh.o, bg]) (bc _ _) (nj 4 0 z32 0 z32 0 (.slice none 0 0) kh kk rfl HLkh.o)
   have HT6 := Lh (HT5.o.stored (r' := ⟨4, 0, kh, kk, z32, 0, []⟩) ⟨HLkh.o, rfl⟩ rfl hgm hot (hbl m w5 (br _ _) (nr _)))
   have HST6 := Lh hst
   clear hst hgm hot hbl
   go_wp2_with (refine ai none rfl ?_)
   refine Stop.go (ac rfl 34 rfl rfl rfl HST6.o ?_)
   obtain ⟨w7, hst, hgm, hot, hbl⟩ := bo (P := Tryz.prog) w6 (g := m) (off := 35) (vs := af mh ms) (v := hkv mh ms) (ty := 36) (dl _ _) (dj _ _ HLmh.o) HT6.o.rec_.blk (by simp [ah, ae, HLkh.o, HLmh.o, bg]) (bc _ _) (zx 4 0 kh kk z32 0 (.slice none 0 0) mh ms HLkh.o rfl HLmh.o)
   have HT7 := Lh (HT6.o.stored (r' := ⟨4, 0, kh, kk, mh, ms, []⟩) ⟨HLkh.o, HLmh.o⟩ rfl hgm hot (hbl m w6 (br _ _) (nr _)))
   have HST7 := Lh hst
   clear hst hgm hot hbl
   go_wp2_with (refine ai none rfl ?_)
   refine Stop.go (ac rfl 36 rfl rfl rfl HST7.o ?_)
   go_wp2_with fail
   go_meet
   case rel =>
    refine Lh (MidT.intro HT7.o ?_ ?_)
    ·exact qho HX4.o.1 HX5.o.1
    ·exact fun h => qsl h HX4.o HX5.o
  by_cases k5 : kind = 5
  ·subst k5
   go_wp2_with fail
   refine (pa _ l 0 false _ HT3.o.rdr).mono ?_
   rintro e w4 ⟨kh, kk, a4, sp4, rfl, hlkh, hnx, hxv, hr4, hg4, _⟩
   have HLkh := Lh hlkh
   clear hlkh
   have HT4 := Lh (HT3.o.taken hr4 hg4)
   have HX4 := Lh (And.intro hnx hxv)
   clear hnx hxv hr4 hg4
   obtain ⟨w5, hst, hgm, hot, hbl⟩ := bo (P := Tryz.prog) w4 (g := m) (off := 2) (vs := af kh kk) (v := hkv kh kk) (ty := 34) (dl _ _) (al _ _ HLkh.o) HT4.o.rec_.blk (by simp [ah, ae, HLkh.o, bg]) (bc _ _) (nj 5 0 z32 0 z32 0 (.slice none 0 0) kh kk rfl HLkh.o)
   have HT5 := Lh (HT4.o.stored (r' := ⟨5, 0, kh, kk, z32, 0, []⟩) ⟨HLkh.o, rfl⟩ rfl hgm hot (hbl m w4 (br _ _) (nr _)))
   have HST5 := Lh hst
   clear hst hgm hot hbl
   go_wp2_with (refine ai none rfl ?_)
   refine Stop.go (ac rfl 34 rfl rfl rfl HST5.o ?_)
   go_wp2_with fail
   go_meet
   case rel =>
    refine Lh (MidT.intro HT5.o ?_ ?_)
    ·exact qhn HX4.o.1
    ·exact fun h => qsk h HX4.o
  by_cases k6 : kind = 6
  ·subst k6
   go_wp2_with fail
   refine (pa _ l 0 false _ HT3.o.rdr).mono ?_
   rintro e w4 ⟨kh, kk, a4, sp4, rfl, hlkh, hnx, hxv, hr4, hg4, _⟩
   have HLkh := Lh hlkh
   clear hlkh
   have HT4 := Lh (HT3.o.taken hr4 hg4)
   have HX4 := Lh (And.intro hnx hxv)
   clear hnx hxv hr4 hg4
   obtain ⟨w5, hst, hgm, hot, hbl⟩ := bo (P := Tryz.prog) w4 (g := m) (off := 2) (vs := af kh kk) (v := hkv kh kk) (ty := 34) (dl _ _) (al _ _ HLkh.o) HT4.o.rec_.blk (by simp [ah, ae, HLkh.o, bg]) (bc _ _) (nj 6 0 z32 0 z32 0 (.slice none 0 0) kh kk rfl HLkh.o)
   have HT5 := Lh (HT4.o.stored (r' := ⟨6, 0, kh, kk, z32, 0, []⟩) ⟨HLkh.o, rfl⟩ rfl hgm hot (hbl m w4 (br _ _) (nr _)))
   have HST5 := Lh hst
   clear hst hgm hot hbl
   go_wp2_with (refine ai none rfl ?_)
   refine Stop.go (ac rfl 34 rfl rfl rfl HST5.o ?_)
   go_wp2_with fail
   go_meet
   case rel =>
    refine Lh (MidT.intro HT5.o ?_ ?_)
    ·exact qhm HX4.o.1
    ·exact fun h => qsj h HX4.o
  by_cases k1 : kind = 1
  ·subst k1
   go_wp2_with fail
   refine (qjl _ l 0 false 1 _ HT3.o.rdr (by decide) (by decide)).mono ?_
   rintro e w4 ⟨x, a4, sp4, rfl, hx, hnx, hxv, hr4, hg4⟩
   have HT4 := Lh (HT3.o.taken hr4 hg4)
   have HX4 := Lh (And.intro hnx hxv)
   clear hx hnx hxv hr4 hg4
   by_cases hx1 : x = 1
   ·subst hx1
    go_wp2_with fail
    go_meet
    case rel =>
     refine Lh (MidT.intro HT4.o ?_ ?_)
     ·exact qsp HX4.o
     ·exact fun _ => rfl
   ·have hne : ((x : Int) != 1) = true := by simp; omega
    have HN := Lh (show okT 1 l = false by unfold okT; rw [qso HX4.o hx1]; rfl)
    clear HX4
    have HGX := Lh HT4.o.row
    go_wp2_with (refine ai (some 18) rfl ?_)
    refine Stop.go (aa rfl 38 rfl rfl dr rfl (bk _ _ _ _ _ _ _ rfl rfl) HT4.o.rec_.all_ ?_)
    refine ac rfl 38 rfl rfl rfl (ce (bb ..) (bk _ _ _ _ _ _ _ rfl rfl) HGX.o (by rw [List.size_toArray, ah, ah]) (bd _ _ _ _ _ _ _ _ _)) ?_
    go_wp2_with fail
    refine ii rfl rfl rfl rfl rfl rfl (setRow_heap _ _ _ _ _ _ HGX.o) ?_
    exact tx (r := ⟨1, 0, z32, 0, z32, 0, []⟩) HN.o.symm ⟨rfl, rfl⟩ (er.nil _ _) (fun h => by rw [HN.o] at h; cases h) (below_setRow HT4.o.below (nr _) _)
  by_cases k7 : kind = 7
  ·subst k7
   go_wp2_with fail
   go_loopw [] (fun wr => ∃ (a : Nat) (sp : Bool) (xs : List KeyD) (A : Option Addr) (n c : Nat), Hid (AtT w wr m g l a sp ⟨7, 0, z32, 0, z32, 0, xs⟩ (.slice A n c)) ∧ Hid (Mid7 l a sp xs)) (fun wr => qof l.length g wr)
   case atStart => exact ⟨0, false, [], none, 0, 0, HT3.o, Lh ⟨fun _ => ⟨rfl, Nat.zero_le _, rfl⟩, (fun h => nomatch h), Nat.zero_le _⟩⟩
   case round =>
    obtain ⟨a, sp, xs, A7, n7, c7, HT, H7⟩ := hrel
    go_wp2_with fail
    refine (left_all _ l a sp _ HT.o.rdr).mono ?_
    rintro e w5 ⟨rfl, hb5, hs5⟩
    have HT5 := Lh (HT.o.later hb5)
    have H70 := Lh (mid7_len H7.o)
    obtain ⟨E, hE⟩ : ∃ E, E = (if sp then 0 else l.length - a) := ⟨_, rfl⟩
    rw [← hE] at H70 ⊢
    have HE := Lh hE
    clear hb5 hs5 hE
    by_cases h0 : E = 0
    ·subst h0
     go_wp2_with fail
     go_meet
     case rel =>
      exact Lh (MidT.intro HT5.o (H70.o trivial).1 (H70.o trivial).2)
    ·have hE1 : 0 < E := by omega
     go_wp2_with fail
     refine pt [3, 4, 5] [1] [] (fun w' => w'.cell? ⟨m, 68, none⟩ = some (.slice A7 n7 c7)) HT5.o.rec_.keys_ (by kernel_rfl) (by kernel_rfl) ?_
     refine fx 3 (by decide) (fun Q0 hQ0 => ?_)
     simp only [T1, T0]
     have HC5 := Lh HT5.o.rec_.keys_
     have hc5 := HC5.o
     go_wp2_with fail
     try simp only [dr1, dr0]
     refine ig (fun Q1 hQ1 => ?_)
     go_wp2_with fail
     have HT5d := Lh (HT5.o.later ((br _ _).drew))
     refine (pa _ l a sp _ HT5d.o.rdr).mono ?_
     rintro e w6 ⟨kh, kk, a6, sp6, rfl, hlkh, hnx, hxv, hr6, hg6, hkb6⟩
     have HLkh := Lh hlkh
     have HKB := Lh (show -9223372036854775808 ≤ kk ∧ kk ≤ 9223372036854775807 by omega)
     have HT6 := Lh (HT5d.o.taken hr6 hg6)
     have HX6 := Lh (And.intro hnx hxv)
     clear hlkh hnx hxv hr6 hg6 hkb6
     go_wp2_with fail
     refine ⟨HT6.o.rec_.keys_, ?_⟩
     refine ig (fun Q2 hQ2 => ?_)
     refine cd rfl 28 34 rfl rfl (vs := af kh kk) Tryz.underlying28 (z := hkv z32 0) (qmd kh kk HLkh.o) (dl _ _) (by rw [ae]; omega) (by rw [ae, HLkh.o]; decide) ?_
     have hb7 : Below w6.heap.size w6 (w6.alloc (.cells (af kh kk).toArray 34)) := (br _ _).alloc (nr _) _
     have HT7 := Lh (HT6.o.later hb7)
     have HG7 := Lh (hzn w6 (.cells (af kh kk).toArray 34))
     refine jm (hQ2 _ _ ⟨HT7.o.rec_.keys_, ?_⟩)
     generalize ha : Act.put _ _ _ = z9; simp [Act.put] at ha; subst ha
     have HM6 := Lh (HT6.o.rec_.lt)
     have hs7 : (w6.alloc (.cells (af kh kk).toArray 34)).heap.size = w6.heap.size + 1 := Array.size_push _
     have hxl := H7.o.2.2
     generalize w6.alloc (.cells (af kh kk).toArray 34) = w7 at *
     refine ig (fun Q3 hQ3 => ?_)
     have hn7 : n7 = xs.length := HT7.o.keys.sl.n_eq
     subst hn7
     refine ay nt rfl rfl rfl rfl (show w7.ownsRow (m + 1) 34 33 (.slice A7 xs.length c7) xs.length (xs.flatMap fun x => af x.1 x.2) from HT7.o.keys.1) (Rd.row (B := w7.heap.size) HG7.o (by rw [hs7]; omega)) (m := 1) (by rw [ae, HLkh.o]) (bc _ _) ?h63 ?hby ?hbase ?_
     case h63 => simp only [maxLen]; omega
     case hby => omega
     case hbase => have := HM6.o; omega
     intro v8 w8 hown8 hg8 _ _
     have hm7 : m + 1 ≤ w7.heap.size := by have := HM6.o; omega
     have hb8 : Below (m + 1) w7 w8 := ax ((br _ _).mono hm7) hg8 HT7.o.keys.1 (nr _) hm7
     obtain ⟨A8, c8, rfl, _, _⟩ := ap hown8
     have HO8 := Lh hown8
     have hm8 : w8.heap[m]? = some (.cells (ag 7 0 z32 0 z32 0 (.slice A7 xs.length c7)).toArray 38 (0, 0)) := (hb8.block m (Nat.lt_succ_self _)).trans HT7.o.rec_.blk
     have HB8 := Lh hb8
     have hc8 : w8.cell? ⟨m, 68, none⟩ = some (.slice A7 xs.length c7) := (cu.mk hm8 rfl rfl).keys_
     refine jm (hQ3 _ _ ⟨hc8, ?_⟩)
     generalize ha : Act.put _ _ _ = z9; simp [Act.put] at ha; subst ha
     refine fx 2 (by decide) (fun Q4 hQ4 => ?_)
     simp only [T1, T0]
     obtain ⟨w9, hst, hgm, hot, hbl⟩ := bo (P := Tryz.prog) w8 (g := m) (off := 68) (vs := [.slice A8 (xs.length + 1) c8]) (v := .slice A8 (xs.length + 1) c8) (ty := 28) rfl (by kernel_rfl) hm8 (by simp [ah, bg]) (fun u hu => by rw [List.mem_singleton.1 hu]; rfl) (qeo 7 0 z32 0 z32 0 (.slice A7 xs.length c7) (.slice A8 (xs.length + 1) c8) rfl rfl)
     have HST9 := Lh hst
     have HT9 := Lh (HT7.o.pushed (ks := xs ++ [(kh, kk)]) HB8.o (v8 := .slice A8 (xs.length + 1) c8) ⟨by simpa using HO8.o, fun x hx => by
      rcases List.mem_append.1 hx with hx | hx
      ·exact HT7.o.keys.2 x hx
      ·rw [List.mem_singleton.1 hx]
       exact ⟨HLkh.o, HKB.o⟩⟩ hgm hot (hbl m w8 (br _ _) (nr _)))
     have HS7 := Lh (qtk H7.o (by rw [← HE.o]; exact hE1) HX6.o)
     have HL0 := Lh (qhu HT.o.rdr)
     have HL9 := Lh (qhu HT9.o.rdr)
     clear hst hgm hot hbl
     go_wp2_with (refine ai none rfl ?_)
     refine Stop.go (ac rfl 28 rfl rfl rfl HST9.o ?_)
     refine jm (hQ4 _ _ ?_)
     generalize ha : Act.put _ _ _ = z9; simp [Act.put] at ha; subst ha
     simp only [dr1, dr0]
     refine lu ⟨by rfl, ⟨(fun _ => ⟨_, fun w' hI => jo Tryz.underlying28 hI⟩), trivial⟩, ?_⟩
     go_wp2_with fail
     refine ⟨⟨a6, sp6, xs ++ [(kh, kk)], A8, _, c8, HT9, Lh HS7.o.1⟩, ?_⟩
     rw [HL0.o, HL9.o]
     exact HS7.o.2
  go_wp2_with fail
  go_meet
  case rel =>
   refine Lh (MidT.intro HT3.o ?_ ?_)
   ·unfold lenT
    rw [if_neg k1, if_neg k2, if_neg k3, if_neg k4, if_neg (by omega), if_neg k7]
    show (true && decide (0 = l.length)) = _
    simp [eq_comm]
   ·intro _
    unfold decR
    rw [if_neg k2, if_neg k3, if_neg k4, if_neg (by omega), if_neg k7]
 case rest =>
  obtain ⟨r, A4, n4, c4, a, sp, ha, hsl, hrd, hg, hb, hall, hdec⟩ := hcut.o
  clear hcut
  have HA := Lh ha
  have HKO := Lh hsl
  have HSL := Lh hsl.sl
  have HRD := Lh hrd
  have HG := Lh hg
  have HB := Lh hb
  have HALL := Lh hall
  have HDEC := Lh hdec
  have HHS := Lh (show Hs r from ⟨ha.hk, ha.hm⟩)
  clear ha hsl hrd hg hb hall hdec
  go_wp2_with fail
  refine qj [2, 5] [0, 4] [] (by kernel_rfl) (by kernel_rfl) ?_
  refine bh 1 (by decide) (fun Q1 hQ1 => ?_)
  simp only [T1, T0]
  refine aa rfl 38 rfl rfl dr rfl (bk _ _ _ _ _ _ _ HHS.o.1 HHS.o.2) HA.o.all_ ?_
  refine hQ1 _ _ ?_
  simp only [dr1, dr0]
  generalize ha : Act.put _ _ _ = z9; simp [Act.put] at ha; subst ha
  refine bh 1 (by decide) (fun Q1 hQ1 => ?_)
  simp only [T1, T0]
  go_wp2_with fail
  try simp only [dr1, dr0]
  refine ie (fun Q1 hQ1 => ?_)
  go_wp2_with fail
  refine (all_all _ l a sp _ HRD.o.drew).mono ?_
  rw [HALL.o]
  rintro e w5 ⟨rfl, hb5, hs5⟩
  have HB5 := Lh (cg hb5)
  have HD5 := Lh hb5
  have HSZ := Lh (show w5.heap.size = wc.heap.size from hs5)
  clear hb5 hs5
  cases hL : lenT kind l
  ·have HOK := Lh (show okT kind l = false by unfold okT; rw [hL]; rfl)
   clear hL
   have HGX := Lh ((HB5.o.block _ (gl HG.o)).trans HG.o)
   go_wp2_with fail
   refine ⟨HD5.o, ?_⟩
   refine bh 1 (by decide) (fun Q2 hQ2 => ?_)
   simp only [T1, T0]
   go_wp2_with fail
   try simp only [dr1, dr0]
   refine jg rfl ?_
   refine jg rfl ?_
   generalize ha : Act.put _ _ _ = z9; simp [Act.put] at ha; subst ha
   refine bh 1 (by decide) (fun Q3 hQ3 => ?_)
   simp only [T1, T0]
   go_wp2_with fail
   try simp only [dr1, dr0]
   refine bh 1 (by decide) (fun Q4 hQ4 => ?_)
   simp only [T1, T0]
   refine ac rfl 38 rfl rfl rfl (ce (bb ..) (bk _ _ _ _ _ _ _ HHS.o.1 HHS.o.2) HGX.o (by rw [List.size_toArray, ah, ah, HHS.o.1, HHS.o.2]; rfl) (bd _ _ _ _ _ _ _ _ _)) ?_
   refine hQ4 _ _ ?_
   simp only [dr1, dr0]
   generalize ha : Act.put _ _ _ = z9; simp [Act.put] at ha; subst ha
   refine bh 1 (by decide) (fun Q4 hQ4 => ?_)
   simp only [T1, T0]
   go_wp2_with fail
   try simp only [dr1, dr0]
   refine jr ⟨by rfl, ⟨(fun _ => ⟨_, _, rfl, by simpa using HA.o.all_ 0 _ rfl⟩), Text.no_want rfl, trivial⟩, ?_⟩
   go_wp2_with fail
   refine ii rfl HHS.o.1 HHS.o.2 rfl rfl rfl (setRow_heap _ _ _ _ _ _ HGX.o) ?_
   have HKX := ((HKO.o.later HB5.o).other (w' := w5.setRow w.heap.size (ag r.kind r.seq r.kh r.kk r.mh r.ms (.slice A4 n4 c4)).toArray) (Nat.lt_succ_self _) fun k hk => setRow_other _ _ _ _ hk)
   exact tx HOK.o.symm HHS.o HKX (fun h => by rw [HOK.o] at h; cases h) (below_setRow (HB.o.trans (HB5.o.mono HB.o.size)) (nr _) _)
  ·have HOK := Lh (show okT kind l = au r by unfold okT; rw [hL, ← HDEC.o hL]; rfl)
   have HDL := Lh (HDEC.o hL)
   clear hL
   have HA5 := Lh (HA.o.later HB5.o)
   have HSL5 := Lh (HSL.o.below HB5.o)
   go_wp2_with fail
   refine ⟨HD5.o, ?_⟩
   refine bh 1 (by decide) (fun Q2 hQ2 => ?_)
   simp only [T1, T0]
   go_wp2_with fail
   try simp only [dr1, dr0]
   refine bh 1 (by decide) (fun Q2 hQ2 => ?_)
   simp only [T1, T0]
   refine aw (by rfl) 38 rfl rfl dr rfl (bk _ _ _ _ _ _ _ HHS.o.1 HHS.o.2) HA5.o.all_ ?_
   refine hQ2 _ _ ?_
   simp only [dr1, dr0]
   generalize ha : Act.put _ _ _ = z9; simp [Act.put] at ha; subst ha
   refine ie (fun Q2 hQ2 => ?_)
   go_wp2_with fail
   refine (vo r A4 n4 c4 wc.heap.size _ HHS.o HSL5.o HB5.o.size).mono ?_
   rw [qbh]
   obtain ⟨rb, hrb⟩ : ∃ rb, rb = au r := ⟨_, rfl⟩
   rw [← hrb] at HOK ⊢
   have HRB := Lh hrb
   clear hrb
   rintro e w6 ⟨rfl, hb6⟩
   have HB6 := Lh (HB5.o.trans (hb6.mono HB5.o.size))
   have HD6 := Lh (HD5.o.trans (hb6.mono HD5.o.size))
   have HGX := Lh ((HB6.o.block _ (gl HG.o)).trans HG.o)
   clear hb6
   go_wp2_with fail
   refine ⟨HD6.o, ?_⟩
   refine bh 1 (by decide) (fun Q3 hQ3 => ?_)
   simp only [T1, T0]
   go_wp2_with fail
   try simp only [dr1, dr0]
   refine bh 1 (by decide) (fun Q4 hQ4 => ?_)
   simp only [T1, T0]
   refine ac rfl 38 rfl rfl rfl (ce (bb ..) (bk _ _ _ _ _ _ _ HHS.o.1 HHS.o.2) HGX.o (by rw [List.size_toArray, ah, ah, HHS.o.1, HHS.o.2]; rfl) (bd _ _ _ _ _ _ _ _ _)) ?_
   refine hQ4 _ _ ?_
   simp only [dr1, dr0]
   generalize ha : Act.put _ _ _ = z9; simp [Act.put] at ha; subst ha
   refine bh 1 (by decide) (fun Q4 hQ4 => ?_)
   simp only [T1, T0]
   go_wp2_with fail
   try simp only [dr1, dr0]
   refine jr ⟨by rfl, ⟨(fun _ => ⟨_, _, rfl, by simpa using HA.o.all_ 0 _ rfl⟩), (fun _ => ⟨_, _, rfl, by simpa using HA.o.all_ 0 _ rfl⟩), trivial⟩, ?_⟩
   go_wp2_with fail
   refine ii rfl HHS.o.1 HHS.o.2 rfl rfl rfl (setRow_heap _ _ _ _ _ _ HGX.o) ?_
   have HKX := ((HKO.o.later HB6.o).other (w' := w6.setRow w.heap.size (ag r.kind r.seq r.kh r.kk r.mh r.ms (.slice A4 n4 c4)).toArray) (Nat.lt_succ_self _) fun k hk => setRow_other _ _ _ _ hk)
   exact tx HOK.o.symm HHS.o HKX (fun _ => HDL.o) (below_setRow (HB.o.trans (HB6.o.mono HB.o.size)) (nr _) _)
end Go.Proofs.YtplbcbamnjnhlaaGreatDoor
