import Derived.Test.YtplbcbamnjnhlaaGreatDoorMB17
import Derived.Deep.Cut
import Derived.Deep.CutBlock
namespace Go.Proofs.YtplbcbamnjnhlaaGreatDoor
open Go.RowKit

def keyAt (l : List UInt8) (a : Nat) : KeyD := ((l.drop a).take 32, (beVal ((l.drop (a + 32)).take 1) : Nat))
def decR (kind : Int) (l : List UInt8) : RecD :=
  if kind = 2 then ⟨2, (beVal (l.take 6) : Nat), (keyAt l 6).1, (keyAt l 6).2, (l.drop 39).take 32, (beVal ((l.drop 71).take 3) : Nat), []⟩ else if kind = 3 then ⟨3, (beVal (l.take 6) : Nat), z32, 0, z32, 0, []⟩
  else if kind = 4 then ⟨4, 0, (keyAt l 0).1, (keyAt l 0).2, (l.drop 33).take 32, (beVal ((l.drop 65).take 3) : Nat), []⟩ else if kind = 5 ∨ kind = 6 then ⟨kind, 0, (keyAt l 0).1, (keyAt l 0).2, z32, 0, []⟩
  else if kind = 7 then ⟨7, 0, z32, 0, z32, 0, (List.range (l.length / 33)).map fun i => keyAt l (33 * i)⟩ else ⟨kind, 0, z32, 0, z32, 0, []⟩
def lenT (kind : Int) (l : List UInt8) : Bool :=
  if kind = 1 then decide (l = [1]) else if kind = 2 then decide (l.length = 74) else if kind = 3 then decide (l.length = 6) else if kind = 4 then decide (l.length = 68) else if kind = 5 ∨ kind = 6 then decide (l.length = 33)
  else if kind = 7 then decide (l.length % 33 = 0) else decide (l.length = 0)
def okT (kind : Int) (l : List UInt8) : Bool := lenT kind l && rightB (decR kind l)
def KeysOwn (w : World) (base : Nat) (v : Value) (xs : List KeyD) : Prop :=
  w.ownsRow base 34 33 v xs.length (xs.flatMap fun x => hkCells x.1 x.2) ∧ ∀ x ∈ xs, x.1.length = 32 ∧ -9223372036854775808 ≤ x.2 ∧ x.2 ≤ 9223372036854775807
theorem KeysOwn.nil (w : World) (base : Nat) : KeysOwn w base (.slice none 0 0) [] := ⟨World.ownsRow_nil _ _ _ _, fun _ h => nomatch h⟩
theorem KeysOwn.sl {w : World} {base : Nat} {v : Value} {xs : List KeyD} (h : KeysOwn w base v xs) : SlR eKey w w.heap.size v xs := by
  obtain ⟨h, hb⟩ := h
  obtain ⟨A, c, rfl, h1, h2⟩ := own_form h
  refine ⟨A, c, xs.map fun x => hkCells x.1 x.2, rfl, h1, h2, by simp, ?_, fun i cs x hc hx => ?_⟩
  · have := Rd.of_own h
    rwa [List.flatMap_def] at this
  · rw [List.getElem?_map, hx] at hc
    cases hc
    obtain ⟨a, b, c⟩ := hb x (List.mem_of_getElem? hx)
    exact eKey_of a b c
theorem KeysOwn.more {w : World} {base base' : Nat} {v : Value} {xs : List KeyD} (h : KeysOwn w base v xs) (hb : base' ≤ base) : KeysOwn w base' v xs := ⟨own_more h.1 hb, h.2⟩
theorem KeysOwn.later {w w' : World} {base : Nat} {v : Value} {xs : List KeyD} (h : KeysOwn w base v xs) (hb : Below w.heap.size w w') : KeysOwn w' base v xs := ⟨own_below h.1 hb, h.2⟩
theorem KeysOwn.other {w w' : World} {base g : Nat} {v : Value} {xs : List KeyD} (h : KeysOwn w base v xs) (hg : g < base) (ho : ∀ k, k ≠ g → w'.heap[k]? = w.heap[k]?) : KeysOwn w' base v xs := by
  obtain ⟨⟨h1, h2⟩, h3⟩ := h
  refine ⟨⟨h1, ?_⟩, h3⟩
  rcases h2 with h' | ⟨g', cap, cur, rfl, hg', hh, r⟩
  · exact .inl h'
  · exact .inr ⟨g', cap, cur, rfl, hg', (ho g' (by omega)).trans hh, r⟩
theorem KeysOwn.other2 {w w' : World} {base g : Nat} {v : Value} {xs : List KeyD} {cs : Array Value} {t : TypeId} {fr : Nat × Nat} (h : KeysOwn w base v xs) (hg : w.heap[g]? = some (.cells cs t fr)) (ht : t ≠ 34)
    (ho : ∀ k, k < w.heap.size → k ≠ g → w'.heap[k]? = w.heap[k]?) : KeysOwn w' base v xs := by
  obtain ⟨⟨h1, h2⟩, h3⟩ := h
  refine ⟨⟨h1, ?_⟩, h3⟩
  rcases h2 with h' | ⟨g', cap, cur, rfl, hg', hh, r⟩
  · exact .inl h'
  · refine .inr ⟨g', cap, cur, rfl, hg', (ho g' (Array.getElem?_eq_some_iff.1 hh).1 ?_).trans hh, r⟩
    rintro rfl
    rw [hh] at hg
    injection hg with hg
    injection hg with _ hg
    exact ht hg.symm
def TakeTo (kind : Int) (l : List UInt8) (w : World) (e : Ending) (w' : World) : Prop :=
  ∃ r v, e = .returned (.tuple #[rv r v, .bool (okT kind l)]) ∧ Hs r ∧ KeysOwn w' (w.heap.size + 1) v r.keys ∧ (okT kind l = true → r = decR kind l) ∧ Below w.heap.size w w'
structure AtT (w wc : World) (m g : Nat) (l : List UInt8) (a : Nat) (sp : Bool) (r : RecD) (v : Value) : Prop where
  rec_ : RecAt wc m 38 r.kind r.seq r.kh r.kk r.mh r.ms v
  keys : KeysOwn wc (m + 1) v r.keys
  rdr : RdrR wc g l a sp
  row : wc.heap[w.heap.size]? = some (.cells (recCells 0 0 z32 0 z32 0 (.slice none 0 0)).toArray 38 (0, 0))
  below : Below w.heap.size w wc
  m_ : w.heap.size < g ∧ g < m
theorem AtT.taken {w wc w' : World} {m g : Nat} {l : List UInt8} {a a' : Nat} {sp sp' : Bool} {r : RecD} {v : Value} (h : AtT w wc m g l a sp r v) (hr : RdrR w' g l a' sp') (hg : wc.grownBy w' (some g)) : AtT w w' m g l a' sp' r v := by
  have ho : ∀ k, k < wc.heap.size → k ≠ g → w'.heap[k]? = wc.heap[k]? := fun k hk hn => hg.block k hk (by intro e; injection e with e; exact hn e)
  obtain ⟨A, c, hgb, _⟩ := h.rdr
  exact ⟨⟨(ho m h.rec_.lt (by have := h.m_; omega)).trans h.rec_.blk, h.rec_.hk, h.rec_.hm⟩, h.keys.other2 hgb (by decide) ho, hr, (ho _ (Array.getElem?_eq_some_iff.1 h.row).1 (by have := h.m_; omega)).trans h.row,
    h.below.trans (below_of_grown hg (by have := h.m_; omega) h.below.size), h.m_⟩
theorem AtT.stored {w wc w' : World} {m g : Nat} {l : List UInt8} {a : Nat} {sp : Bool} {r r' : RecD} {v : Value} (h : AtT w wc m g l a sp r v) (hs : Hs r') (hk : r'.keys = r.keys)
    (hm : w'.heap[m]? = some (.cells (recCells r'.kind r'.seq r'.kh r'.kk r'.mh r'.ms v).toArray 38 (0, 0))) (ho : ∀ k, k ≠ m → w'.heap[k]? = wc.heap[k]?) (hb : Below m wc w') : AtT w w' m g l a sp r' v :=
  ⟨⟨hm, hs.1, hs.2⟩, hk ▸ h.keys.other2 h.rec_.blk (by decide) (fun k _ hn => ho k hn), h.rdr.low hb h.m_.2, (ho _ (by have := h.m_; omega)).trans h.row, h.below.trans (hb.mono (by have := h.m_; omega)), h.m_⟩
theorem AtT.pushed {w wc w8 w9 : World} {m g : Nat} {l : List UInt8} {a : Nat} {sp : Bool} {r : RecD} {v v8 : Value} {ks : List KeyD} (h : AtT w wc m g l a sp r v) (h8 : Below (m + 1) wc w8) (hk8 : KeysOwn w8 (m + 1) v8 ks)
    (hm : w9.heap[m]? = some (.cells (recCells r.kind r.seq r.kh r.kk r.mh r.ms v8).toArray 38 (0, 0))) (ho : ∀ k, k ≠ m → w9.heap[k]? = w8.heap[k]?) (hb : Below m w8 w9) : AtT w w9 m g l a sp ⟨r.kind, r.seq, r.kh, r.kk, r.mh, r.ms, ks⟩ v8 :=
  ⟨⟨hm, h.rec_.hk, h.rec_.hm⟩, hk8.other (Nat.lt_succ_self _) ho, h.rdr.low ((h8.mono (Nat.le_succ _)).trans hb) h.m_.2, (ho _ (by have := h.m_; omega)).trans ((h8.block _ (by have := h.m_; omega)).trans h.row),
    h.below.trans ((h8.mono (by have := h.m_; omega)).trans (hb.mono (by have := h.m_; omega))), h.m_⟩
theorem next_all {l : List UInt8} {a n a' b : Nat} {sp sp' : Bool} (h : NextTo l a sp n a' sp') : (!sp' && decide (a' + b = l.length)) = (!sp && decide (a + n + b = l.length)) := by
  obtain ⟨h1, h2⟩ := h
  cases sp'
  · rw [h2 rfl]
    cases sp
    · rfl
    · exact nomatch h1
  · cases sp
    · have h3 : l.length < a + n := of_decide_eq_true (show decide (l.length < a + n) = true from h1.symm)
      show false = (true && decide (a + n + b = l.length))
      rw [decide_eq_false (by omega)]
      rfl
    · rfl
theorem next_ok {l : List UInt8} {a n a' : Nat} {sp sp' : Bool} (h : NextTo l a sp n a' sp') (hs : sp' = false) : sp = false ∧ a' = a + n := by
  obtain ⟨h1, h2⟩ := h
  subst hs
  refine ⟨?_, h2 rfl⟩
  cases sp
  · rfl
  · exact nomatch h1
theorem sp_of {b c : Bool} (h : (!b && c) = true) : b = false := by
  cases b
  · rfl
  · exact nomatch h
section
variable {l : List UInt8} {a4 a5 a6 x : Nat} {s4 s5 s6 : Bool} {kh mh : List UInt8} {kk ms : Int}
theorem take_len1 (h4 : NextTo l 0 false 1 a4 s4 ∧ (s4 = false → 1 = beVal ((l.drop 0).take 1))) : (!s4 && decide (a4 = l.length)) = lenT 1 l := by
  rw [show a4 = a4 + 0 from rfl, next_all h4.1]
  show (true && decide (0 + 1 + 0 = l.length)) = decide (l = [1])
  cases s4
  · have h1 := h4.2 rfl
    match l, h1 with
    | [], _ => rfl
    | [c], h1 =>
      have : c = 1 := by
        apply UInt8.toNat_inj.1
        simpa [beVal] using h1.symm
      subst this
      rfl
    | c :: d :: r, _ => simp
  · have h1 : l.length < 0 + 1 := of_decide_eq_true (show decide (l.length < 0 + 1) = true from h4.1.1.symm)
    match l, h1 with
    | [], _ => rfl
theorem take_not1 (h4 : NextTo l 0 false 1 a4 s4 ∧ (s4 = false → x = beVal ((l.drop 0).take 1))) (hx : x ≠ 1) : lenT 1 l = false := by
  show decide (l = [1]) = false
  rw [decide_eq_false_iff_not]
  rintro rfl
  have hs : s4 = false := h4.1.1
  exact hx (h4.2 hs)
theorem take_len2 (h4 : NextTo l 0 false 6 a4 s4) (h5 : NextTo l a4 s4 33 a5 s5) (h6 : NextTo l a5 s5 35 a6 s6) : (!s6 && decide (a6 = l.length)) = lenT 2 l := by
  rw [show a6 = a6 + 0 from rfl, next_all h6, Nat.add_assoc, next_all h5, Nat.add_assoc, next_all h4]
  simp [lenT, eq_comm]
theorem take_len3 (h4 : NextTo l 0 false 6 a4 s4) : (!s4 && decide (a4 = l.length)) = lenT 3 l := by
  rw [show a4 = a4 + 0 from rfl, next_all h4]
  simp [lenT, eq_comm]
theorem take_len4 (h4 : NextTo l 0 false 33 a4 s4) (h5 : NextTo l a4 s4 35 a5 s5) : (!s5 && decide (a5 = l.length)) = lenT 4 l := by
  rw [show a5 = a5 + 0 from rfl, next_all h5, Nat.add_assoc, next_all h4]
  simp [lenT, eq_comm]
theorem take_len5 (h4 : NextTo l 0 false 33 a4 s4) : (!s4 && decide (a4 = l.length)) = lenT 5 l := by
  rw [show a4 = a4 + 0 from rfl, next_all h4]
  simp [lenT, eq_comm]
theorem take_len6 (h4 : NextTo l 0 false 33 a4 s4) : (!s4 && decide (a4 = l.length)) = lenT 6 l := by
  rw [show a4 = a4 + 0 from rfl, next_all h4]
  simp [lenT, eq_comm]
theorem take_rec2 (h : lenT 2 l = true) (h4 : NextTo l 0 false 6 a4 s4 ∧ (s4 = false → x = beVal ((l.drop 0).take 6))) (h5 : NextTo l a4 s4 33 a5 s5 ∧ (s5 = false → kh = (l.drop a4).take 32 ∧ kk = beVal ((l.drop (a4 + 32)).take (33 - 32))))
    (h6 : NextTo l a5 s5 35 a6 s6 ∧ (s6 = false → mh = (l.drop a5).take 32 ∧ ms = beVal ((l.drop (a5 + 32)).take (35 - 32)))) : (⟨2, x, kh, kk, mh, ms, []⟩ : RecD) = decR 2 l := by
  rw [← take_len2 h4.1 h5.1 h6.1] at h
  have e6 := sp_of h
  obtain ⟨e5, f6⟩ := next_ok h6.1 e6
  obtain ⟨e4, f5⟩ := next_ok h5.1 e5
  obtain ⟨_, f4⟩ := next_ok h4.1 e4
  obtain ⟨rfl, rfl⟩ := h6.2 e6
  obtain ⟨rfl, rfl⟩ := h5.2 e5
  obtain rfl := h4.2 e4
  subst f6 f5 f4
  rfl
theorem take_rec3 (h : lenT 3 l = true) (h4 : NextTo l 0 false 6 a4 s4 ∧ (s4 = false → x = beVal ((l.drop 0).take 6))) : (⟨3, x, z32, 0, z32, 0, []⟩ : RecD) = decR 3 l := by
  rw [← take_len3 h4.1] at h
  obtain rfl := h4.2 (sp_of h)
  rfl
theorem take_rec4 (h : lenT 4 l = true) (h4 : NextTo l 0 false 33 a4 s4 ∧ (s4 = false → kh = (l.drop 0).take 32 ∧ kk = beVal ((l.drop (0 + 32)).take (33 - 32))))
    (h5 : NextTo l a4 s4 35 a5 s5 ∧ (s5 = false → mh = (l.drop a4).take 32 ∧ ms = beVal ((l.drop (a4 + 32)).take (35 - 32)))) : (⟨4, 0, kh, kk, mh, ms, []⟩ : RecD) = decR 4 l := by
  rw [← take_len4 h4.1 h5.1] at h
  have e5 := sp_of h
  obtain ⟨e4, f5⟩ := next_ok h5.1 e5
  obtain ⟨_, f4⟩ := next_ok h4.1 e4
  obtain ⟨rfl, rfl⟩ := h5.2 e5
  obtain ⟨rfl, rfl⟩ := h4.2 e4
  subst f5 f4
  rfl
theorem take_rec5 (h : lenT 5 l = true) (h4 : NextTo l 0 false 33 a4 s4 ∧ (s4 = false → kh = (l.drop 0).take 32 ∧ kk = beVal ((l.drop (0 + 32)).take (33 - 32)))) : (⟨5, 0, kh, kk, z32, 0, []⟩ : RecD) = decR 5 l := by
  rw [← take_len5 h4.1] at h
  obtain ⟨rfl, rfl⟩ := h4.2 (sp_of h)
  rfl
theorem take_rec6 (h : lenT 6 l = true) (h4 : NextTo l 0 false 33 a4 s4 ∧ (s4 = false → kh = (l.drop 0).take 32 ∧ kk = beVal ((l.drop (0 + 32)).take (33 - 32)))) : (⟨6, 0, kh, kk, z32, 0, []⟩ : RecD) = decR 6 l := by
  rw [← take_len6 h4.1] at h
  obtain ⟨rfl, rfl⟩ := h4.2 (sp_of h)
  rfl
end
def MidT (kind : Int) (l : List UInt8) (w wc : World) (m g : Nat) : Prop :=
  ∃ r A n c a sp, RecAt wc m 38 r.kind r.seq r.kh r.kk r.mh r.ms (.slice A n c) ∧ KeysOwn wc (w.heap.size + 1) (.slice A n c) r.keys ∧ RdrR wc g l a sp ∧ wc.heap[w.heap.size]? = some (.cells (recCells 0 0 z32 0 z32 0 (.slice none 0 0)).toArray 38 (0, 0)) ∧
    Below w.heap.size w wc ∧ (!sp && decide (a = l.length)) = lenT kind l ∧ (lenT kind l = true → r = decR kind l)
theorem AtT.later {w wc w' : World} {m g : Nat} {l : List UInt8} {a : Nat} {sp : Bool} {r : RecD} {v : Value} (h : AtT w wc m g l a sp r v) (hb : Below wc.heap.size wc w') : AtT w w' m g l a sp r v :=
  ⟨h.rec_.later hb, h.keys.later hb, h.rdr.later hb, (hb.block _ (Array.getElem?_eq_some_iff.1 h.row).1).trans h.row, h.below.trans (hb.mono h.below.size), h.m_⟩
def Mid7 (l : List UInt8) (a : Nat) (sp : Bool) (xs : List KeyD) : Prop :=
  (sp = false → a = 33 * xs.length ∧ a ≤ l.length ∧ xs = (List.range xs.length).map fun i => keyAt l (33 * i)) ∧ (sp = true → l.length % 33 ≠ 0) ∧ xs.length ≤ l.length + 1
theorem mid7_len {l : List UInt8} {a : Nat} {sp : Bool} {xs : List KeyD} (h : Mid7 l a sp xs) (h0 : (if sp then 0 else l.length - a) = 0) : (!sp && decide (a = l.length)) = lenT 7 l ∧ (lenT 7 l = true → (⟨7, 0, z32, 0, z32, 0, xs⟩ : RecD) = decR 7 l) := by
  obtain ⟨h1, h2, _⟩ := h
  have e7 : lenT 7 l = decide (l.length % 33 = 0) := rfl
  rw [e7]
  cases sp
  · obtain ⟨h3, h4, h5⟩ := h1 rfl
    have h6 : l.length - a = 0 := h0
    have h7 : a = l.length := by omega
    refine ⟨?_, fun _ => ?_⟩
    · rw [decide_eq_true h7, decide_eq_true (by omega)]
      rfl
    · have h8 : xs.length = l.length / 33 := by omega
      rw [h8] at h5
      rw [h5]
      rfl
  · have h3 := h2 rfl
    rw [decide_eq_false h3]
    exact ⟨rfl, fun h => nomatch h⟩
theorem mid7_step {l : List UInt8} {a a6 : Nat} {sp sp6 : Bool} {xs : List KeyD} {kh : List UInt8} {kk : Int} (h : Mid7 l a sp xs) (h0 : 0 < (if sp then 0 else l.length - a)) (hn : NextTo l a sp 33 a6 sp6 ∧ (sp6 = false → kh = (l.drop a).take 32 ∧ kk = beVal ((l.drop (a + 32)).take (33 - 32)))) :
    Mid7 l a6 sp6 (xs ++ [(kh, kk)]) ∧ (if sp6 then 0 else l.length - a6) < (if sp then 0 else l.length - a) := by
  obtain ⟨h1, _, h3⟩ := h
  obtain ⟨⟨hs, ha⟩, hv⟩ := hn
  cases sp with
  | true => exact absurd h0 (by simp)
  | false =>
    obtain ⟨e1, e2, e3⟩ := h1 rfl
    have h0' : 0 < l.length - a := h0
    rw [Bool.false_or] at hs
    cases sp6 with
    | false =>
      have h6 := ha rfl
      have hd : ¬ l.length < a + 33 := by simpa using hs.symm
      obtain ⟨rfl, rfl⟩ := hv rfl
      refine ⟨⟨fun _ => ⟨by rw [List.length_append, List.length_singleton]; omega, by omega, ?_⟩, (fun h => nomatch h), by rw [List.length_append, List.length_singleton]; omega⟩, ?_⟩
      · rw [List.length_append, List.length_singleton, List.range_succ, List.map_append, ← e3]
        simp only [List.map_cons, List.map_nil, ← e1]
        rfl
      · show l.length - a6 < l.length - a
        omega
    | true =>
      have hd : l.length < a + 33 := by simpa using hs.symm
      exact ⟨⟨(fun h => nomatch h), fun _ => by omega, by rw [List.length_append, List.length_singleton]; omega⟩, h0'⟩
theorem key_info (h : List UInt8) (k : Int) (hh : h.length = 32) : (Tryz.prog.info? 34).map (fun i => (i.zero, i.size)) = some (some (hkv z32 0), (hkCells h k).length) := by rw [hkCells_length, hh]; kernel_rfl
theorem MidT.intro {kind : Int} {l : List UInt8} {w wc : World} {m g a n c : Nat} {sp : Bool} {r : RecD} {A : Option Addr} (h : AtT w wc m g l a sp r (.slice A n c)) (h1 : (!sp && decide (a = l.length)) = lenT kind l) (h2 : lenT kind l = true → r = decR kind l) : MidT kind l w wc m g :=
  ⟨r, A, n, c, a, sp, h.rec_, h.keys.more (by have := h.m_; omega), h.rdr, h.row, h.below, h1, h2⟩
theorem takeTo_intro {kind : Int} {l : List UInt8} {w w' : World} {r : RecD} {v : Value} {b : Bool} (hb : b = okT kind l) (hr : Hs r) (hs : KeysOwn w' (w.heap.size + 1) v r.keys) (hd : okT kind l = true → r = decR kind l) (hw : Below w.heap.size w w') :
    TakeTo kind l w (.returned (.tuple #[rv r v, .bool b])) w' := by subst hb; exact ⟨r, v, rfl, hr, hs, hd, hw⟩
set_option maxRecDepth 100000 in
set_option maxHeartbeats 40000000 in
theorem take_any (kind : Int) (l : List UInt8) (A : Option Addr) (c B : Nat) (w : World) (hr : Rd w B A (bcells l)) (hB : B ≤ w.heap.size) (hl : l.length ≤ 1048576) :
    Calls Tryz.prog 88 #[.int .i64 kind, .slice A l.length c] w (TakeTo kind l w) := by
  have HR := Lib.hid hr
  clear hr
  go_enter Tryz.func88, Tryz.ntmps88
  go_wp2_with (refine stop_at (some 4) rfl ?_)
  refine Stop.go (wpList_alloc rfl 38 rfl zero_rec rfl ?_)
  have hb1 : Below w.heap.size w (w.alloc (.cells (recCells 0 0 z32 0 z32 0 (.slice none 0 0)).toArray 38)) := (Below.refl _ _).alloc (Nat.le_refl _) _
  have HG1 := Lib.hid (Go.heap_alloc_new w (.cells (recCells 0 0 z32 0 z32 0 (.slice none 0 0)).toArray 38))
  have HR1 := Lib.hid (HR.out.below (hb1.mono hB))
  have HB1 := Lib.hid hb1
  clear hb1
  generalize w.alloc (.cells (recCells 0 0 z32 0 z32 0 (.slice none 0 0)).toArray 38) = w1 at *
  go_wp2_with fail
  refine (read_any l A c B _ HR1.out (Nat.le_trans hB HB1.out.size) (by omega)).mono ?_
  rintro e w2 ⟨rfl, hr2, hb2, hs2⟩
  have HG2 := Lib.hid ((hb2.block _ (Array.getElem?_eq_some_iff.1 HG1.out).1).trans HG1.out)
  have HR2 := Lib.hid hr2
  have HB2 := Lib.hid (HB1.out.trans (hb2.mono HB1.out.size))
  have HS2 := Lib.hid hs2
  have HWG := Lib.hid (show w.heap.size < w1.heap.size from (Array.getElem?_eq_some_iff.1 HG1.out).1)
  clear hr2 hb2 hs2 HG1 HR1 HB1
  go_wp2_with (refine stop_at (some 11) rfl ?_)
  refine Stop.go (wpList_build rfl 38 rfl (vs := #[(0, .int .i64 kind)]) (by rfl) (build_recK kind _) ?_)
  refine wpList_alloc rfl 38 rfl zero_rec rfl ?_
  refine wpList_seg 1 _ _ _ (fun Q' hQ' => ?_)
  simp only [List.take_succ_cons, List.take_zero]
  go_wp2_with fail
  try simp only [List.drop_succ_cons, List.drop_zero]
  refine Stop.go (wpList_store_agg rfl 38 rfl rfl rfl (store_new2 (g := w2.heap.size) rfl (recv_cells ..) (rec_size _ _ _ _ _ _ _ rfl rfl) (by rw [List.size_toArray, recCells_length, recCells_length]) (recCells_one _ _ _ _ _ _ _ _ _)) ?_)
  have hb3 : Below w2.heap.size w2 (w2.alloc (.cells (recCells kind 0 z32 0 z32 0 (.slice none 0 0)).toArray 38)) := (Below.refl _ _).alloc (Nat.le_refl _) _
  have HA3 := Lib.hid (RecAt.new (t := 38) (kind := kind) (seq := 0) (kk := 0) (ms := 0) (v := .slice none 0 0) w2 (kh := z32) (mh := z32) rfl rfl)
  have HR3 := Lib.hid (HR2.out.later hb3)
  have HG3 := Lib.hid ((hb3.block _ (Array.getElem?_eq_some_iff.1 HG2.out).1).trans HG2.out)
  have HB3 := Lib.hid (HB2.out.trans (hb3.mono HB2.out.size))
  have HS3 := Lib.hid (show (w2.alloc (.cells (recCells kind 0 z32 0 z32 0 (.slice none 0 0)).toArray 38)).heap.size = w2.heap.size + 1 from Array.size_push _)
  clear hb3 HR2 HG2 HB2
  generalize w2.alloc (.cells (recCells kind 0 z32 0 z32 0 (.slice none 0 0)).toArray 38) = w3 at *
  go_upto_block 0 with fail
  go_cut [] from 8 (fun wc => Hid (MidT kind l w wc w2.heap.size (w1.heap.size + 1)))
  case first =>
    have HM := Lib.hid (show w.heap.size ≠ w2.heap.size ∧ w1.heap.size + 1 < w2.heap.size by have := HWG.out; have := HS2.out; omega)
    have HT3 := Lib.hid (AtT.mk (r := ⟨kind, 0, z32, 0, z32, 0, []⟩) HA3.out (KeysOwn.nil _ _) HR3.out HG3.out HB3.out ⟨by have := HWG.out; omega, HM.out.2⟩ : AtT w w3 w2.heap.size (w1.heap.size + 1) l 0 false ⟨kind, 0, z32, 0, z32, 0, []⟩ (.slice none 0 0))
    clear HA3 HR3 HG3 HB3 HM
    generalize w2.heap.size = m at *
    generalize w1.heap.size + 1 = g at *
    by_cases k2 : kind = 2
    · subst k2
      go_wp2_with fail
      refine (num_all _ l 0 false 6 _ HT3.out.rdr (by decide) (by decide)).mono ?_
      rintro e w4 ⟨x, a4, sp4, rfl, hx, hnx, hxv, hr4, hg4⟩
      have hx2 : x < 281474976710656 := by simpa using hx
      clear hx
      have HT4 := Lib.hid (HT3.out.taken hr4 hg4)
      have HX4 := Lib.hid (And.intro hnx hxv)
      clear hnx hxv hr4 hg4
      go_wp2_with fail
      refine (takeKey_all _ l a4 sp4 _ HT4.out.rdr).mono ?_
      rintro e w5 ⟨kh, kk, a5, sp5, rfl, hlkh, hnx, hxv, hr4, hg4, _⟩
      have HLkh := Lib.hid hlkh
      clear hlkh
      have HT5 := Lib.hid (HT4.out.taken hr4 hg4)
      have HX5 := Lib.hid (And.intro hnx hxv)
      clear hnx hxv hr4 hg4
      go_wp2_with fail
      refine (takeMark_all _ l a5 sp5 _ HT5.out.rdr).mono ?_
      rintro e w6 ⟨mh, ms, a6, sp6, rfl, hlmh, hnx, hxv, hr4, hg4, _⟩
      have HLmh := Lib.hid hlmh
      clear hlmh
      have HT6 := Lib.hid (HT5.out.taken hr4 hg4)
      have HX6 := Lib.hid (And.intro hnx hxv)
      clear hnx hxv hr4 hg4
      obtain ⟨w7, hst, hgm, hot, hbl⟩ := store_field (P := Tryz.prog) w6 (g := m) (off := 1) (vs := [.int .i64 x]) (v := .int .i64 x) (ty := 3) rfl (by kernel_rfl) HT6.out.rec_.blk (by simp [recCells_length, z32_len]) (fun u hu => by rw [List.mem_singleton.1 hu]; rfl) (row_seq 2 0 z32 0 z32 0 (.slice none 0 0) x)
      have HT7 := Lib.hid (HT6.out.stored (r' := ⟨2, x, z32, 0, z32, 0, []⟩) ⟨rfl, rfl⟩ rfl hgm hot (hbl m w6 (Below.refl _ _) (Nat.le_refl _)))
      have HST7 := Lib.hid hst
      clear hst hgm hot hbl
      go_wp2_with (refine stop_at none rfl ?_)
      refine Stop.go (wpList_store_agg rfl 3 rfl rfl rfl HST7.out ?_)
      obtain ⟨w8, hst, hgm, hot, hbl⟩ := store_field (P := Tryz.prog) w7 (g := m) (off := 2) (vs := hkCells kh kk) (v := hkv kh kk) (ty := 34) (hkv_cells _ _) (key_size _ _ HLkh.out) HT7.out.rec_.blk (by simp [recCells_length, hkCells_length, HLkh.out, z32_len]) (hkCells_one _ _) (row_key 2 x z32 0 z32 0 (.slice none 0 0) kh kk rfl HLkh.out)
      have HT8 := Lib.hid (HT7.out.stored (r' := ⟨2, x, kh, kk, z32, 0, []⟩) ⟨HLkh.out, rfl⟩ rfl hgm hot (hbl m w7 (Below.refl _ _) (Nat.le_refl _)))
      have HST8 := Lib.hid hst
      clear hst hgm hot hbl
      go_wp2_with (refine stop_at none rfl ?_)
      refine Stop.go (wpList_store_agg rfl 34 rfl rfl rfl HST8.out ?_)
      obtain ⟨w9, hst, hgm, hot, hbl⟩ := store_field (P := Tryz.prog) w8 (g := m) (off := 35) (vs := hkCells mh ms) (v := hkv mh ms) (ty := 36) (hkv_cells _ _) (mark_size _ _ HLmh.out) HT8.out.rec_.blk (by simp [recCells_length, hkCells_length, HLkh.out, HLmh.out, z32_len]) (hkCells_one _ _) (row_mark 2 x kh kk z32 0 (.slice none 0 0) mh ms HLkh.out rfl HLmh.out)
      have HT9 := Lib.hid (HT8.out.stored (r' := ⟨2, x, kh, kk, mh, ms, []⟩) ⟨HLkh.out, HLmh.out⟩ rfl hgm hot (hbl m w8 (Below.refl _ _) (Nat.le_refl _)))
      have HST9 := Lib.hid hst
      clear hst hgm hot hbl
      go_wp2_with (refine stop_at none rfl ?_)
      refine Stop.go (wpList_store_agg rfl 36 rfl rfl rfl HST9.out ?_)
      go_wp2_with fail
      go_meet
      case rel =>
        refine Lib.hid (MidT.intro HT9.out ?_ ?_)
        · exact take_len2 HX4.out.1 HX5.out.1 HX6.out.1
        · exact fun h => take_rec2 h HX4.out HX5.out HX6.out
    by_cases k3 : kind = 3
    · subst k3
      go_wp2_with fail
      refine (num_all _ l 0 false 6 _ HT3.out.rdr (by decide) (by decide)).mono ?_
      rintro e w4 ⟨x, a4, sp4, rfl, hx, hnx, hxv, hr4, hg4⟩
      have hx2 : x < 281474976710656 := by simpa using hx
      clear hx
      have HT4 := Lib.hid (HT3.out.taken hr4 hg4)
      have HX4 := Lib.hid (And.intro hnx hxv)
      clear hnx hxv hr4 hg4
      obtain ⟨w5, hst, hgm, hot, hbl⟩ := store_field (P := Tryz.prog) w4 (g := m) (off := 1) (vs := [.int .i64 x]) (v := .int .i64 x) (ty := 3) rfl (by kernel_rfl) HT4.out.rec_.blk (by simp [recCells_length, z32_len]) (fun u hu => by rw [List.mem_singleton.1 hu]; rfl) (row_seq 3 0 z32 0 z32 0 (.slice none 0 0) x)
      have HT5 := Lib.hid (HT4.out.stored (r' := ⟨3, x, z32, 0, z32, 0, []⟩) ⟨rfl, rfl⟩ rfl hgm hot (hbl m w4 (Below.refl _ _) (Nat.le_refl _)))
      have HST5 := Lib.hid hst
      clear hst hgm hot hbl
      go_wp2_with (refine stop_at none rfl ?_)
      refine Stop.go (wpList_store_agg rfl 3 rfl rfl rfl HST5.out ?_)
      go_wp2_with fail
      go_meet
      case rel =>
        refine Lib.hid (MidT.intro HT5.out ?_ ?_)
        · exact take_len3 HX4.out.1
        · exact fun h => take_rec3 h HX4.out
    by_cases k4 : kind = 4
    · subst k4
      go_wp2_with fail
      refine (takeKey_all _ l 0 false _ HT3.out.rdr).mono ?_
      rintro e w4 ⟨kh, kk, a4, sp4, rfl, hlkh, hnx, hxv, hr4, hg4, _⟩
      have HLkh := Lib.hid hlkh
      clear hlkh
      have HT4 := Lib.hid (HT3.out.taken hr4 hg4)
      have HX4 := Lib.hid (And.intro hnx hxv)
      clear hnx hxv hr4 hg4
      go_wp2_with fail
      refine (takeMark_all _ l a4 sp4 _ HT4.out.rdr).mono ?_
      rintro e w5 ⟨mh, ms, a5, sp5, rfl, hlmh, hnx, hxv, hr4, hg4, _⟩
      have HLmh := Lib.hid hlmh
      clear hlmh
      have HT5 := Lib.hid (HT4.out.taken hr4 hg4)
      have HX5 := Lib.hid (And.intro hnx hxv)
      clear hnx hxv hr4 hg4
      obtain ⟨w6, hst, hgm, hot, hbl⟩ := store_field (P := Tryz.prog) w5 (g := m) (off := 2) (vs := hkCells kh kk) (v := hkv kh kk) (ty := 34) (hkv_cells _ _) (key_size _ _ HLkh.out) HT5.out.rec_.blk (by simp [recCells_length, hkCells_length, HLkh.out, z32_len]) (hkCells_one _ _) (row_key 4 0 z32 0 z32 0 (.slice none 0 0) kh kk rfl HLkh.out)
      have HT6 := Lib.hid (HT5.out.stored (r' := ⟨4, 0, kh, kk, z32, 0, []⟩) ⟨HLkh.out, rfl⟩ rfl hgm hot (hbl m w5 (Below.refl _ _) (Nat.le_refl _)))
      have HST6 := Lib.hid hst
      clear hst hgm hot hbl
      go_wp2_with (refine stop_at none rfl ?_)
      refine Stop.go (wpList_store_agg rfl 34 rfl rfl rfl HST6.out ?_)
      obtain ⟨w7, hst, hgm, hot, hbl⟩ := store_field (P := Tryz.prog) w6 (g := m) (off := 35) (vs := hkCells mh ms) (v := hkv mh ms) (ty := 36) (hkv_cells _ _) (mark_size _ _ HLmh.out) HT6.out.rec_.blk (by simp [recCells_length, hkCells_length, HLkh.out, HLmh.out, z32_len]) (hkCells_one _ _) (row_mark 4 0 kh kk z32 0 (.slice none 0 0) mh ms HLkh.out rfl HLmh.out)
      have HT7 := Lib.hid (HT6.out.stored (r' := ⟨4, 0, kh, kk, mh, ms, []⟩) ⟨HLkh.out, HLmh.out⟩ rfl hgm hot (hbl m w6 (Below.refl _ _) (Nat.le_refl _)))
      have HST7 := Lib.hid hst
      clear hst hgm hot hbl
      go_wp2_with (refine stop_at none rfl ?_)
      refine Stop.go (wpList_store_agg rfl 36 rfl rfl rfl HST7.out ?_)
      go_wp2_with fail
      go_meet
      case rel =>
        refine Lib.hid (MidT.intro HT7.out ?_ ?_)
        · exact take_len4 HX4.out.1 HX5.out.1
        · exact fun h => take_rec4 h HX4.out HX5.out
    by_cases k5 : kind = 5
    · subst k5
      go_wp2_with fail
      refine (takeKey_all _ l 0 false _ HT3.out.rdr).mono ?_
      rintro e w4 ⟨kh, kk, a4, sp4, rfl, hlkh, hnx, hxv, hr4, hg4, _⟩
      have HLkh := Lib.hid hlkh
      clear hlkh
      have HT4 := Lib.hid (HT3.out.taken hr4 hg4)
      have HX4 := Lib.hid (And.intro hnx hxv)
      clear hnx hxv hr4 hg4
      obtain ⟨w5, hst, hgm, hot, hbl⟩ := store_field (P := Tryz.prog) w4 (g := m) (off := 2) (vs := hkCells kh kk) (v := hkv kh kk) (ty := 34) (hkv_cells _ _) (key_size _ _ HLkh.out) HT4.out.rec_.blk (by simp [recCells_length, hkCells_length, HLkh.out, z32_len]) (hkCells_one _ _) (row_key 5 0 z32 0 z32 0 (.slice none 0 0) kh kk rfl HLkh.out)
      have HT5 := Lib.hid (HT4.out.stored (r' := ⟨5, 0, kh, kk, z32, 0, []⟩) ⟨HLkh.out, rfl⟩ rfl hgm hot (hbl m w4 (Below.refl _ _) (Nat.le_refl _)))
      have HST5 := Lib.hid hst
      clear hst hgm hot hbl
      go_wp2_with (refine stop_at none rfl ?_)
      refine Stop.go (wpList_store_agg rfl 34 rfl rfl rfl HST5.out ?_)
      go_wp2_with fail
      go_meet
      case rel =>
        refine Lib.hid (MidT.intro HT5.out ?_ ?_)
        · exact take_len5 HX4.out.1
        · exact fun h => take_rec5 h HX4.out
    by_cases k6 : kind = 6
    · subst k6
      go_wp2_with fail
      refine (takeKey_all _ l 0 false _ HT3.out.rdr).mono ?_
      rintro e w4 ⟨kh, kk, a4, sp4, rfl, hlkh, hnx, hxv, hr4, hg4, _⟩
      have HLkh := Lib.hid hlkh
      clear hlkh
      have HT4 := Lib.hid (HT3.out.taken hr4 hg4)
      have HX4 := Lib.hid (And.intro hnx hxv)
      clear hnx hxv hr4 hg4
      obtain ⟨w5, hst, hgm, hot, hbl⟩ := store_field (P := Tryz.prog) w4 (g := m) (off := 2) (vs := hkCells kh kk) (v := hkv kh kk) (ty := 34) (hkv_cells _ _) (key_size _ _ HLkh.out) HT4.out.rec_.blk (by simp [recCells_length, hkCells_length, HLkh.out, z32_len]) (hkCells_one _ _) (row_key 6 0 z32 0 z32 0 (.slice none 0 0) kh kk rfl HLkh.out)
      have HT5 := Lib.hid (HT4.out.stored (r' := ⟨6, 0, kh, kk, z32, 0, []⟩) ⟨HLkh.out, rfl⟩ rfl hgm hot (hbl m w4 (Below.refl _ _) (Nat.le_refl _)))
      have HST5 := Lib.hid hst
      clear hst hgm hot hbl
      go_wp2_with (refine stop_at none rfl ?_)
      refine Stop.go (wpList_store_agg rfl 34 rfl rfl rfl HST5.out ?_)
      go_wp2_with fail
      go_meet
      case rel =>
        refine Lib.hid (MidT.intro HT5.out ?_ ?_)
        · exact take_len6 HX4.out.1
        · exact fun h => take_rec6 h HX4.out
    by_cases k1 : kind = 1
    · subst k1
      go_wp2_with fail
      refine (num_all _ l 0 false 1 _ HT3.out.rdr (by decide) (by decide)).mono ?_
      rintro e w4 ⟨x, a4, sp4, rfl, hx, hnx, hxv, hr4, hg4⟩
      have HT4 := Lib.hid (HT3.out.taken hr4 hg4)
      have HX4 := Lib.hid (And.intro hnx hxv)
      clear hx hnx hxv hr4 hg4
      by_cases hx1 : x = 1
      · subst hx1
        go_wp2_with fail
        go_meet
        case rel =>
          refine Lib.hid (MidT.intro HT4.out ?_ ?_)
          · exact take_len1 HX4.out
          · exact fun _ => rfl
      · have hne : ((x : Int) != 1) = true := by simp; omega
        have HN := Lib.hid (show okT 1 l = false by unfold okT; rw [take_not1 HX4.out hx1]; rfl)
        clear HX4
        have HGX := Lib.hid HT4.out.row
        go_wp2_with (refine stop_at (some 18) rfl ?_)
        refine Stop.go (wpList_load_agg rfl 38 rfl rfl recTy_u rfl (rec_size _ _ _ _ _ _ _ rfl rfl) HT4.out.rec_.all_ ?_)
        refine wpList_store_agg rfl 38 rfl rfl rfl (store_row (recv_cells ..) (rec_size _ _ _ _ _ _ _ rfl rfl) HGX.out (by rw [List.size_toArray, recCells_length, recCells_length]) (recCells_one _ _ _ _ _ _ _ _ _)) ?_
        go_wp2_with fail
        refine ret_rec rfl rfl rfl rfl rfl rfl (setRow_heap _ _ _ _ _ _ HGX.out) ?_
        exact takeTo_intro (r := ⟨1, 0, z32, 0, z32, 0, []⟩) HN.out.symm ⟨rfl, rfl⟩ (KeysOwn.nil _ _) (fun h => by rw [HN.out] at h; cases h) (below_setRow HT4.out.below (Nat.le_refl _) _)
    by_cases k7 : kind = 7
    · subst k7
      go_wp2_with fail
      go_loopw [] (fun wr => ∃ (a : Nat) (sp : Bool) (xs : List KeyD) (A : Option Addr) (n c : Nat), Hid (AtT w wr m g l a sp ⟨7, 0, z32, 0, z32, 0, xs⟩ (.slice A n c)) ∧ Hid (Mid7 l a sp xs)) (fun wr => rdLeft l.length g wr)
      case atStart => exact ⟨0, false, [], none, 0, 0, HT3.out, Lib.hid ⟨fun _ => ⟨rfl, Nat.zero_le _, rfl⟩, (fun h => nomatch h), Nat.zero_le _⟩⟩
      case round =>
        obtain ⟨a, sp, xs, A7, n7, c7, HT, H7⟩ := hrel
        go_wp2_with fail
        refine (left_all _ l a sp _ HT.out.rdr).mono ?_
        rintro e w5 ⟨rfl, hb5, hs5⟩
        have HT5 := Lib.hid (HT.out.later hb5)
        have H70 := Lib.hid (mid7_len H7.out)
        obtain ⟨E, hE⟩ : ∃ E, E = (if sp then 0 else l.length - a) := ⟨_, rfl⟩
        rw [← hE] at H70 ⊢
        have HE := Lib.hid hE
        clear hb5 hs5 hE
        by_cases h0 : E = 0
        · subst h0
          go_wp2_with fail
          go_meet
          case rel =>
            exact Lib.hid (MidT.intro HT5.out (H70.out trivial).1 (H70.out trivial).2)
        · have hE1 : 0 < E := by omega
          go_wp2_with fail
          refine wpI_inv [3, 4, 5] [1] [] (fun w' => w'.cell? ⟨m, 68, none⟩ = some (.slice A7 n7 c7)) HT5.out.rec_.keys_ (by kernel_rfl) (by kernel_rfl) ?_
          refine wpI_seg 3 (by decide) (fun Q0 hQ0 => ?_)
          simp only [List.take_succ_cons, List.take_zero]
          have HC5 := Lib.hid HT5.out.rec_.keys_
          have hc5 := HC5.out
          go_wp2_with fail
          try simp only [List.drop_succ_cons, List.drop_zero]
          refine wpI_one (fun Q1 hQ1 => ?_)
          go_wp2_with fail
          have HT5d := Lib.hid (HT5.out.later ((Below.refl _ _).drew))
          refine (takeKey_all _ l a sp _ HT5d.out.rdr).mono ?_
          rintro e w6 ⟨kh, kk, a6, sp6, rfl, hlkh, hnx, hxv, hr6, hg6, hkb6⟩
          have HLkh := Lib.hid hlkh
          have HKB := Lib.hid (show -9223372036854775808 ≤ kk ∧ kk ≤ 9223372036854775807 by omega)
          have HT6 := Lib.hid (HT5d.out.taken hr6 hg6)
          have HX6 := Lib.hid (And.intro hnx hxv)
          clear hlkh hnx hxv hr6 hg6 hkb6
          go_wp2_with fail
          refine ⟨HT6.out.rec_.keys_, ?_⟩
          refine wpI_one (fun Q2 hQ2 => ?_)
          refine wpList_build_one rfl 28 34 rfl rfl (vs := hkCells kh kk) Tryz.underlying28 (z := hkv z32 0) (key_info kh kk HLkh.out) (hkv_cells _ _) (by rw [hkCells_length]; omega) (by rw [hkCells_length, HLkh.out]; decide) ?_
          have hb7 : Below w6.heap.size w6 (w6.alloc (.cells (hkCells kh kk).toArray 34)) := (Below.refl _ _).alloc (Nat.le_refl _) _
          have HT7 := Lib.hid (HT6.out.later hb7)
          have HG7 := Lib.hid (Go.heap_alloc_new w6 (.cells (hkCells kh kk).toArray 34))
          refine wpList_nil (hQ2 _ _ ⟨HT7.out.rec_.keys_, ?_⟩)
          generalize hac : Act.put _ _ _ = a9
          simp [Act.put] at hac
          subst hac
          have HM6 := Lib.hid (HT6.out.rec_.lt)
          have hs7 : (w6.alloc (.cells (hkCells kh kk).toArray 34)).heap.size = w6.heap.size + 1 := Array.size_push _
          have hxl := H7.out.2.2
          generalize w6.alloc (.cells (hkCells kh kk).toArray 34) = w7 at *
          refine wpI_one (fun Q3 hQ3 => ?_)
          have hn7 : n7 = xs.length := HT7.out.keys.sl.n_eq
          subst hn7
          refine wpList_app key_app rfl rfl rfl rfl (show w7.ownsRow (m + 1) 34 33 (.slice A7 xs.length c7) xs.length (xs.flatMap fun x => hkCells x.1 x.2) from HT7.out.keys.1) (Rd.row (B := w7.heap.size) HG7.out (by rw [hs7]; omega)) (m := 1) (by rw [hkCells_length, HLkh.out]) (hkCells_one _ _) ?h63 ?hby ?hbase ?_
          case h63 => simp only [maxLen]; omega
          case hby => omega
          case hbase => have := HM6.out; omega
          intro v8 w8 hown8 hg8 _ _
          have hm7 : m + 1 ≤ w7.heap.size := by have := HM6.out; omega
          have hb8 : Below (m + 1) w7 w8 := grown_below ((Below.refl _ _).mono hm7) hg8 HT7.out.keys.1 (Nat.le_refl _) hm7
          obtain ⟨A8, c8, rfl, _, _⟩ := own_form hown8
          have HO8 := Lib.hid hown8
          have hm8 : w8.heap[m]? = some (.cells (recCells 7 0 z32 0 z32 0 (.slice A7 xs.length c7)).toArray 38 (0, 0)) := (hb8.block m (Nat.lt_succ_self _)).trans HT7.out.rec_.blk
          have HB8 := Lib.hid hb8
          have hc8 : w8.cell? ⟨m, 68, none⟩ = some (.slice A7 xs.length c7) := (RecAt.mk hm8 rfl rfl).keys_
          refine wpList_nil (hQ3 _ _ ⟨hc8, ?_⟩)
          generalize hac : Act.put _ _ _ = a9
          simp [Act.put] at hac
          subst hac
          refine wpI_seg 2 (by decide) (fun Q4 hQ4 => ?_)
          simp only [List.take_succ_cons, List.take_zero]
          obtain ⟨w9, hst, hgm, hot, hbl⟩ := store_field (P := Tryz.prog) w8 (g := m) (off := 68) (vs := [.slice A8 (xs.length + 1) c8]) (v := .slice A8 (xs.length + 1) c8) (ty := 28) rfl (by kernel_rfl) hm8 (by simp [recCells_length, z32_len]) (fun u hu => by rw [List.mem_singleton.1 hu]; rfl) (row_keys 7 0 z32 0 z32 0 (.slice A7 xs.length c7) (.slice A8 (xs.length + 1) c8) rfl rfl)
          have HST9 := Lib.hid hst
          have HT9 := Lib.hid (HT7.out.pushed (ks := xs ++ [(kh, kk)]) HB8.out (v8 := .slice A8 (xs.length + 1) c8) ⟨by simpa using HO8.out, fun x hx => by
            rcases List.mem_append.1 hx with hx | hx
            · exact HT7.out.keys.2 x hx
            · rw [List.mem_singleton.1 hx]
              exact ⟨HLkh.out, HKB.out⟩⟩ hgm hot (hbl m w8 (Below.refl _ _) (Nat.le_refl _)))
          have HS7 := Lib.hid (mid7_step H7.out (by rw [← HE.out]; exact hE1) HX6.out)
          have HL0 := Lib.hid (rdLeft_at HT.out.rdr)
          have HL9 := Lib.hid (rdLeft_at HT9.out.rdr)
          clear hst hgm hot hbl
          go_wp2_with (refine stop_at none rfl ?_)
          refine Stop.go (wpList_store_agg rfl 28 rfl rfl rfl HST9.out ?_)
          refine wpList_nil (hQ4 _ _ ?_)
          generalize hac : Act.put _ _ _ = a9
          simp [Act.put] at hac
          subst hac
          simp only [List.drop_succ_cons, List.drop_zero]
          refine wpI_end ⟨by rfl, ⟨(fun _ => ⟨_, fun w' hI => load_slice Tryz.underlying28 hI⟩), trivial⟩, ?_⟩
          go_wp2_with fail
          refine ⟨⟨a6, sp6, xs ++ [(kh, kk)], A8, _, c8, HT9, Lib.hid HS7.out.1⟩, ?_⟩
          rw [HL0.out, HL9.out]
          exact HS7.out.2
    go_wp2_with fail
    go_meet
    case rel =>
      refine Lib.hid (MidT.intro HT3.out ?_ ?_)
      · unfold lenT
        rw [if_neg k1, if_neg k2, if_neg k3, if_neg k4, if_neg (by omega), if_neg k7]
        show (true && decide (0 = l.length)) = _
        simp [eq_comm]
      · intro _
        unfold decR
        rw [if_neg k2, if_neg k3, if_neg k4, if_neg (by omega), if_neg k7]
  case rest =>
    obtain ⟨r, A4, n4, c4, a, sp, ha, hsl, hrd, hg, hb, hall, hdec⟩ := hcut.out
    clear hcut
    have HA := Lib.hid ha
    have HKO := Lib.hid hsl
    have HSL := Lib.hid hsl.sl
    have HRD := Lib.hid hrd
    have HG := Lib.hid hg
    have HB := Lib.hid hb
    have HALL := Lib.hid hall
    have HDEC := Lib.hid hdec
    have HHS := Lib.hid (show Hs r from ⟨ha.hk, ha.hm⟩)
    clear ha hsl hrd hg hb hall hdec
    go_wp2_with fail
    refine wpT_grow [2, 5] [0, 4] [] (by kernel_rfl) (by kernel_rfl) ?_
    refine wpT_seg 1 (by decide) (fun Q1 hQ1 => ?_)
    simp only [List.take_succ_cons, List.take_zero]
    refine wpList_load_agg rfl 38 rfl rfl recTy_u rfl (rec_size _ _ _ _ _ _ _ HHS.out.1 HHS.out.2) HA.out.all_ ?_
    refine hQ1 _ _ ?_
    simp only [List.drop_succ_cons, List.drop_zero]
    generalize hac : Act.put _ _ _ = a9
    simp [Act.put] at hac
    subst hac
    refine wpT_seg 1 (by decide) (fun Q1 hQ1 => ?_)
    simp only [List.take_succ_cons, List.take_zero]
    go_wp2_with fail
    try simp only [List.drop_succ_cons, List.drop_zero]
    refine wpT_one (fun Q1 hQ1 => ?_)
    go_wp2_with fail
    refine (all_all _ l a sp _ HRD.out.drew).mono ?_
    rw [HALL.out]
    rintro e w5 ⟨rfl, hb5, hs5⟩
    have HB5 := Lib.hid (below_drew hb5)
    have HD5 := Lib.hid hb5
    have HSZ := Lib.hid (show w5.heap.size = wc.heap.size from hs5)
    clear hb5 hs5
    cases hL : lenT kind l
    · have HOK := Lib.hid (show okT kind l = false by unfold okT; rw [hL]; rfl)
      clear hL
      have HGX := Lib.hid ((HB5.out.block _ (Array.getElem?_eq_some_iff.1 HG.out).1).trans HG.out)
      go_wp2_with fail
      refine ⟨HD5.out, ?_⟩
      refine wpT_seg 1 (by decide) (fun Q2 hQ2 => ?_)
      simp only [List.take_succ_cons, List.take_zero]
      go_wp2_with fail
      try simp only [List.drop_succ_cons, List.drop_zero]
      refine wpT_skip rfl ?_
      refine wpT_skip rfl ?_
      generalize hac : Act.put _ _ _ = a9
      simp [Act.put] at hac
      subst hac
      refine wpT_seg 1 (by decide) (fun Q3 hQ3 => ?_)
      simp only [List.take_succ_cons, List.take_zero]
      go_wp2_with fail
      try simp only [List.drop_succ_cons, List.drop_zero]
      refine wpT_seg 1 (by decide) (fun Q4 hQ4 => ?_)
      simp only [List.take_succ_cons, List.take_zero]
      refine wpList_store_agg rfl 38 rfl rfl rfl (store_row (recv_cells ..) (rec_size _ _ _ _ _ _ _ HHS.out.1 HHS.out.2) HGX.out (by rw [List.size_toArray, recCells_length, recCells_length, HHS.out.1, HHS.out.2]; rfl) (recCells_one _ _ _ _ _ _ _ _ _)) ?_
      refine hQ4 _ _ ?_
      simp only [List.drop_succ_cons, List.drop_zero]
      generalize hac : Act.put _ _ _ = a9
      simp [Act.put] at hac
      subst hac
      refine wpT_seg 1 (by decide) (fun Q4 hQ4 => ?_)
      simp only [List.take_succ_cons, List.take_zero]
      go_wp2_with fail
      try simp only [List.drop_succ_cons, List.drop_zero]
      refine wpT_end ⟨by rfl, ⟨(fun _ => ⟨_, _, rfl, by simpa using HA.out.all_ 0 _ rfl⟩), Text.no_want rfl, trivial⟩, ?_⟩
      go_wp2_with fail
      refine ret_rec rfl HHS.out.1 HHS.out.2 rfl rfl rfl (setRow_heap _ _ _ _ _ _ HGX.out) ?_
      have HKX := ((HKO.out.later HB5.out).other (w' := w5.setRow w.heap.size (recCells r.kind r.seq r.kh r.kk r.mh r.ms (.slice A4 n4 c4)).toArray) (Nat.lt_succ_self _) fun k hk => setRow_other _ _ _ _ hk)
      exact takeTo_intro HOK.out.symm HHS.out HKX (fun h => by rw [HOK.out] at h; cases h) (below_setRow (HB.out.trans (HB5.out.mono HB.out.size)) (Nat.le_refl _) _)
    · have HOK := Lib.hid (show okT kind l = rightB r by unfold okT; rw [hL, ← HDEC.out hL]; rfl)
      have HDL := Lib.hid (HDEC.out hL)
      clear hL
      have HA5 := Lib.hid (HA.out.later HB5.out)
      have HSL5 := Lib.hid (HSL.out.below HB5.out)
      go_wp2_with fail
      refine ⟨HD5.out, ?_⟩
      refine wpT_seg 1 (by decide) (fun Q2 hQ2 => ?_)
      simp only [List.take_succ_cons, List.take_zero]
      go_wp2_with fail
      try simp only [List.drop_succ_cons, List.drop_zero]
      refine wpT_seg 1 (by decide) (fun Q2 hQ2 => ?_)
      simp only [List.take_succ_cons, List.take_zero]
      refine wpList_load_aggG (by rfl) 38 rfl rfl recTy_u rfl (rec_size _ _ _ _ _ _ _ HHS.out.1 HHS.out.2) HA5.out.all_ ?_
      refine hQ2 _ _ ?_
      simp only [List.drop_succ_cons, List.drop_zero]
      generalize hac : Act.put _ _ _ = a9
      simp [Act.put] at hac
      subst hac
      refine wpT_one (fun Q2 hQ2 => ?_)
      go_wp2_with fail
      refine (right32_any r A4 n4 c4 wc.heap.size _ HHS.out HSL5.out HB5.out.size).mono ?_
      rw [rightP_eq]
      obtain ⟨rb, hrb⟩ : ∃ rb, rb = rightB r := ⟨_, rfl⟩
      rw [← hrb] at HOK ⊢
      have HRB := Lib.hid hrb
      clear hrb
      rintro e w6 ⟨rfl, hb6⟩
      have HB6 := Lib.hid (HB5.out.trans (hb6.mono HB5.out.size))
      have HD6 := Lib.hid (HD5.out.trans (hb6.mono HD5.out.size))
      have HGX := Lib.hid ((HB6.out.block _ (Array.getElem?_eq_some_iff.1 HG.out).1).trans HG.out)
      clear hb6
      go_wp2_with fail
      refine ⟨HD6.out, ?_⟩
      refine wpT_seg 1 (by decide) (fun Q3 hQ3 => ?_)
      simp only [List.take_succ_cons, List.take_zero]
      go_wp2_with fail
      try simp only [List.drop_succ_cons, List.drop_zero]
      refine wpT_seg 1 (by decide) (fun Q4 hQ4 => ?_)
      simp only [List.take_succ_cons, List.take_zero]
      refine wpList_store_agg rfl 38 rfl rfl rfl (store_row (recv_cells ..) (rec_size _ _ _ _ _ _ _ HHS.out.1 HHS.out.2) HGX.out (by rw [List.size_toArray, recCells_length, recCells_length, HHS.out.1, HHS.out.2]; rfl) (recCells_one _ _ _ _ _ _ _ _ _)) ?_
      refine hQ4 _ _ ?_
      simp only [List.drop_succ_cons, List.drop_zero]
      generalize hac : Act.put _ _ _ = a9
      simp [Act.put] at hac
      subst hac
      refine wpT_seg 1 (by decide) (fun Q4 hQ4 => ?_)
      simp only [List.take_succ_cons, List.take_zero]
      go_wp2_with fail
      try simp only [List.drop_succ_cons, List.drop_zero]
      refine wpT_end ⟨by rfl, ⟨(fun _ => ⟨_, _, rfl, by simpa using HA.out.all_ 0 _ rfl⟩), (fun _ => ⟨_, _, rfl, by simpa using HA.out.all_ 0 _ rfl⟩), trivial⟩, ?_⟩
      go_wp2_with fail
      refine ret_rec rfl HHS.out.1 HHS.out.2 rfl rfl rfl (setRow_heap _ _ _ _ _ _ HGX.out) ?_
      have HKX := ((HKO.out.later HB6.out).other (w' := w6.setRow w.heap.size (recCells r.kind r.seq r.kh r.kk r.mh r.ms (.slice A4 n4 c4)).toArray) (Nat.lt_succ_self _) fun k hk => setRow_other _ _ _ _ hk)
      exact takeTo_intro HOK.out.symm HHS.out HKX (fun _ => HDL.out) (below_setRow (HB.out.trans (HB6.out.mono HB.out.size)) (Nat.le_refl _) _)
end Go.Proofs.YtplbcbamnjnhlaaGreatDoor
