/- Texts of this proof joined: BookLaw, Hist0, Drawn, LessD. -/
import Derived.Test.YtplbcbamnjnhlaaGreatDoorMT00
import Derived.Test.YtplbcbamnjnhlaaGreatDoorMT19
import Derived.Test.YtplbcbamnjnhlaaGreatDoorMT20
import Derived.Test.YtplbcbamnjnhlaaGreatDoorMT11
import Derived.Sort.Walk0
import Derived.Test.YtplbcbamnjnhlaaGreatDoorMT04
import Derived.Deep.Draws
import Derived.Sort.Grow
import Derived.Test.YtplbcbamnjnhlaaGreatDoorMT09
set_option maxRecDepth 100000
set_option maxHeartbeats 40000000
namespace Go.Proofs.YtplbcbamnjnhlaaGreatDoor
open Go.RowKit

def k32 (k : KeyD) : K32 := if h : k.1.length = 32 then ⟨k, h⟩ else default
theorem qap {k : KeyD} (h : k.1.length = 32) : (k32 k).1 = k := by unfold k32; rw [dif_pos h]
theorem qmj (k : K32) : k32 k.1 = k := by unfold k32; rw [dif_pos k.2]
theorem k32_mk (k : K32) : k32 (k.1.1, k.1.2) = k := qmj k
def eb (a b : K32) : Bool := ij a.1.1 a.1.2 b.1.1 b.1.2
def okK (k : K32) : Prop := kOk k.1.2 = true
theorem qan (a b : K32) : eb a b = decide (dc a.1.1 a.1.2 < dc b.1.1 b.1.2) := by unfold eb ij; exact Go.Proofs.bytesLess_eq _ _
theorem um (a : K32) : eb a a = false := by rw [qan]; simp
theorem wj {a b c : K32} (h1 : eb a b = true) (h2 : eb b c = true) : eb a c = true := by
 rw [qan] at *
 simp only [decide_eq_true_eq] at *
 exact List.lt_trans h1 h2
theorem qjn {a b c : K32} (h1 : eb a b = false) (h2 : eb b c = false) : eb a c = false := by
 rw [qan] at *
 simp only [decide_eq_false_iff_not, List.not_lt] at *
 exact List.le_trans h2 h1
theorem qlz {a b : K32} (h : eb a b = true) : eb b a = false := by
 cases h2 : eb b a with
 |false => rfl
 |true => have := wj h h2; rw [um] at this; cases this
theorem qcq {a b : K32} (ha : okK a) (hb : okK b) (h1 : eb a b = false) (h2 : eb b a = false) : a = b := by
 rw [qan] at *
 simp only [decide_eq_false_iff_not, List.not_lt] at *
 have he := List.le_antisymm h2 h1
 have e1 := qfl a.1.1 a.1.2 a.2
 have e2 := qfl b.1.1 b.1.2 b.2
 rw [he, e2, if_pos (show kOk a.1.2 = true from ha), if_pos (show kOk b.1.2 = true from hb)] at e1
 injection e1 with e1
 exact Subtype.ext e1.symm

def ins {β : Type} (f : β → Bool) (x : β) : List β → List β
 |[] => [x]
 |y :: r => if (y :: r).all f then x :: y :: r else y :: ins f x r
theorem pe {β : Type} (f : β → Bool) (x : β) : ∀ l : List β, (ins f x l).Perm (x :: l)
 |[] => List.Perm.refl _
 |y :: r => by
  unfold ins
  split
  ·exact List.Perm.refl _
  ·exact ((pe f x r).cons y).trans (List.Perm.swap x y r)
theorem qpc {β : Type} (f : β → Bool) (x : β) : ∀ (l : List β) (a : Nat), a ≤ l.length → (∀ i y, a ≤ i → l[i]? = some y → f y = true) → (a = 0 ∨ ∃ y, l[a - 1]? = some y ∧ f y = false) → ins f x l = l.take a ++ x :: l.drop a
 |[], a, ha, _, _ => by simp at ha; subst ha; rfl
 |y :: r, 0, _, h1, _ => by
  unfold ins
  rw [if_pos]
  ·rfl
  ·rw [List.all_eq_true]
   intro z hz
   obtain ⟨i, hi⟩ := List.mem_iff_getElem?.1 hz
   exact h1 i z (Nat.zero_le _) hi
 |y :: r, a + 1, ha, h1, h2 => by
  unfold ins
  rw [if_neg]
  ·rw [qpc f x r a (by simpa using ha) (fun i z hi hz => h1 (i + 1) z (by omega) (by simpa using hz)) ?_]
   ·rfl
   ·rcases h2 with h2 | ⟨z, hz, hf⟩
    ·omega
    ·cases a with
     |zero => left; rfl
     |succ a => right; exact ⟨z, by simpa using hz, hf⟩
  ·intro hall
   rw [List.all_eq_true] at hall
   rcases h2 with h2 | ⟨z, hz, hf⟩
   ·omega
   ·have := hall z (List.mem_iff_getElem?.2 ⟨_, hz⟩)
    rw [hf] at this
    cases this
theorem zd {β : Type} (g : β → K32) (x : β) : ∀ l : List β, (∀ y ∈ l, okK (g y)) → okK (g x) → (∀ y ∈ l, g y ≠ g x) → l.Pairwise (fun a b => eb (g a) (g b) = true) →
  (ins (fun y => eb (g x) (g y)) x l).Pairwise (fun a b => eb (g a) (g b) = true)
 |[], _, _, _, _ => by simp [ins]
 |y :: r, h1, h2, h3, h4 => by
  rw [List.pairwise_cons] at h4
  unfold ins
  split
  ·rename_i hall
   rw [List.all_eq_true] at hall
   rw [List.pairwise_cons, List.pairwise_cons]
   exact ⟨fun z hz => hall z hz, h4⟩
  ·rename_i hall
   rw [List.pairwise_cons]
   refine ⟨fun z hz => ?_, zd g x r (fun z hz => h1 z (by simp [hz])) h2 (fun z hz => h3 z (by simp [hz])) h4.2⟩
   rcases List.mem_cons.1 ((pe _ x r).mem_iff.1 hz) with rfl | hz
   ·have hex : ∃ u ∈ y :: r, eb (g z) (g u) = false := by
     simp only [List.all_eq_true] at hall
     exact Classical.byContradiction fun hn => hall fun u hu => by
      cases hc : eb (g z) (g u) with
      |true => rfl
      |false => exact absurd ⟨u, hu, hc⟩ hn
    obtain ⟨u, hu, hf⟩ := hex
    have hlt : eb (g u) (g z) = true := by
     cases hc : eb (g u) (g z) with
     |true => rfl
     |false => exact absurd (qcq (h1 u hu) h2 hc hf) (h3 u hu)
    rcases List.mem_cons.1 hu with rfl | hu
    ·exact hlt
    ·exact wj (h4.1 u hu) hlt
   ·exact h4.1 z hz
structure bj where
 head : Bool
 live : List (K32 × K32)
 pins : List K32
 ints : List (Int × (K32 × K32))
 next : Int
def az : bj := ⟨false, [], [], [], 0⟩
def rkey (r : RecD) : K32 := k32 (r.kh, r.kk)
def ya (r : RecD) : K32 := k32 (r.mh, r.ms)
def outL (l : List (K32 × K32)) (k : K32) : List (K32 × K32) := l.filter fun p => decide (p.1 ≠ k)
def putL (k m : K32) (l : List (K32 × K32)) : List (K32 × K32) := ins (fun p => eb k p.1) (k, m) (outL l k)
def iw (l : List K32) (k : K32) : List K32 := l.filter fun p => decide (p ≠ k)
def pinL (k : K32) (l : List K32) : List K32 := ins (fun p => eb k p) k (iw l k)
def mc (l : List (Int × (K32 × K32))) (s : Int) : Option (Int × (K32 × K32)) := l.find? fun p => decide (p.1 = s)
def jz (l : List (Int × (K32 × K32))) (s : Int) : List (Int × (K32 × K32)) := l.eraseP fun p => decide (p.1 = s)
def mayD (b : bj) (r : RecD) : Bool :=
 au r && !(b.head == decide (r.kind = 1)) && (if r.kind = 2 then decide (b.next ≤ r.seq) else if r.kind = 3 then (mc b.ints r.seq).isSome else true)
def fa (b : bj) (r : RecD) : bj :=
 if r.kind = 1 then { b with head := true }
 else if r.kind = 2 then { b with ints := b.ints ++ [(r.seq, (rkey r, ya r))], next := r.seq + 1 }
 else if r.kind = 3 then (match mc b.ints r.seq with | some i => { b with live := putL i.2.1 i.2.2 b.live, ints := jz b.ints r.seq } | none => b)
 else if r.kind = 4 then { b with live := putL (rkey r) (ya r) b.live }
 else if r.kind = 5 then { b with pins := pinL (rkey r) b.pins }
 else if r.kind = 6 then { b with pins := iw b.pins (rkey r) }
 else { b with live := r.keys.foldl (fun l k => outL l (k32 k)) b.live }
def io (b : bj) (r : RecD) : bj := if mayD b r then fa b r else b
def fj : RecD := ⟨1, 0, z32, 0, z32, 0, []⟩
def mb (p : K32 × K32) : RecD := ⟨4, 0, p.1.1.1, p.1.1.2, p.2.1.1, p.2.1.2, []⟩
def pinR (k : K32) : RecD := ⟨5, 0, k.1.1, k.1.2, z32, 0, []⟩
def qer (b : bj) : List RecD := fj :: (b.live.map mb ++ b.pins.map pinR)
def yz (b : bj) : List UInt8 := (qer b).flatMap ca
def okM (m : K32) : Prop := 0 ≤ m.1.2 ∧ m.1.2 ≤ 1048576
structure Good (b : bj) : Prop where
 live : b.live.Pairwise fun x y => eb x.1 y.1 = true
 lok : ∀ p ∈ b.live, okK p.1 ∧ okM p.2
 pins : b.pins.Pairwise fun x y => eb x y = true
 pok : ∀ k ∈ b.pins, okK k
 ints : (b.ints.map (·.1)).Nodup
 iok : ∀ p ∈ b.ints, p.1 < b.next ∧ okK p.2.1 ∧ okM p.2.2
 nok : 0 ≤ b.next ∧ b.next ≤ 1099511627777
theorem good0 : Good az := ⟨List.Pairwise.nil, (fun _ h => nomatch h), List.Pairwise.nil, (fun _ h => nomatch h), List.Pairwise.nil, (fun _ h => nomatch h), by simp [az]⟩
theorem vt (l : List (K32 × K32)) (k : K32) : (outL l k).Sublist l := List.filter_sublist
theorem qhv {k m : K32} {l : List (K32 × K32)} (hk : okK k) (hm : okM m) (h1 : l.Pairwise fun x y => eb x.1 y.1 = true) (h2 : ∀ p ∈ l, okK p.1 ∧ okM p.2) :
  (putL k m l).Pairwise (fun x y => eb x.1 y.1 = true) ∧ ∀ p ∈ putL k m l, okK p.1 ∧ okM p.2 := by
 constructor
 ·exact zd (fun p : K32 × K32 => p.1) (k, m) (outL l k) (fun y hy => (h2 y ((vt l k).subset hy)).1) hk (fun y hy => by
   have := (List.mem_filter.1 hy).2
   simpa using this) (h1.sublist (vt l k))
 ·intro p hp
  rcases List.mem_cons.1 ((pe _ _ _).mem_iff.1 hp) with rfl | hp
  ·exact ⟨hk, hm⟩
  ·exact h2 p ((vt l k).subset hp)
theorem qte {k : K32} {l : List K32} (hk : okK k) (h1 : l.Pairwise fun x y => eb x y = true) (h2 : ∀ p ∈ l, okK p) :
  (pinL k l).Pairwise (fun x y => eb x y = true) ∧ ∀ p ∈ pinL k l, okK p := by
 constructor
 ·exact zd (fun p : K32 => p) k (iw l k) (fun y hy => h2 y (List.filter_sublist.subset hy)) hk (fun y hy => by
   have := (List.mem_filter.1 hy).2
   simpa using this) (h1.sublist List.filter_sublist)
 ·intro p hp
  rcases List.mem_cons.1 ((pe _ _ _).mem_iff.1 hp) with rfl | hp
  ·exact hk
  ·exact h2 p (List.filter_sublist.subset hp)
theorem pf : ∀ (ks : List KeyD) (l : List (K32 × K32)), (ks.foldl (fun l k => outL l (k32 k)) l).Sublist l
 |[], _ => List.Sublist.refl _
 |k :: ks, l => (pf ks _).trans (vt l (k32 k))
theorem find_mem {l : List (Int × (K32 × K32))} {s : Int} {i : Int × (K32 × K32)} (h : mc l s = some i) : i ∈ l ∧ i.1 = s := by
 unfold mc at h
 exact ⟨List.mem_of_find?_eq_some h, by simpa using List.find?_some h⟩
theorem vn {r : RecD} (h : au r = true) : (r.kind = 2 ∨ r.kind = 3 → 0 ≤ r.seq ∧ r.seq ≤ 1099511627776) ∧ (r.kind = 2 ∨ r.kind = 4 → kOk r.kk = true ∧ 0 ≤ r.ms ∧ r.ms ≤ 1048576) ∧ (r.kind = 5 ∨ r.kind = 6 → kOk r.kk = true) ∧ (r.kind ≠ 7 → r.keys = []) ∧ 1 ≤ r.kind ∧ r.kind ≤ 7 := by
 simp only [au, pk, lr] at h
 grind
theorem qce {b : bj} {r : RecD} (h : Good b) (hr : Hs r) (hm : mayD b r = true) : Good (fa b r) := by
 simp only [mayD, Bool.and_eq_true] at hm
 obtain ⟨⟨hR, _⟩, hM⟩ := hm
 obtain ⟨p1, p2, p3, _, _, _⟩ := vn hR
 have hkk : (rkey r).1 = (r.kh, r.kk) := qap hr.1
 have hmm : (ya r).1 = (r.mh, r.ms) := qap hr.2
 have okk : kOk r.kk = true → okK (rkey r) := fun h => by unfold okK; rw [hkk]; exact h
 have okm : 0 ≤ r.ms ∧ r.ms ≤ 1048576 → okM (ya r) := fun h => by unfold okM; rw [hmm]; exact h
 unfold fa
 split
 ·exact ⟨h.live, h.lok, h.pins, h.pok, h.ints, h.iok, h.nok⟩
 split
 ·rename_i h1 h2
  rw [if_pos h2] at hM
  have hM : b.next ≤ r.seq := by simpa using hM
  have q1 := p1 (Or.inl h2)
  have q2 := p2 (Or.inl h2)
  refine ⟨h.live, h.lok, h.pins, h.pok, ?_, ?_, ?_⟩
  ·simp only [List.map_append, List.map_cons, List.map_nil]
   rw [List.nodup_append]
   refine ⟨h.ints, by simp, fun a ha c hc => ?_⟩
   obtain ⟨x, hx, rfl⟩ := List.mem_map.1 ha
   have := (h.iok x hx).1
   simp at hc
   omega
  ·intro p hp
   rcases List.mem_append.1 hp with hp | hp
   ·have := h.iok p hp
    exact ⟨by simp only; omega, this.2⟩
   ·simp at hp
    subst hp
    exact ⟨by simp only; omega, okk q2.1, okm q2.2⟩
  ·simp only; omega
 split
 ·split
  ·rename_i i hi
   obtain ⟨hi1, hi2⟩ := find_mem hi
   have q := h.iok i hi1
   have hp := qhv q.2.1 q.2.2 h.live h.lok
   have hs : (jz b.ints r.seq).Sublist b.ints := List.eraseP_sublist
   exact ⟨hp.1, hp.2, h.pins, h.pok, (hs.map _).nodup h.ints, fun p hp => h.iok p (hs.subset hp), h.nok⟩
  ·exact h
 split
 ·rename_i h4
  have q := p2 (Or.inr h4)
  have hp := qhv (okk q.1) (okm q.2) h.live h.lok
  exact ⟨hp.1, hp.2, h.pins, h.pok, h.ints, h.iok, h.nok⟩
 split
 ·rename_i h5
  have hp := qte (okk (p3 (Or.inl h5))) h.pins h.pok
  exact ⟨h.live, h.lok, hp.1, hp.2, h.ints, h.iok, h.nok⟩
 split
 ·have hs : (iw b.pins (rkey r)).Sublist b.pins := List.filter_sublist
  exact ⟨h.live, h.lok, h.pins.sublist hs, fun k hk => h.pok k (hs.subset hk), h.ints, h.iok, h.nok⟩
 ·have hs := pf r.keys b.live
  exact ⟨h.live.sublist hs, fun p hp => h.lok p (hs.subset hp), h.pins, h.pok, h.ints, h.iok, h.nok⟩
theorem qcz {b : bj} {r : RecD} (h : Good b) (hr : Hs r) : Good (io b r) := by
 unfold io
 split
 ·rename_i hm
  exact qce h hr hm
 ·exact h
theorem un : ke fj := ⟨by decide, ⟨by decide, by decide⟩, (fun _ h => nomatch h)⟩
theorem qff {p : K32 × K32} (h : okK p.1 ∧ okM p.2) : ke (mb p) := by
 refine ⟨?_, ⟨p.1.2, p.2.2⟩, (fun _ h => nomatch h)⟩
 have h1 : kOk p.1.1.2 = true := h.1
 have h2 := h.2
 unfold okM at h2
 simp [au, mb, lr, h1, h2]
theorem qhx {k : K32} (h : okK k) : ke (pinR k) := by
 refine ⟨?_, ⟨k.2, bg⟩, (fun _ h => nomatch h)⟩
 have h1 : kOk k.1.2 = true := h
 simp [au, pinR, h1]
theorem yo {b : bj} (h : Good b) : ∀ r ∈ qer b, ke r := by
 intro r hr
 rcases List.mem_cons.1 hr with rfl | hr
 ·exact un
 rcases List.mem_append.1 hr with hr | hr
 ·obtain ⟨p, hp, rfl⟩ := List.mem_map.1 hr
  exact qff (h.lok p hp)
 ·obtain ⟨k, hk, rfl⟩ := List.mem_map.1 hr
  exact qhx (h.pok k hk)
theorem qss : qrx [] := fun n hn => by
 obtain ⟨hn1, _⟩ := hn
 simp at hn1
theorem qis : ∀ rs : List RecD, (∀ r ∈ rs, ke r) → jq (rs.flatMap ca) rs (rs.flatMap ca).length
 |[], _ => jq.nil qss
 |r :: rs, h => by
  have := (qis rs fun x hx => h x (by simp [hx])).cons (h r (by simp))
  rw [List.flatMap_cons, List.length_append]
  exact this
theorem qqb {b : bj} (h : Good b) : jq (yz b) (qer b) (yz b).length := qis _ (yo h)
theorem zk {α : Type} [DecidableEq α] {l : List (α × Value)} (hn : (l.map (·.1)).Nodup) {k : α} {v : Value} : ka l k = some v ↔ (k, v) ∈ l := by
 induction l with
 |nil => simp [ka]
 |cons p r ih =>
  rw [List.map_cons, List.nodup_cons] at hn
  unfold ka at *
  rw [List.find?_cons]
  by_cases hp : p.1 = k
  ·subst hp
   simp only [decide_true, Option.map_some, Option.some.injEq, List.mem_cons]
   constructor
   ·rintro rfl; left; rfl
   ·rintro (h | h)
    ·rw [← h]
    ·exact absurd (List.mem_map.2 ⟨_, h, rfl⟩) hn.1
  ·simp only [hp, decide_false, List.mem_cons]
   rw [ih hn.2]
   constructor
   ·exact Or.inr
   ·rintro (h | h)
    ·exact absurd (by rw [← h]) hp
    ·exact h
theorem qgq {α : Type} [DecidableEq α] {l : List (α × Value)} {k : α} : ka l k = none ↔ ∀ p ∈ l, p.1 ≠ k := by
 unfold ka
 rw [Option.map_eq_none_iff, List.find?_eq_none]
 simp
theorem zl {α : Type} [DecidableEq α] {l m : List (α × Value)} (h : l.Perm m) (hn : (m.map (·.1)).Nodup) (k : α) : ka l k = ka m k := by
 have hl : (l.map (·.1)).Nodup := (h.map _).nodup_iff.2 hn
 cases hc : ka m k with
 |none =>
  rw [qgq] at hc ⊢
  exact fun p hp => hc p (h.mem_iff.1 hp)
 |some v =>
  rw [zk hn] at hc
  rw [zk hl]
  exact h.mem_iff.2 hc
theorem qem {α : Type} [DecidableEq α] : ∀ {l : List (α × Value)}, (l.map (·.1)).Nodup → ∀ (k : α) (v : Value), (mj l k v).Perm ((k, v) :: l.filter fun p => decide (p.1 ≠ k))
 |[], _, k, v => by simp [mj]
 |p :: r, hn, k, v => by
  rw [List.map_cons, List.nodup_cons] at hn
  unfold mj
  by_cases hp : p.1 = k
  ·rw [if_pos hp, List.filter_cons]
   have : (r.filter fun p => decide (p.1 ≠ k)) = r := by
    rw [List.filter_eq_self]
    intro q hq
    simp only [ne_eq, decide_not, Bool.not_eq_true', decide_eq_false_iff_not]
    intro e
    exact hn.1 (List.mem_map.2 ⟨q, hq, by rw [e, hp]⟩)
   rw [this]
   simp [hp]
  ·rw [if_neg hp, List.filter_cons, if_pos (by simpa using hp)]
   exact ((qem hn.2 k v).cons p).trans (List.Perm.swap _ _ _)
theorem uq {α : Type} [DecidableEq α] : ∀ {l : List (α × Value)}, (l.map (·.1)).Nodup → ∀ (k : α), ml l k = l.filter fun p => decide (p.1 ≠ k)
 |[], _, k => rfl
 |p :: r, hn, k => by
  rw [List.map_cons, List.nodup_cons] at hn
  unfold ml
  rw [List.eraseP_cons, List.filter_cons]
  by_cases hp : p.1 = k
  ·simp only [hp, decide_true, cond_true, ne_eq, not_true_eq_false, decide_false, Bool.false_eq_true, if_false]
   symm
   rw [List.filter_eq_self]
   intro q hq
   simp only [decide_eq_true_eq]
   intro e
   exact hn.1 (List.mem_map.2 ⟨q, hq, by rw [e, hp]⟩)
  ·have := uq hn.2 k
   unfold ml at this
   simp [hp, this]
theorem qav : ∀ {l : List (Int × (K32 × K32))}, (l.map (·.1)).Nodup → ∀ (s : Int), jz l s = l.filter fun p => decide (p.1 ≠ s)
 |[], _, s => rfl
 |p :: r, hn, s => by
  rw [List.map_cons, List.nodup_cons] at hn
  unfold jz
  rw [List.eraseP_cons, List.filter_cons]
  by_cases hp : p.1 = s
  ·simp only [hp, decide_true, cond_true, ne_eq, not_true_eq_false, decide_false, Bool.false_eq_true, if_false]
   symm
   rw [List.filter_eq_self]
   intro q hq
   simp only [decide_eq_true_eq]
   intro e
   exact hn.1 (List.mem_map.2 ⟨q, hq, by rw [e, hp]⟩)
  ·have := qav hn.2 s
   unfold jz at this
   simp [hp, this]

def nEv : bj → List RecD → Nat
 |_, [] => 0
 |b, r :: rs => if mayD b r then nEv (fa b r) rs + 1 else 0
def bkAt : bj → List RecD → Nat → bj
 |b, _, 0 => b
 |b, [], _ + 1 => b
 |b, r :: rs, i + 1 => if mayD b r then bkAt (fa b r) rs i else b
theorem nd (b : bj) (rs : List RecD) : bkAt b rs 0 = b := by cases rs <;> rfl
theorem sn : ∀ (rs : List RecD) (b : bj), nEv b rs ≤ rs.length
 |[], _ => nr _
 |r :: rs, b => by
  unfold nEv
  have := sn rs (fa b r)
  by_cases h : mayD b r = true
  ·rw [if_pos h, List.length_cons]; omega
  ·rw [if_neg h]; omega
theorem qg : ∀ (rs : List RecD) (b : bj) (i : Nat) (h : i < rs.length), i ≤ nEv b rs → mayD (bkAt b rs i) rs[i] = true → i + 1 ≤ nEv b rs ∧ bkAt b rs (i + 1) = fa (bkAt b rs i) rs[i]
 |[], _, i, h, _, _ => by simp at h
 |r :: rs, b, 0, _, _, hm => by
  rw [nd] at hm ⊢
  have hm' : mayD b r = true := hm
  unfold nEv bkAt
  rw [if_pos hm', if_pos hm', nd]
  exact ⟨by omega, rfl⟩
 |r :: rs, b, i + 1, h, hi, hm => by
  have hr : mayD b r = true := by
   cases hb : mayD b r with
   |true => rfl
   |false =>
    unfold nEv at hi
    rw [hb] at hi
    simp at hi
  have hl : i < rs.length := by rw [List.length_cons] at h; omega
  have e : bkAt b (r :: rs) (i + 1) = bkAt (fa b r) rs i := by rw [bkAt, if_pos hr]
  have e2 : bkAt b (r :: rs) (i + 1 + 1) = bkAt (fa b r) rs (i + 1) := by rw [bkAt, if_pos hr]
  have en : nEv b (r :: rs) = nEv (fa b r) rs + 1 := by rw [nEv, if_pos hr]
  rw [e] at hm ⊢
  rw [e2, en]
  rw [en] at hi
  obtain ⟨h1, h2⟩ := qg rs (fa b r) i hl (by omega) (by simpa using hm)
  exact ⟨by omega, by rw [h2]; simp⟩
theorem qae : ∀ (rs : List RecD) (b : bj) (i : Nat) (h : i < rs.length), i ≤ nEv b rs → mayD (bkAt b rs i) rs[i] = false → i = nEv b rs
 |[], _, i, h, _, _ => by simp at h
 |r :: rs, b, 0, _, _, hm => by
  rw [nd] at hm
  have hm' : mayD b r = false := hm
  unfold nEv
  rw [hm']
  simp
 |r :: rs, b, i + 1, h, hi, hm => by
  have hr : mayD b r = true := by
   cases hb : mayD b r with
   |true => rfl
   |false =>
    unfold nEv at hi
    rw [hb] at hi
    simp at hi
  have hl : i < rs.length := by rw [List.length_cons] at h; omega
  have e : bkAt b (r :: rs) (i + 1) = bkAt (fa b r) rs i := by rw [bkAt, if_pos hr]
  have en : nEv b (r :: rs) = nEv (fa b r) rs + 1 := by rw [nEv, if_pos hr]
  rw [e] at hm
  rw [en] at hi ⊢
  rw [qae rs (fa b r) i hl (by omega) (by simpa using hm)]
theorem qre : ∀ (rs : List RecD) (b : bj) (i : Nat) (h : i < rs.length), i < nEv b rs → mayD (bkAt b rs i) rs[i] = true := fun rs b i h hi => by
 cases hm : mayD (bkAt b rs i) rs[i] with
 |true => rfl
 |false => have := qae rs b i h (by omega) hm; omega
theorem tq {rs : List RecD} (hr : ∀ r ∈ rs, Hs r) : ∀ i, i ≤ nEv az rs → Good (bkAt az rs i)
 |0, _ => by rw [nd]; exact good0
 |i + 1, hi => by
  have hl : i < rs.length := by have := sn rs az; omega
  have hm := qre rs az i hl (by omega)
  rw [(qg rs az i hl (by omega) hm).2]
  exact qce (tq hr i (by omega)) (hr _ (List.getElem_mem _)) hm
def evAt (rs : List RecD) (i : Nat) : Nat := ((rs.take i).flatMap ca).length
theorem qil {rs : List RecD} {i : Nat} (h : i < rs.length) : evAt rs (i + 1) = evAt rs i + (ca rs[i]).length := by
 unfold evAt
 rw [List.take_succ_eq_append_getElem h, List.flatMap_append, List.length_append]
 simp
theorem putL_len (k m : K32) (l : List (K32 × K32)) : (putL k m l).length ≤ l.length + 1 := by
 unfold putL
 rw [(pe _ _ _).length_eq, List.length_cons]
 have := (vt l k).length_le
 omega
theorem pinL_len (k : K32) (l : List K32) : (pinL k l).length ≤ l.length + 1 := by
 unfold pinL
 rw [(pe _ _ _).length_eq, List.length_cons]
 have : (iw l k).length ≤ l.length := List.length_filter_le _ _
 omega
theorem qnm (b : bj) (r : RecD) : (fa b r).live.length ≤ b.live.length + 1 ∧ (fa b r).pins.length ≤ b.pins.length + 1 ∧ (fa b r).ints.length ≤ b.ints.length + 1 := by
 unfold fa
 have hp : ∀ k m, (putL k m b.live).length ≤ b.live.length + 1 := fun k m => by exact putL_len k m b.live
 have hd : ∀ s, (jz b.ints s).length ≤ b.ints.length := fun s => by unfold jz; exact List.eraseP_sublist.length_le
 have hu : ∀ k, (iw b.pins k).length ≤ b.pins.length := fun k => List.length_filter_le _ _
 have hn : ∀ k, (pinL k b.pins).length ≤ b.pins.length + 1 := fun k => by exact pinL_len k b.pins
 split
 ·simp
 split
 ·simp
 split
 ·split
  ·rename_i i _
   have h1 := hp i.2.1 i.2.2
   have h2 := hd r.seq
   simp only
   omega
  ·omega
 split
 ·have h1 := hp (rkey r) (ya r)
  simp only
  omega
 split
 ·have h1 := hn (rkey r)
  simp only
  omega
 split
 ·have h1 := hu (rkey r)
  simp only
  omega
 ·have h1 := (pf r.keys b.live).length_le
  simp only
  omega
theorem qnb {rs : List RecD} : ∀ i, i ≤ nEv az rs → (bkAt az rs i).live.length ≤ i ∧ (bkAt az rs i).pins.length ≤ i ∧ (bkAt az rs i).ints.length ≤ i
 |0, _ => by rw [nd]; simp [az]
 |i + 1, hi => by
  have hl : i < rs.length := by have := sn rs az; omega
  have hm := qre rs az i hl (by omega)
  rw [(qg rs az i hl (by omega) hm).2]
  have h1 := qnm (bkAt az rs i) rs[i]
  have h2 := qnb (rs := rs) i (by omega)
  omega

theorem quo {α : Type} (x : Ask α) : ∀ (w : World), w.drawn ≤ (w.ask x).2.drawn := by
 induction x with
 |done a => exact fun _ => nr _
 |ask what range k ih =>
  intro w
  unfold World.ask
  simp only
  split
  ·exact ih _ _
  ·refine Nat.le_trans ?_ (ih _ _)
   exact Nat.le_succ _
theorem qsr (w : World) (c : Sys) : w.drawn ≤ (w.sys c).2.drawn := by
 have h := quo (Kernel.perform c w.os) w
 unfold World.sys
 split
 ·exact nr _
 ·rename_i heq
  rw [heq] at h
  exact h
theorem qdb {P : Program} {w w' : World} {p : Addr} {u : TypeId} {a : Addr} {v : Value} {b : Bool} {l : List Addr} (h : w.viewStore P p u a v b = .ok (w', l)) : w'.drawn = w.drawn := by
 unfold World.viewStore at h
 simp only [bind, Except.bind, pure, Except.pure] at h
 repeat' split at h
 all_goals first
  |cases h; done
  |(injection h with h; injection h with h _; subst h; rfl)
theorem qgd {P : Program} {w w' : World} {a : Addr} {v : Value} {b : Bool} {l : List Addr} (h : w.farStore P a v b = .ok (w', l)) : w'.drawn = w.drawn := by
 unfold World.farStore at h
 split at h
 ·split at h
  ·rename_i heq
   injection h with h
   subst h
   exact qdb heq
  ·cases h
 ·cases h
theorem qjr (w : World) (a : Addr) (n : Nat) : (w.freeze a n).drawn = w.drawn := by
 unfold World.freeze
 split <;> rfl
theorem qsy {α : Type} {P : Program} : ∀ (s : Sem α) (w w' : World) (x : α), s.run P w = .ok x w' → w.drawn ≤ w'.drawn := by
 intro s
 induction s with
 |pure a => intro w w' x h; injection h with _ h; subst h; exact nr _
 |load m a k ih =>
  intro w w' x h
  unfold Sem.run at h
  split at h
  ·exact ih _ _ _ _ h
  ·split at h
   ·exact ih _ _ _ _ h
   ·cases h
 |store m a v k ih =>
  intro w w' x h
  have key : (match w.cell? a with
   |some _ => if w.frozen? a then Result.halt (.unsupported (.unsafePointer "a write to bytes that a string shares")) w else k.run P (w.setCell a v)
   |none => match w.farStore P a v (m == Mode.atomic) with
    |.ok (w, _) => k.run P w
    |.error h => .halt h w) = .ok x w' ∨ False := by
   cases v <;> first | (simp only [Sem.run] at h; exact .inl h) | (simp only [Sem.run] at h; cases h; done)
  rcases key with key | key
  ·split at key
   ·split at key
    ·cases key
    ·have := ih _ _ _ key; exact this
   ·split at key
    ·rename_i heq
     have := qgd heq
     rw [← this]
     exact ih _ _ _ key
    ·cases key
  ·cases key
 |new o k ih => intro w w' x h; have := ih _ _ _ _ h; exact this
 |shape r k ih => intro w w' x h; exact ih _ _ _ _ h
 |freeze a n k ih => intro w w' x h; rw [← qjr w a n]; exact ih _ _ _ h
 |frozen a k ih => intro w w' x h; exact ih _ _ _ _ h
 |getObj r k ih =>
  intro w w' x h
  unfold Sem.run at h
  split at h
  ·cases h
  ·exact ih _ _ _ _ h
  ·cases h
 |setObj r o k ih =>
  intro w w' x h
  unfold Sem.run at h
  split at h
  ·cases h
  ·have := ih _ _ _ h; exact this
  ·cases h
 |choose q k ih =>
  intro w w' x h
  unfold Sem.run at h
  split at h
  ·exact ih _ _ _ _ h
  ·exact Nat.le_trans (Nat.le_succ _) (ih _ _ _ _ h)
 |sys c k ih => intro w w' x h; exact Nat.le_trans (qsr w c) (ih _ _ _ _ h)
 |program k ih => intro w w' x h; exact ih _ _ _ _ h
 |mark m k ih => intro w w' x h; exact ih _ _ _ h
 |halt h => intro w w' x h; cases h
theorem qko {P : Program} {w : World} {ops : Array Oper} {rest : List Oper} {o : Oper} {a : Act} {Q : Exit → Act → World → Prop} {s x : Operand} {t e : TypeId} {size bytes : Nat} {z : Value} (T : pr P t e size bytes z)
  (hgd : o.guard = none) (ho : o.op = .call { callee := .builtin .append, args := #[s, x], argTypes := #[t, t] })
  {v : Value} {A : Option Addr} {m c : Nat} (hs : a.eval s = v) (hx : a.eval x = .slice A m c)
  {base : Nat} {n : Nat} {xs : List Value} (hown : w.ownsRow base e size v n xs)
  {B : Nat} {news : List Value} (hr : Rd w B A news) (hl : news.length = m * size) (h1 : ∀ u ∈ news, u.oneCell' = true)
  (h63 : n + m ≤ maxLen) (hbytes : (n + m) * bytes ≤ 140737488355328) (hbase : base ≤ w.heap.size)
  (h : ∀ v' w', w'.ownsRow base e size v' (n + m) (xs ++ news) → w.grownBy w' v.ownBlock → w.drawn ≤ w'.drawn → wpList P ops Q rest (a.put o.dst v') w') :
  wpList P ops Q (o :: rest) a w := by
 refine wpList_plain hgd fun K' hK => ?_
 obtain ⟨v', w', hrun, h2, h3, h4, h5⟩ := qqp (ty := o.type) T hown (c := c) hr hl h1 h63 hbytes hbase
 have hd := qsy _ _ _ _ hrun
 unfold Oper.wp execOp
 simp only [ho, resolve, invoke, builtin, Sem.run_bind, Sem.run_pure, Result.andThen_ok, List.map_toArray, List.map_cons, List.map_nil, hs, hx, hrun]
 exact hK _ _ (h v' w' h2 h3 hd)
theorem grown_of {w w' : World} (hb : Below w.heap.size w w') (hd : w.drawn ≤ w'.drawn) : ∃ q os', w' = Go.Sort.grow (w.drewN q) os' := by
 refine ⟨w'.drawn - w.drawn, w'.heap.extract w.heap.size w'.heap.size, ?_⟩
 refine vi ?_ hb.tape ?_ hb.os hb.output
 ·show w'.heap = w.heap ++ w'.heap.extract w.heap.size w'.heap.size
  apply Array.ext_getElem?
  intro i
  by_cases hi : i < w.heap.size
  ·rw [Array.getElem?_append_left hi]
   exact hb.block i hi
  ·rw [Array.getElem?_append_right (by omega), Array.getElem?_extract]
   by_cases h2 : i < w'.heap.size
   ·rw [if_pos (by omega)]
    congr 1
    omega
   ·rw [if_neg (by omega), Array.getElem?_eq_none (by omega)]
 ·show w'.drawn = w.drawn + (w'.drawn - w.drawn)
  omega

theorem qmn (w : World) :
  Calls Tryz.prog 160 #[] w fun e w' => e = .returned (.agg oq) ∧ Below w.heap.size w w' ∧ w.drawn ≤ w'.drawn := by
 go_enter Tryz.func160, Tryz.ntmps160
 go_wp2
 refine bodyPost_ret (v := .agg oq) (by simp [results, Tryz.results160, go_sem, oq]) rfl ⟨rfl, ?_, nr _⟩
 go_grown
theorem qtz (l : List UInt8) (A : Option Addr) (c : Nat) (w : World) (hr : Rd w w.heap.size A (ak l)) (hl : l.length ≤ 1099511627776) :
  Calls Tryz.prog 140 #[.slice A l.length c] w fun e w' => e = .returned (.string ⟨(jp l).toArray⟩) ∧ Below w.heap.size w w' ∧ w.drawn ≤ w'.drawn := by
 have hst := qin
 go_enter Tryz.func140, Tryz.ntmps140
 go_wp2_with (go_call qmn _ as e w1 ⟨rfl, hb, hdr⟩)
 go_loopw [4, 6, 10] (fun v4 v6 v10 wr => ∃ k : Nat, k ≤ l.length ∧ v10 = .int .i64 k ∧ wr.ownsRow w.heap.size 5 1 v4 (2 * k) (ak (jp (l.take k))) ∧ wr.heap[w1.heap.size]? = some (.cells oq 219 (0, 0)) ∧ Below w.heap.size w wr ∧ Hid (w.drawn ≤ wr.drawn)) (fun _ _ i _ => l.length - (intOf i).toNat)
 case atStart => exact ⟨0, by omega, rfl, World.ownsRow_nil _ _ _ _, hzn w1 _, hb.alloc hb.size _, hdr⟩
 case round =>
  obtain ⟨k, hk, rfl, hown, hd, hbr, HDR⟩ := hrel
  by_cases hlt : k < l.length
  ·obtain ⟨ab, ao, rfl, hab, hcell⟩ := (hr.below hbr).byte hlt
   go_wp2
   have hb8 := l[k].toNat_lt
   have hd1 : wr.cell? ⟨w1.heap.size, l[k].toNat / 16, none⟩ = some (.int .u8 (md (l[k].toNat / 16))) := by
    rw [cell_of_row _ _ _ _ _ _ hd]; exact qds _ (by have := l[k].toNat_lt; omega)
   have hd2 : wr.cell? ⟨w1.heap.size, l[k].toNat % 16, none⟩ = some (.int .u8 (md (l[k].toNat % 16))) := by
    rw [cell_of_row _ _ _ _ _ _ hd]; exact qds _ (by omega)
   refine Text.wp_text [] (by kernel_rfl) (by kernel_rfl) (fun Q' hQ' => ?_)
   go_wp2_with (at_builtin; refine qko u8_app rfl rfl rfl rfl (hown.alloc _).drew (Rd.row (B := wr.heap.size + 1) (hzn wr _) (by omega)) rfl (by simp [Value.oneCell']) ?h63 ?hby ?hbase ?_)
   case h63 => simp only [maxLen]; omega
   case hby => omega
   case hbase => have := hbr.size; simp; omega
   intro v1 w2 hown2 hg2 hd2
   have HD2 := Lh (Nat.le_trans HDR.o (Nat.le_trans (Nat.le_succ _) hd2) : w.drawn ≤ w2.drawn)
   clear hd2
   go_wp2
   refine ⟨by rfl, ?_⟩
   go_wp2
   go_roundw
   case rel =>
    refine ⟨k + 1, by omega, by go_num, ?_, ?_, ?_, HD2⟩
    ·rw [zf l k hlt, bt, qfp]; exact hown2
    ·exact kf (hown.alloc _).drew hg2 ((Below.heap_alloc _ _ _ (gl hd)).trans hd) (by decide)
    ·exact ax ((hbr.alloc hbr.size _).drew) hg2 (hown.alloc _).drew (nr _) (by have := hbr.size; simp; omega)
   case measure => simp [intOf]; omega
  ·have hkl : k = l.length := by omega
   subst hkl
   obtain ⟨A4, c4, rfl, _, _⟩ := ap hown
   rw [List.take_length] at hown
   have hcv := ot (P := Tryz.prog) (Rd.of_own hown) Tryz.underlying44 Tryz.underlying5 Tryz.underlying9 (2 * l.length) (jk l).symm
   go_wp2
   go_ret
   exact ⟨rfl, hbr, HDR.o⟩
theorem qmm (l : List UInt8) (A : Option Addr) (c : Nat) (w : World) (hr : Rd w w.heap.size A (ak l)) (hl : l.length = 32) :
  Calls Tryz.prog 140 #[.slice A 32 c] w fun e w' => e = .returned (.string ⟨(jp l).toArray⟩) ∧ Below w.heap.size w w' ∧ w.drawn ≤ w'.drawn := by
 have := qtz l A c w hr (by omega)
 rwa [hl] at this
theorem qhl (h : List UInt8) (k : Int) (w : World) (hh : h.length = 32) :
  Calls Tryz.prog 105 #[hkv h k] w fun e w' => e = .returned (.string ⟨(dc h k).toArray⟩) ∧ Below w.heap.size w w' ∧ w.drawn ≤ w'.drawn := by
 have hck : (w.alloc (.cells (af h k).toArray 34)).cell? ⟨w.heap.size, 32, none⟩ = some (.int .i64 k) := by
  rw [cell_of_row _ _ _ _ _ _ (hzn w _), ← Array.getElem?_toList]
  exact gb h k hh
 have hgk : (af h k)[32]? = some (.int .i64 k) := gb h k hh
 have hlk : (af h k).length = 33 := by rw [ae, hh]
 have HH := Lh hh
 clear hh
 rcases Bool.eq_false_or_eq_true (kOk k) with hb | hb
 ·have HB := Lh hb
  clear hb
  go_enter Tryz.func105, Tryz.ntmps105
  go_wp2_with fail
  refine (xl k _).mono ?_
  rintro e w1 ⟨rfl, rfl⟩
  rw [HB.o]
  go_wp2_with fail
  refine Text.wp_grow [2, 6] [5] [] (by kernel_rfl) (by kernel_rfl) ?_
  refine Text.wpS_seg 2 _ _ _ _ (by decide) (fun Q' hQ' => ?_)
  simp only [T1, T0]
  go_wp2_with fail
  simp only [Nat.zero_add, List.drop_succ_cons, List.drop_zero]
  refine Text.wpS_one (fun Q' hQ' => ?_)
  go_wp2_with fail
  have hrow : Rd (w.alloc (.cells (af h k).toArray 34)) (w.heap.size + 1) (some ⟨w.heap.size, 0, none⟩) (af h k) := by
   have := Rd.row (w := w.alloc (.cells (af h k).toArray 34)) (B := w.heap.size + 1) (hzn w _) (by omega)
   simpa using this
  refine (qmm h (some ⟨w.heap.size, 0, none⟩) 32 _ (by have := (qdm hrow).below (br _ _).drew; simpa using this) HH.o).mono ?_
  rintro e w2 ⟨rfl, hb2, hd2⟩
  have HD2 := Lh (Nat.le_trans (Nat.le_succ _) hd2 : w.drawn ≤ w2.drawn)
  clear hd2
  have hb2' : Below w.heap.size w w2 := ((br _ _).alloc (nr _) _).trans ((cg hb2).mono (by simp))
  have hck2 : w2.cell? ⟨w.heap.size, 32, none⟩ = some (.int .i64 k) := (hb2.cell (p := ⟨w.heap.size, 32, none⟩) (by show w.heap.size < (w.alloc _).heap.size; simp)).trans hck
  have HB2 := Lh hb2
  have HB2' := Lh hb2'
  clear hb2 hb2' hrow
  obtain ⟨sh, hsh⟩ : ∃ sh : ByteArray, sh = ⟨(jp h).toArray⟩ := ⟨_, rfl⟩
  have hsz : sh.size ≤ 64 := by
   rw [hsh]
   show (jp h).toArray.size ≤ 64
   have := jk h
   have := HH.o
   simp; omega
  rw [← hsh]
  have HSH := Lh hsh
  clear hsh
  go_wp2_with fail
  refine ⟨HB2.o, ?_⟩
  refine Text.wpS_seg 3 _ _ _ _ (by decide) (fun Q' hQ' => ?_)
  simp only [T1, T0]
  go_wp2_with fail
  simp only [dr1, dr0]
  refine Text.wpS_one (fun Q' hQ' => ?_)
  go_wp2_with fail
  refine (qfn k _ HB.o).mono ?_
  rintro e w3 ⟨rfl, rfl⟩
  go_wp2_with fail
  refine ⟨HB2.o, ?_⟩
  refine Text.wpS_seg 2 _ _ _ _ (by decide) (fun Q' hQ' => ?_)
  simp only [T1, T0]
  go_wp2_with fail
  refine ⟨by rfl, ⟨fun _ => ⟨_, _, rfl, hck⟩, trivial⟩, ?_⟩
  go_wp2
  go_ret
  refine ⟨rt1 (vstr ?_), HB2'.o, HD2.o⟩
  unfold dc
  rw [HB.o, if_pos rfl, HSH.o]
  apply ByteArray.ext
  simp
 ·have HB := Lh hb
  clear hb
  go_enter Tryz.func105, Tryz.ntmps105
  go_wp2_with fail
  refine (xl k _).mono ?_
  rintro e w1 ⟨rfl, rfl⟩
  rw [HB.o]
  go_wp2
  go_ret
  refine ⟨rt1 (vstr ?_), (br _ _).alloc (nr _) _, nr _⟩
  unfold dc
  rw [HB.o]
  rfl
theorem qao (h h' : List UInt8) (k k' : Int) (w : World) (hh : h.length = 32) (hh' : h'.length = 32) :
  Calls Tryz.prog 73 #[hkv h k, hkv h' k'] w fun e w' => e = .returned (.bool (ij h k h' k')) ∧ Below w.heap.size w w' ∧ w.drawn ≤ w'.drawn := by
 go_enter Tryz.func73, Tryz.ntmps73
 go_wp2_with fail
 have HG1 := Lh (aq (Go.heap_alloc2_old w (.cells (af h k).toArray 34) (.cells (af h' k').toArray 34)))
 have HG2 := Lh (aq (Go.heap_alloc2_new w (.cells (af h k).toArray 34) (.cells (af h' k').toArray 34)))
 have HH := Lh hh
 have HH' := Lh hh'
 clear hh hh'
 refine Text.wp_grow [2, 5, 7] [0, 1, 4, 6] [2] (by kernel_rfl) (by kernel_rfl) ?_
 refine Text.wpS_seg 2 _ _ _ _ (by decide) (fun Q' hQ' => ?_)
 simp only [T1, T0]
 refine aa rfl 34 rfl rfl ba.ut rfl (na h k HH.o) HG1.o ?_
 refine aa rfl 34 rfl rfl ba.ut rfl (na h' k' HH'.o) HG2.o ?_
 refine hQ' _ _ ?_
 simp only [dr1, dr0]
 generalize ha : Act.put _ _ _ = a9
 simp [Act.put] at ha
 subst ha
 refine Text.wpS_one (fun Q1 hQ1 => ?_)
 refine ei rfl .neq 34 rfl rfl rfl (ez ba.gd ..) (js ba HH.o HH'.o) ?_
 by_cases he : h = h' ∧ k = k'
 ·rw [show (!(decide (h = h') && decide (k = k'))) = false by simp [he]]
  have hle : ij h k h' k' = false := by
   obtain ⟨rfl, rfl⟩ := he
   exact rj _
  have HLE := Lh hle
  clear hle he
  refine hQ1 _ _ ⟨br _ _, ?_⟩
  generalize ha : Act.put _ _ _ = a9
  simp [Act.put] at ha
  subst ha
  refine Text.wpS_seg 2 _ _ _ _ (by decide) (fun Q2 hQ2 => ?_)
  simp only [T1, T0]
  refine bz rfl (v := .bool false) rfl ?_
  refine wpList_skip rfl ?_
  refine hQ2 _ _ ?_
  simp only [dr1, dr0]
  generalize ha : Act.put _ _ _ = a9
  simp [Act.put] at ha
  subst ha
  refine Text.wpS_one (fun Q3 hQ3 => ?_)
  refine wpList_skip rfl ?_
  refine hQ3 _ _ ⟨br _ _, ?_⟩
  generalize ha : Act.put _ _ _ = a9
  simp [Act.put] at ha
  subst ha
  refine Text.wpS_seg 1 _ _ _ _ (by decide) (fun Q4 hQ4 => ?_)
  simp only [T1, T0]
  refine wpList_skip rfl ?_
  refine hQ4 _ _ ?_
  simp only [dr1, dr0]
  generalize ha : Act.put _ _ _ = a9
  simp [Act.put] at ha
  subst ha
  refine Text.wpS_one (fun Q5 hQ5 => ?_)
  refine wpList_skip rfl ?_
  refine hQ5 _ _ ⟨br _ _, ?_⟩
  generalize ha : Act.put _ _ _ = a9
  simp [Act.put] at ha
  subst ha
  refine Text.wpS_seg 3 _ _ _ _ (by decide) (fun Q6 hQ6 => ?_)
  simp only [T1, T0]
  refine wpList_skip rfl ?_
  refine bz rfl (v := .bool false) rfl ?_
  refine bz rfl (v := .bool false) rfl ?_
  refine hQ6 _ _ ?_
  generalize ha : Act.put _ _ _ = a9
  simp [Act.put] at ha
  subst ha
  simp only [dr1, dr0]
  refine ⟨by rfl, ⟨fun _ => ⟨_, _, rfl, HG1.o 0 _ (List.getElem?_eq_getElem (by rw [ae]; omega))⟩, fun _ => ⟨_, _, rfl, HG2.o 0 _ (List.getElem?_eq_getElem (by rw [ae]; omega))⟩, (fun hh => absurd hh Bool.false_ne_true), (fun hh => absurd hh Bool.false_ne_true), trivial⟩, ?_⟩
  go_wp2_with fail
  go_ret
  refine ⟨rt1 (bu HLE.o.symm), ?_, Nat.le_succ _⟩
  exact (((br _ _).alloc (nr _) _).alloc (Nat.le_of_lt (by show _ < (Array.push _ _).size; rw [Array.size_push]; exact Nat.lt_succ_self _)) _).drew
 ·rw [show (!(decide (h = h') && decide (k = k'))) = true by by_cases h1 : h = h' <;> by_cases h2 : k = k' <;> simp_all]
  clear he
  refine hQ1 _ _ ⟨br _ _, ?_⟩
  generalize ha : Act.put _ _ _ = a9
  simp [Act.put] at ha
  subst ha
  refine Text.wpS_seg 2 _ _ _ _ (by decide) (fun Q2 hQ2 => ?_)
  simp only [T1, T0]
  refine bz rfl (v := .bool true) rfl ?_
  refine aw rfl 34 rfl rfl ba.ut rfl (na h k HH.o) HG1.o ?_
  refine hQ2 _ _ ?_
  simp only [dr1, dr0]
  generalize ha : Act.put _ _ _ = a9
  simp [Act.put] at ha
  subst ha
  refine Text.wpS_one (fun Q3 hQ3 => ?_)
  go_wp2_with fail
  refine (qhl h k _ HH.o).mono ?_
  rintro e w2 ⟨rfl, hb2, hd2⟩
  have HD2 := Lh (Nat.le_trans (Nat.le_succ _) hd2 : w.drawn ≤ w2.drawn)
  clear hd2
  have HB2 := Lh hb2
  clear hb2
  obtain ⟨s1, hs1⟩ : ∃ s1 : ByteArray, s1 = ⟨(dc h k).toArray⟩ := ⟨_, rfl⟩
  rw [← hs1]
  have HS1 := Lh hs1
  clear hs1
  go_wp2_with fail
  refine ⟨HB2.o, ?_⟩
  refine Text.wpS_seg 1 _ _ _ _ (by decide) (fun Q4 hQ4 => ?_)
  simp only [T1, T0]
  refine aw rfl 34 rfl rfl ba.ut rfl (na h' k' HH'.o) (fun j u hu => (HB2.o.cell (p := ⟨w.heap.size + 1, 0 + j, none⟩) (by show _ < (Array.push (Array.push _ _) _).size; rw [Array.size_push, Array.size_push]; show w.heap.size + 1 < _; omega)).trans (HG2.o j u hu)) ?_
  refine hQ4 _ _ ?_
  simp only [dr1, dr0]
  generalize ha : Act.put _ _ _ = a9
  simp [Act.put] at ha
  subst ha
  refine Text.wpS_one (fun Q5 hQ5 => ?_)
  go_wp2_with fail
  refine (qhl h' k' _ HH'.o).mono ?_
  rintro e w3 ⟨rfl, hb3, hd3⟩
  have HD3 := Lh (Nat.le_trans HD2.o hd3 : w.drawn ≤ w3.drawn)
  clear hd3
  have HB3 := Lh (HB2.o.trans (hb3.mono HB2.o.size))
  clear hb3
  obtain ⟨s2, hs2⟩ : ∃ s2 : ByteArray, s2 = ⟨(dc h' k').toArray⟩ := ⟨_, rfl⟩
  rw [← hs2]
  have HS2 := Lh hs2
  clear hs2
  go_wp2_with fail
  refine ⟨HB3.o, ?_⟩
  have HLE := Lh (show Op.bytesLess s1.toList s2.toList = ij h k h' k' by rw [HS1.o, HS2.o]; unfold ij; simp)
  refine Text.wpS_seg 3 _ _ _ _ (by decide) (fun Q6 hQ6 => ?_)
  simp only [T1, T0]
  go_wp2_with fail
  simp only [dr1, dr0]
  refine ⟨by rfl, ⟨fun _ => ⟨_, _, rfl, HG1.o 0 _ (List.getElem?_eq_getElem (by rw [ae]; omega))⟩, fun _ => ⟨_, _, rfl, HG2.o 0 _ (List.getElem?_eq_getElem (by rw [ae]; omega))⟩, fun _ => ⟨_, _, rfl, HG1.o 0 _ (List.getElem?_eq_getElem (by rw [ae]; omega))⟩, fun _ => ⟨_, _, rfl, HG2.o 0 _ (List.getElem?_eq_getElem (by rw [ae]; omega))⟩, trivial⟩, ?_⟩
  go_wp2_with fail
  go_ret
  refine ⟨rt1 (bu HLE.o), ?_, HD3.o⟩
  exact (((br _ _).alloc (nr _) _).alloc (Nat.le_of_lt (by show _ < (Array.push _ _).size; rw [Array.size_push]; exact Nat.lt_succ_self _)) _).trans ((cg HB3.o).mono (by show _ ≤ (Array.push (Array.push _ _) _).size; rw [Array.size_push, Array.size_push]; omega))
end Go.Proofs.YtplbcbamnjnhlaaGreatDoor
