/- Texts of this proof joined: BookLaw, Drawn, LessD. -/
import Derived.Test.YtplbcbamnjnhlaaGreatDoorMB19
import Derived.Test.YtplbcbamnjnhlaaGreatDoorMB20
import Derived.Test.YtplbcbamnjnhlaaGreatDoorMB11
import Derived.Sort.Walk0
import Derived.Test.YtplbcbamnjnhlaaGreatDoorMB04
import Derived.Deep.Draws
import Derived.Sort.Grow
import Derived.Test.YtplbcbamnjnhlaaGreatDoorMB09
namespace Go.Proofs.YtplbcbamnjnhlaaGreatDoor
open Go.RowKit

def k32 (k : KeyD) : K32 := if h : k.1.length = 32 then ⟨k, h⟩ else default
theorem k32_val {k : KeyD} (h : k.1.length = 32) : (k32 k).1 = k := by unfold k32; rw [dif_pos h]
theorem k32_self (k : K32) : k32 k.1 = k := by unfold k32; rw [dif_pos k.2]
theorem k32_mk (k : K32) : k32 (k.1.1, k.1.2) = k := k32_self k
def kless (a b : K32) : Bool := keyLess a.1.1 a.1.2 b.1.1 b.1.2
def okK (k : K32) : Prop := kOk k.1.2 = true
theorem kless_lt (a b : K32) : kless a b = decide (keyText a.1.1 a.1.2 < keyText b.1.1 b.1.2) := by unfold kless keyLess; exact Go.Proofs.bytesLess_eq _ _
theorem kless_self (a : K32) : kless a a = false := by rw [kless_lt]; simp
theorem kless_trans {a b c : K32} (h1 : kless a b = true) (h2 : kless b c = true) : kless a c = true := by
  rw [kless_lt] at *
  simp only [decide_eq_true_eq] at *
  exact List.lt_trans h1 h2
theorem kless_ntrans {a b c : K32} (h1 : kless a b = false) (h2 : kless b c = false) : kless a c = false := by
  rw [kless_lt] at *
  simp only [decide_eq_false_iff_not, List.not_lt] at *
  exact List.le_trans h2 h1
theorem kless_asymm {a b : K32} (h : kless a b = true) : kless b a = false := by
  cases h2 : kless b a with
  | false => rfl
  | true => have := kless_trans h h2; rw [kless_self] at this; cases this
theorem kless_total {a b : K32} (ha : okK a) (hb : okK b) (h1 : kless a b = false) (h2 : kless b a = false) : a = b := by
  rw [kless_lt] at *
  simp only [decide_eq_false_iff_not, List.not_lt] at *
  have he := List.le_antisymm h2 h1
  have e1 := keyOf_text a.1.1 a.1.2 a.2
  have e2 := keyOf_text b.1.1 b.1.2 b.2
  rw [he, e2, if_pos (show kOk a.1.2 = true from ha), if_pos (show kOk b.1.2 = true from hb)] at e1
  injection e1 with e1
  exact Subtype.ext e1.symm

def ins {β : Type} (f : β → Bool) (x : β) : List β → List β
  | [] => [x]
  | y :: r => if (y :: r).all f then x :: y :: r else y :: ins f x r
theorem ins_perm {β : Type} (f : β → Bool) (x : β) : ∀ l : List β, (ins f x l).Perm (x :: l)
  | [] => List.Perm.refl _
  | y :: r => by
    unfold ins
    split
    · exact List.Perm.refl _
    · exact ((ins_perm f x r).cons y).trans (List.Perm.swap x y r)
theorem ins_at {β : Type} (f : β → Bool) (x : β) : ∀ (l : List β) (a : Nat), a ≤ l.length → (∀ i y, a ≤ i → l[i]? = some y → f y = true) → (a = 0 ∨ ∃ y, l[a - 1]? = some y ∧ f y = false) → ins f x l = l.take a ++ x :: l.drop a
  | [], a, ha, _, _ => by simp at ha; subst ha; rfl
  | y :: r, 0, _, h1, _ => by
    unfold ins
    rw [if_pos]
    · rfl
    · rw [List.all_eq_true]
      intro z hz
      obtain ⟨i, hi⟩ := List.mem_iff_getElem?.1 hz
      exact h1 i z (Nat.zero_le _) hi
  | y :: r, a + 1, ha, h1, h2 => by
    unfold ins
    rw [if_neg]
    · rw [ins_at f x r a (by simpa using ha) (fun i z hi hz => h1 (i + 1) z (by omega) (by simpa using hz)) ?_]
      · rfl
      · rcases h2 with h2 | ⟨z, hz, hf⟩
        · omega
        · cases a with
          | zero => left; rfl
          | succ a => right; exact ⟨z, by simpa using hz, hf⟩
    · intro hall
      rw [List.all_eq_true] at hall
      rcases h2 with h2 | ⟨z, hz, hf⟩
      · omega
      · have := hall z (List.mem_iff_getElem?.2 ⟨_, hz⟩)
        rw [hf] at this
        cases this
theorem ins_end {β : Type} (f : β → Bool) (x : β) : ∀ l : List β, (∀ y ∈ l, f y = false) → ins f x l = l ++ [x]
  | [], _ => rfl
  | y :: r, h => by
    unfold ins
    rw [if_neg, ins_end f x r fun z hz => h z (by simp [hz])]
    · rfl
    · intro hall
      rw [List.all_eq_true] at hall
      have := hall y (by simp)
      rw [h y (by simp)] at this
      cases this
theorem ins_sorted {β : Type} (g : β → K32) (x : β) : ∀ l : List β, (∀ y ∈ l, okK (g y)) → okK (g x) → (∀ y ∈ l, g y ≠ g x) → l.Pairwise (fun a b => kless (g a) (g b) = true) →
    (ins (fun y => kless (g x) (g y)) x l).Pairwise (fun a b => kless (g a) (g b) = true)
  | [], _, _, _, _ => by simp [ins]
  | y :: r, h1, h2, h3, h4 => by
    rw [List.pairwise_cons] at h4
    unfold ins
    split
    · rename_i hall
      rw [List.all_eq_true] at hall
      rw [List.pairwise_cons, List.pairwise_cons]
      exact ⟨fun z hz => hall z hz, h4⟩
    · rename_i hall
      rw [List.pairwise_cons]
      refine ⟨fun z hz => ?_, ins_sorted g x r (fun z hz => h1 z (by simp [hz])) h2 (fun z hz => h3 z (by simp [hz])) h4.2⟩
      rcases List.mem_cons.1 ((ins_perm _ x r).mem_iff.1 hz) with rfl | hz
      · have hex : ∃ u ∈ y :: r, kless (g z) (g u) = false := by
          simp only [List.all_eq_true] at hall
          exact Classical.byContradiction fun hn => hall fun u hu => by
            cases hc : kless (g z) (g u) with
            | true => rfl
            | false => exact absurd ⟨u, hu, hc⟩ hn
        obtain ⟨u, hu, hf⟩ := hex
        have hlt : kless (g u) (g z) = true := by
          cases hc : kless (g u) (g z) with
          | true => rfl
          | false => exact absurd (kless_total (h1 u hu) h2 hc hf) (h3 u hu)
        rcases List.mem_cons.1 hu with rfl | hu
        · exact hlt
        · exact kless_trans (h4.1 u hu) hlt
      · exact h4.1 z hz
structure BookD where
  head : Bool
  live : List (K32 × K32)
  pins : List K32
  ints : List (Int × (K32 × K32))
  next : Int
def book0 : BookD := ⟨false, [], [], [], 0⟩
def rkey (r : RecD) : K32 := k32 (r.kh, r.kk)
def rmark (r : RecD) : K32 := k32 (r.mh, r.ms)
def outL (l : List (K32 × K32)) (k : K32) : List (K32 × K32) := l.filter fun p => decide (p.1 ≠ k)
def putL (k m : K32) (l : List (K32 × K32)) : List (K32 × K32) := ins (fun p => kless k p.1) (k, m) (outL l k)
def unpinL (l : List K32) (k : K32) : List K32 := l.filter fun p => decide (p ≠ k)
def pinL (k : K32) (l : List K32) : List K32 := ins (fun p => kless k p) k (unpinL l k)
def findI (l : List (Int × (K32 × K32))) (s : Int) : Option (Int × (K32 × K32)) := l.find? fun p => decide (p.1 = s)
def dropI (l : List (Int × (K32 × K32))) (s : Int) : List (Int × (K32 × K32)) := l.eraseP fun p => decide (p.1 = s)
def mayD (b : BookD) (r : RecD) : Bool :=
  rightB r && !(b.head == decide (r.kind = 1)) && (if r.kind = 2 then decide (b.next ≤ r.seq) else if r.kind = 3 then (findI b.ints r.seq).isSome else true)
def writeD (b : BookD) (r : RecD) : BookD :=
  if r.kind = 1 then { b with head := true }
  else if r.kind = 2 then { b with ints := b.ints ++ [(r.seq, (rkey r, rmark r))], next := r.seq + 1 }
  else if r.kind = 3 then (match findI b.ints r.seq with | some i => { b with live := putL i.2.1 i.2.2 b.live, ints := dropI b.ints r.seq } | none => b)
  else if r.kind = 4 then { b with live := putL (rkey r) (rmark r) b.live }
  else if r.kind = 5 then { b with pins := pinL (rkey r) b.pins }
  else if r.kind = 6 then { b with pins := unpinL b.pins (rkey r) }
  else { b with live := r.keys.foldl (fun l k => outL l (k32 k)) b.live }
def applyD (b : BookD) (r : RecD) : BookD := if mayD b r then writeD b r else b
def replayD : BookD → List RecD → BookD × Nat
  | b, [] => (b, 0)
  | b, r :: rs => if mayD b r then ((replayD (writeD b r) rs).1, (lineL r).length + (replayD (writeD b r) rs).2) else (b, 0)
def headR : RecD := ⟨1, 0, z32, 0, z32, 0, []⟩
def liveR (p : K32 × K32) : RecD := ⟨4, 0, p.1.1.1, p.1.1.2, p.2.1.1, p.2.1.2, []⟩
def pinR (k : K32) : RecD := ⟨5, 0, k.1.1, k.1.2, z32, 0, []⟩
def recsD (b : BookD) : List RecD := headR :: (b.live.map liveR ++ b.pins.map pinR)
def linesD (b : BookD) : List UInt8 := (recsD b).flatMap lineL
def backD (b : BookD) : BookD := ⟨true, b.live, b.pins, [], 0⟩

def okM (m : K32) : Prop := 0 ≤ m.1.2 ∧ m.1.2 ≤ 1048576
structure Good (b : BookD) : Prop where
  live : b.live.Pairwise fun x y => kless x.1 y.1 = true
  lok : ∀ p ∈ b.live, okK p.1 ∧ okM p.2
  pins : b.pins.Pairwise fun x y => kless x y = true
  pok : ∀ k ∈ b.pins, okK k
  ints : (b.ints.map (·.1)).Nodup
  iok : ∀ p ∈ b.ints, p.1 < b.next ∧ okK p.2.1 ∧ okM p.2.2
  nok : 0 ≤ b.next ∧ b.next ≤ 1099511627777
theorem good0 : Good book0 := ⟨List.Pairwise.nil, (fun _ h => nomatch h), List.Pairwise.nil, (fun _ h => nomatch h), List.Pairwise.nil, (fun _ h => nomatch h), by simp [book0]⟩
theorem outL_sub (l : List (K32 × K32)) (k : K32) : (outL l k).Sublist l := List.filter_sublist
theorem putL_good {k m : K32} {l : List (K32 × K32)} (hk : okK k) (hm : okM m) (h1 : l.Pairwise fun x y => kless x.1 y.1 = true) (h2 : ∀ p ∈ l, okK p.1 ∧ okM p.2) :
    (putL k m l).Pairwise (fun x y => kless x.1 y.1 = true) ∧ ∀ p ∈ putL k m l, okK p.1 ∧ okM p.2 := by
  constructor
  · exact ins_sorted (fun p : K32 × K32 => p.1) (k, m) (outL l k) (fun y hy => (h2 y ((outL_sub l k).subset hy)).1) hk (fun y hy => by
      have := (List.mem_filter.1 hy).2
      simpa using this) (h1.sublist (outL_sub l k))
  · intro p hp
    rcases List.mem_cons.1 ((ins_perm _ _ _).mem_iff.1 hp) with rfl | hp
    · exact ⟨hk, hm⟩
    · exact h2 p ((outL_sub l k).subset hp)
theorem pinL_good {k : K32} {l : List K32} (hk : okK k) (h1 : l.Pairwise fun x y => kless x y = true) (h2 : ∀ p ∈ l, okK p) :
    (pinL k l).Pairwise (fun x y => kless x y = true) ∧ ∀ p ∈ pinL k l, okK p := by
  constructor
  · exact ins_sorted (fun p : K32 => p) k (unpinL l k) (fun y hy => h2 y (List.filter_sublist.subset hy)) hk (fun y hy => by
      have := (List.mem_filter.1 hy).2
      simpa using this) (h1.sublist List.filter_sublist)
  · intro p hp
    rcases List.mem_cons.1 ((ins_perm _ _ _).mem_iff.1 hp) with rfl | hp
    · exact hk
    · exact h2 p (List.filter_sublist.subset hp)
theorem foldOut_sub : ∀ (ks : List KeyD) (l : List (K32 × K32)), (ks.foldl (fun l k => outL l (k32 k)) l).Sublist l
  | [], _ => List.Sublist.refl _
  | k :: ks, l => (foldOut_sub ks _).trans (outL_sub l (k32 k))
theorem find_mem {l : List (Int × (K32 × K32))} {s : Int} {i : Int × (K32 × K32)} (h : findI l s = some i) : i ∈ l ∧ i.1 = s := by
  unfold findI at h
  exact ⟨List.mem_of_find?_eq_some h, by simpa using List.find?_some h⟩
theorem right_parts {r : RecD} (h : rightB r = true) : (r.kind = 2 ∨ r.kind = 3 → 0 ≤ r.seq ∧ r.seq ≤ 1099511627776) ∧ (r.kind = 2 ∨ r.kind = 4 → kOk r.kk = true ∧ 0 ≤ r.ms ∧ r.ms ≤ 1048576) ∧ (r.kind = 5 ∨ r.kind = 6 → kOk r.kk = true) ∧ (r.kind ≠ 7 → r.keys = []) ∧ 1 ≤ r.kind ∧ r.kind ≤ 7 := by
  simp only [rightB, seqOk, markOk] at h
  grind
theorem writeD_good {b : BookD} {r : RecD} (h : Good b) (hr : Hs r) (hm : mayD b r = true) : Good (writeD b r) := by
  simp only [mayD, Bool.and_eq_true] at hm
  obtain ⟨⟨hR, _⟩, hM⟩ := hm
  obtain ⟨p1, p2, p3, _, _, _⟩ := right_parts hR
  have hkk : (rkey r).1 = (r.kh, r.kk) := k32_val hr.1
  have hmm : (rmark r).1 = (r.mh, r.ms) := k32_val hr.2
  have okk : kOk r.kk = true → okK (rkey r) := fun h => by unfold okK; rw [hkk]; exact h
  have okm : 0 ≤ r.ms ∧ r.ms ≤ 1048576 → okM (rmark r) := fun h => by unfold okM; rw [hmm]; exact h
  unfold writeD
  split
  · exact ⟨h.live, h.lok, h.pins, h.pok, h.ints, h.iok, h.nok⟩
  split
  · rename_i h1 h2
    rw [if_pos h2] at hM
    have hM : b.next ≤ r.seq := by simpa using hM
    have q1 := p1 (Or.inl h2)
    have q2 := p2 (Or.inl h2)
    refine ⟨h.live, h.lok, h.pins, h.pok, ?_, ?_, ?_⟩
    · simp only [List.map_append, List.map_cons, List.map_nil]
      rw [List.nodup_append]
      refine ⟨h.ints, by simp, fun a ha c hc => ?_⟩
      obtain ⟨x, hx, rfl⟩ := List.mem_map.1 ha
      have := (h.iok x hx).1
      simp at hc
      omega
    · intro p hp
      rcases List.mem_append.1 hp with hp | hp
      · have := h.iok p hp
        exact ⟨by simp only; omega, this.2⟩
      · simp at hp
        subst hp
        exact ⟨by simp only; omega, okk q2.1, okm q2.2⟩
    · simp only; omega
  split
  · split
    · rename_i i hi
      obtain ⟨hi1, hi2⟩ := find_mem hi
      have q := h.iok i hi1
      have hp := putL_good q.2.1 q.2.2 h.live h.lok
      have hs : (dropI b.ints r.seq).Sublist b.ints := List.eraseP_sublist
      exact ⟨hp.1, hp.2, h.pins, h.pok, (hs.map _).nodup h.ints, fun p hp => h.iok p (hs.subset hp), h.nok⟩
    · exact h
  split
  · rename_i h4
    have q := p2 (Or.inr h4)
    have hp := putL_good (okk q.1) (okm q.2) h.live h.lok
    exact ⟨hp.1, hp.2, h.pins, h.pok, h.ints, h.iok, h.nok⟩
  split
  · rename_i h5
    have hp := pinL_good (okk (p3 (Or.inl h5))) h.pins h.pok
    exact ⟨h.live, h.lok, hp.1, hp.2, h.ints, h.iok, h.nok⟩
  split
  · have hs : (unpinL b.pins (rkey r)).Sublist b.pins := List.filter_sublist
    exact ⟨h.live, h.lok, h.pins.sublist hs, fun k hk => h.pok k (hs.subset hk), h.ints, h.iok, h.nok⟩
  · have hs := foldOut_sub r.keys b.live
    exact ⟨h.live.sublist hs, fun p hp => h.lok p (hs.subset hp), h.pins, h.pok, h.ints, h.iok, h.nok⟩
theorem applyD_good {b : BookD} {r : RecD} (h : Good b) (hr : Hs r) : Good (applyD b r) := by
  unfold applyD
  split
  · rename_i hm
    exact writeD_good h hr hm
  · exact h
theorem head_right : GoodR headR := ⟨by decide, ⟨by decide, by decide⟩, (fun _ h => nomatch h)⟩
theorem live_right {p : K32 × K32} (h : okK p.1 ∧ okM p.2) : GoodR (liveR p) := by
  refine ⟨?_, ⟨p.1.2, p.2.2⟩, (fun _ h => nomatch h)⟩
  have h1 : kOk p.1.1.2 = true := h.1
  have h2 := h.2
  unfold okM at h2
  simp [rightB, liveR, markOk, h1, h2]
theorem pin_right {k : K32} (h : okK k) : GoodR (pinR k) := by
  refine ⟨?_, ⟨k.2, z32_len⟩, (fun _ h => nomatch h)⟩
  have h1 : kOk k.1.2 = true := h
  simp [rightB, pinR, h1]
theorem recs_right {b : BookD} (h : Good b) : ∀ r ∈ recsD b, GoodR r := by
  intro r hr
  rcases List.mem_cons.1 hr with rfl | hr
  · exact head_right
  rcases List.mem_append.1 hr with hr | hr
  · obtain ⟨p, hp, rfl⟩ := List.mem_map.1 hr
    exact live_right (h.lok p hp)
  · obtain ⟨k, hk, rfl⟩ := List.mem_map.1 hr
    exact pin_right (h.pok k hk)
theorem stuck_nil : Stuck [] := fun n hn => by
  obtain ⟨hn1, _⟩ := hn
  simp at hn1
theorem all_lines : ∀ rs : List RecD, (∀ r ∈ rs, GoodR r) → AllTo (rs.flatMap lineL) rs (rs.flatMap lineL).length
  | [], _ => AllTo.nil stuck_nil
  | r :: rs, h => by
    have := (all_lines rs fun x hx => h x (by simp [hx])).cons (h r (by simp))
    rw [List.flatMap_cons, List.length_append]
    exact this
theorem all_linesD {b : BookD} (h : Good b) : AllTo (linesD b) (recsD b) (linesD b).length := all_lines _ (recs_right h)
theorem outL_self {l : List (K32 × K32)} {k : K32} (h : ∀ p ∈ l, p.1 ≠ k) : outL l k = l := by
  unfold outL
  rw [List.filter_eq_self]
  intro p hp
  simpa using h p hp
theorem unpinL_self {l : List K32} {k : K32} (h : ∀ p ∈ l, p ≠ k) : unpinL l k = l := by
  unfold unpinL
  rw [List.filter_eq_self]
  intro p hp
  simpa using h p hp
theorem replay_pins (live : List (K32 × K32)) : ∀ (ks pins : List K32), (∀ k ∈ ks, okK k) → (pins ++ ks).Pairwise (fun x y => kless x y = true) →
    replayD ⟨true, live, pins, [], 0⟩ (ks.map pinR) = (⟨true, live, pins ++ ks, [], 0⟩, ((ks.map pinR).flatMap lineL).length)
  | [], pins, _, _ => by simp [replayD]
  | k :: ks, pins, h1, h2 => by
    have hg := pin_right (h1 k (by simp))
    have hk : rkey (pinR k) = k := k32_mk k
    have hlt : ∀ p ∈ pins, kless p k = true := fun p hp => by
      rw [List.pairwise_append] at h2
      exact h2.2.2 p hp k (by simp)
    have hput : pinL k pins = pins ++ [k] := by
      unfold pinL
      rw [unpinL_self fun p hp he => by have := hlt p hp; rw [he, kless_self] at this; cases this]
      exact ins_end _ _ _ fun p hp => kless_asymm (hlt p hp)
    have hm : mayD ⟨true, live, pins, [], 0⟩ (pinR k) = true := by unfold mayD; rw [hg.1]; simp [pinR]
    have hw : writeD ⟨true, live, pins, [], 0⟩ (pinR k) = ⟨true, live, pins ++ [k], [], 0⟩ := by
      unfold writeD
      rw [hk, hput]
      simp [pinR]
    rw [List.map_cons, replayD, if_pos hm, hw, replay_pins live ks (pins ++ [k]) (fun x hx => h1 x (by simp [hx])) (by rw [List.append_assoc]; exact h2)]
    simp [List.flatMap_cons]
theorem replay_lives (pk : List K32) (h3 : ∀ k ∈ pk, okK k) (h4 : pk.Pairwise (fun x y => kless x y = true)) : ∀ (ls live : List (K32 × K32)), (∀ p ∈ ls, okK p.1 ∧ okM p.2) → (live ++ ls).Pairwise (fun x y => kless x.1 y.1 = true) →
    replayD ⟨true, live, [], [], 0⟩ (ls.map liveR ++ pk.map pinR) = (⟨true, live ++ ls, pk, [], 0⟩, ((ls.map liveR ++ pk.map pinR).flatMap lineL).length)
  | [], live, _, _ => by
    have := replay_pins live pk [] h3 (by simpa using h4)
    simpa using this
  | p :: ls, live, h1, h2 => by
    have hg := live_right (h1 p (by simp))
    have hk : rkey (liveR p) = p.1 := k32_mk p.1
    have hmk : rmark (liveR p) = p.2 := k32_mk p.2
    have hlt : ∀ q ∈ live, kless q.1 p.1 = true := fun q hq => by
      rw [List.pairwise_append] at h2
      exact h2.2.2 q hq p (by simp)
    have hput : putL p.1 p.2 live = live ++ [p] := by
      unfold putL
      rw [outL_self fun q hq he => by have := hlt q hq; rw [he, kless_self] at this; cases this]
      exact ins_end _ _ _ fun q hq => kless_asymm (hlt q hq)
    have hm : mayD ⟨true, live, [], [], 0⟩ (liveR p) = true := by unfold mayD; rw [hg.1]; simp [liveR]
    have hw : writeD ⟨true, live, [], [], 0⟩ (liveR p) = ⟨true, live ++ [p], [], [], 0⟩ := by
      unfold writeD
      rw [hk, hmk, hput]
      simp [liveR]
    rw [List.map_cons, List.cons_append, replayD, if_pos hm, hw, replay_lives pk h3 h4 ls (live ++ [p]) (fun x hx => h1 x (by simp [hx])) (by rw [List.append_assoc]; exact h2)]
    simp [List.flatMap_cons]
theorem replay_back {b : BookD} (h : Good b) : replayD book0 (recsD b) = (backD b, (linesD b).length) := by
  have hm : mayD book0 headR = true := by decide
  have hw : writeD book0 headR = ⟨true, [], [], [], 0⟩ := by simp [writeD, headR, book0]
  unfold recsD linesD recsD
  rw [replayD, if_pos hm, hw, replay_lives b.pins h.pok h.pins b.live [] h.lok (by simpa using h.live)]
  simp [backD, List.flatMap_cons]
theorem linesD_back (b : BookD) : linesD (backD b) = linesD b := rfl
theorem good_back {b : BookD} (h : Good b) : Good (backD b) := ⟨h.live, h.lok, h.pins, h.pok, List.Pairwise.nil, (fun _ h => nomatch h), by simp [backD]⟩

theorem assoc_some {α : Type} [DecidableEq α] {l : List (α × Value)} (hn : (l.map (·.1)).Nodup) {k : α} {v : Value} : assoc l k = some v ↔ (k, v) ∈ l := by
  induction l with
  | nil => simp [assoc]
  | cons p r ih =>
    rw [List.map_cons, List.nodup_cons] at hn
    unfold assoc at *
    rw [List.find?_cons]
    by_cases hp : p.1 = k
    · subst hp
      simp only [decide_true, Option.map_some, Option.some.injEq, List.mem_cons]
      constructor
      · rintro rfl; left; rfl
      · rintro (h | h)
        · rw [← h]
        · exact absurd (List.mem_map.2 ⟨_, h, rfl⟩) hn.1
    · simp only [hp, decide_false, List.mem_cons]
      rw [ih hn.2]
      constructor
      · exact Or.inr
      · rintro (h | h)
        · exact absurd (by rw [← h]) hp
        · exact h
theorem assoc_none {α : Type} [DecidableEq α] {l : List (α × Value)} {k : α} : assoc l k = none ↔ ∀ p ∈ l, p.1 ≠ k := by
  unfold assoc
  rw [Option.map_eq_none_iff, List.find?_eq_none]
  simp
theorem assoc_perm {α : Type} [DecidableEq α] {l m : List (α × Value)} (h : l.Perm m) (hn : (m.map (·.1)).Nodup) (k : α) : assoc l k = assoc m k := by
  have hl : (l.map (·.1)).Nodup := (h.map _).nodup_iff.2 hn
  cases hc : assoc m k with
  | none =>
    rw [assoc_none] at hc ⊢
    exact fun p hp => hc p (h.mem_iff.1 hp)
  | some v =>
    rw [assoc_some hn] at hc
    rw [assoc_some hl]
    exact h.mem_iff.2 hc
theorem set_perm {α : Type} [DecidableEq α] : ∀ {l : List (α × Value)}, (l.map (·.1)).Nodup → ∀ (k : α) (v : Value), (assocSet l k v).Perm ((k, v) :: l.filter fun p => decide (p.1 ≠ k))
  | [], _, k, v => by simp [assocSet]
  | p :: r, hn, k, v => by
    rw [List.map_cons, List.nodup_cons] at hn
    unfold assocSet
    by_cases hp : p.1 = k
    · rw [if_pos hp, List.filter_cons]
      have : (r.filter fun p => decide (p.1 ≠ k)) = r := by
        rw [List.filter_eq_self]
        intro q hq
        simp only [ne_eq, decide_not, Bool.not_eq_true', decide_eq_false_iff_not]
        intro e
        exact hn.1 (List.mem_map.2 ⟨q, hq, by rw [e, hp]⟩)
      rw [this]
      simp [hp]
    · rw [if_neg hp, List.filter_cons, if_pos (by simpa using hp)]
      exact ((set_perm hn.2 k v).cons p).trans (List.Perm.swap _ _ _)
theorem del_filter {α : Type} [DecidableEq α] : ∀ {l : List (α × Value)}, (l.map (·.1)).Nodup → ∀ (k : α), assocDel l k = l.filter fun p => decide (p.1 ≠ k)
  | [], _, k => rfl
  | p :: r, hn, k => by
    rw [List.map_cons, List.nodup_cons] at hn
    unfold assocDel
    rw [List.eraseP_cons, List.filter_cons]
    by_cases hp : p.1 = k
    · simp only [hp, decide_true, cond_true, ne_eq, not_true_eq_false, decide_false, Bool.false_eq_true, if_false]
      symm
      rw [List.filter_eq_self]
      intro q hq
      simp only [decide_eq_true_eq]
      intro e
      exact hn.1 (List.mem_map.2 ⟨q, hq, by rw [e, hp]⟩)
    · have := del_filter hn.2 k
      unfold assocDel at this
      simp [hp, this]
theorem dropI_filter : ∀ {l : List (Int × (K32 × K32))}, (l.map (·.1)).Nodup → ∀ (s : Int), dropI l s = l.filter fun p => decide (p.1 ≠ s)
  | [], _, s => rfl
  | p :: r, hn, s => by
    rw [List.map_cons, List.nodup_cons] at hn
    unfold dropI
    rw [List.eraseP_cons, List.filter_cons]
    by_cases hp : p.1 = s
    · simp only [hp, decide_true, cond_true, ne_eq, not_true_eq_false, decide_false, Bool.false_eq_true, if_false]
      symm
      rw [List.filter_eq_self]
      intro q hq
      simp only [decide_eq_true_eq]
      intro e
      exact hn.1 (List.mem_map.2 ⟨q, hq, by rw [e, hp]⟩)
    · have := dropI_filter hn.2 s
      unfold dropI at this
      simp [hp, this]
end Go.Proofs.YtplbcbamnjnhlaaGreatDoor
namespace Go.Proofs.YtplbcbamnjnhlaaGreatDoor
open Go.RowKit

theorem ask_drawn {α : Type} (x : Ask α) : ∀ (w : World), w.drawn ≤ (w.ask x).2.drawn := by
  induction x with
  | done a => exact fun _ => Nat.le_refl _
  | ask what range k ih =>
    intro w
    unfold World.ask
    simp only
    split
    · exact ih _ _
    · refine Nat.le_trans ?_ (ih _ _)
      exact Nat.le_succ _
theorem sys_drawn (w : World) (c : Sys) : w.drawn ≤ (w.sys c).2.drawn := by
  have h := ask_drawn (Kernel.perform c w.os) w
  unfold World.sys
  split
  · exact Nat.le_refl _
  · rename_i heq
    rw [heq] at h
    exact h
theorem viewStore_drawn {P : Program} {w w' : World} {p : Addr} {u : TypeId} {a : Addr} {v : Value} {b : Bool} {l : List Addr} (h : w.viewStore P p u a v b = .ok (w', l)) : w'.drawn = w.drawn := by
  unfold World.viewStore at h
  simp only [bind, Except.bind, pure, Except.pure] at h
  repeat' split at h
  all_goals first
    | cases h; done
    | (injection h with h; injection h with h _; subst h; rfl)
theorem farStore_drawn {P : Program} {w w' : World} {a : Addr} {v : Value} {b : Bool} {l : List Addr} (h : w.farStore P a v b = .ok (w', l)) : w'.drawn = w.drawn := by
  unfold World.farStore at h
  split at h
  · split at h
    · rename_i heq
      injection h with h
      subst h
      exact viewStore_drawn heq
    · cases h
  · cases h
theorem freeze_drawn (w : World) (a : Addr) (n : Nat) : (w.freeze a n).drawn = w.drawn := by
  unfold World.freeze
  split <;> rfl
theorem run_drawn {α : Type} {P : Program} : ∀ (s : Sem α) (w w' : World) (x : α), s.run P w = .ok x w' → w.drawn ≤ w'.drawn := by
  intro s
  induction s with
  | pure a => intro w w' x h; injection h with _ h; subst h; exact Nat.le_refl _
  | load m a k ih =>
    intro w w' x h
    unfold Sem.run at h
    split at h
    · exact ih _ _ _ _ h
    · split at h
      · exact ih _ _ _ _ h
      · cases h
  | store m a v k ih =>
    intro w w' x h
    have key : (match w.cell? a with
      | some _ => if w.frozen? a then Result.halt (.unsupported (.unsafePointer "a write to bytes that a string shares")) w else k.run P (w.setCell a v)
      | none => match w.farStore P a v (m == Mode.atomic) with
        | .ok (w, _) => k.run P w
        | .error h => .halt h w) = .ok x w' ∨ False := by
      cases v <;> first | (simp only [Sem.run] at h; exact .inl h) | (simp only [Sem.run] at h; cases h; done)
    rcases key with key | key
    · split at key
      · split at key
        · cases key
        · have := ih _ _ _ key; exact this
      · split at key
        · rename_i heq
          have := farStore_drawn heq
          rw [← this]
          exact ih _ _ _ key
        · cases key
    · cases key
  | new o k ih => intro w w' x h; have := ih _ _ _ _ h; exact this
  | shape r k ih => intro w w' x h; exact ih _ _ _ _ h
  | freeze a n k ih => intro w w' x h; rw [← freeze_drawn w a n]; exact ih _ _ _ h
  | frozen a k ih => intro w w' x h; exact ih _ _ _ _ h
  | getObj r k ih =>
    intro w w' x h
    unfold Sem.run at h
    split at h
    · cases h
    · exact ih _ _ _ _ h
    · cases h
  | setObj r o k ih =>
    intro w w' x h
    unfold Sem.run at h
    split at h
    · cases h
    · have := ih _ _ _ h; exact this
    · cases h
  | choose q k ih =>
    intro w w' x h
    unfold Sem.run at h
    split at h
    · exact ih _ _ _ _ h
    · exact Nat.le_trans (Nat.le_succ _) (ih _ _ _ _ h)
  | sys c k ih => intro w w' x h; exact Nat.le_trans (sys_drawn w c) (ih _ _ _ _ h)
  | program k ih => intro w w' x h; exact ih _ _ _ _ h
  | mark m k ih => intro w w' x h; exact ih _ _ _ h
  | halt h => intro w w' x h; cases h
theorem wpList_appD {P : Program} {w : World} {ops : Array Oper} {rest : List Oper} {o : Oper} {a : Act} {Q : Exit → Act → World → Prop} {s x : Operand} {t e : TypeId} {size bytes : Nat} {z : Value} (T : AppTy P t e size bytes z)
    (hgd : o.guard = none) (ho : o.op = .call { callee := .builtin .append, args := #[s, x], argTypes := #[t, t] })
    {v : Value} {A : Option Addr} {m c : Nat} (hs : a.eval s = v) (hx : a.eval x = .slice A m c)
    {base : Nat} {n : Nat} {xs : List Value} (hown : w.ownsRow base e size v n xs)
    {B : Nat} {news : List Value} (hr : Rd w B A news) (hl : news.length = m * size) (h1 : ∀ u ∈ news, u.oneCell' = true)
    (h63 : n + m ≤ maxLen) (hbytes : (n + m) * bytes ≤ 140737488355328) (hbase : base ≤ w.heap.size)
    (h : ∀ v' w', w'.ownsRow base e size v' (n + m) (xs ++ news) → w.grownBy w' v.ownBlock → w.drawn ≤ w'.drawn → wpList P ops Q rest (a.put o.dst v') w') :
    wpList P ops Q (o :: rest) a w := by
  refine wpList_plain hgd fun K' hK => ?_
  obtain ⟨v', w', hrun, h2, h3, h4, h5⟩ := run_app (ty := o.type) T hown (c := c) hr hl h1 h63 hbytes hbase
  have hd := run_drawn _ _ _ _ hrun
  unfold Oper.wp execOp
  simp only [ho, resolve, invoke, builtin, Sem.run_bind, Sem.run_pure, Result.andThen_ok, List.map_toArray, List.map_cons, List.map_nil, hs, hx, hrun]
  exact hK _ _ (h v' w' h2 h3 hd)
theorem grown_of {w w' : World} (hb : Below w.heap.size w w') (hd : w.drawn ≤ w'.drawn) : ∃ q os', w' = Go.Sort.grow (w.drewN q) os' := by
  refine ⟨w'.drawn - w.drawn, w'.heap.extract w.heap.size w'.heap.size, ?_⟩
  refine world_eq ?_ hb.tape ?_ hb.os hb.output
  · show w'.heap = w.heap ++ w'.heap.extract w.heap.size w'.heap.size
    apply Array.ext_getElem?
    intro i
    by_cases hi : i < w.heap.size
    · rw [Array.getElem?_append_left hi]
      exact hb.block i hi
    · rw [Array.getElem?_append_right (by omega), Array.getElem?_extract]
      by_cases h2 : i < w'.heap.size
      · rw [if_pos (by omega)]
        congr 1
        omega
      · rw [if_neg (by omega), Array.getElem?_eq_none (by omega)]
  · show w'.drawn = w.drawn + (w'.drawn - w.drawn)
    omega
end Go.Proofs.YtplbcbamnjnhlaaGreatDoor
namespace Go.Proofs.YtplbcbamnjnhlaaGreatDoor
open Go.RowKit

set_option maxHeartbeats 400000 in
theorem hex_digitsD (w : World) :
    Calls Tryz.prog 160 #[] w fun e w' => e = .returned (.agg digArr) ∧ Below w.heap.size w w' ∧ w.drawn ≤ w'.drawn := by
  go_enter Tryz.func160, Tryz.ntmps160
  go_wp2
  refine bodyPost_ret (v := .agg digArr) (by simp [results, Tryz.results160, go_sem, digArr]) rfl ⟨rfl, ?_, Nat.le_refl _⟩
  go_grown
set_option maxHeartbeats 400000 in
theorem hex_textD (l : List UInt8) (A : Option Addr) (c : Nat) (w : World) (hr : Rd w w.heap.size A (bcells l)) (hl : l.length ≤ 1099511627776) :
    Calls Tryz.prog 140 #[.slice A l.length c] w fun e w' => e = .returned (.string ⟨(hexOf l).toArray⟩) ∧ Below w.heap.size w w' ∧ w.drawn ≤ w'.drawn := by
  have hst := dig_store
  go_enter Tryz.func140, Tryz.ntmps140
  go_wp2_with (go_call hex_digitsD _ as e w1 ⟨rfl, hb, hdr⟩)
  go_loopw [4, 6, 10] (fun v4 v6 v10 wr => ∃ k : Nat, k ≤ l.length ∧ v10 = .int .i64 k ∧ wr.ownsRow w.heap.size 5 1 v4 (2 * k) (bcells (hexOf (l.take k))) ∧ wr.heap[w1.heap.size]? = some (.cells digArr 219 (0, 0)) ∧ Below w.heap.size w wr ∧ Hid (w.drawn ≤ wr.drawn)) (fun _ _ i _ => l.length - (intOf i).toNat)
  case atStart => exact ⟨0, by omega, rfl, World.ownsRow_nil _ _ _ _, Go.heap_alloc_new w1 _, hb.alloc hb.size _, hdr⟩
  case round =>
    obtain ⟨k, hk, rfl, hown, hd, hbr, HDR⟩ := hrel
    by_cases hlt : k < l.length
    · obtain ⟨ab, ao, rfl, hab, hcell⟩ := (hr.below hbr).byte hlt
      go_wp2
      have hb8 := l[k].toNat_lt
      have hd1 : wr.cell? ⟨w1.heap.size, l[k].toNat / 16, none⟩ = some (.int .u8 (digAt (l[k].toNat / 16))) := by
        rw [cell_of_row _ _ _ _ _ _ hd]; exact dig_get _ (by have := l[k].toNat_lt; omega)
      have hd2 : wr.cell? ⟨w1.heap.size, l[k].toNat % 16, none⟩ = some (.int .u8 (digAt (l[k].toNat % 16))) := by
        rw [cell_of_row _ _ _ _ _ _ hd]; exact dig_get _ (by omega)
      refine Text.wp_text [] (by kernel_rfl) (by kernel_rfl) (fun Q' hQ' => ?_)
      go_wp2_with (at_builtin; refine wpList_appD u8_app rfl rfl rfl rfl (hown.alloc _).drew (Rd.row (B := wr.heap.size + 1) (Go.heap_alloc_new wr _) (by omega)) rfl (by simp [Value.oneCell']) ?h63 ?hby ?hbase ?_)
      case h63 => simp only [maxLen]; omega
      case hby => omega
      case hbase => have := hbr.size; simp; omega
      intro v1 w2 hown2 hg2 hd2
      have HD2 := Lib.hid (Nat.le_trans HDR.out (Nat.le_trans (Nat.le_succ _) hd2) : w.drawn ≤ w2.drawn)
      clear hd2
      go_wp2
      refine ⟨by rfl, ?_⟩
      go_wp2
      go_roundw
      case rel =>
        refine ⟨k + 1, by omega, by go_num, ?_, ?_, ?_, HD2⟩
        · rw [hexOf_snoc l k hlt, bcells_append, hex2_cells]; exact hown2
        · exact grown_other (hown.alloc _).drew hg2 ((Below.heap_alloc _ _ _ (Array.getElem?_eq_some_iff.1 hd).1).trans hd) (by decide)
        · exact grown_below ((hbr.alloc hbr.size _).drew) hg2 (hown.alloc _).drew (Nat.le_refl _) (by have := hbr.size; simp; omega)
      case measure => simp [intOf]; omega
    · have hkl : k = l.length := by omega
      subst hkl
      obtain ⟨A4, c4, rfl, _, _⟩ := own_form hown
      rw [List.take_length] at hown
      have hcv := conv_bytes (P := Tryz.prog) (Rd.of_own hown) Tryz.underlying44 Tryz.underlying5 Tryz.underlying9 (2 * l.length) (hexOf_length l).symm
      go_wp2
      go_ret
      exact ⟨rfl, hbr, HDR.out⟩
theorem hex_text32D (l : List UInt8) (A : Option Addr) (c : Nat) (w : World) (hr : Rd w w.heap.size A (bcells l)) (hl : l.length = 32) :
    Calls Tryz.prog 140 #[.slice A 32 c] w fun e w' => e = .returned (.string ⟨(hexOf l).toArray⟩) ∧ Below w.heap.size w w' ∧ w.drawn ≤ w'.drawn := by
  have := hex_textD l A c w hr (by omega)
  rwa [hl] at this
set_option maxRecDepth 100000 in
set_option maxHeartbeats 400000 in
theorem text_anyD (h : List UInt8) (k : Int) (w : World) (hh : h.length = 32) :
    Calls Tryz.prog 105 #[hkv h k] w fun e w' => e = .returned (.string ⟨(keyText h k).toArray⟩) ∧ Below w.heap.size w w' ∧ w.drawn ≤ w'.drawn := by
  have hck : (w.alloc (.cells (hkCells h k).toArray 34)).cell? ⟨w.heap.size, 32, none⟩ = some (.int .i64 k) := by
    rw [cell_of_row _ _ _ _ _ _ (Go.heap_alloc_new w _), ← Array.getElem?_toList]
    exact hkCells_get h k hh
  have hgk : (hkCells h k)[32]? = some (.int .i64 k) := hkCells_get h k hh
  have hlk : (hkCells h k).length = 33 := by rw [hkCells_length, hh]
  have HH := Lib.hid hh
  clear hh
  rcases Bool.eq_false_or_eq_true (kOk k) with hb | hb
  · have HB := Lib.hid hb
    clear hb
    go_enter Tryz.func105, Tryz.ntmps105
    go_wp2_with fail
    refine (right_any k _).mono ?_
    rintro e w1 ⟨rfl, rfl⟩
    rw [HB.out]
    go_wp2_with fail
    refine Text.wp_grow [2, 6] [5] [] (by kernel_rfl) (by kernel_rfl) ?_
    refine Text.wpS_seg 2 _ _ _ _ (by decide) (fun Q' hQ' => ?_)
    simp only [List.take_succ_cons, List.take_zero]
    go_wp2_with fail
    simp only [Nat.zero_add, List.drop_succ_cons, List.drop_zero]
    refine Text.wpS_one (fun Q' hQ' => ?_)
    go_wp2_with fail
    have hrow : Rd (w.alloc (.cells (hkCells h k).toArray 34)) (w.heap.size + 1) (some ⟨w.heap.size, 0, none⟩) (hkCells h k) := by
      have := Rd.row (w := w.alloc (.cells (hkCells h k).toArray 34)) (B := w.heap.size + 1) (Go.heap_alloc_new w _) (by omega)
      simpa using this
    refine (hex_text32D h (some ⟨w.heap.size, 0, none⟩) 32 _ (by have := (rd_hash hrow).below (Below.refl _ _).drew; simpa using this) HH.out).mono ?_
    rintro e w2 ⟨rfl, hb2, hd2⟩
    have HD2 := Lib.hid (Nat.le_trans (Nat.le_succ _) hd2 : w.drawn ≤ w2.drawn)
    clear hd2
    have hb2' : Below w.heap.size w w2 := ((Below.refl _ _).alloc (Nat.le_refl _) _).trans ((below_drew hb2).mono (by simp))
    have hck2 : w2.cell? ⟨w.heap.size, 32, none⟩ = some (.int .i64 k) := (hb2.cell (p := ⟨w.heap.size, 32, none⟩) (by show w.heap.size < (w.alloc _).heap.size; simp)).trans hck
    have HB2 := Lib.hid hb2
    have HB2' := Lib.hid hb2'
    clear hb2 hb2' hrow
    obtain ⟨sh, hsh⟩ : ∃ sh : ByteArray, sh = ⟨(hexOf h).toArray⟩ := ⟨_, rfl⟩
    have hsz : sh.size ≤ 64 := by
      rw [hsh]
      show (hexOf h).toArray.size ≤ 64
      have := hexOf_length h
      have := HH.out
      simp; omega
    rw [← hsh]
    have HSH := Lib.hid hsh
    clear hsh
    go_wp2_with fail
    refine ⟨HB2.out, ?_⟩
    refine Text.wpS_seg 3 _ _ _ _ (by decide) (fun Q' hQ' => ?_)
    simp only [List.take_succ_cons, List.take_zero]
    go_wp2_with fail
    simp only [List.drop_succ_cons, List.drop_zero]
    refine Text.wpS_one (fun Q' hQ' => ?_)
    go_wp2_with fail
    refine (itoa_small k _ HB.out).mono ?_
    rintro e w3 ⟨rfl, rfl⟩
    go_wp2_with fail
    refine ⟨HB2.out, ?_⟩
    refine Text.wpS_seg 2 _ _ _ _ (by decide) (fun Q' hQ' => ?_)
    simp only [List.take_succ_cons, List.take_zero]
    go_wp2_with fail
    refine ⟨by rfl, ⟨fun _ => ⟨_, _, rfl, hck⟩, trivial⟩, ?_⟩
    go_wp2
    go_ret
    refine ⟨rt1 (vstr ?_), HB2'.out, HD2.out⟩
    unfold keyText
    rw [HB.out, if_pos rfl, HSH.out]
    apply ByteArray.ext
    simp
  · have HB := Lib.hid hb
    clear hb
    go_enter Tryz.func105, Tryz.ntmps105
    go_wp2_with fail
    refine (right_any k _).mono ?_
    rintro e w1 ⟨rfl, rfl⟩
    rw [HB.out]
    go_wp2
    go_ret
    refine ⟨rt1 (vstr ?_), (Below.refl _ _).alloc (Nat.le_refl _) _, Nat.le_refl _⟩
    unfold keyText
    rw [HB.out]
    rfl
set_option maxRecDepth 100000 in
set_option maxHeartbeats 400000 in
theorem keyLess_anyD (h h' : List UInt8) (k k' : Int) (w : World) (hh : h.length = 32) (hh' : h'.length = 32) :
    Calls Tryz.prog 73 #[hkv h k, hkv h' k'] w fun e w' => e = .returned (.bool (keyLess h k h' k')) ∧ Below w.heap.size w w' ∧ w.drawn ≤ w'.drawn := by
  go_enter Tryz.func73, Tryz.ntmps73
  go_wp2_with fail
  have HG1 := Lib.hid (row_cells (Go.heap_alloc2_old w (.cells (hkCells h k).toArray 34) (.cells (hkCells h' k').toArray 34)))
  have HG2 := Lib.hid (row_cells (Go.heap_alloc2_new w (.cells (hkCells h k).toArray 34) (.cells (hkCells h' k').toArray 34)))
  have HH := Lib.hid hh
  have HH' := Lib.hid hh'
  clear hh hh'
  refine Text.wp_grow [2, 5, 7] [0, 1, 4, 6] [2] (by kernel_rfl) (by kernel_rfl) ?_
  refine Text.wpS_seg 2 _ _ _ _ (by decide) (fun Q' hQ' => ?_)
  simp only [List.take_succ_cons, List.take_zero]
  refine wpList_load_agg rfl 34 rfl rfl keyTy.ut rfl (key_size' h k HH.out) HG1.out ?_
  refine wpList_load_agg rfl 34 rfl rfl keyTy.ut rfl (key_size' h' k' HH'.out) HG2.out ?_
  refine hQ' _ _ ?_
  simp only [List.drop_succ_cons, List.drop_zero]
  generalize ha : Act.put _ _ _ = a9
  simp [Act.put] at ha
  subst ha
  refine Text.wpS_one (fun Q1 hQ1 => ?_)
  refine wpList_bin rfl .neq 34 rfl rfl rfl (hkv_guard keyTy.gd ..) (hkv_neq keyTy HH.out HH'.out) ?_
  by_cases he : h = h' ∧ k = k'
  · rw [show (!(decide (h = h') && decide (k = k'))) = false by simp [he]]
    have hle : keyLess h k h' k' = false := by
      obtain ⟨rfl, rfl⟩ := he
      exact bytesLess_self _
    have HLE := Lib.hid hle
    clear hle he
    refine hQ1 _ _ ⟨Below.refl _ _, ?_⟩
    generalize ha : Act.put _ _ _ = a9
    simp [Act.put] at ha
    subst ha
    refine Text.wpS_seg 2 _ _ _ _ (by decide) (fun Q2 hQ2 => ?_)
    simp only [List.take_succ_cons, List.take_zero]
    refine wpList_val rfl (v := .bool false) rfl ?_
    refine wpList_skip rfl ?_
    refine hQ2 _ _ ?_
    simp only [List.drop_succ_cons, List.drop_zero]
    generalize ha : Act.put _ _ _ = a9
    simp [Act.put] at ha
    subst ha
    refine Text.wpS_one (fun Q3 hQ3 => ?_)
    refine wpList_skip rfl ?_
    refine hQ3 _ _ ⟨Below.refl _ _, ?_⟩
    generalize ha : Act.put _ _ _ = a9
    simp [Act.put] at ha
    subst ha
    refine Text.wpS_seg 1 _ _ _ _ (by decide) (fun Q4 hQ4 => ?_)
    simp only [List.take_succ_cons, List.take_zero]
    refine wpList_skip rfl ?_
    refine hQ4 _ _ ?_
    simp only [List.drop_succ_cons, List.drop_zero]
    generalize ha : Act.put _ _ _ = a9
    simp [Act.put] at ha
    subst ha
    refine Text.wpS_one (fun Q5 hQ5 => ?_)
    refine wpList_skip rfl ?_
    refine hQ5 _ _ ⟨Below.refl _ _, ?_⟩
    generalize ha : Act.put _ _ _ = a9
    simp [Act.put] at ha
    subst ha
    refine Text.wpS_seg 3 _ _ _ _ (by decide) (fun Q6 hQ6 => ?_)
    simp only [List.take_succ_cons, List.take_zero]
    refine wpList_skip rfl ?_
    refine wpList_val rfl (v := .bool false) rfl ?_
    refine wpList_val rfl (v := .bool false) rfl ?_
    refine hQ6 _ _ ?_
    generalize ha : Act.put _ _ _ = a9
    simp [Act.put] at ha
    subst ha
    simp only [List.drop_succ_cons, List.drop_zero]
    refine ⟨by rfl, ⟨fun _ => ⟨_, _, rfl, HG1.out 0 _ (List.getElem?_eq_getElem (by rw [hkCells_length]; omega))⟩, fun _ => ⟨_, _, rfl, HG2.out 0 _ (List.getElem?_eq_getElem (by rw [hkCells_length]; omega))⟩, (fun hh => absurd hh Bool.false_ne_true), (fun hh => absurd hh Bool.false_ne_true), trivial⟩, ?_⟩
    go_wp2_with fail
    go_ret
    refine ⟨rt1 (vbool HLE.out.symm), ?_, Nat.le_succ _⟩
    exact (((Below.refl _ _).alloc (Nat.le_refl _) _).alloc (Nat.le_of_lt (by show _ < (Array.push _ _).size; rw [Array.size_push]; exact Nat.lt_succ_self _)) _).drew
  · rw [show (!(decide (h = h') && decide (k = k'))) = true by by_cases h1 : h = h' <;> by_cases h2 : k = k' <;> simp_all]
    clear he
    refine hQ1 _ _ ⟨Below.refl _ _, ?_⟩
    generalize ha : Act.put _ _ _ = a9
    simp [Act.put] at ha
    subst ha
    refine Text.wpS_seg 2 _ _ _ _ (by decide) (fun Q2 hQ2 => ?_)
    simp only [List.take_succ_cons, List.take_zero]
    refine wpList_val rfl (v := .bool true) rfl ?_
    refine wpList_load_aggG rfl 34 rfl rfl keyTy.ut rfl (key_size' h k HH.out) HG1.out ?_
    refine hQ2 _ _ ?_
    simp only [List.drop_succ_cons, List.drop_zero]
    generalize ha : Act.put _ _ _ = a9
    simp [Act.put] at ha
    subst ha
    refine Text.wpS_one (fun Q3 hQ3 => ?_)
    go_wp2_with fail
    refine (text_anyD h k _ HH.out).mono ?_
    rintro e w2 ⟨rfl, hb2, hd2⟩
    have HD2 := Lib.hid (Nat.le_trans (Nat.le_succ _) hd2 : w.drawn ≤ w2.drawn)
    clear hd2
    have HB2 := Lib.hid hb2
    clear hb2
    obtain ⟨s1, hs1⟩ : ∃ s1 : ByteArray, s1 = ⟨(keyText h k).toArray⟩ := ⟨_, rfl⟩
    rw [← hs1]
    have HS1 := Lib.hid hs1
    clear hs1
    go_wp2_with fail
    refine ⟨HB2.out, ?_⟩
    refine Text.wpS_seg 1 _ _ _ _ (by decide) (fun Q4 hQ4 => ?_)
    simp only [List.take_succ_cons, List.take_zero]
    refine wpList_load_aggG rfl 34 rfl rfl keyTy.ut rfl (key_size' h' k' HH'.out) (fun j u hu => (HB2.out.cell (p := ⟨w.heap.size + 1, 0 + j, none⟩) (by show _ < (Array.push (Array.push _ _) _).size; rw [Array.size_push, Array.size_push]; show w.heap.size + 1 < _; omega)).trans (HG2.out j u hu)) ?_
    refine hQ4 _ _ ?_
    simp only [List.drop_succ_cons, List.drop_zero]
    generalize ha : Act.put _ _ _ = a9
    simp [Act.put] at ha
    subst ha
    refine Text.wpS_one (fun Q5 hQ5 => ?_)
    go_wp2_with fail
    refine (text_anyD h' k' _ HH'.out).mono ?_
    rintro e w3 ⟨rfl, hb3, hd3⟩
    have HD3 := Lib.hid (Nat.le_trans HD2.out hd3 : w.drawn ≤ w3.drawn)
    clear hd3
    have HB3 := Lib.hid (HB2.out.trans (hb3.mono HB2.out.size))
    clear hb3
    obtain ⟨s2, hs2⟩ : ∃ s2 : ByteArray, s2 = ⟨(keyText h' k').toArray⟩ := ⟨_, rfl⟩
    rw [← hs2]
    have HS2 := Lib.hid hs2
    clear hs2
    go_wp2_with fail
    refine ⟨HB3.out, ?_⟩
    have HLE := Lib.hid (show Op.bytesLess s1.toList s2.toList = keyLess h k h' k' by rw [HS1.out, HS2.out]; unfold keyLess; simp)
    refine Text.wpS_seg 3 _ _ _ _ (by decide) (fun Q6 hQ6 => ?_)
    simp only [List.take_succ_cons, List.take_zero]
    go_wp2_with fail
    simp only [List.drop_succ_cons, List.drop_zero]
    refine ⟨by rfl, ⟨fun _ => ⟨_, _, rfl, HG1.out 0 _ (List.getElem?_eq_getElem (by rw [hkCells_length]; omega))⟩, fun _ => ⟨_, _, rfl, HG2.out 0 _ (List.getElem?_eq_getElem (by rw [hkCells_length]; omega))⟩, fun _ => ⟨_, _, rfl, HG1.out 0 _ (List.getElem?_eq_getElem (by rw [hkCells_length]; omega))⟩, fun _ => ⟨_, _, rfl, HG2.out 0 _ (List.getElem?_eq_getElem (by rw [hkCells_length]; omega))⟩, trivial⟩, ?_⟩
    go_wp2_with fail
    go_ret
    refine ⟨rt1 (vbool HLE.out), ?_, HD3.out⟩
    exact (((Below.refl _ _).alloc (Nat.le_refl _) _).alloc (Nat.le_of_lt (by show _ < (Array.push _ _).size; rw [Array.size_push]; exact Nat.lt_succ_self _)) _).trans ((below_drew HB3.out).mono (by show _ ≤ (Array.push (Array.push _ _) _).size; rw [Array.size_push, Array.size_push]; omega))
end Go.Proofs.YtplbcbamnjnhlaaGreatDoor
