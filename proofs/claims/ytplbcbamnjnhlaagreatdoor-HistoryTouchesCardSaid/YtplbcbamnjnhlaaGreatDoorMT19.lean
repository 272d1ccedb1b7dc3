/- Texts of this proof joined: FramePure, RecLaw, LineLaw, LostLaw. -/
import Derived.Test.YtplbcbamnjnhlaaGreatDoorMT00
import Derived.Test.YtplbcbamnjnhlaaGreatDoorMT08
import Derived.Test.YtplbcbamnjnhlaaGreatDoorMT18
import Derived.Test.YtplbcbamnjnhlaaGreatDoorMT16
set_option maxRecDepth 100000
set_option maxHeartbeats 40000000
namespace Go.Proofs.YtplbcbamnjnhlaaGreatDoor
open Go.RowKit

theorem qnn (x : Nat) : ∀ (rest : List UInt8) (i v : Nat), i ≤ 8 → x < 128 ^ (9 - i) → (0 < i → 0 < x) → gp (gy x ++ rest) i v = some (v + x * 128 ^ i, i + (gy x).length) := by
 induction x using Nat.strongRecOn with
 |ind x ih =>
  intro rest i v hi hx h0
  by_cases h : x < 128
  ·rw [ss h]
   have e : (UInt8.ofNat x).toNat = x := by simp; omega
   show gp (UInt8.ofNat x :: rest) i v = _
   rw [gp, e, if_neg (by omega), if_neg (by omega), if_pos h]
   rfl
  ·rw [vj h, List.cons_append]
   have e : (UInt8.ofNat (x % 128 + 128)).toNat = x % 128 + 128 := by simp; omega
   have hp : (128 : Nat) ^ (9 - i) = 128 ^ (9 - (i + 1)) * 128 := by rw [← Nat.pow_succ]; congr 1; omega
   have hi7 : i ≤ 7 := by
    by_cases h8 : i = 8
    ·subst h8
     have : x < 128 := by simpa using hx
     omega
    ·omega
   have hd : x / 128 < 128 ^ (9 - (i + 1)) := by rw [Nat.div_lt_iff_lt_mul (by omega), ← hp]; exact hx
   rw [gp, e, if_neg (by omega), if_neg (by omega), if_neg (by omega), ih (x / 128) (by omega) rest (i + 1) _ (by omega) hd (fun _ => by omega), List.length_cons]
   congr 1
   have h3 : (x % 128 + 128) % 128 = x % 128 := by omega
   have h4 : x % 128 * 128 ^ i + x / 128 * 128 ^ (i + 1) = x * 128 ^ i := by
    rw [Nat.pow_succ, Nat.mul_comm (128 ^ i) 128, ← Nat.mul_assoc, ← Nat.add_mul]
    congr 1
    omega
   rw [h3, Nat.add_assoc, h4, Nat.add_assoc, Nat.add_comm 1]
theorem qeb : ∀ (l : List UInt8) (i v n m : Nat), gp l i v = some (n, m) → ∃ x, n = v + x * 128 ^ i ∧ i < m ∧ m - i ≤ l.length ∧ l.take (m - i) = gy x ∧ (0 < i → 0 < x)
 |[], i, v, n, m, h => by simp [gp] at h
 |c :: r, i, v, n, m, h => by
  rw [gp] at h
  by_cases h1 : 10 ≤ i
  ·rw [if_pos h1] at h; cases h
  rw [if_neg h1] at h
  by_cases h2 : (i = 9 ∧ 1 < c.toNat) ∨ (0 < i ∧ c.toNat = 0)
  ·rw [if_pos h2] at h; cases h
  rw [if_neg h2] at h
  by_cases h3 : c.toNat < 128
  ·rw [if_pos h3] at h
   injection h with h
   injection h with e1 e2
   refine ⟨c.toNat, e1.symm, by omega, by simp; omega, ?_, fun hi => by omega⟩
   rw [show m - i = 1 by omega, ss h3]
   simp
  ·rw [if_neg h3] at h
   obtain ⟨x, hx, hm, hl, ht, h0⟩ := qeb r (i + 1) _ n m h
   have hx0 := h0 (by omega)
   have hc := c.toNat_lt
   refine ⟨c.toNat % 128 + 128 * x, ?_, by omega, by simp; omega, ?_, fun _ => by omega⟩
   ·rw [hx, Nat.pow_succ, Nat.mul_comm (128 ^ i) 128, ← Nat.mul_assoc, Nat.add_assoc, ← Nat.add_mul, Nat.mul_comm x]
   ·rw [vj (by omega), show m - i = (m - (i + 1)) + 1 by omega, List.take_succ_cons, ht]
    rw [show (c.toNat % 128 + 128 * x) % 128 + 128 = c.toNat by omega, show (c.toNat % 128 + 128 * x) / 128 = x by omega]
    simp
theorem qfv (k : UInt8) (load : List UInt8) (h : load.length ≤ 1048576) : el (cv k load) = some (k, load) := by
 have hb : cv k load = k :: (gy load.length ++ (load ++ eu (il (dm k load)))) := by simp [cv, dm]
 have hl := iu k load
 have hv := qnn load.length (load ++ eu (il (dm k load))) 0 0 (by omega) (by simp; omega) (by omega)
 have e1 : 1 + (gy load.length).length + load.length = (dm k load).length := by rw [jx]
 have ht : (cv k load).take (1 + (gy load.length).length + load.length) = dm k load := by rw [e1, cv, List.take_left]
 have hd : (cv k load).drop (1 + (gy load.length).length + load.length) = eu (il (dm k load)) := by rw [e1, cv, List.drop_left]
 have hd2 : (cv k load).drop (1 + (gy load.length).length) = load ++ eu (il (dm k load)) := by
  rw [hb, Nat.add_comm 1, List.drop_succ_cons, List.drop_left]
 unfold el
 have hp : dv (cv k load) = some (k, load, (cv k load).length) := by
  have e0 : cv k load = k :: (cv k load).tail := by rw [hb]; rfl
  rw [e0, kr]
  have e2 : (cv k load).tail = gy load.length ++ (load ++ eu (il (dm k load))) := by rw [hb]; rfl
  rw [e2, hv]
  simp only [Nat.zero_add, Nat.pow_zero, Nat.mul_one]
  rw [← e2, ← e0, ht, hd, hd2, if_pos ⟨h, by omega, by rw [List.take_of_length_le (by simp [eu])]⟩, List.take_left]
  rw [hl]
  congr 3
  omega
 rw [hp]
 simp
theorem rh {b : List UInt8} {k : UInt8} {load : List UInt8} (h : el b = some (k, load)) : b = cv k load ∧ load.length ≤ 1048576 := by
 unfold el at h
 cases b with
 |nil => simp [dv] at h
 |cons a r =>
  rw [kr] at h
  cases hv : gp r 0 0 with
  |none => simp [hv] at h
  |some nm =>
   obtain ⟨n, m⟩ := nm
   simp only [hv] at h
   by_cases hc : n ≤ 1048576 ∧ 1 + m + n + 4 ≤ (a :: r).length ∧ (((a :: r).drop (1 + m + n)).take 4) = eu (il ((a :: r).take (1 + m + n)))
   ·rw [if_pos hc] at h
    simp only at h
    by_cases hl : 1 + m + n + 4 = (a :: r).length
    ·rw [if_pos hl] at h
     injection h with h
     injection h with h1 h2
     subst h1
     obtain ⟨x, hx, hm, hml, ht, _⟩ := qeb r 0 0 n m hv
     have hx' : n = x := by simpa using hx
     subst hx'
     have ht' : r.take m = gy n := by simpa using ht
     have e1 : (a :: r).drop (1 + m) = r.drop m := by rw [Nat.add_comm 1, List.drop_succ_cons]
     have hll : load.length = n := by
      rw [← h2, List.length_take, e1, List.length_drop]
      simp at hl
      omega
     refine ⟨?_, by omega⟩
     have hbody : (a :: r).take (1 + m + n) = dm a load := by
      rw [dm, hll, ← ht', ← h2, e1]
      rw [show 1 + m + n = (m + n) + 1 by omega, List.take_succ_cons, List.take_add]
     have hdl : ((a :: r).drop (1 + m + n)).length = 4 := by rw [List.length_drop]; omega
     have h4 := hc.2.2
     rw [List.take_of_length_le (by omega), hbody] at h4
     rw [cv, ← h4, ← hbody, List.take_append_drop]
    ·rw [if_neg hl] at h; cases h
   ·rw [if_neg hc] at h; cases h

theorem qgm : ∀ (n x : Nat), co (cb n x) = x % 256 ^ n
 |0, x => by simp [cb, dw, digs, co, Nat.mod_one]
 |n + 1, x => by
  have ih := qgm n (x / 256)
  have e : cb (n + 1) x = cb n (x / 256) ++ [UInt8.ofNat (x % 256)] := by simp [cb, dw, digs]
  rw [e, ux, ih]
  have h1 : (UInt8.ofNat (x % 256)).toNat = x % 256 := by simp
  rw [h1, Nat.pow_succ, Nat.mul_comm (256 ^ n) 256, Nat.mod_mul]
  omega
theorem sk (l : List UInt8) : cb l.length (co l) = l := by
 induction h : l.length generalizing l with
 |zero => rw [List.length_eq_zero_iff.1 h]; rfl
 |succ n ih =>
  have hn : l ≠ [] := by intro e; simp [e] at h
  have e := List.dropLast_concat_getLast hn
  have hl : l.dropLast.length = n := by rw [List.length_dropLast]; omega
  have e2 : ∀ x, cb (n + 1) x = cb n (x / 256) ++ [UInt8.ofNat (x % 256)] := fun x => by simp [cb, dw, digs]
  have hc := (l.getLast hn).toNat_lt
  have hv : co l = co l.dropLast * 256 + (l.getLast hn).toNat := by conv => lhs; rw [← e, ux]
  rw [e2, hv, show (co l.dropLast * 256 + (l.getLast hn).toNat) / 256 = co l.dropLast by omega, show (co l.dropLast * 256 + (l.getLast hn).toNat) % 256 = (l.getLast hn).toNat by omega, ih l.dropLast hl]
  simp [e]
theorem qti (c : UInt8) : UInt8.ofNat (co [c]) = c := by simp [co]
theorem za (l : List UInt8) (a b : Nat) : fk (l.drop a) b = fk l (a + b) := by simp [fk, Nat.add_assoc]
theorem qz (k : KeyD) (post : List UInt8) (h : k.1.length = 32) (h0 : 0 ≤ k.2) (h1 : k.2 < 256) : fk (keyB k ++ post) 0 = k := by
 obtain ⟨hh, n⟩ := k
 simp only at h h0 h1
 have e : keyB (hh, n) ++ post = hh ++ ([UInt8.ofNat n.toNat] ++ post) := by simp [keyB]
 unfold fk
 rw [e, List.drop_zero, ← h, List.take_left, Nat.zero_add, List.drop_left]
 have hn : (UInt8.ofNat n.toNat).toNat = n.toNat := by simp; omega
 rw [List.singleton_append, List.take_succ_cons, List.take_zero]
 refine Prod.ext rfl ?_
 simp only [co, List.foldl_cons, List.foldl_nil, hn]
 omega
theorem qy (l : List UInt8) (a : Nat) (h : a + 33 ≤ l.length) : keyB (fk l a) = (l.drop a).take 33 := by
 unfold keyB fk
 have h1 : ((l.drop (a + 32)).take 1) = [l[a + 32]] := by rw [List.drop_eq_getElem_cons (by omega), List.take_succ_cons, List.take_zero]
 have e : (((co [l[a + 32]] : Nat) : Int)).toNat = co [l[a + 32]] := rfl
 simp only [h1, e, qti]
 rw [show 33 = 32 + 1 from rfl, List.take_add, List.drop_drop, h1]
theorem lb (l : List UInt8) (a : Nat) (h : a + 33 ≤ l.length) : (fk l a).1.length = 32 := by
 simp [fk]
 omega
def GoodK (k : KeyD) : Prop := k.1.length = 32 ∧ 0 ≤ k.2 ∧ k.2 < 256
theorem qmb : ∀ (ks : List KeyD), (∀ k ∈ ks, GoodK k) → (List.range ks.length).map (fun i => fk (ks.flatMap keyB) (33 * i)) = ks
 |[], _ => rfl
 |k :: r, h => by
  have hk := h k (by simp)
  have ih := qmb r fun x hx => h x (by simp [hx])
  rw [List.length_cons, List.range_succ_eq_map, List.map_cons, List.map_map, List.flatMap_cons, Nat.mul_zero, qz k _ hk.1 hk.2.1 hk.2.2]
  congr 1
  refine Eq.trans ?_ ih
  apply List.map_congr_left
  intro i _
  show fk (keyB k ++ r.flatMap keyB) (33 * (i + 1)) = fk (r.flatMap keyB) (33 * i)
  have e : r.flatMap keyB = (keyB k ++ r.flatMap keyB).drop 33 := by rw [← fi k hk.1, List.drop_left]
  conv => rhs; rw [e]
  rw [za, Nat.mul_add, Nat.add_comm]
theorem qma : ∀ (n : Nat) (l : List UInt8), l.length = 33 * n → ((List.range n).map fun i => fk l (33 * i)).flatMap keyB = l
 |0, l, h => by rw [List.length_eq_zero_iff.1 (by omega : l.length = 0)]; rfl
 |n + 1, l, h => by
  have ih := qma n (l.drop 33) (by rw [List.length_drop]; omega)
  rw [List.range_succ_eq_map, List.map_cons, List.map_map, List.flatMap_cons, qy l _ (by omega)]
  have e : (List.range n).map ((fun i => fk l (33 * i)) ∘ Nat.succ) = (List.range n).map (fun i => fk (l.drop 33) (33 * i)) := by
   apply List.map_congr_left
   intro i _
   show fk l (33 * (i + 1)) = _
   rw [za, Nat.mul_add, Nat.add_comm]
  rw [e, ih, Nat.mul_zero, List.drop_zero, List.take_append_drop]
theorem qhc (n : Nat) (l : List UInt8) (h : l.length = 33 * n) : ∀ k ∈ (List.range n).map (fun i => fk l (33 * i)), k.1.length = 32 := by
 intro k hk
 obtain ⟨i, hi, rfl⟩ := List.mem_map.1 hk
 have := List.mem_range.1 hi
 exact lb l _ (by omega)
def ke (r : RecD) : Prop := au r = true ∧ Hs r ∧ ∀ k ∈ r.keys, k.1.length = 32
theorem qfm {k : Int} (h : kOk k = true) : 0 ≤ k ∧ k < 256 := by unfold kOk at h; simp at h; omega
theorem qub {r : RecD} (h : ke r) : ∀ k ∈ r.keys, GoodK k := by
 intro k hk
 refine ⟨h.2.2 k hk, ?_⟩
 by_cases h7 : r.kind = 7
 ·obtain ⟨kind, seq, kh, kk, mh, ms, keys⟩ := r
  simp only at h7
  subst h7
  obtain ⟨i, hi, rfl⟩ := List.getElem_of_mem hk
  exact qfm ((xk (qdk h.1).2).2 i hi)
 ·have h1 := h.1
  unfold au at h1
  simp only [h7, if_false, Bool.and_eq_true, decide_eq_true_eq] at h1
  rw [h1.2] at hk
  exact nomatch hk
theorem dec2 (l1 l2 l3 l4 : List UInt8) (n : Int) (h1 : l1.length = 6) (h2 : l2.length = 32) (h3 : l3.length = 32) (h4 : l4.length = 3) (hn : 0 ≤ n ∧ n < 256) :
  decR 2 (l1 ++ (keyB (l2, n) ++ (l3 ++ l4))) = ⟨2, (co l1 : Nat), l2, n, l3, (co l4 : Nat), []⟩ := by
 have e0 : (l1 ++ (keyB (l2, n) ++ (l3 ++ l4))).take 6 = l1 := by rw [← h1, List.take_left]
 have ek : fk (l1 ++ (keyB (l2, n) ++ (l3 ++ l4))) 6 = (l2, n) := by
  have := za (l1 ++ (keyB (l2, n) ++ (l3 ++ l4))) 6 0
  rw [← this, ← h1, List.drop_left]
  exact qz (l2, n) _ h2 hn.1 hn.2
 have e1 : (l1 ++ (keyB (l2, n) ++ (l3 ++ l4))).drop 39 = l3 ++ l4 := by
  rw [← List.append_assoc, show 39 = (l1 ++ keyB (l2, n)).length by rw [List.length_append, h1, fi _ h2], List.drop_left]
 have e2 : (l1 ++ (keyB (l2, n) ++ (l3 ++ l4))).drop 71 = l4 := by
  rw [show 71 = 39 + 32 from rfl, ← List.drop_drop, e1, ← h3, List.drop_left]
 unfold decR
 rw [if_pos rfl, e0, ek, e1, e2, ← h3, List.take_left, List.take_of_length_le (by omega)]
theorem dec4 (l2 l3 l4 : List UInt8) (n : Int) (h2 : l2.length = 32) (h3 : l3.length = 32) (h4 : l4.length = 3) (hn : 0 ≤ n ∧ n < 256) :
  decR 4 (keyB (l2, n) ++ (l3 ++ l4)) = ⟨4, 0, l2, n, l3, (co l4 : Nat), []⟩ := by
 have ek : fk (keyB (l2, n) ++ (l3 ++ l4)) 0 = (l2, n) := qz (l2, n) _ h2 hn.1 hn.2
 have e1 : (keyB (l2, n) ++ (l3 ++ l4)).drop 33 = l3 ++ l4 := by
  rw [show 33 = (keyB (l2, n)).length by rw [fi _ h2], List.drop_left]
 have e2 : (keyB (l2, n) ++ (l3 ++ l4)).drop 65 = l4 := by
  rw [show 65 = 33 + 32 from rfl, ← List.drop_drop, e1, ← h3, List.drop_left]
 unfold decR
 rw [if_neg (by decide), if_neg (by decide), if_pos rfl, ek, e1, e2, ← h3, List.take_left, List.take_of_length_le (by omega)]
theorem qdw (n : Nat) (x : Int) (h0 : 0 ≤ x) (h1 : x.toNat < 256 ^ n) : ((co (cb n x.toNat) : Nat) : Int) = x := by
 rw [qgm, Nat.mod_eq_of_lt h1]
 omega
theorem qlv {r : RecD} (h : ke r) : okT r.kind (dx r) = true ∧ decR r.kind (dx r) = r := by
 have hg := qub h
 obtain ⟨hR, ⟨hh, hm⟩, hks⟩ := h
 have hk := lq hR
 have key : lenT r.kind (dx r) = true ∧ decR r.kind (dx r) = r := by
  have hR2 := hR
  obtain ⟨kind, seq, kh, kk, mh, ms, keys⟩ := r
  simp only at hk hh hm hg hks
  unfold au at hR2
  rcases hk with rfl | rfl | rfl | rfl | rfl | rfl | rfl
  ·simp at hR2
   obtain ⟨⟨⟨rfl, rfl, rfl⟩, rfl, rfl⟩, rfl⟩ := hR2
   exact ⟨rfl, rfl⟩
  ·simp [pk, lr] at hR2
   obtain ⟨⟨⟨h1, h2⟩, h3, h4, h5⟩, rfl⟩ := hR2
   have e : dx ⟨2, seq, kh, kk, mh, ms, []⟩ = cb 6 seq.toNat ++ (keyB (kh, kk) ++ (mh ++ cb 3 ms.toNat)) := by simp [dx]
   have hb := qfm h3
   rw [e]
   refine ⟨?_, ?_⟩
   ·simp [lenT, bx, fi _ (show (kh, kk).1.length = 32 from hh), hm]
   ·rw [dec2 _ _ _ _ _ (bx _ _) hh hm (bx _ _) hb, qdw 6 seq h1 (by omega), qdw 3 ms h4 (by omega)]
  ·simp [pk] at hR2
   obtain ⟨⟨⟨⟨h1, h2⟩, rfl, rfl⟩, rfl, rfl⟩, rfl⟩ := hR2
   have e : dx ⟨3, seq, z32, 0, z32, 0, []⟩ = cb 6 seq.toNat := by simp [dx]
   rw [e]
   refine ⟨by simp [lenT, bx], ?_⟩
   have e2 : decR 3 (cb 6 seq.toNat) = ⟨3, (co ((cb 6 seq.toNat).take 6) : Nat), z32, 0, z32, 0, []⟩ := rfl
   rw [e2, List.take_of_length_le (by rw [bx]; omega), qdw 6 seq h1 (by omega)]
  ·simp [lr] at hR2
   obtain ⟨⟨rfl, h3, h4, h5⟩, rfl⟩ := hR2
   have e : dx ⟨4, 0, kh, kk, mh, ms, []⟩ = keyB (kh, kk) ++ (mh ++ cb 3 ms.toNat) := by simp [dx]
   have hb := qfm h3
   rw [e]
   refine ⟨?_, ?_⟩
   ·simp [lenT, bx, fi _ (show (kh, kk).1.length = 32 from hh), hm]
   ·rw [dec4 _ _ _ _ hh hm (bx _ _) hb, qdw 3 ms h4 (by omega)]
  ·simp at hR2
   obtain ⟨⟨⟨rfl, rfl, rfl⟩, h3⟩, rfl⟩ := hR2
   have hb := qfm h3
   have e : dx ⟨5, 0, kh, kk, z32, 0, []⟩ = keyB (kh, kk) := by simp [dx]
   rw [e]
   refine ⟨by simp [lenT, fi _ (show (kh, kk).1.length = 32 from hh)], ?_⟩
   have ek : fk (keyB (kh, kk)) 0 = (kh, kk) := by have := qz (kh, kk) [] hh hb.1 hb.2; rwa [List.append_nil] at this
   have e2 : decR 5 (keyB (kh, kk)) = ⟨5, 0, (fk (keyB (kh, kk)) 0).1, (fk (keyB (kh, kk)) 0).2, z32, 0, []⟩ := rfl
   rw [e2, ek]
  ·simp at hR2
   obtain ⟨⟨⟨rfl, rfl, rfl⟩, h3⟩, rfl⟩ := hR2
   have hb := qfm h3
   have e : dx ⟨6, 0, kh, kk, z32, 0, []⟩ = keyB (kh, kk) := by simp [dx]
   rw [e]
   refine ⟨by simp [lenT, fi _ (show (kh, kk).1.length = 32 from hh)], ?_⟩
   have ek : fk (keyB (kh, kk)) 0 = (kh, kk) := by have := qz (kh, kk) [] hh hb.1 hb.2; rwa [List.append_nil] at this
   have e2 : decR 6 (keyB (kh, kk)) = ⟨6, 0, (fk (keyB (kh, kk)) 0).1, (fk (keyB (kh, kk)) 0).2, z32, 0, []⟩ := rfl
   rw [e2, ek]
  ·simp at hR2
   obtain ⟨⟨⟨rfl, rfl, rfl⟩, rfl, rfl⟩, _⟩ := hR2
   have e : dx ⟨7, 0, z32, 0, z32, 0, keys⟩ = keys.flatMap keyB := by simp [dx]
   have hl := oo keys hks
   rw [e]
   refine ⟨by simp [lenT, hl], ?_⟩
   have e2 : ∀ l, decR 7 l = ⟨7, 0, z32, 0, z32, 0, (List.range (l.length / 33)).map fun i => fk l (33 * i)⟩ := fun l => rfl
   rw [e2, hl, Nat.mul_div_cancel_left _ (by omega), qmb keys hg]
 refine ⟨?_, key.2⟩
 unfold okT
 rw [key.1, key.2, hR]
 rfl
theorem qgf {k : Int} {l : List UInt8} (h : okT k l = true) : ke (decR k l) ∧ dx (decR k l) = l ∧ (decR k l).kind = k := by
 unfold okT at h
 rw [Bool.and_eq_true] at h
 obtain ⟨hL, hR⟩ := h
 have hkk : (decR k l).kind = k := by
  unfold decR
  repeat' split
  all_goals first | rfl | (subst_vars; rfl) | skip
 have hk := lq hR
 rw [hkk] at hk
 rcases hk with rfl | rfl | rfl | rfl | rfl | rfl | rfl
 ·have : l = [1] := by simpa [lenT] using hL
  subst this
  exact ⟨⟨hR, ⟨rfl, rfl⟩, fun _ h => nomatch h⟩, rfl, hkk⟩
 ·have hl : l.length = 74 := by simpa [lenT] using hL
  have e : decR 2 l = ⟨2, (co (l.take 6) : Nat), (fk l 6).1, (fk l 6).2, (l.drop 39).take 32, (co ((l.drop 71).take 3) : Nat), []⟩ := rfl
  refine ⟨⟨hR, ⟨lb l 6 (by omega), by rw [e]; simp; omega⟩, fun _ h => nomatch h⟩, ?_, hkk⟩
  rw [e]
  simp only [dx]
  simp
  have e1 := sk (l.take 6)
  rw [show (l.take 6).length = 6 by simp; omega] at e1
  have e2 := sk ((l.drop 71).take 3)
  rw [show ((l.drop 71).take 3).length = 3 by simp; omega] at e2
  have e3 := qy l 6 (by omega)
  rw [e1, e2, e3]
  have s1 : l = l.take 6 ++ l.drop 6 := (List.take_append_drop 6 l).symm
  have s2 : l.drop 6 = (l.drop 6).take 33 ++ l.drop 39 := by conv => lhs; rw [← List.take_append_drop 33 (l.drop 6), List.drop_drop]
  have s3 : l.drop 39 = (l.drop 39).take 32 ++ l.drop 71 := by conv => lhs; rw [← List.take_append_drop 32 (l.drop 39), List.drop_drop]
  have s4 : (l.drop 71).take 3 = l.drop 71 := List.take_of_length_le (by simp; omega)
  rw [s4, ← s3, ← s2, ← s1]
 ·have hl : l.length = 6 := by simpa [lenT] using hL
  have e : decR 3 l = ⟨3, (co (l.take 6) : Nat), z32, 0, z32, 0, []⟩ := rfl
  refine ⟨⟨hR, ⟨rfl, rfl⟩, fun _ h => nomatch h⟩, ?_, hkk⟩
  rw [e]
  simp only [dx]
  simp
  have e1 := sk (l.take 6)
  rw [show (l.take 6).length = 6 by simp; omega] at e1
  rw [e1, List.take_of_length_le (by omega)]
 ·have hl : l.length = 68 := by simpa [lenT] using hL
  have e : decR 4 l = ⟨4, 0, (fk l 0).1, (fk l 0).2, (l.drop 33).take 32, (co ((l.drop 65).take 3) : Nat), []⟩ := rfl
  refine ⟨⟨hR, ⟨lb l 0 (by omega), by rw [e]; simp; omega⟩, fun _ h => nomatch h⟩, ?_, hkk⟩
  rw [e]
  simp only [dx]
  simp
  have e2 := sk ((l.drop 65).take 3)
  rw [show ((l.drop 65).take 3).length = 3 by simp; omega] at e2
  have e3 := qy l 0 (by omega)
  rw [e2, e3]
  have s2 : l = (l.drop 0).take 33 ++ l.drop 33 := (List.take_append_drop 33 l).symm
  have s3 : l.drop 33 = (l.drop 33).take 32 ++ l.drop 65 := by conv => lhs; rw [← List.take_append_drop 32 (l.drop 33), List.drop_drop]
  have s4 : (l.drop 65).take 3 = l.drop 65 := List.take_of_length_le (by simp; omega)
  rw [s4, ← s3, ← s2]
 ·have hl : l.length = 33 := by simpa [lenT] using hL
  have e : decR 5 l = ⟨5, 0, (fk l 0).1, (fk l 0).2, z32, 0, []⟩ := rfl
  refine ⟨⟨hR, ⟨lb l 0 (by omega), rfl⟩, fun _ h => nomatch h⟩, ?_, hkk⟩
  rw [e]
  simp only [dx]
  simp
  rw [qy l 0 (by omega), List.drop_zero, List.take_of_length_le (by omega)]
 ·have hl : l.length = 33 := by simpa [lenT] using hL
  have e : decR 6 l = ⟨6, 0, (fk l 0).1, (fk l 0).2, z32, 0, []⟩ := rfl
  refine ⟨⟨hR, ⟨lb l 0 (by omega), rfl⟩, fun _ h => nomatch h⟩, ?_, hkk⟩
  rw [e]
  simp only [dx]
  simp
  rw [qy l 0 (by omega), List.drop_zero, List.take_of_length_le (by omega)]
 ·have hl : l.length % 33 = 0 := by simpa [lenT] using hL
  have hl2 : l.length = 33 * (l.length / 33) := by omega
  have e : decR 7 l = ⟨7, 0, z32, 0, z32, 0, (List.range (l.length / 33)).map fun i => fk l (33 * i)⟩ := rfl
  refine ⟨⟨hR, ⟨rfl, rfl⟩, ?_⟩, ?_, hkk⟩
  ·rw [e]
   exact qhc _ l hl2
  ·rw [e]
   simp only [dx]
   simp
   exact qma _ l hl2

def sj (x : List UInt8) : Option RecD := match dn x with
 |none => none
 |some b => match el b with
  |none => none
  |some (k, load) => if okT (k.toNat : Nat) load = true then some (decR (k.toNat : Nat) load) else none
def gc (l : List UInt8) : Option RecD := if 1 ≤ l.length ∧ l.getD (l.length - 1) 0 = 10 then sj (l.take (l.length - 1)) else none
def om (r : RecD) : List UInt8 := cv (UInt8.ofNat r.kind.toNat) (dx r)
theorem vz (r : RecD) : ca r = eo (om r) ++ [10] := rfl
theorem kind_u8 {r : RecD} (h : ke r) : (((UInt8.ofNat r.kind.toNat).toNat : Nat) : Int) = r.kind := by
 have hk := lq h.1
 simp
 omega
theorem qpu {r : RecD} (h : ke r) : sj (eo (om r)) = some r := by
 have hl := qal r h.2.1 h.2.2 h.1
 have hd := qlv h
 unfold sj
 rw [qel]
 simp only
 rw [om, qfv _ _ (by omega)]
 simp only
 rw [kind_u8 h, if_pos hd.1, hd.2]
theorem vr {r : RecD} (h : ke r) : gc (ca r) = some r := by
 unfold gc
 rw [vz, List.length_append, List.length_singleton, Nat.add_sub_cancel, List.take_left]
 have : (eo (om r) ++ [(10 : UInt8)]).getD (eo (om r)).length 0 = 10 := by simp [List.getD_eq_getElem?_getD]
 rw [this, if_pos ⟨by omega, rfl⟩, qpu h]
theorem qpt {x : List UInt8} {r : RecD} (h : sj x = some r) : ke r ∧ x = eo (om r) := by
 unfold sj at h
 cases hb : dn x with
 |none => rw [hb] at h; cases h
 |some b =>
  rw [hb] at h
  simp only at h
  cases hf : el b with
  |none => rw [hf] at h; cases h
  |some kl =>
   obtain ⟨k, load⟩ := kl
   rw [hf] at h
   simp only at h
   by_cases ho : okT (k.toNat : Nat) load = true
   ·rw [if_pos ho] at h
    injection h with h
    subst h
    obtain ⟨h1, h2, h3⟩ := qgf ho
    obtain ⟨h4, _⟩ := rh hf
    refine ⟨h1, ?_⟩
    rw [qp hb, om, h2, h3, h4]
    congr 2
    have : ((k.toNat : Int)).toNat = k.toNat := rfl
    rw [this]
    simp
   ·rw [if_neg ho] at h; cases h
theorem qcm {l : List UInt8} {r : RecD} (h : gc l = some r) : ke r ∧ l = ca r := by
 unfold gc at h
 by_cases hc : 1 ≤ l.length ∧ l.getD (l.length - 1) 0 = 10
 ·rw [if_pos hc] at h
  obtain ⟨h1, h2⟩ := qpt h
  refine ⟨h1, ?_⟩
  rw [vz, ← h2]
  have hl : l.length - 1 < l.length := by omega
  have e : l[l.length - 1] = 10 := by have := hc.2; rwa [List.getD_eq_getElem?_getD, List.getElem?_eq_getElem hl] at this
  have e2 := List.take_append_getElem hl
  rw [e] at e2
  rw [e2, Nat.sub_add_cancel hc.1, List.take_length]
 ·rw [if_neg hc] at h; cases h
theorem sev_high (x : List UInt8) : ∀ c ∈ eo x, 128 ≤ c.toNat := by
 intro c hc
 have := List.all_eq_true.1 (qct ((8 * x.length + 6) / 7) (v256 x)) c hc
 simpa using this
theorem line_get {r : RecD} {j : Nat} (h : j < (eo (om r)).length) (h' : j < (ca r).length) : 128 ≤ ((ca r)[j]'h').toNat := by
 simp only [vz, List.getElem_append_left h]
 exact sev_high _ _ (List.getElem_mem _)
theorem qw (r : RecD) : (ca r).length = (eo (om r)).length + 1 := by rw [vz, List.length_append]; rfl
theorem qtn (r : RecD) (h : (eo (om r)).length < (ca r).length) : (ca r)[(eo (om r)).length]'h = 10 := by
 simp [vz]
def zo (c : List UInt8) (n : Nat) : Prop := c[n]? = some 10 ∧ ∀ j, j < n → c[j]? ≠ some 10
theorem zo.one {c : List UInt8} {n m : Nat} (h1 : zo c n) (h2 : zo c m) : n = m := by
 rcases Nat.lt_trichotomy n m with h | h | h
 ·exact absurd h1.1 (h2.2 n h)
 ·exact h
 ·exact absurd h2.1 (h1.2 m h)
theorem qby (r : RecD) (c : List UInt8) : zo (ca r ++ c) ((ca r).length - 1) := by
 have hl := qw r
 refine ⟨?_, fun j hj he => ?_⟩
 ·rw [List.getElem?_append_left (by omega)]
  rw [List.getElem?_eq_getElem (by omega)]
  congr 1
  have := qtn r (by omega)
  simpa [hl] using this
 ·rw [List.getElem?_append_left (by omega), List.getElem?_eq_getElem (by omega)] at he
  injection he with he
  have := line_get (r := r) (j := j) (by omega) (by omega)
  rw [he] at this
  exact absurd this (by decide)
def qrx (c : List UInt8) : Prop := ∀ n, zo c n → gc (c.take (n + 1)) = none
theorem qtj {r : RecD} (h : ke r) (c : List UInt8) : ¬ qrx (ca r ++ c) := by
 intro hs
 have := hs _ (qby r c)
 have hl := qw r
 rw [Nat.sub_add_cancel (by omega), List.take_left, vr h] at this
 cases this
theorem line_inj {r r' : RecD} {c c' : List UInt8} (h : ke r) (h' : ke r') (he : ca r ++ c = ca r' ++ c') : r = r' ∧ c = c' := by
 have h1 := qby r c
 have h2 := qby r' c'
 rw [he] at h1
 have hl := qw r
 have hl' := qw r'
 have hn := h1.one h2
 have hll : (ca r).length = (ca r').length := by omega
 obtain ⟨h3, h4⟩ := List.append_inj he hll
 refine ⟨?_, h4⟩
 have := vr h
 rw [h3, vr h'] at this
 injection this with this
 exact this.symm
structure jq (b : List UInt8) (rs : List RecD) (n : Nat) : Prop where
 le : n ≤ b.length
 lines : b.take n = rs.flatMap ca
 good : ∀ r ∈ rs, ke r
 stuck : qrx (b.drop n)
theorem qaz {r : RecD} {rs' : List RecD} {b : List UInt8} {n n' : Nat} (h : jq b [] n) (h' : jq b (r :: rs') n') : False := by
 have h1 := congrArg List.length h.lines
 have := h.le
 rw [List.length_take] at h1
 simp only [List.flatMap_nil, List.length_nil] at h1
 have e : b = ca r ++ (rs'.flatMap ca ++ b.drop n') := by
  conv => lhs; rw [← List.take_append_drop n' b, h'.lines, List.flatMap_cons, List.append_assoc]
 have hl := qw r
 have hbl := congrArg List.length e
 rw [List.length_append] at hbl
 have hn0 : n = 0 := by omega
 subst hn0
 have hs := h.stuck
 rw [List.drop_zero, e] at hs
 exact qtj (h'.good r (by simp)) _ hs
theorem qay : ∀ {rs rs' : List RecD} {b : List UInt8} {n n' : Nat}, jq b rs n → jq b rs' n' → rs = rs' ∧ n = n'
 |[], [], b, n, n', h, h' => by
  have h1 := congrArg List.length h.lines
  have h2 := congrArg List.length h'.lines
  have := h.le
  have := h'.le
  rw [List.length_take] at h1 h2
  simp only [List.flatMap_nil, List.length_nil] at h1 h2
  exact ⟨rfl, by omega⟩
 |[], r :: rs', b, n, n', h, h' => (qaz h h').elim
 |r :: rs, [], b, n, n', h, h' => (qaz h' h).elim
 |r :: rs, r' :: rs', b, n, n', h, h' => by
  have e : b = ca r ++ (rs.flatMap ca ++ b.drop n) := by
   conv => lhs; rw [← List.take_append_drop n b, h.lines, List.flatMap_cons, List.append_assoc]
  have e' : b = ca r' ++ (rs'.flatMap ca ++ b.drop n') := by
   conv => lhs; rw [← List.take_append_drop n' b, h'.lines, List.flatMap_cons, List.append_assoc]
  obtain ⟨rfl, ec⟩ := line_inj (h.good r (by simp)) (h'.good r' (by simp)) (e.symm.trans e')
  have lenL := congrArg List.length h.lines
  have lenL' := congrArg List.length h'.lines
  have hle := h.le
  have hle' := h'.le
  rw [List.length_take, List.flatMap_cons, List.length_append] at lenL lenL'
  have t : jq (rs.flatMap ca ++ b.drop n) rs (n - (ca r).length) := by
   refine ⟨?_, ?_, fun x hx => h.good x (by simp [hx]), ?_⟩
   ·rw [List.length_append]; omega
   ·rw [show n - (ca r).length = (rs.flatMap ca).length by omega, List.take_left]
   ·rw [show n - (ca r).length = (rs.flatMap ca).length by omega, List.drop_left]
    exact h.stuck
  have t' : jq (rs.flatMap ca ++ b.drop n) rs' (n' - (ca r).length) := by
   rw [ec]
   refine ⟨?_, ?_, fun x hx => h'.good x (by simp [hx]), ?_⟩
   ·rw [List.length_append]; omega
   ·rw [show n' - (ca r).length = (rs'.flatMap ca).length by omega, List.take_left]
   ·rw [show n' - (ca r).length = (rs'.flatMap ca).length by omega, List.drop_left]
    exact h'.stuck
  obtain ⟨rfl, hn⟩ := qay t t'
  exact ⟨rfl, by omega⟩

theorem jq.cons {r : RecD} {c : List UInt8} {rs : List RecD} {n : Nat} (h : jq c rs n) (hr : ke r) : jq (ca r ++ c) (r :: rs) ((ca r).length + n) := by
 refine ⟨?_, ?_, ?_, ?_⟩
 ·have := h.le
  rw [List.length_append]; omega
 ·rw [List.take_length_add_append, h.lines, List.flatMap_cons]
 ·intro x hx
  rcases List.mem_cons.1 hx with rfl | hx
  ·exact hr
  ·exact h.good x hx
 ·rw [List.drop_length_add_append]
  exact h.stuck
theorem jq.nil {c : List UInt8} (h : qrx c) : jq c [] 0 := ⟨Nat.zero_le _, rfl, (fun _ h => nomatch h), h⟩
end Go.Proofs.YtplbcbamnjnhlaaGreatDoor
