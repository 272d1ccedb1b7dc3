/- Texts of this proof joined: FramePure, RecLaw, LineLaw, LostLaw. -/
import Derived.Test.YtplbcbamnjnhlaaGreatDoorMG00
import Derived.Test.YtplbcbamnjnhlaaGreatDoorMG08
import Derived.Test.YtplbcbamnjnhlaaGreatDoorMG18
import Derived.Test.YtplbcbamnjnhlaaGreatDoorMG16
set_option maxRecDepth 100000
set_option maxHeartbeats 40000000
namespace Go.Proofs.YtplbcbamnjnhlaaGreatDoor
open Go.RowKit

theorem qg0 (x : Nat) : ∀ (rest : List UInt8) (i v : Nat), i ≤ 8 → x < 128 ^ (9 - i) → (0 < i → 0 < x) → gm (gx x ++ rest) i v = some (v + x * 128 ^ i, i + (gx x).length) := by
 induction x using Nat.strongRecOn with
 |ind x ih =>
  intro rest i v hi hx h0
  by_cases h : x < 128
  ·rw [qr h]
   have e : (UInt8.ofNat x).toNat = x := by simp; omega
   show gm (UInt8.ofNat x :: rest) i v = _
   rw [gm, e, if_neg (by omega), if_neg (by omega), if_pos h]
   rfl
  ·rw [s0 h, List.cons_append]
   have e : (UInt8.ofNat (x % 128 + 128)).toNat = x % 128 + 128 := by simp; omega
   have hp : (128 : Nat) ^ (9 - i) = 128 ^ (9 - (i + 1)) * 128 := by rw [← Nat.pow_succ]; congr 1; omega
   have hi7 : i ≤ 7 := by
    by_cases h8 : i = 8
    ·subst h8
     have : x < 128 := by simpa using hx
     omega
    ·omega
   have hd : x / 128 < 128 ^ (9 - (i + 1)) := by rw [Nat.div_lt_iff_lt_mul (by omega), ← hp]; exact hx
   rw [gm, e, if_neg (by omega), if_neg (by omega), if_neg (by omega), ih (x / 128) (by omega) rest (i + 1) _ (by omega) hd (fun _ => by omega), List.length_cons]
   congr 1
   have h3 : (x % 128 + 128) % 128 = x % 128 := by omega
   have h4 : x % 128 * 128 ^ i + x / 128 * 128 ^ (i + 1) = x * 128 ^ i := by
    rw [Nat.pow_succ, Nat.mul_comm (128 ^ i) 128, ← Nat.mul_assoc, ← Nat.add_mul]
    congr 1
    omega
   rw [h3, Nat.add_assoc, h4, Nat.add_assoc, Nat.add_comm 1]
theorem qah : ∀ (l : List UInt8) (i v n m : Nat), gm l i v = some (n, m) → ∃ x, n = v + x * 128 ^ i ∧ i < m ∧ m - i ≤ l.length ∧ l.take (m - i) = gx x ∧ (0 < i → 0 < x)
 |[], i, v, n, m, h => by simp [gm] at h
 |c :: r, i, v, n, m, h => by
  rw [gm] at h
  by_cases h1 : 10 ≤ i
  ·rw [if_pos h1] at h; cases h
  rw [if_neg h1] at h
  by_cases h2 : (i = 9 ∧ 1 < c.toNat) ∨ (0 < i ∧ c.toNat = 0)
  ·rw [if_pos h2] at h; cases h
  rw [if_neg h2] at h
  by_cases h3 : c.toNat < 128
  ·rw [if_pos h3] at h
   injection h with h
   injection h with e1 e2
   refine ⟨c.toNat, e1.symm, by omega, by simp; omega, ?_, fun hi => by omega⟩
   rw [show m - i = 1 by omega, qr h3]
   simp
  ·rw [if_neg h3] at h
   obtain ⟨x, hx, hm, hl, ht, h0⟩ := qah r (i + 1) _ n m h
   have hx0 := h0 (by omega)
   have hc := c.toNat_lt
   refine ⟨c.toNat % 128 + 128 * x, ?_, by omega, by simp; omega, ?_, fun _ => by omega⟩
   ·rw [hx, Nat.pow_succ, Nat.mul_comm (128 ^ i) 128, ← Nat.mul_assoc, Nat.add_assoc, ← Nat.add_mul, Nat.mul_comm x]
   ·rw [s0 (by omega), show m - i = (m - (i + 1)) + 1 by omega, List.take_succ_cons, ht]
    rw [show (c.toNat % 128 + 128 * x) % 128 + 128 = c.toNat by omega, show (c.toNat % 128 + 128 * x) / 128 = x by omega]
    simp
theorem qbq (k : UInt8) (load : List UInt8) (h : load.length ≤ 1048576) : el (cv k load) = some (k, load) := by
 have hb : cv k load = k :: (gx load.length ++ (load ++ eu (ik (dn k load)))) := by simp [cv, dn]
 have hl := iu k load
 have hv := qg0 load.length (load ++ eu (ik (dn k load))) 0 0 (by omega) (by simp; omega) (by omega)
 have e1 : 1 + (gx load.length).length + load.length = (dn k load).length := by rw [jo]
 have ht : (cv k load).take (1 + (gx load.length).length + load.length) = dn k load := by rw [e1, cv, List.take_left]
 have hd : (cv k load).drop (1 + (gx load.length).length + load.length) = eu (ik (dn k load)) := by rw [e1, cv, List.drop_left]
 have hd2 : (cv k load).drop (1 + (gx load.length).length) = load ++ eu (ik (dn k load)) := by
  rw [hb, Nat.add_comm 1, List.drop_succ_cons, List.drop_left]
 unfold el
 have hp : dt (cv k load) = some (k, load, (cv k load).length) := by
  have e0 : cv k load = k :: (cv k load).tail := by rw [hb]; rfl
  rw [e0, jz]
  have e2 : (cv k load).tail = gx load.length ++ (load ++ eu (ik (dn k load))) := by rw [hb]; rfl
  rw [e2, hv]
  simp only [Nat.zero_add, Nat.pow_zero, Nat.mul_one]
  rw [← e2, ← e0, ht, hd, hd2, if_pos ⟨h, by omega, by rw [List.take_of_length_le (by simp [eu])]⟩, List.take_left]
  rw [hl]
  congr 3
  omega
 rw [hp]
 simp
theorem pm {b : List UInt8} {k : UInt8} {load : List UInt8} (h : el b = some (k, load)) : b = cv k load ∧ load.length ≤ 1048576 := by
 unfold el at h
 cases b with
 |nil => simp [dt] at h
 |cons a r =>
  rw [jz] at h
  cases hv : gm r 0 0 with
  |none => simp [hv] at h
  |some nm =>
   obtain ⟨n, m⟩ := nm
   simp only [hv] at h
   by_cases hc : n ≤ 1048576 ∧ 1 + m + n + 4 ≤ (a :: r).length ∧ (((a :: r).drop (1 + m + n)).take 4) = eu (ik ((a :: r).take (1 + m + n)))
   ·rw [if_pos hc] at h
    simp only at h
    by_cases hl : 1 + m + n + 4 = (a :: r).length
    ·rw [if_pos hl] at h
     injection h with h
     injection h with h1 h2
     subst h1
     obtain ⟨x, hx, hm, hml, ht, _⟩ := qah r 0 0 n m hv
     have hx' : n = x := by simpa using hx
     subst hx'
     have ht' : r.take m = gx n := by simpa using ht
     have e1 : (a :: r).drop (1 + m) = r.drop m := by rw [Nat.add_comm 1, List.drop_succ_cons]
     have hll : load.length = n := by
      rw [← h2, List.length_take, e1, List.length_drop]
      simp at hl
      omega
     refine ⟨?_, by omega⟩
     have hbody : (a :: r).take (1 + m + n) = dn a load := by
      rw [dn, hll, ← ht', ← h2, e1]
      rw [show 1 + m + n = (m + n) + 1 by omega, List.take_succ_cons, List.take_add]
     have hdl : ((a :: r).drop (1 + m + n)).length = 4 := by rw [List.length_drop]; omega
     have h4 := hc.2.2
     rw [List.take_of_length_le (by omega), hbody] at h4
     rw [cv, ← h4, ← hbody, List.take_append_drop]
    ·rw [if_neg hl] at h; cases h
   ·rw [if_neg hc] at h; cases h

theorem qb7 : ∀ (n x : Nat), co (ca n x) = x % 256 ^ n
 |0, x => by simp [ca, du, digs, co, Nat.mod_one]
 |n + 1, x => by
  have ih := qb7 n (x / 256)
  have e : ca (n + 1) x = ca n (x / 256) ++ [UInt8.ofNat (x % 256)] := by simp [ca, du, digs]
  rw [e, sg, ih]
  have h1 : (UInt8.ofNat (x % 256)).toNat = x % 256 := by simp
  rw [h1, Nat.pow_succ, Nat.mul_comm (256 ^ n) 256, Nat.mod_mul]
  omega
theorem qn (l : List UInt8) : ca l.length (co l) = l := by
 induction h : l.length generalizing l with
 |zero => rw [List.length_eq_zero_iff.1 h]; rfl
 |succ n ih =>
  have hn : l ≠ [] := by intro e; simp [e] at h
  have e := List.dropLast_concat_getLast hn
  have hl : l.dropLast.length = n := by rw [List.length_dropLast]; omega
  have e2 : ∀ x, ca (n + 1) x = ca n (x / 256) ++ [UInt8.ofNat (x % 256)] := fun x => by simp [ca, du, digs]
  have hc := (l.getLast hn).toNat_lt
  have hv : co l = co l.dropLast * 256 + (l.getLast hn).toNat := by conv => lhs; rw [← e, sg]
  rw [e2, hv, show (co l.dropLast * 256 + (l.getLast hn).toNat) / 256 = co l.dropLast by omega, show (co l.dropLast * 256 + (l.getLast hn).toNat) % 256 = (l.getLast hn).toNat by omega, ih l.dropLast hl]
  simp [e]
theorem qk2 (c : UInt8) : UInt8.ofNat (co [c]) = c := by simp [co]
theorem vj (l : List UInt8) (a b : Nat) : fk (l.drop a) b = fk l (a + b) := by simp [fk, Nat.add_assoc]
theorem pj (k : KeyD) (post : List UInt8) (h : k.1.length = 32) (h0 : 0 ≤ k.2) (h1 : k.2 < 256) : fk (keyB k ++ post) 0 = k := by
 obtain ⟨hh, n⟩ := k
 simp only at h h0 h1
 have e : keyB (hh, n) ++ post = hh ++ ([UInt8.ofNat n.toNat] ++ post) := by simp [keyB]
 unfold fk
 rw [e, List.drop_zero, ← h, List.take_left, Nat.zero_add, List.drop_left]
 have hn : (UInt8.ofNat n.toNat).toNat = n.toNat := by simp; omega
 rw [List.singleton_append, List.take_succ_cons, List.take_zero]
 refine Prod.ext rfl ?_
 simp only [co, List.foldl_cons, List.foldl_nil, hn]
 omega
theorem pi (l : List UInt8) (a : Nat) (h : a + 33 ≤ l.length) : keyB (fk l a) = (l.drop a).take 33 := by
 unfold keyB fk
 have h1 : ((l.drop (a + 32)).take 1) = [l[a + 32]] := by rw [List.drop_eq_getElem_cons (by omega), List.take_succ_cons, List.take_zero]
 have e : (((co [l[a + 32]] : Nat) : Int)).toNat = co [l[a + 32]] := rfl
 simp only [h1, e, qk2]
 rw [show 33 = 32 + 1 from rfl, List.take_add, List.drop_drop, h1]
theorem j6 (l : List UInt8) (a : Nat) (h : a + 33 ≤ l.length) : (fk l a).1.length = 32 := by
 simp [fk]
 omega
def GoodK (k : KeyD) : Prop := k.1.length = 32 ∧ 0 ≤ k.2 ∧ k.2 < 256
theorem qf1 : ∀ (ks : List KeyD), (∀ k ∈ ks, GoodK k) → (List.range ks.length).map (fun i => fk (ks.flatMap keyB) (33 * i)) = ks
 |[], _ => rfl
 |k :: r, h => by
  have hk := h k (by simp)
  have ih := qf1 r fun x hx => h x (by simp [hx])
  rw [List.length_cons, List.range_succ_eq_map, List.map_cons, List.map_map, List.flatMap_cons, Nat.mul_zero, pj k _ hk.1 hk.2.1 hk.2.2]
  congr 1
  refine Eq.trans ?_ ih
  apply List.map_congr_left
  intro i _
  show fk (keyB k ++ r.flatMap keyB) (33 * (i + 1)) = fk (r.flatMap keyB) (33 * i)
  have e : r.flatMap keyB = (keyB k ++ r.flatMap keyB).drop 33 := by rw [← fi k hk.1, List.drop_left]
  conv => rhs; rw [e]
  rw [vj, Nat.mul_add, Nat.add_comm]
theorem qf0 : ∀ (n : Nat) (l : List UInt8), l.length = 33 * n → ((List.range n).map fun i => fk l (33 * i)).flatMap keyB = l
 |0, l, h => by rw [List.length_eq_zero_iff.1 (by omega : l.length = 0)]; rfl
 |n + 1, l, h => by
  have ih := qf0 n (l.drop 33) (by rw [List.length_drop]; omega)
  rw [List.range_succ_eq_map, List.map_cons, List.map_map, List.flatMap_cons, pi l _ (by omega)]
  have e : (List.range n).map ((fun i => fk l (33 * i)) ∘ Nat.succ) = (List.range n).map (fun i => fk (l.drop 33) (33 * i)) := by
   apply List.map_congr_left
   intro i _
   show fk l (33 * (i + 1)) = _
   rw [vj, Nat.mul_add, Nat.add_comm]
  rw [e, ih, Nat.mul_zero, List.drop_zero, List.take_append_drop]
theorem qco (n : Nat) (l : List UInt8) (h : l.length = 33 * n) : ∀ k ∈ (List.range n).map (fun i => fk l (33 * i)), k.1.length = 32 := by
 intro k hk
 obtain ⟨i, hi, rfl⟩ := List.mem_map.1 hk
 have := List.mem_range.1 hi
 exact j6 l _ (by omega)
def jj (r : RecD) : Prop := av r = true ∧ Hs r ∧ ∀ k ∈ r.keys, k.1.length = 32
theorem qbg {k : Int} (h : kOk k = true) : 0 ≤ k ∧ k < 256 := by unfold kOk at h; simp at h; omega
theorem qll {r : RecD} (h : jj r) : ∀ k ∈ r.keys, GoodK k := by
 intro k hk
 refine ⟨h.2.2 k hk, ?_⟩
 by_cases h7 : r.kind = 7
 ·obtain ⟨kind, seq, kh, kk, mh, ms, keys⟩ := r
  simp only at h7
  subst h7
  obtain ⟨i, hi, rfl⟩ := List.getElem_of_mem hk
  exact qbg ((ud (z0 h.1).2).2 i hi)
 ·have h1 := h.1
  unfold av at h1
  simp only [h7, if_false, Bool.and_eq_true, decide_eq_true_eq] at h1
  rw [h1.2] at hk
  exact nomatch hk
theorem dec2 (l1 l2 l3 l4 : List UInt8) (n : Int) (h1 : l1.length = 6) (h2 : l2.length = 32) (h3 : l3.length = 32) (h4 : l4.length = 3) (hn : 0 ≤ n ∧ n < 256) :
  decR 2 (l1 ++ (keyB (l2, n) ++ (l3 ++ l4))) = ⟨2, (co l1 : Nat), l2, n, l3, (co l4 : Nat), []⟩ := by
 have e0 : (l1 ++ (keyB (l2, n) ++ (l3 ++ l4))).take 6 = l1 := by rw [← h1, List.take_left]
 have ek : fk (l1 ++ (keyB (l2, n) ++ (l3 ++ l4))) 6 = (l2, n) := by
  have := vj (l1 ++ (keyB (l2, n) ++ (l3 ++ l4))) 6 0
  rw [← this, ← h1, List.drop_left]
  exact pj (l2, n) _ h2 hn.1 hn.2
 have e1 : (l1 ++ (keyB (l2, n) ++ (l3 ++ l4))).drop 39 = l3 ++ l4 := by
  rw [← List.append_assoc, show 39 = (l1 ++ keyB (l2, n)).length by rw [List.length_append, h1, fi _ h2], List.drop_left]
 have e2 : (l1 ++ (keyB (l2, n) ++ (l3 ++ l4))).drop 71 = l4 := by
  rw [show 71 = 39 + 32 from rfl, ← List.drop_drop, e1, ← h3, List.drop_left]
 unfold decR
 rw [if_pos rfl, e0, ek, e1, e2, ← h3, List.take_left, List.take_of_length_le (by omega)]
theorem dec4 (l2 l3 l4 : List UInt8) (n : Int) (h2 : l2.length = 32) (h3 : l3.length = 32) (h4 : l4.length = 3) (hn : 0 ≤ n ∧ n < 256) :
  decR 4 (keyB (l2, n) ++ (l3 ++ l4)) = ⟨4, 0, l2, n, l3, (co l4 : Nat), []⟩ := by
 have ek : fk (keyB (l2, n) ++ (l3 ++ l4)) 0 = (l2, n) := pj (l2, n) _ h2 hn.1 hn.2
 have e1 : (keyB (l2, n) ++ (l3 ++ l4)).drop 33 = l3 ++ l4 := by
  rw [show 33 = (keyB (l2, n)).length by rw [fi _ h2], List.drop_left]
 have e2 : (keyB (l2, n) ++ (l3 ++ l4)).drop 65 = l4 := by
  rw [show 65 = 33 + 32 from rfl, ← List.drop_drop, e1, ← h3, List.drop_left]
 unfold decR
 rw [if_neg (by decide), if_neg (by decide), if_pos rfl, ek, e1, e2, ← h3, List.take_left, List.take_of_length_le (by omega)]
theorem qac (n : Nat) (x : Int) (h0 : 0 ≤ x) (h1 : x.toNat < 256 ^ n) : ((co (ca n x.toNat) : Nat) : Int) = x := by
 rw [qb7, Nat.mod_eq_of_lt h1]
 omega
theorem qfx {r : RecD} (h : jj r) : okT r.kind (dx r) = true ∧ decR r.kind (dx r) = r := by
 have hg := qll h
 obtain ⟨hR, ⟨hh, hm⟩, hks⟩ := h
 have hk := kj hR
 have key : lenT r.kind (dx r) = true ∧ decR r.kind (dx r) = r := by
  have hR2 := hR
  obtain ⟨kind, seq, kh, kk, mh, ms, keys⟩ := r
  simp only at hk hh hm hg hks
  unfold av at hR2
  rcases hk with rfl | rfl | rfl | rfl | rfl | rfl | rfl
  ·simp at hR2
   obtain ⟨⟨⟨rfl, rfl, rfl⟩, rfl, rfl⟩, rfl⟩ := hR2
   exact ⟨rfl, rfl⟩
  ·simp [n9, km] at hR2
   obtain ⟨⟨⟨h1, h2⟩, h3, h4, h5⟩, rfl⟩ := hR2
   have e : dx ⟨2, seq, kh, kk, mh, ms, []⟩ = ca 6 seq.toNat ++ (keyB (kh, kk) ++ (mh ++ ca 3 ms.toNat)) := by simp [dx]
   have hb := qbg h3
   rw [e]
   refine ⟨?_, ?_⟩
   ·simp [lenT, b7, fi _ (show (kh, kk).1.length = 32 from hh), hm]
   ·rw [dec2 _ _ _ _ _ (b7 _ _) hh hm (b7 _ _) hb, qac 6 seq h1 (by omega), qac 3 ms h4 (by omega)]
  ·simp [n9] at hR2
   obtain ⟨⟨⟨⟨h1, h2⟩, rfl, rfl⟩, rfl, rfl⟩, rfl⟩ := hR2
   have e : dx ⟨3, seq, z32, 0, z32, 0, []⟩ = ca 6 seq.toNat := by simp [dx]
   rw [e]
   refine ⟨by simp [lenT, b7], ?_⟩
   have e2 : decR 3 (ca 6 seq.toNat) = ⟨3, (co ((ca 6 seq.toNat).take 6) : Nat), z32, 0, z32, 0, []⟩ := rfl
   rw [e2, List.take_of_length_le (by rw [b7]; omega), qac 6 seq h1 (by omega)]
  ·simp [km] at hR2
   obtain ⟨⟨rfl, h3, h4, h5⟩, rfl⟩ := hR2
   have e : dx ⟨4, 0, kh, kk, mh, ms, []⟩ = keyB (kh, kk) ++ (mh ++ ca 3 ms.toNat) := by simp [dx]
   have hb := qbg h3
   rw [e]
   refine ⟨?_, ?_⟩
   ·simp [lenT, b7, fi _ (show (kh, kk).1.length = 32 from hh), hm]
   ·rw [dec4 _ _ _ _ hh hm (b7 _ _) hb, qac 3 ms h4 (by omega)]
  ·simp at hR2
   obtain ⟨⟨⟨rfl, rfl, rfl⟩, h3⟩, rfl⟩ := hR2
   have hb := qbg h3
   have e : dx ⟨5, 0, kh, kk, z32, 0, []⟩ = keyB (kh, kk) := by simp [dx]
   rw [e]
   refine ⟨by simp [lenT, fi _ (show (kh, kk).1.length = 32 from hh)], ?_⟩
   have ek : fk (keyB (kh, kk)) 0 = (kh, kk) := by have := pj (kh, kk) [] hh hb.1 hb.2; rwa [List.append_nil] at this
   have e2 : decR 5 (keyB (kh, kk)) = ⟨5, 0, (fk (keyB (kh, kk)) 0).1, (fk (keyB (kh, kk)) 0).2, z32, 0, []⟩ := rfl
   rw [e2, ek]
  ·simp at hR2
   obtain ⟨⟨⟨rfl, rfl, rfl⟩, h3⟩, rfl⟩ := hR2
   have hb := qbg h3
   have e : dx ⟨6, 0, kh, kk, z32, 0, []⟩ = keyB (kh, kk) := by simp [dx]
   rw [e]
   refine ⟨by simp [lenT, fi _ (show (kh, kk).1.length = 32 from hh)], ?_⟩
   have ek : fk (keyB (kh, kk)) 0 = (kh, kk) := by have := pj (kh, kk) [] hh hb.1 hb.2; rwa [List.append_nil] at this
   have e2 : decR 6 (keyB (kh, kk)) = ⟨6, 0, (fk (keyB (kh, kk)) 0).1, (fk (keyB (kh, kk)) 0).2, z32, 0, []⟩ := rfl
   rw [e2, ek]
  ·simp at hR2
   obtain ⟨⟨⟨rfl, rfl, rfl⟩, rfl, rfl⟩, _⟩ := hR2
   have e : dx ⟨7, 0, z32, 0, z32, 0, keys⟩ = keys.flatMap keyB := by simp [dx]
   have hl := ne keys hks
   rw [e]
   refine ⟨by simp [lenT, hl], ?_⟩
   have e2 : ∀ l, decR 7 l = ⟨7, 0, z32, 0, z32, 0, (List.range (l.length / 33)).map fun i => fk l (33 * i)⟩ := fun l => rfl
   rw [e2, hl, Nat.mul_div_cancel_left _ (by omega), qf1 keys hg]
 refine ⟨?_, key.2⟩
 unfold okT
 rw [key.1, key.2, hR]
 rfl
theorem qb0 {k : Int} {l : List UInt8} (h : okT k l = true) : jj (decR k l) ∧ dx (decR k l) = l ∧ (decR k l).kind = k := by
 unfold okT at h
 rw [Bool.and_eq_true] at h
 obtain ⟨hL, hR⟩ := h
 have hkk : (decR k l).kind = k := by
  unfold decR
  repeat' split
  all_goals first | rfl | (subst_vars; rfl) | skip
 have hk := kj hR
 rw [hkk] at hk
 rcases hk with rfl | rfl | rfl | rfl | rfl | rfl | rfl
 ·have : l = [1] := by simpa [lenT] using hL
  subst this
  exact ⟨⟨hR, ⟨rfl, rfl⟩, fun _ h => nomatch h⟩, rfl, hkk⟩
 ·have hl : l.length = 74 := by simpa [lenT] using hL
  have e : decR 2 l = ⟨2, (co (l.take 6) : Nat), (fk l 6).1, (fk l 6).2, (l.drop 39).take 32, (co ((l.drop 71).take 3) : Nat), []⟩ := rfl
  refine ⟨⟨hR, ⟨j6 l 6 (by omega), by rw [e]; simp; omega⟩, fun _ h => nomatch h⟩, ?_, hkk⟩
  rw [e]
  simp only [dx]
  simp
  have e1 := qn (l.take 6)
  rw [show (l.take 6).length = 6 by simp; omega] at e1
  have e2 := qn ((l.drop 71).take 3)
  rw [show ((l.drop 71).take 3).length = 3 by simp; omega] at e2
  have e3 := pi l 6 (by omega)
  rw [e1, e2, e3]
  have s1 : l = l.take 6 ++ l.drop 6 := (List.take_append_drop 6 l).symm
  have s2 : l.drop 6 = (l.drop 6).take 33 ++ l.drop 39 := by conv => lhs; rw [← List.take_append_drop 33 (l.drop 6), List.drop_drop]
  have s3 : l.drop 39 = (l.drop 39).take 32 ++ l.drop 71 := by conv => lhs; rw [← List.take_append_drop 32 (l.drop 39), List.drop_drop]
  have s4 : (l.drop 71).take 3 = l.drop 71 := List.take_of_length_le (by simp; omega)
  rw [s4, ← s3, ← s2, ← s1]
 ·have hl : l.length = 6 := by simpa [lenT] using hL
  have e : decR 3 l = ⟨3, (co (l.take 6) : Nat), z32, 0, z32, 0, []⟩ := rfl
  refine ⟨⟨hR, ⟨rfl, rfl⟩, fun _ h => nomatch h⟩, ?_, hkk⟩
  rw [e]
  simp only [dx]
  simp
  have e1 := qn (l.take 6)
  rw [show (l.take 6).length = 6 by simp; omega] at e1
  rw [e1, List.take_of_length_le (by omega)]
 ·have hl : l.length = 68 := by simpa [lenT] using hL
  have e : decR 4 l = ⟨4, 0, (fk l 0).1, (fk l 0).2, (l.drop 33).take 32, (co ((l.drop 65).take 3) : Nat), []⟩ := rfl
  refine ⟨⟨hR, ⟨j6 l 0 (by omega), by rw [e]; simp; omega⟩, fun _ h => nomatch h⟩, ?_, hkk⟩
  rw [e]
  simp only [dx]
  simp
  have e2 := qn ((l.drop 65).take 3)
  rw [show ((l.drop 65).take 3).length = 3 by simp; omega] at e2
  have e3 := pi l 0 (by omega)
  rw [e2, e3]
  have s2 : l = (l.drop 0).take 33 ++ l.drop 33 := (List.take_append_drop 33 l).symm
  have s3 : l.drop 33 = (l.drop 33).take 32 ++ l.drop 65 := by conv => lhs; rw [← List.take_append_drop 32 (l.drop 33), List.drop_drop]
  have s4 : (l.drop 65).take 3 = l.drop 65 := List.take_of_length_le (by simp; omega)
  rw [s4, ← s3, ← s2]
 ·have hl : l.length = 33 := by simpa [lenT] using hL
  have e : decR 5 l = ⟨5, 0, (fk l 0).1, (fk l 0).2, z32, 0, []⟩ := rfl
  refine ⟨⟨hR, ⟨j6 l 0 (by omega), rfl⟩, fun _ h => nomatch h⟩, ?_, hkk⟩
  rw [e]
  simp only [dx]
  simp
  rw [pi l 0 (by omega), List.drop_zero, List.take_of_length_le (by omega)]
 ·have hl : l.length = 33 := by simpa [lenT] using hL
  have e : decR 6 l = ⟨6, 0, (fk l 0).1, (fk l 0).2, z32, 0, []⟩ := rfl
  refine ⟨⟨hR, ⟨j6 l 0 (by omega), rfl⟩, fun _ h => nomatch h⟩, ?_, hkk⟩
  rw [e]
  simp only [dx]
  simp
  rw [pi l 0 (by omega), List.drop_zero, List.take_of_length_le (by omega)]
 ·have hl : l.length % 33 = 0 := by simpa [lenT] using hL
  have hl2 : l.length = 33 * (l.length / 33) := by omega
  have e : decR 7 l = ⟨7, 0, z32, 0, z32, 0, (List.range (l.length / 33)).map fun i => fk l (33 * i)⟩ := rfl
  refine ⟨⟨hR, ⟨rfl, rfl⟩, ?_⟩, ?_, hkk⟩
  ·rw [e]
   exact qco _ l hl2
  ·rw [e]
   simp only [dx]
   simp
   exact qf0 _ l hl2

def ql (x : List UInt8) : Option RecD := match dp x with
 |none => none
 |some b => match el b with
  |none => none
  |some (k, load) => if okT (k.toNat : Nat) load = true then some (decR (k.toNat : Nat) load) else none
def gc (l : List UInt8) : Option RecD := if 1 ≤ l.length ∧ l.getD (l.length - 1) 0 = 10 then ql (l.take (l.length - 1)) else none
def nd (r : RecD) : List UInt8 := cv (UInt8.ofNat r.kind.toNat) (dx r)
theorem tn (r : RecD) : bm r = eo (nd r) ++ [10] := rfl
theorem kind_u8 {r : RecD} (h : jj r) : (((UInt8.ofNat r.kind.toNat).toNat : Nat) : Int) = r.kind := by
 have hk := kj h.1
 simp
 omega
theorem qin {r : RecD} (h : jj r) : ql (eo (nd r)) = some r := by
 have hl := xo r h.2.1 h.2.2 h.1
 have hd := qfx h
 unfold ql
 rw [qaq]
 simp only
 rw [nd, qbq _ _ (by omega)]
 simp only
 rw [kind_u8 h, if_pos hd.1, hd.2]
theorem tf {r : RecD} (h : jj r) : gc (bm r) = some r := by
 unfold gc
 rw [tn, List.length_append, List.length_singleton, Nat.add_sub_cancel, List.take_left]
 have : (eo (nd r) ++ [(10 : UInt8)]).getD (eo (nd r)).length 0 = 10 := by simp [List.getD_eq_getElem?_getD]
 rw [this, if_pos ⟨by omega, rfl⟩, qin h]
theorem qim {x : List UInt8} {r : RecD} (h : ql x = some r) : jj r ∧ x = eo (nd r) := by
 unfold ql at h
 cases hb : dp x with
 |none => rw [hb] at h; cases h
 |some b =>
  rw [hb] at h
  simp only at h
  cases hf : el b with
  |none => rw [hf] at h; cases h
  |some kl =>
   obtain ⟨k, load⟩ := kl
   rw [hf] at h
   simp only at h
   by_cases ho : okT (k.toNat : Nat) load = true
   ·rw [if_pos ho] at h
    injection h with h
    subst h
    obtain ⟨h1, h2, h3⟩ := qb0 ho
    obtain ⟨h4, _⟩ := pm hf
    refine ⟨h1, ?_⟩
    rw [o9 hb, nd, h2, h3, h4]
    congr 2
    have : ((k.toNat : Int)).toNat = k.toNat := rfl
    rw [this]
    simp
   ·rw [if_neg ho] at h; cases h
theorem zg {l : List UInt8} {r : RecD} (h : gc l = some r) : jj r ∧ l = bm r := by
 unfold gc at h
 by_cases hc : 1 ≤ l.length ∧ l.getD (l.length - 1) 0 = 10
 ·rw [if_pos hc] at h
  obtain ⟨h1, h2⟩ := qim h
  refine ⟨h1, ?_⟩
  rw [tn, ← h2]
  have hl : l.length - 1 < l.length := by omega
  have e : l[l.length - 1] = 10 := by have := hc.2; rwa [List.getD_eq_getElem?_getD, List.getElem?_eq_getElem hl] at this
  have e2 := List.take_append_getElem hl
  rw [e] at e2
  rw [e2, Nat.sub_add_cancel hc.1, List.take_length]
 ·rw [if_neg hc] at h; cases h
theorem sev_high (x : List UInt8) : ∀ c ∈ eo x, 128 ≤ c.toNat := by
 intro c hc
 have := List.all_eq_true.1 (zl ((8 * x.length + 6) / 7) (v256 x)) c hc
 simpa using this
theorem line_get {r : RecD} {j : Nat} (h : j < (eo (nd r)).length) (h' : j < (bm r).length) : 128 ≤ ((bm r)[j]'h').toNat := by
 simp only [tn, List.getElem_append_left h]
 exact sev_high _ _ (List.getElem_mem _)
theorem pg (r : RecD) : (bm r).length = (eo (nd r)).length + 1 := by rw [tn, List.length_append]; rfl
theorem qk7 (r : RecD) (h : (eo (nd r)).length < (bm r).length) : (bm r)[(eo (nd r)).length]'h = 10 := by
 simp [tn]
def wk (c : List UInt8) (n : Nat) : Prop := c[n]? = some 10 ∧ ∀ j, j < n → c[j]? ≠ some 10
theorem wk.one {c : List UInt8} {n m : Nat} (h1 : wk c n) (h2 : wk c m) : n = m := by
 rcases Nat.lt_trichotomy n m with h | h | h
 ·exact absurd h1.1 (h2.2 n h)
 ·exact h
 ·exact absurd h2.1 (h1.2 m h)
theorem y4 (r : RecD) (c : List UInt8) : wk (bm r ++ c) ((bm r).length - 1) := by
 have hl := pg r
 refine ⟨?_, fun j hj he => ?_⟩
 ·rw [List.getElem?_append_left (by omega)]
  rw [List.getElem?_eq_getElem (by omega)]
  congr 1
  have := qk7 r (by omega)
  simpa [hl] using this
 ·rw [List.getElem?_append_left (by omega), List.getElem?_eq_getElem (by omega)] at he
  injection he with he
  have := line_get (r := r) (j := j) (by omega) (by omega)
  rw [he] at this
  exact absurd this (by decide)
def qj4 (c : List UInt8) : Prop := ∀ n, wk c n → gc (c.take (n + 1)) = none
theorem qk3 {r : RecD} (h : jj r) (c : List UInt8) : ¬ qj4 (bm r ++ c) := by
 intro hs
 have := hs _ (y4 r c)
 have hl := pg r
 rw [Nat.sub_add_cancel (by omega), List.take_left, tf h] at this
 cases this
theorem line_inj {r r' : RecD} {c c' : List UInt8} (h : jj r) (h' : jj r') (he : bm r ++ c = bm r' ++ c') : r = r' ∧ c = c' := by
 have h1 := y4 r c
 have h2 := y4 r' c'
 rw [he] at h1
 have hl := pg r
 have hl' := pg r'
 have hn := h1.one h2
 have hll : (bm r).length = (bm r').length := by omega
 obtain ⟨h3, h4⟩ := List.append_inj he hll
 refine ⟨?_, h4⟩
 have := tf h
 rw [h3, tf h'] at this
 injection this with this
 exact this.symm
structure js (b : List UInt8) (rs : List RecD) (n : Nat) : Prop where
 le : n ≤ b.length
 lines : b.take n = rs.flatMap bm
 good : ∀ r ∈ rs, jj r
 stuck : qj4 (b.drop n)
theorem x9 {r : RecD} {rs' : List RecD} {b : List UInt8} {n n' : Nat} (h : js b [] n) (h' : js b (r :: rs') n') : False := by
 have h1 := congrArg List.length h.lines
 have := h.le
 rw [List.length_take] at h1
 simp only [List.flatMap_nil, List.length_nil] at h1
 have e : b = bm r ++ (rs'.flatMap bm ++ b.drop n') := by
  conv => lhs; rw [← List.take_append_drop n' b, h'.lines, List.flatMap_cons, List.append_assoc]
 have hl := pg r
 have hbl := congrArg List.length e
 rw [List.length_append] at hbl
 have hn0 : n = 0 := by omega
 subst hn0
 have hs := h.stuck
 rw [List.drop_zero, e] at hs
 exact qk3 (h'.good r (by simp)) _ hs
theorem up : ∀ {rs rs' : List RecD} {b : List UInt8} {n n' : Nat}, js b rs n → js b rs' n' → rs = rs' ∧ n = n'
 |[], [], b, n, n', h, h' => by
  have h1 := congrArg List.length h.lines
  have h2 := congrArg List.length h'.lines
  have := h.le
  have := h'.le
  rw [List.length_take] at h1 h2
  simp only [List.flatMap_nil, List.length_nil] at h1 h2
  exact ⟨rfl, by omega⟩
 |[], r :: rs', b, n, n', h, h' => (x9 h h').elim
 |r :: rs, [], b, n, n', h, h' => (x9 h' h).elim
 |r :: rs, r' :: rs', b, n, n', h, h' => by
  have e : b = bm r ++ (rs.flatMap bm ++ b.drop n) := by
   conv => lhs; rw [← List.take_append_drop n b, h.lines, List.flatMap_cons, List.append_assoc]
  have e' : b = bm r' ++ (rs'.flatMap bm ++ b.drop n') := by
   conv => lhs; rw [← List.take_append_drop n' b, h'.lines, List.flatMap_cons, List.append_assoc]
  obtain ⟨rfl, ec⟩ := line_inj (h.good r (by simp)) (h'.good r' (by simp)) (e.symm.trans e')
  have lenL := congrArg List.length h.lines
  have lenL' := congrArg List.length h'.lines
  have hle := h.le
  have hle' := h'.le
  rw [List.length_take, List.flatMap_cons, List.length_append] at lenL lenL'
  have t : js (rs.flatMap bm ++ b.drop n) rs (n - (bm r).length) := by
   refine ⟨?_, ?_, fun x hx => h.good x (by simp [hx]), ?_⟩
   ·rw [List.length_append]; omega
   ·rw [show n - (bm r).length = (rs.flatMap bm).length by omega, List.take_left]
   ·rw [show n - (bm r).length = (rs.flatMap bm).length by omega, List.drop_left]
    exact h.stuck
  have t' : js (rs.flatMap bm ++ b.drop n) rs' (n' - (bm r).length) := by
   rw [ec]
   refine ⟨?_, ?_, fun x hx => h'.good x (by simp [hx]), ?_⟩
   ·rw [List.length_append]; omega
   ·rw [show n' - (bm r).length = (rs'.flatMap bm).length by omega, List.take_left]
   ·rw [show n' - (bm r).length = (rs'.flatMap bm).length by omega, List.drop_left]
    exact h'.stuck
  obtain ⟨rfl, hn⟩ := up t t'
  exact ⟨rfl, by omega⟩

theorem js.cons {r : RecD} {c : List UInt8} {rs : List RecD} {n : Nat} (h : js c rs n) (hr : jj r) : js (bm r ++ c) (r :: rs) ((bm r).length + n) := by
 refine ⟨?_, ?_, ?_, ?_⟩
 ·have := h.le
  rw [List.length_append]; omega
 ·rw [List.take_length_add_append, h.lines, List.flatMap_cons]
 ·intro x hx
  rcases List.mem_cons.1 hx with rfl | hx
  ·exact hr
  ·exact h.good x hx
 ·rw [List.drop_length_add_append]
  exact h.stuck
theorem js.nil {c : List UInt8} (h : qj4 c) : js c [] 0 := ⟨Nat.zero_le _, rfl, (fun _ h => nomatch h), h⟩
end Go.Proofs.YtplbcbamnjnhlaaGreatDoor
