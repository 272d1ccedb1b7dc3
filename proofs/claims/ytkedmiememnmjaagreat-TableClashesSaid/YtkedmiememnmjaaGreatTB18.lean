import Derived.Test.YtkedmiememnmjaaGreatTB17
namespace Go.Proofs.YtkedmiememnmjaaGreat
open Go.RowKit Go.Sort

theorem SlR.dropI {w : World} {B : Nat} {A : Option Addr} {n c : Nat} {xs : List Int} (h : SlR eInt w B (.slice A n c) xs) (p : Nat) (hp : p ≤ n) : SlR eInt w B (.slice (if c = p then A else A.map (·.add p)) (xs.drop p).length (c - p)) (xs.drop p) := by
  obtain ⟨A', c', css, e, h1, h2, h3, h4, h5⟩ := h
  injection e with e1 e2 e3
  subst e1 e2 e3
  have hfl : ∀ (cs : List (List Value)), (∀ x ∈ cs, x.length = 1) → ∀ q, (cs.drop q).flatten = cs.flatten.drop q := by
    intro cs
    induction cs with
    | nil => intro _ q; simp
    | cons x l ih =>
      intro hx q
      cases q with
      | zero => rfl
      | succ q =>
        rw [List.drop_succ_cons, ih (fun y hy => hx y (by simp [hy])) q, List.flatten_cons]
        have h1 := hx x (by simp)
        obtain ⟨y, rfl⟩ := List.length_eq_one_iff.1 h1
        rfl
  have hone : ∀ x ∈ css, x.length = 1 := SlR.lens (E := eInt) h3 h5
  have hlen : css.flatten.length = css.length := by
    have : ∀ (cs : List (List Value)), (∀ x ∈ cs, x.length = 1) → cs.flatten.length = cs.length := by
      intro cs
      induction cs with
      | nil => intro _; rfl
      | cons x l ih => intro hx; rw [List.flatten_cons, List.length_append, ih (fun y hy => hx y (by simp [hy])), hx x (by simp), List.length_cons]; omega
    exact this css hone
  refine ⟨_, _, css.drop p, rfl, by rw [List.length_drop]; omega, by omega, by rw [List.length_drop, List.length_drop, h3], ?_, fun i cs x hc hx => ?_⟩
  · rw [hfl css hone p]
    exact h4.drop_ p (fun hlt => by omega)
  · rw [List.getElem?_drop] at hc hx
    exact h5 _ cs x hc hx
def BehindRes (w : World) (o : Option (List Wd)) (e : Ending) (w' : World) : Prop :=
  Below w.heap.size w w' ∧ match o with
  | none => e = .returned (.tuple #[.slice none 0 0, .bool false])
  | some x => ∃ v, e = .returned (.tuple #[v, .bool true]) ∧ w'.ownsRow w.heap.size 9 1 v x.length (wcells x)
set_option maxRecDepth 100000 in
set_option maxHeartbeats 8000000 in
theorem behind_any (A1 A2 A : Option Addr) (c1 c2 c q n n2 k a p : Nat) (sets fol : Sets) (r : List Int) (w : World) (hk1 : 1 ≤ k) (hk2 : k ≤ 4) (h1 : SlR (eSl eW) w w.heap.size (.slice A1 n c1) sets) (h2 : SlR (eSl eW) w w.heap.size (.slice A2 n2 c2) fol) (hr : SlR eInt w w.heap.size (.slice A q c) r) (hq : q ≤ 64) (hp : p ≤ q) (ha : a < n2) (hs : Sized sets) (hf : Sized fol) :
    Calls Tryz.prog 36 #[.slice A1 n c1, .slice A2 n2 c2, .int .i64 k, ruleV a A q c, .int .i64 ((p : Int) - 1)] w (BehindRes w (behindW sets fol k ((a : Int), r) ((p : Int) - 1))) := by
  have hqn := hr.n_eq
  have hnn := h1.n_eq
  have hn2n := h2.n_eq
  have hbx := (Below.refl w.heap.size w).alloc (Nat.le_refl _) (.cells #[.int .i64 a, .slice A q c] 48)
  have HW : Hid (behindW sets fol k ((a : Int), r) ((p : Int) - 1) = (ofW sets k (r.drop p)).bind fun x => catW k x (fol.getD a [])) := by
    show _ = _
    unfold behindW
    simp only
    rw [if_neg (by omega), show (((p : Int) - 1) + 1).toNat = p by omega, Int.toNat_natCast]
  have hof := firstOf_any A1 (if c = p then A else A.map (·.add p)) c1 (c - p) k sets (r.drop p) (w.alloc (.cells #[.int .i64 a, .slice A q c] 48)) hk1 hk2 (by rw [← hnn]; exact h1.fut hbx (Nat.le_refl _) hbx.size) ((hr.fut hbx (Nat.le_refl _) hbx.size).dropI p hp) hs
  rw [← hnn, List.length_drop, ← hqn] at hof
  have HOF := Lib.hid hof
  have HFOL := Lib.hid h2
  have HF := Lib.hid hf
  have HBX := Lib.hid hbx
  have HZ := Lib.hid (World.size_alloc w (.cells #[.int .i64 a, .slice A q c] 48))
  have HK := Lib.hid (Go.heap_alloc_new w (.cells #[.int .i64 a, .slice A q c] 48))
  have HN2 := Lib.hid hn2n
  have hcq := hr.n_le
  have hd1 : decide (((p : Int) - 1) < -1) = false := by rw [decide_eq_false_iff_not]; omega
  have hd2 : decide ((q : Int) ≤ (p : Int) - 1) = false := by rw [decide_eq_false_iff_not]; omega
  have hd3 : decide ((a : Int) < 0) = false := by rw [decide_eq_false_iff_not]; omega
  have hd4 : decide ((n2 : Int) ≤ (a : Int)) = false := by rw [decide_eq_false_iff_not]; omega
  have hpp : ((p : Int) - 1) + 1 = p := by omega
  clear h1 h2 hr hs hf hbx hof hqn hnn hn2n
  by_cases hcp : c = p
  · rw [if_pos hcp] at HOF
    have hc0 : c - p = 0 := by omega
    have hq0 : q - p = 0 := by omega
    rw [hc0, hq0] at HOF
    clear hc0 hq0
    subst hcp
    go_enter Tryz.func36, Tryz.ntmps36
    go_wp2_with fail
    generalize w.alloc (.cells #[.int .i64 a, .slice A q c] 48) = w1 at *
    refine HOF.out.mono ?_
    rintro e w2 ⟨hb2, he⟩
    have HB2 := Lib.hid (HBX.out.trans (hb2.mono (by rw [HZ.out]; omega)))
    have HK2 := Lib.hid ((hb2.block w.heap.size (by rw [HZ.out]; omega)).trans HK.out)
    clear hb2 HOF
    cases ho : ofW sets (k : Int) (r.drop c) with
    | none =>
      rw [ho] at he
      subst he
      have HN := Lib.hid (show behindW sets fol k ((a : Int), r) ((c : Int) - 1) = none by rw [HW.out, ho]; rfl)
      clear ho
      go_wp2_with fail
      go_ret2
      refine ⟨HB2.out, ?_⟩
      rw [HN.out]
      rfl
    | some x =>
      rw [ho] at he
      obtain ⟨Ax, cx, rfl, hsx⟩ := he
      have HX := Lib.hid (ofW_b hk2 ho)
      have HWX := Lib.hid (show behindW sets fol k ((a : Int), r) ((c : Int) - 1) = catW k x (fol.getD a []) by rw [HW.out, ho]; rfl)
      have HSX := Lib.hid hsx
      have hal : a < fol.length := by rw [← HN2.out]; exact ha
      obtain ⟨b, off, A9, c9, rfl, _, hbl, hcell, hsl, h5, h6⟩ := (HFOL.out.fut HB2.out (Nat.le_refl _) HB2.out.size).row1 hal
      have HFS := Lib.hid (HF.out a _ (List.getElem?_eq_getElem hal))
      have HGD := Lib.hid (show fol.getD a [] = fol[a] by rw [List.getD_eq_getElem?_getD, List.getElem?_eq_getElem hal]; rfl)
      obtain ⟨f, hf⟩ : ∃ f, f = fol[a] := ⟨_, rfl⟩
      rw [← hf] at hcell hsl h5 HFS HGD
      have hcat := wsetCat_any k Ax A9 cx c9 x f w2 hk1 hk2 HSX.out hsl HX.out.1 HFS.out.1 (by
        have e1 := HX.out.2; have e2 := HFS.out.2
        exact Nat.le_trans (Nat.mul_le_mul e1 e2) (by decide))
      obtain ⟨qx, hqx⟩ : ∃ qx, qx = x.length := ⟨_, rfl⟩
      obtain ⟨qf, hqf⟩ : ∃ qf, qf = f.length := ⟨_, rfl⟩
      rw [← hqx, ← hqf] at hcat
      rw [← hqx]
      rw [← hqf] at hcell h5
      have HCAT := Lib.hid hcat
      have c0 : w2.cell? ⟨w.heap.size, 0, none⟩ = some (.int .i64 a) := by rw [cell_of_row _ _ _ _ _ _ HK2.out]; rfl
      clear ho hsx hal hsl hf hqx hqf hcat
      go_wp2_with fail
      refine HCAT.out.mono ?_
      rintro e w3 ⟨hb3, he⟩
      have HB3 := Lib.hid (HB2.out.trans (hb3.mono HB2.out.size))
      rw [HGD.out] at HWX
      clear hb3
      cases h2 : catW (k : Int) x f with
      | none =>
        rw [h2] at he
        subst he
        have HN := Lib.hid (show behindW sets fol k ((a : Int), r) ((c : Int) - 1) = none by rw [HWX.out, h2])
        clear h2
        go_wp2_with fail
        go_ret2
        refine ⟨HB3.out, ?_⟩
        rw [HN.out]
        rfl
      | some z =>
        rw [h2] at he
        obtain ⟨v, rfl, hown⟩ := he
        have HS := Lib.hid (show behindW sets fol k ((a : Int), r) ((c : Int) - 1) = some z by rw [HWX.out, h2])
        have HO := Lib.hid (own_more hown HB2.out.size)
        obtain ⟨A8, c8, rfl, _, _⟩ := own_form hown
        clear h2 hown
        go_wp2_with fail
        go_ret2
        refine ⟨HB3.out, ?_⟩
        rw [HS.out]
        exact ⟨_, rfl, HO.out⟩
  · rw [if_neg hcp] at HOF
    go_enter Tryz.func36, Tryz.ntmps36
    go_wp2_with fail
    generalize w.alloc (.cells #[.int .i64 a, .slice A q c] 48) = w1 at *
    refine HOF.out.mono ?_
    rintro e w2 ⟨hb2, he⟩
    have HB2 := Lib.hid (HBX.out.trans (hb2.mono (by rw [HZ.out]; omega)))
    have HK2 := Lib.hid ((hb2.block w.heap.size (by rw [HZ.out]; omega)).trans HK.out)
    clear hb2 HOF
    cases ho : ofW sets (k : Int) (r.drop p) with
    | none =>
      rw [ho] at he
      subst he
      have HN := Lib.hid (show behindW sets fol k ((a : Int), r) ((p : Int) - 1) = none by rw [HW.out, ho]; rfl)
      clear ho
      go_wp2_with fail
      go_ret2
      refine ⟨HB2.out, ?_⟩
      rw [HN.out]
      rfl
    | some x =>
      rw [ho] at he
      obtain ⟨Ax, cx, rfl, hsx⟩ := he
      have HX := Lib.hid (ofW_b hk2 ho)
      have HWX := Lib.hid (show behindW sets fol k ((a : Int), r) ((p : Int) - 1) = catW k x (fol.getD a []) by rw [HW.out, ho]; rfl)
      have HSX := Lib.hid hsx
      have hal : a < fol.length := by rw [← HN2.out]; exact ha
      obtain ⟨b, off, A9, c9, rfl, _, hbl, hcell, hsl, h5, h6⟩ := (HFOL.out.fut HB2.out (Nat.le_refl _) HB2.out.size).row1 hal
      have HFS := Lib.hid (HF.out a _ (List.getElem?_eq_getElem hal))
      have HGD := Lib.hid (show fol.getD a [] = fol[a] by rw [List.getD_eq_getElem?_getD, List.getElem?_eq_getElem hal]; rfl)
      obtain ⟨f, hf⟩ : ∃ f, f = fol[a] := ⟨_, rfl⟩
      rw [← hf] at hcell hsl h5 HFS HGD
      have hcat := wsetCat_any k Ax A9 cx c9 x f w2 hk1 hk2 HSX.out hsl HX.out.1 HFS.out.1 (by
        have e1 := HX.out.2; have e2 := HFS.out.2
        exact Nat.le_trans (Nat.mul_le_mul e1 e2) (by decide))
      obtain ⟨qx, hqx⟩ : ∃ qx, qx = x.length := ⟨_, rfl⟩
      obtain ⟨qf, hqf⟩ : ∃ qf, qf = f.length := ⟨_, rfl⟩
      rw [← hqx, ← hqf] at hcat
      rw [← hqx]
      rw [← hqf] at hcell h5
      have HCAT := Lib.hid hcat
      have c0 : w2.cell? ⟨w.heap.size, 0, none⟩ = some (.int .i64 a) := by rw [cell_of_row _ _ _ _ _ _ HK2.out]; rfl
      clear ho hsx hal hsl hf hqx hqf hcat
      go_wp2_with fail
      refine HCAT.out.mono ?_
      rintro e w3 ⟨hb3, he⟩
      have HB3 := Lib.hid (HB2.out.trans (hb3.mono HB2.out.size))
      rw [HGD.out] at HWX
      clear hb3
      cases h2 : catW (k : Int) x f with
      | none =>
        rw [h2] at he
        subst he
        have HN := Lib.hid (show behindW sets fol k ((a : Int), r) ((p : Int) - 1) = none by rw [HWX.out, h2])
        clear h2
        go_wp2_with fail
        go_ret2
        refine ⟨HB3.out, ?_⟩
        rw [HN.out]
        rfl
      | some z =>
        rw [h2] at he
        obtain ⟨v, rfl, hown⟩ := he
        have HS := Lib.hid (show behindW sets fol k ((a : Int), r) ((p : Int) - 1) = some z by rw [HWX.out, h2])
        have HO := Lib.hid (own_more hown HB2.out.size)
        obtain ⟨A8, c8, rfl, _, _⟩ := own_form hown
        clear h2 hown
        go_wp2_with fail
        go_ret2
        refine ⟨HB3.out, ?_⟩
        rw [HS.out]
        exact ⟨_, rfl, HO.out⟩
end Go.Proofs.YtkedmiememnmjaaGreat
