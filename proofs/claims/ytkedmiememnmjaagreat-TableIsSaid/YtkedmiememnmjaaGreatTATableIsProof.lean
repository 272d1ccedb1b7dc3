/- Proved: the given statement TableIsSaid: for all grammars, numbers and rows the law TableIs returns true and the input reads afterwards as before. No condition. -/
import Derived.Test.YtkedmiememnmjaaGreatTA24
import Derived.Test.YtkedmiememnmjaaGreatTA23
namespace Go.Proofs.YtkedmiememnmjaaGreat
open Go.ChangeMaps (open_string)
open Go.ChangeShapes Go.WideShapes Go.ChangeAt Go.RowKit

set_option maxRecDepth 100000 in
theorem tableIs_lifted (os : Os) (started : os.Started) (H : Type) (enc : TypeId × Value → H) :
    ReturnsInHanded {} Tryz.checked os 5 .any (Rows.tableIsSpec.pre6 enc Tryz.prog Tryz.f5 Rows.tableIsRow.domain false) (Rows.tableIsSpec.post enc Tryz.prog Tryz.f5 false true false false) := by
  refine returnsInHanded_of_change (C := Tryz.checked) own started (by kernel_rfl) Tryz.func5
    (ChangeSpec.witness6 (enc := enc) (C := Tryz.checked) false ⟨#[], #[.agg #[.slice none 0 0, .slice none 0 0, .slice none 0 0], .int .i64 0, .slice none 0 0, .slice none 0 0, .int .i64 0], []⟩ 8 (by kernel_rfl) (by kernel_rfl) (by kernel_rfl) (by kernel_rfl)) ?_
  intro W base args ds gs before hval0 hW hcnd _
  have hval : ∀ (j : Nat) t v, Tryz.f5.params[j]? = some t → args[j]? = some v → Value.okWide Tryz.prog W .any base t v := hval0
  have hW' := hW
  obtain ⟨p, q, hA0, hV, rfl, hfz, hnd⟩ := hW
  have hA : DataW.TrodAll enc Tryz.prog W 0 (fun _ => true) true Tryz.f5.params.toList args.toList ds p := hA0
  rw [Tryz.params5] at hA hval
  obtain ⟨v0, v1, v2, v3, v4, d0, d1, d2, d3, d4, p0, p1, p2, p3, p4, rfl, rfl, rfl, h0, h1, h2, h3, h4⟩ := trodAll_five hA
  obtain ⟨rfl, rfl⟩ := trodVars_none hV
  obtain ⟨cs, g, rfl, hg⟩ := open_agg (opens_gram (enc := enc)) Tryz.underlying25 (hval 0 25 v0 rfl rfl) h0
  obtain ⟨c1, c2, rfl, ⟨u1, rfl, hs1⟩, c3, c4, rfl, ⟨u2, rfl, hs2⟩, u3, rfl, hs3⟩ := hg
  obtain ⟨k, rfl, _⟩ := open_int Tryz.underlying3 (hval 1 3 v1 rfl rfl) h1
  obtain ⟨rows, hrows⟩ := open_sl (opens_rows (enc := enc)) Tryz.underlying28 (hval 2 28 v2 rfl rfl) h2
  obtain ⟨others, hothers⟩ := open_sl (opens_rows (enc := enc)) Tryz.underlying28 (hval 3 28 v3 rfl rfl) h3
  obtain ⟨left, rfl, _⟩ := open_int Tryz.underlying3 (hval 4 3 v4 rfl rfl) h4
  obtain ⟨B1, e1, rfl, _, _⟩ := hs1.form
  obtain ⟨B2, e2, rfl, _, _⟩ := hs2.form
  obtain ⟨B3, e3, rfl, _, _⟩ := hs3.form
  obtain ⟨B4, e4, rfl, _, _⟩ := hrows.form
  obtain ⟨B5, e5, rfl, _, _⟩ := hothers.form
  clear hA0 hval0
  refine (tableIs_any k left W hs1 hs2 hs3 hrows hothers).mono fun e W' ⟨he, hb⟩ => ?_
  subst he
  exact ⟨_, rfl, law_post laidOut (by kernel_rfl) rfl rfl Tryz.underlying4 rfl hW' hb⟩

theorem tableIs_holds : Rows.TableIsSaid :=
  OpenClaim.holds_of_wide 5 Tryz.f5 rfl rfl rfl rfl rfl rfl rfl ⟨rfl, rfl, rfl, rfl, rfl⟩ rfl rfl rfl rfl rfl (by kernel_rfl) Tryz.func5 (by kernel_rfl)
    (of_decide_eq_true (by kernel_rfl)) (by unfold Func.isWrapper; first | (rw [if_pos (by decide +kernel)]; kernel_rfl) | (rw [if_neg (by decide +kernel)]; exact ⟨rfl, rfl⟩))
    (fun os started H enc _ => tableIs_lifted os started H enc)

end Go.Proofs.YtkedmiememnmjaaGreat
