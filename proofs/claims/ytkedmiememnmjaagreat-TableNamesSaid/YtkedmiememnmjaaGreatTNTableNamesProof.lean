/- Proved: the given statement TableNamesSaid: for all grammars and numbers the law TableNames returns true and the input reads afterwards as before. No condition. -/
import Derived.Test.YtkedmiememnmjaaGreatTN33
namespace Go.Proofs.YtkedmiememnmjaaGreat
open Go.ChangeMaps (open_string)
open Go.ChangeShapes Go.WideShapes Go.ChangeAt Go.RowKit

set_option maxRecDepth 100000 in
theorem tableNames_lifted (os : Os) (started : os.Started) (H : Type) (enc : TypeId × Value → H) :
    ReturnsInHanded {} Tryz.checked os 3 .any (Rows.tableNamesSpec.pre6 enc Tryz.prog Tryz.f3 Rows.tableNamesRow.domain false) (Rows.tableNamesSpec.post enc Tryz.prog Tryz.f3 false true false false) := by
  refine returnsInHanded_of_change (C := Tryz.checked) own started (by kernel_rfl) Tryz.func3
    (ChangeSpec.witness6 (enc := enc) (C := Tryz.checked) false ⟨#[], #[.agg #[.slice none 0 0, .slice none 0 0, .slice none 0 0], .int .i64 0], []⟩ 8 (by kernel_rfl) (by kernel_rfl) (by kernel_rfl) (by kernel_rfl)) ?_
  intro W base args ds gs before hval0 hW hcnd _
  have hval : ∀ (j : Nat) t v, Tryz.f3.params[j]? = some t → args[j]? = some v → Value.okWide Tryz.prog W .any base t v := hval0
  have hW' := hW
  obtain ⟨p, q, hA0, hV, rfl, hfz, hnd⟩ := hW
  have hA : DataW.TrodAll enc Tryz.prog W 0 (fun _ => true) true Tryz.f3.params.toList args.toList ds p := hA0
  rw [Tryz.params3] at hA hval
  obtain ⟨v0, v1, d0, d1, p0, p1, rfl, rfl, rfl, h0, h1⟩ := trodAll_two hA
  obtain ⟨rfl, rfl⟩ := trodVars_none hV
  obtain ⟨cs, g, rfl, hg⟩ := open_agg (opens_gram (enc := enc)) Tryz.underlying25 (hval 0 25 v0 rfl rfl) h0
  obtain ⟨c1, c2, rfl, ⟨u1, rfl, hs1⟩, c3, c4, rfl, ⟨u2, rfl, hs2⟩, u3, rfl, hs3⟩ := hg
  obtain ⟨k, rfl, _⟩ := open_int Tryz.underlying3 (hval 1 3 v1 rfl rfl) h1
  obtain ⟨B1, e1, rfl, _, _⟩ := hs1.form
  obtain ⟨B2, e2, rfl, _, _⟩ := hs2.form
  obtain ⟨B3, e3, rfl, _, _⟩ := hs3.form
  clear hA0 hval0
  refine (tableNames_any k W hs1 hs2 hs3).mono fun e W' ⟨he, hb⟩ => ?_
  subst he
  exact ⟨_, rfl, law_post laidOut (by kernel_rfl) rfl rfl Tryz.underlying4 rfl hW' hb⟩

theorem tableNames_holds : Rows.TableNamesSaid :=
  OpenClaim.holds_of_wide 3 Tryz.f3 rfl rfl rfl rfl rfl rfl rfl ⟨rfl, rfl, rfl, rfl, rfl⟩ rfl rfl rfl rfl rfl (by kernel_rfl) Tryz.func3 (by kernel_rfl)
    (of_decide_eq_true (by kernel_rfl)) (by unfold Func.isWrapper; first | (rw [if_pos (by decide +kernel)]; kernel_rfl) | (rw [if_neg (by decide +kernel)]; exact ⟨rfl, rfl⟩))
    (fun os started H enc _ => tableNames_lifted os started H enc)

end Go.Proofs.YtkedmiememnmjaaGreat
