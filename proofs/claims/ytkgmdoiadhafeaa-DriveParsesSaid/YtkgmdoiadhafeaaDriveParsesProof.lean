/- Proved: the given statement DriveParsesSaid: for all grammars, numbers, machines and words the law DriveParses returns true and these read afterwards as before. No condition. -/
import Derived.Test.YtkgmdoiadhafeaaRows
import Derived.Test.YtkgmdoiadhafeaaClose
import Derived.Test.YtkgmdoiadhafeaaLaw4
namespace Go.Proofs.Ytkgmdoiadhafeaa
open Go.ChangeMaps (open_string)
open Go.ChangeShapes Go.WideShapes Go.ChangeAt Go.RowKit

theorem own : ownKnob Try.prog.godebug = none := by kernel_rfl
theorem laidOut : laidOutB Try.prog = true := by kernel_rfl

section
variable {H : Type} {enc : TypeId × Value → H}
theorem opens_strs : Opens enc Try.prog (eSl eStr) 23 := opens_sl (opens_str Try.underlying9) Try.underlying23 (by kernel_rfl) (by decide)
theorem opens_ints : Opens enc Try.prog (eSl eInt) 24 := opens_sl (opens_int Try.underlying3) Try.underlying24 (by kernel_rfl) (by decide)
theorem opens_rule : Opens enc Try.prog eRule 26 := opens_two Try.underlying26 (opens_int Try.underlying3) opens_ints (by kernel_rfl) (by kernel_rfl) rfl rfl (by kernel_rfl)
theorem opens_rules : Opens enc Try.prog (eSl eRule) 27 := opens_sl opens_rule Try.underlying27 (by kernel_rfl) (by decide)
def eGram : Elt Gram := eProd (eSl eStr) (eProd (eSl eStr) (eSl eRule))
theorem opens_gram : Opens enc Try.prog eGram 29 := opens_three Try.underlying29 opens_strs opens_strs opens_rules (by kernel_rfl) (by kernel_rfl) (by kernel_rfl) rfl rfl rfl (by kernel_rfl)
theorem opens_edge : Opens enc Try.prog eEdge 31 := opens_two Try.underlying31 (opens_int Try.underlying3) (opens_int Try.underlying3) (by kernel_rfl) (by kernel_rfl) rfl rfl (by kernel_rfl)
theorem opens_state : Opens enc Try.prog eState 34 := opens_two Try.underlying34 (opens_int Try.underlying3) (opens_sl opens_edge Try.underlying32 (by kernel_rfl) (by decide)) (by kernel_rfl) (by kernel_rfl) rfl rfl (by kernel_rfl)
theorem opens_machs : Opens enc Try.prog (eSl (eSl eState)) 36 := opens_sl (opens_sl opens_state Try.underlying35 (by kernel_rfl) (by decide)) Try.underlying36 (by kernel_rfl) (by decide)
end
set_option maxRecDepth 100000 in
theorem driveParses_lifted (os : Os) (started : os.Started) (H : Type) (enc : TypeId × Value → H) :
    ReturnsInHanded {} Try.checked os 4 .any (Rows.driveParsesSpec.pre6 enc Try.prog Try.f4 Rows.driveParsesRow.domain false) (Rows.driveParsesSpec.post enc Try.prog Try.f4 false true false false) := by
  refine returnsInHanded_of_change (C := Try.checked) own started (by kernel_rfl) Try.func4
    (ChangeSpec.witness6 (enc := enc) (C := Try.checked) false ⟨#[], #[.agg #[.slice none 0 0, .slice none 0 0, .slice none 0 0], .int .i64 0, .slice none 0 0, .string .empty], []⟩ 8 (by kernel_rfl) (by kernel_rfl) (by kernel_rfl) (by kernel_rfl)) ?_
  intro W base args ds gs before hval0 hW hcnd _
  have hval : ∀ (j : Nat) t v, Try.f4.params[j]? = some t → args[j]? = some v → Value.okWide Try.prog W .any base t v := hval0
  have hW' := hW
  obtain ⟨p, q, hA0, hV, rfl, hfz, hnd⟩ := hW
  have hA : DataW.TrodAll enc Try.prog W 0 (fun _ => true) true Try.f4.params.toList args.toList ds p := hA0
  rw [Try.params4] at hA hval
  obtain ⟨v0, v1, v2, v3, d0, d1, d2, d3, p0, p1, p2, p3, rfl, rfl, rfl, h0, h1, h2, h3⟩ := trodAll_four hA
  obtain ⟨rfl, rfl⟩ := trodVars_none hV
  obtain ⟨cs, g, rfl, hg⟩ := open_agg (opens_gram (enc := enc)) Try.underlying29 (hval 0 29 v0 rfl rfl) h0
  obtain ⟨c1, c2, rfl, ⟨u1, rfl, hs1⟩, c3, c4, rfl, ⟨u2, rfl, hs2⟩, u3, rfl, hs3⟩ := hg
  obtain ⟨k, rfl, _⟩ := open_int Try.underlying3 (hval 1 3 v1 rfl rfl) h1
  obtain ⟨ms, hms⟩ := open_sl (opens_machs (enc := enc)) Try.underlying36 (hval 2 36 v2 rfl rfl) h2
  obtain ⟨s0, rfl, rfl, rfl, hsz⟩ := open_string Try.underlying9 (hval 3 9 v3 rfl rfl) h3
  clear hA0 hval0
  refine (driveParses_any u1 u2 u3 v2 g k ms s0 W hsz hs1 hs2 hs3 hms).mono fun e W' ⟨he, hb⟩ => ?_
  subst he
  exact ⟨_, rfl, law_post laidOut (by kernel_rfl) rfl rfl Try.underlying4 rfl hW' hb⟩

theorem driveParses_holds : Rows.DriveParsesSaid :=
  OpenClaim.holds_of_wide 4 Try.f4 rfl rfl rfl rfl rfl rfl rfl ⟨rfl, rfl, rfl, rfl, rfl⟩ rfl rfl rfl rfl rfl (by kernel_rfl) Try.func4 (by kernel_rfl)
    (of_decide_eq_true (by kernel_rfl)) (by unfold Func.isWrapper; first | (rw [if_pos (by decide +kernel)]; kernel_rfl) | (rw [if_neg (by decide +kernel)]; exact ⟨rfl, rfl⟩))
    (fun os started H enc _ => driveParses_lifted os started H enc)

end Go.Proofs.Ytkgmdoiadhafeaa
