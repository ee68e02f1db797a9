/-
  The law RecoverSearches is proved: Search returns what the document says, for any task. No condition.
-/
import Derived.Test.YtcnecjkcmjgakaaMs
section
set_option linter.unusedVariables false
set_option linter.unusedSimpArgs false
set_option maxRecDepth 100000
namespace Go.Proofs.Ytcnecjkcmjgakaa
open Go.V

theorem recoverSearches_lifted (os : Os) (started : os.Started) (H : Type) (enc : TypeId × Value → H) :
    ReturnsInHanded {} Try.checked os 5 .any (Rows.recoverSearchesSpec.pre6 enc Go.Proofs.Try.prog Try.f5 Rows.recoverSearchesRow.domain false) (Rows.recoverSearchesSpec.post enc Go.Proofs.Try.prog Try.f5 false Rows.recoverSearchesRow.fresh Rows.recoverSearchesRow.handsOn Rows.recoverSearchesRow.again) := by
  refine returnsInHanded_of_change (C := Try.checked) own started (by kernel_rfl) Try.func5
    (ChangeSpec.witness6 (enc := enc) (C := Try.checked) false ⟨#[], #[.agg #[.int .i64 0, .int .i64 0, .int .i64 0, .int .i64 0, .int .i64 0, .slice none 0 0, .slice none 0 0, .int .i64 0, .int .i64 0, .int .i64 0, .int .i64 0, .int .i64 0, .int .i64 0, .int .i64 0]], []⟩ 8 (by kernel_rfl) (by kernel_rfl) (by kernel_rfl) (by kernel_rfl)) ?_
  intro W base args ds gs before hok hW _ _
  refine law_contract (l := [rtK]) (tb := 4) laid_ok lawSearches_ok (by kernel_rfl) (by kernel_rfl) rfl tbool (fun ds h => ?_) rfl (fun ds hd => ?_) W base args ds gs before hok hW
  · obtain ⟨d, rfl, h1⟩ := isAL1 h
    exact ⟨_, _, rfl, rt_of_kinds h1, .inl rfl⟩
  · match ds, hd with
    | [a], _ => exact ⟨rfl, rfl, rfl⟩
theorem recoverSearches_holds : Rows.RecoverSearchesSaid :=
  OpenClaim.holds_of_wide 5 Try.f5 rfl rfl rfl rfl rfl rfl rfl ⟨rfl, rfl, rfl, rfl, rfl⟩ rfl rfl rfl rfl rfl (by kernel_rfl) Try.func5 (by kernel_rfl)
    (of_decide_eq_true (by kernel_rfl)) (by unfold Func.isWrapper; first | (rw [if_pos (by decide +kernel)]; kernel_rfl) | (rw [if_neg (by decide +kernel)]; exact ⟨rfl, rfl⟩))
    (fun os started H enc _ => recoverSearches_lifted os started H enc)
#print axioms recoverSearches_holds
end Go.Proofs.Ytcnecjkcmjgakaa
end
