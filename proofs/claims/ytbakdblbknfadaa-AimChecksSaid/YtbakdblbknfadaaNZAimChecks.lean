/-
  The law AimChecks is proved: Check returns what the document says, for any task. No condition.
-/
import Derived.Test.YtbakdblbknfadaaMn
section
set_option linter.unusedVariables false
set_option linter.unusedSimpArgs false
set_option maxRecDepth 100000
namespace Go.Proofs.Ytbakdblbknfadaa
open Go.V

theorem aimChecks_lifted (os : Os) (started : os.Started) (H : Type) (enc : TypeId × Value → H) :
    ReturnsInHanded {} Try.checked os 3 .any (Rows.aimChecksSpec.pre6 enc Go.Proofs.Try.prog Try.f3 Rows.aimChecksRow.domain false) (Rows.aimChecksSpec.post enc Go.Proofs.Try.prog Try.f3 false Rows.aimChecksRow.fresh Rows.aimChecksRow.handsOn Rows.aimChecksRow.again) := by
  refine returnsInHanded_of_change (C := Try.checked) own started (by kernel_rfl) Try.func3
    (ChangeSpec.witness6 (enc := enc) (C := Try.checked) false ⟨#[], #[.agg #[.slice none 0 0, .slice none 0 0, .int .i64 0, .int .i64 0, .int .i64 0, .int .i64 0, .int .i64 0, .int .i64 0, .int .i64 0, .int .i64 0, .int .i64 0]], []⟩ 8 (by kernel_rfl) (by kernel_rfl) (by kernel_rfl) (by kernel_rfl)) ?_
  intro W base args ds gs before hok hW _ _
  refine law_contract (l := [atK]) (tb := 4) laid_ok lawAChecks_ok (by kernel_rfl) (by kernel_rfl) rfl tbool (fun ds h => ?_) rfl (fun ds hd => ?_) W base args ds gs before hok hW
  · obtain ⟨d, rfl, h1⟩ := isAL1 h
    exact ⟨_, _, rfl, at_of_kinds h1, .inl rfl⟩
  · match ds, hd with
    | [a], _ => exact ⟨rfl, rfl, rfl⟩
theorem aimChecks_holds : Rows.AimChecksSaid :=
  OpenClaim.holds_of_wide 3 Try.f3 rfl rfl rfl rfl rfl rfl rfl ⟨rfl, rfl, rfl, rfl, rfl⟩ rfl rfl rfl rfl rfl (by kernel_rfl) Try.func3 (by kernel_rfl)
    (of_decide_eq_true (by kernel_rfl)) (by unfold Func.isWrapper; first | (rw [if_pos (by decide +kernel)]; kernel_rfl) | (rw [if_neg (by decide +kernel)]; exact ⟨rfl, rfl⟩))
    (fun os started H enc _ => aimChecks_lifted os started H enc)
#print axioms aimChecks_holds
end Go.Proofs.Ytbakdblbknfadaa
end
