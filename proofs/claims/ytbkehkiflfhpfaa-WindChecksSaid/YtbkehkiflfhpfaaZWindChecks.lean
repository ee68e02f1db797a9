/-
  The law WindChecks is proved: for any task and string, Name and Check return what the reference returns, and the call answers true. No condition.
-/
import Derived.Test.YtbkehkiflfhpfaaZa
set_option linter.unusedVariables false
set_option linter.unusedSimpArgs false
set_option maxRecDepth 100000
namespace Go.Proofs.Ytbkehkiflfhpfaa
open Go.V

theorem windChecks_lifted (os : Os) (started : os.Started) (H : Type) (enc : TypeId × Value → H) :
    ReturnsInHanded {} Try.checked os 3 .any (Rows.windChecksSpec.pre6 enc Go.Proofs.Try.prog Try.f3 Rows.windChecksRow.domain false) (Rows.windChecksSpec.post enc Go.Proofs.Try.prog Try.f3 false Rows.windChecksRow.fresh Rows.windChecksRow.handsOn Rows.windChecksRow.again) := by
  refine returnsInHanded_of_change (C := Try.checked) own started (by kernel_rfl) Try.func3
    (ChangeSpec.witness6 (enc := enc) (C := Try.checked) false ⟨#[], #[.agg #[.slice none 0 0, .slice none 0 0, .slice none 0 0, .int .i64 0, .int .i64 0], .string ⟨#[]⟩], []⟩ 8 (by kernel_rfl) (by kernel_rfl) (by kernel_rfl) (by kernel_rfl)) ?_
  intro W base args ds gs before hok hW _ _
  refine law_contract (l := [taskK, .one .str]) (tb := 4) laid_ok lawChecks_ok (by kernel_rfl) (by kernel_rfl) rfl tbool (fun ds h => ?_) rfl (fun ds hd => ?_) W base args ds gs before hok hW
  · match ds, h with
    | [d, e], ⟨h1, h2, _⟩ =>
      obtain ⟨s, rfl, hs⟩ := h2
      obtain ⟨g1, g2⟩ := task_of_kinds h1
      exact ⟨_, _, rfl, ⟨g1, g2, hs⟩, .inl rfl⟩
  · match ds, hd with
    | [a, b], _ => exact ⟨rfl, rfl, rfl⟩
theorem windChecks_holds : Rows.WindChecksSaid :=
  OpenClaim.holds_of_wide 3 Try.f3 rfl rfl rfl rfl rfl rfl rfl ⟨rfl, rfl, rfl, rfl, rfl⟩ rfl rfl rfl rfl rfl (by kernel_rfl) Try.func3 (by kernel_rfl)
    (of_decide_eq_true (by kernel_rfl)) (by unfold Func.isWrapper; first | (rw [if_pos (by decide +kernel)]; kernel_rfl) | (rw [if_neg (by decide +kernel)]; exact ⟨rfl, rfl⟩))
    (fun os started H enc _ => windChecks_lifted os started H enc)
#print axioms windChecks_holds
end Go.Proofs.Ytbkehkiflfhpfaa
