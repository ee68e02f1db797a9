/-
  The law WindKnown is proved: the examples of the document. No condition.
-/
import Derived.Test.YtlecbjbjgfpfeaaMj
import Derived.Test.YtlecbjbjgfpfeaaMr
section
set_option linter.unusedVariables false
set_option linter.unusedSimpArgs false
set_option maxRecDepth 100000
namespace Go.Proofs.Ytlecbjbjgfpfeaa
open Go.V

theorem windKnown_lifted (os : Os) (started : os.Started) (H : Type) (enc : TypeId × Value → H) :
    ReturnsInHanded {} Try.checked os 5 .any (Rows.windKnownSpec.pre6 enc Go.Proofs.Try.prog Try.f5 Rows.windKnownRow.domain false) (Rows.windKnownSpec.post enc Go.Proofs.Try.prog Try.f5 false Rows.windKnownRow.fresh Rows.windKnownRow.handsOn Rows.windKnownRow.again) := by
  refine returnsInHanded_of_change (C := Try.checked) own started (by kernel_rfl) Try.func5
    (ChangeSpec.witness6 (enc := enc) (C := Try.checked) false ⟨#[], #[], []⟩ 8 (by kernel_rfl) (by kernel_rfl) (by kernel_rfl) (by kernel_rfl)) ?_
  intro W base args ds gs before hok hW _ _
  refine law_contract (l := []) (tb := 4) laid_ok lawKnown_ok (by kernel_rfl) (by kernel_rfl) rfl tbool (fun ds h => ?_) rfl (fun ds hd => ?_) W base args ds gs before hok hW
  · match ds, h with
    | [], _ => exact ⟨_, _, rfl, trivial, .inl rfl⟩
  · match ds, hd with
    | [], _ => exact ⟨rfl, rfl, rfl⟩
theorem windKnown_holds : Rows.WindKnownSaid :=
  OpenClaim.holds_of_wide 5 Try.f5 rfl rfl rfl rfl rfl rfl rfl ⟨rfl, rfl, rfl, rfl, rfl⟩ rfl rfl rfl rfl rfl (by kernel_rfl) Try.func5 (by kernel_rfl)
    (of_decide_eq_true (by kernel_rfl)) (by unfold Func.isWrapper; first | (rw [if_pos (by decide +kernel)]; kernel_rfl) | (rw [if_neg (by decide +kernel)]; exact ⟨rfl, rfl⟩))
    (fun os started H enc _ => windKnown_lifted os started H enc)
#print axioms windKnown_holds
end Go.Proofs.Ytlecbjbjgfpfeaa
end
