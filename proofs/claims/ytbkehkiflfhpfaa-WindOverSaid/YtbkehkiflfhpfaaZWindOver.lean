/-
  The law WindOver is proved: for any bands and height, CheckBands, Over and Covers return what the reference returns, and the call answers true. No condition.
-/
import Derived.Test.YtbkehkiflfhpfaaYh
import Derived.Test.YtbkehkiflfhpfaaZa
set_option linter.unusedVariables false
set_option linter.unusedSimpArgs false
set_option maxRecDepth 100000
namespace Go.Proofs.Ytbkehkiflfhpfaa
open Go.V

theorem windOver_lifted (os : Os) (started : os.Started) (H : Type) (enc : TypeId × Value → H) :
    ReturnsInHanded {} Try.checked os 14 .any (Rows.windOverSpec.pre6 enc Go.Proofs.Try.prog Try.f14 Rows.windOverRow.domain false) (Rows.windOverSpec.post enc Go.Proofs.Try.prog Try.f14 false Rows.windOverRow.fresh Rows.windOverRow.handsOn Rows.windOverRow.again) := by
  refine returnsInHanded_of_change (C := Try.checked) own started (by kernel_rfl) Try.func14
    (ChangeSpec.witness6 (enc := enc) (C := Try.checked) false ⟨#[], #[.slice none 0 0, .slice none 0 0, .int .i64 0], []⟩ 8 (by kernel_rfl) (by kernel_rfl) (by kernel_rfl) (by kernel_rfl)) ?_
  intro W base args ds gs before hok hW _ _
  refine law_contract (l := [.one bandsK, .one bandsK, .one (.int .i64)]) (tb := 4) laid_ok lawOver_ok (by kernel_rfl) (by kernel_rfl) rfl tbool (fun ds h => ?_) rfl (fun ds hd => ?_) W base args ds gs before hok hW
  · obtain ⟨d, e, f, rfl, h1, h2, h3⟩ := isAL3 h
    obtain ⟨n, g, rfl, hg⟩ := bands_of_kinds (f := 3) h1
    obtain ⟨m, g', rfl, hg'⟩ := bands_of_kinds (f := 3) h2
    obtain ⟨x, rfl, _⟩ := int_of_kinds (f := 4) h3
    exact ⟨_, _, rfl, ⟨hg, hg'⟩, .inl rfl⟩
  · match ds, hd with
    | [a, b, c], _ => exact ⟨rfl, rfl, rfl⟩
theorem windOver_holds : Rows.WindOverSaid :=
  OpenClaim.holds_of_wide 14 Try.f14 rfl rfl rfl rfl rfl rfl rfl ⟨rfl, rfl, rfl, rfl, rfl⟩ rfl rfl rfl rfl rfl (by kernel_rfl) Try.func14 (by kernel_rfl)
    (of_decide_eq_true (by kernel_rfl)) (by unfold Func.isWrapper; first | (rw [if_pos (by decide +kernel)]; kernel_rfl) | (rw [if_neg (by decide +kernel)]; exact ⟨rfl, rfl⟩))
    (fun os started H enc _ => windOver_lifted os started H enc)
#print axioms windOver_holds
end Go.Proofs.Ytbkehkiflfhpfaa
