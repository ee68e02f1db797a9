/-
  The law RecoverFound is proved: a place of the area that agrees with all fixes is found by the search's last visit, or its cell is left, for any task and place. No condition.
-/
import Derived.Test.YtcnecjkcmjgakaaMu
import Derived.Test.YtcnecjkcmjgakaaMs
section
set_option linter.unusedVariables false
set_option linter.unusedSimpArgs false
set_option maxRecDepth 100000
namespace Go.Proofs.Ytcnecjkcmjgakaa
open Go.V

theorem recoverFound_lifted (os : Os) (started : os.Started) (H : Type) (enc : TypeId × Value → H) :
    ReturnsInHanded {} Try.checked os 13 .any (Rows.recoverFoundSpec.pre6 enc Go.Proofs.Try.prog Try.f13 Rows.recoverFoundRow.domain false) (Rows.recoverFoundSpec.post enc Go.Proofs.Try.prog Try.f13 false Rows.recoverFoundRow.fresh Rows.recoverFoundRow.handsOn Rows.recoverFoundRow.again) := by
  refine returnsInHanded_of_change (C := Try.checked) own started (by kernel_rfl) Try.func13
    (ChangeSpec.witness6 (enc := enc) (C := Try.checked) false ⟨#[], #[.agg #[.int .i64 0, .int .i64 0, .int .i64 0, .int .i64 0, .int .i64 0, .slice none 0 0, .slice none 0 0, .int .i64 0, .int .i64 0, .int .i64 0, .int .i64 0, .int .i64 0, .int .i64 0, .int .i64 0], .agg #[.int .i64 0, .int .i64 0]], []⟩ 8 (by kernel_rfl) (by kernel_rfl) (by kernel_rfl) (by kernel_rfl)) ?_
  intro W base args ds gs before hok hW _ _
  refine law_contract (l := [rtK, .agg (ints 2)]) (tb := 4) laid_ok lawFound_ok (by kernel_rfl) (by kernel_rfl) rfl tbool (fun ds h => ?_) rfl (fun ds hd => ?_) W base args ds gs before hok hW
  · obtain ⟨d, e, rfl, h1, h2⟩ := isAL2 h
    obtain ⟨a, b, rfl⟩ := ints2 h2
    exact ⟨_, _, rfl, rt_of_kinds h1, .inl rfl⟩
  · match ds, hd with
    | [a, b], _ => exact ⟨rfl, rfl, rfl⟩
theorem recoverFound_holds : Rows.RecoverFoundSaid :=
  OpenClaim.holds_of_wide 13 Try.f13 rfl rfl rfl rfl rfl rfl rfl ⟨rfl, rfl, rfl, rfl, rfl⟩ rfl rfl rfl rfl rfl (by kernel_rfl) Try.func13 (by kernel_rfl)
    (of_decide_eq_true (by kernel_rfl)) (by unfold Func.isWrapper; first | (rw [if_pos (by decide +kernel)]; kernel_rfl) | (rw [if_neg (by decide +kernel)]; exact ⟨rfl, rfl⟩))
    (fun os started H enc _ => recoverFound_lifted os started H enc)
#print axioms recoverFound_holds
end Go.Proofs.Ytcnecjkcmjgakaa
end
