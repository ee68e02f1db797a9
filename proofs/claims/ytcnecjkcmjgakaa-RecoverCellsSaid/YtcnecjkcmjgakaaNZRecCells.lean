/-
  The law RecoverCells is proved: Cells, Cell and Flight return what the document says, for any task and places. No condition.
-/
import Derived.Test.YtcnecjkcmjgakaaMs
section
set_option linter.unusedVariables false
set_option linter.unusedSimpArgs false
set_option maxRecDepth 100000
namespace Go.Proofs.Ytcnecjkcmjgakaa
open Go.V

theorem recoverCells_lifted (os : Os) (started : os.Started) (H : Type) (enc : TypeId × Value → H) :
    ReturnsInHanded {} Try.checked os 9 .any (Rows.recoverCellsSpec.pre6 enc Go.Proofs.Try.prog Try.f9 Rows.recoverCellsRow.domain false) (Rows.recoverCellsSpec.post enc Go.Proofs.Try.prog Try.f9 false Rows.recoverCellsRow.fresh Rows.recoverCellsRow.handsOn Rows.recoverCellsRow.again) := by
  refine returnsInHanded_of_change (C := Try.checked) own started (by kernel_rfl) Try.func9
    (ChangeSpec.witness6 (enc := enc) (C := Try.checked) false ⟨#[], #[.agg #[.int .i64 0, .int .i64 0, .int .i64 0, .int .i64 0, .int .i64 0, .slice none 0 0, .slice none 0 0, .int .i64 0, .int .i64 0, .int .i64 0, .int .i64 0, .int .i64 0, .int .i64 0, .int .i64 0], .agg #[.int .i64 0, .int .i64 0], .agg #[.int .i64 0, .int .i64 0]], []⟩ 8 (by kernel_rfl) (by kernel_rfl) (by kernel_rfl) (by kernel_rfl)) ?_
  intro W base args ds gs before hok hW _ _
  refine law_contract (l := [rtK, .agg (ints 2), .agg (ints 2)]) (tb := 4) laid_ok lawCells_ok (by kernel_rfl) (by kernel_rfl) rfl tbool (fun ds h => ?_) rfl (fun ds hd => ?_) W base args ds gs before hok hW
  · obtain ⟨d, e, f, rfl, h1, h2, h3⟩ := isAL3 h
    obtain ⟨a, b, rfl⟩ := ints2 h2
    obtain ⟨c, g, rfl⟩ := ints2 h3
    exact ⟨_, _, rfl, rt_of_kinds h1, .inl rfl⟩
  · match ds, hd with
    | [a, b, c], _ => exact ⟨rfl, rfl, rfl⟩
theorem recoverCells_holds : Rows.RecoverCellsSaid :=
  OpenClaim.holds_of_wide 9 Try.f9 rfl rfl rfl rfl rfl rfl rfl ⟨rfl, rfl, rfl, rfl, rfl⟩ rfl rfl rfl rfl rfl (by kernel_rfl) Try.func9 (by kernel_rfl)
    (of_decide_eq_true (by kernel_rfl)) (by unfold Func.isWrapper; first | (rw [if_pos (by decide +kernel)]; kernel_rfl) | (rw [if_neg (by decide +kernel)]; exact ⟨rfl, rfl⟩))
    (fun os started H enc _ => recoverCells_lifted os started H enc)
#print axioms recoverCells_holds
end Go.Proofs.Ytcnecjkcmjgakaa
end
