/-
  What is read of tasks.
-/
import Derived.Test.YtbkehkiflfhpfaaYc
import Derived.Test.YtbkehkiflfhpfaaVx
import Derived.Test.YtbkehkiflfhpfaaRows
set_option linter.unusedVariables false
set_option linter.unusedSimpArgs false
set_option maxRecDepth 100000
namespace Go.Proofs.Ytbkehkiflfhpfaa
open Go.V

theorem own : ownKnob Go.Proofs.Try.prog.godebug = none := by kernel_rfl
theorem laid_ok : laidOutB Go.Proofs.Try.prog = true := by kernel_rfl
theorem tbool : Go.Proofs.Try.prog.underlying 4 = some .bool := by kernel_rfl
def taskK : AK := .agg [.sl [.str, .int .i64, .int .i64, .int .i64, .int .i64, .int .i64, .int .i64], .sl [.int .i64, .int .i64, .int .i64, .int .i64, .int .i64], .sl [.int .i64], .int .i64, .int .i64]
/-- What is read of a task is one. -/
theorem task_of_kinds {d : V.D} (h : IsA taskK d) : TaskIs d ∧ (taskOf d).fits := by
  obtain ⟨ds, rfl, hl, h⟩ := h
  match ds, hl with
  | [d0, d1, d2, d3, d4], _ =>
    obtain ⟨n0, g0, rfl, hn0, hg0⟩ := h 0 _ _ rfl rfl
    obtain ⟨n1, g1, rfl, hn1, hg1⟩ := h 1 _ _ rfl rfl
    obtain ⟨n2, g2, rfl, hn2, hg2⟩ := h 2 _ _ rfl rfl
    obtain ⟨n3, rfl, _⟩ := h 3 _ _ rfl rfl
    obtain ⟨n4, rfl, _⟩ := h 4 _ _ rfl rfl
    obtain ⟨s1, s2⟩ := SM_of hg0 rfl
    exact ⟨⟨s1, IM_of hg1 rfl, IM_of hg2 rfl⟩, s2⟩
end Go.Proofs.Ytbkehkiflfhpfaa
