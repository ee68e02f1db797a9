/-
  What is read of tasks.
-/
import Derived.Test.YtbkehkiflfhpfaaYc
import Derived.Test.YtbkehkiflfhpfaaVx
import Derived.Test.YtbkehkiflfhpfaaRows
set_option linter.unusedVariables false
set_option linter.unusedSimpArgs false
set_option maxRecDepth 100000
namespace Go.Proofs.Ytbkehkiflfhpfaa
open Go.V

theorem own : ownKnob Go.Proofs.Try.prog.godebug = none := by kernel_rfl
theorem laid_ok : laidOutB Go.Proofs.Try.prog = true := by kernel_rfl
theorem tbool : Go.Proofs.Try.prog.underlying 4 = some .bool := by kernel_rfl
def taskK : AK := .agg [.sl [.str, .int .i64, .int .i64, .int .i64, .int .i64, .int .i64, .int .i64], .sl [.int .i64, .int .i64, .int .i64, .int .i64, .int .i64], .sl [.int .i64], .int .i64, .int .i64]
/-- What is read of a task is one. -/
theorem task_of_kinds {d : V.D} (h : IsA taskK d) : TaskIs d ∧ (taskOf d).fits := by
  obtain ⟨ds, rfl, hl, h⟩ := h
  match ds, hl with
  | [d0, d1, d2, d3, d4], _ =>
    obtain ⟨n0, g0, rfl, hn0, hg0⟩ := h 0 _ _ rfl rfl
    obtain ⟨n1, g1, rfl, hn1, hg1⟩ := h 1 _ _ rfl rfl
    obtain ⟨n2, g2, rfl, hn2, hg2⟩ := h 2 _ _ rfl rfl
    obtain ⟨n3, rfl, _⟩ := h 3 _ _ rfl rfl
    obtain ⟨n4, rfl, _⟩ := h 4 _ _ rfl rfl
    obtain ⟨s1, s2⟩ := SM_of hg0 rfl
    exact ⟨⟨s1, IM_of hg1 rfl, IM_of hg2 rfl⟩, s2⟩
theorem isAL1 {a : AK} {ds : List V.D} (h : IsAL [a] ds) : ∃ d, ds = [d] ∧ IsA a d := by
  match ds, h with
  | [d], h => exact ⟨d, rfl, h.1⟩
theorem isAL2 {a b : AK} {ds : List V.D} (h : IsAL [a, b] ds) : ∃ d e, ds = [d, e] ∧ IsA a d ∧ IsA b e := by
  match ds, h with
  | [d, e], h => exact ⟨d, e, rfl, h.1, h.2.1⟩
theorem isAL3 {a b c : AK} {ds : List V.D} (h : IsAL [a, b, c] ds) : ∃ d e f, ds = [d, e, f] ∧ IsA a d ∧ IsA b e ∧ IsA c f := by
  match ds, h with
  | [d, e, f], h => exact ⟨d, e, f, rfl, h.1, h.2.1, h.2.2.1⟩
def bandsK : CK := .sl [.int .i64, .int .i64, .int .i64, .int .i64, .int .i64, .int .i64]
theorem bands_of_kinds {f : Nat} {d : V.D} (h : Is (f + 2) bandsK d) : ∃ n g, d = .rsl 6 n g ∧ IM n 6 g := by
  obtain ⟨n, g, rfl, _, hg⟩ := h
  exact ⟨n, g, rfl, IM_of hg rfl⟩
theorem int_of_kinds {f : Nat} {k : IntKind} {d : V.D} (h : Is (f + 1) (.int k) d) : ∃ n, d = .int k n ∧ k.min ≤ n ∧ n ≤ k.max := h
end Go.Proofs.Ytbkehkiflfhpfaa
