/-
  The law WindAt is proved: for any task, height and ticks, At and Bands return what the reference returns, and the call answers true. No condition.
-/
import Derived.Test.YtbkehkiflfhpfaaYd
import Derived.Test.YtbkehkiflfhpfaaZa
set_option linter.unusedVariables false
set_option linter.unusedSimpArgs false
set_option maxRecDepth 100000
namespace Go.Proofs.Ytbkehkiflfhpfaa
open Go.V

theorem windAt_lifted (os : Os) (started : os.Started) (H : Type) (enc : TypeId × Value → H) :
    ReturnsInHanded {} Try.checked os 4 .any (Rows.windAtSpec.pre6 enc Go.Proofs.Try.prog Try.f4 Rows.windAtRow.domain false) (Rows.windAtSpec.post enc Go.Proofs.Try.prog Try.f4 false Rows.windAtRow.fresh Rows.windAtRow.handsOn Rows.windAtRow.again) := by
  refine returnsInHanded_of_change (C := Try.checked) own started (by kernel_rfl) Try.func4
    (ChangeSpec.witness6 (enc := enc) (C := Try.checked) false ⟨#[], #[.agg #[.slice none 0 0, .slice none 0 0, .slice none 0 0, .int .i64 0, .int .i64 0], .agg #[.int .i64 0, .int .i64 0, .int .i64 0]], []⟩ 8 (by kernel_rfl) (by kernel_rfl) (by kernel_rfl) (by kernel_rfl)) ?_
  intro W base args ds gs before hok hW _ _
  refine law_contract (l := [taskK, .agg [.int .i64, .int .i64, .int .i64]]) (tb := 4) laid_ok lawAt_ok (by kernel_rfl) (by kernel_rfl) rfl tbool (fun ds h => ?_) rfl (fun ds hd => ?_) W base args ds gs before hok hW
  · match ds, h with
    | [d, e], ⟨h1, h2, _⟩ =>
      obtain ⟨g1, g2⟩ := task_of_kinds h1
      obtain ⟨xs, rfl, hl, hx⟩ := h2
      match xs, hl with
      | [y0, y1, y2], _ =>
        obtain ⟨x0, rfl, _⟩ := hx 0 _ _ rfl rfl
        obtain ⟨x1, rfl, _⟩ := hx 1 _ _ rfl rfl
        obtain ⟨x2, rfl, _⟩ := hx 2 _ _ rfl rfl
        exact ⟨_, _, rfl, ⟨g1, g2, trivial⟩, .inl rfl⟩
  · match ds, hd with
    | [a, b], _ => exact ⟨rfl, rfl, rfl⟩
theorem windAt_holds : Rows.WindAtSaid :=
  OpenClaim.holds_of_wide 4 Try.f4 rfl rfl rfl rfl rfl rfl rfl ⟨rfl, rfl, rfl, rfl, rfl⟩ rfl rfl rfl rfl rfl (by kernel_rfl) Try.func4 (by kernel_rfl)
    (of_decide_eq_true (by kernel_rfl)) (by unfold Func.isWrapper; first | (rw [if_pos (by decide +kernel)]; kernel_rfl) | (rw [if_neg (by decide +kernel)]; exact ⟨rfl, rfl⟩))
    (fun os started H enc _ => windAt_lifted os started H enc)
#print axioms windAt_holds
end Go.Proofs.Ytbkehkiflfhpfaa
