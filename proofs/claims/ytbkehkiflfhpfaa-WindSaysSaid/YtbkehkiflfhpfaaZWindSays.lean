/-
  The law WindSays is proved: for any task and numbers, Says returns what the reference returns, and the call answers true. No condition.
-/
import Derived.Test.YtbkehkiflfhpfaaYe
import Derived.Test.YtbkehkiflfhpfaaZa
set_option linter.unusedVariables false
set_option linter.unusedSimpArgs false
set_option maxRecDepth 100000
namespace Go.Proofs.Ytbkehkiflfhpfaa
open Go.V

theorem windSays_lifted (os : Os) (started : os.Started) (H : Type) (enc : TypeId × Value → H) :
    ReturnsInHanded {} Try.checked os 9 .any (Rows.windSaysSpec.pre6 enc Go.Proofs.Try.prog Try.f9 Rows.windSaysRow.domain false) (Rows.windSaysSpec.post enc Go.Proofs.Try.prog Try.f9 false Rows.windSaysRow.fresh Rows.windSaysRow.handsOn Rows.windSaysRow.again) := by
  refine returnsInHanded_of_change (C := Try.checked) own started (by kernel_rfl) Try.func9
    (ChangeSpec.witness6 (enc := enc) (C := Try.checked) false ⟨#[], #[.agg #[.slice none 0 0, .slice none 0 0, .slice none 0 0, .int .i64 0, .int .i64 0], .agg #[.int .i64 0, .int .i64 0, .int .i64 0, .int .i64 0]], []⟩ 8 (by kernel_rfl) (by kernel_rfl) (by kernel_rfl) (by kernel_rfl)) ?_
  intro W base args ds gs before hok hW _ _
  refine law_contract (l := [taskK, .agg [.int .i64, .int .i64, .int .i64, .int .i64]]) (tb := 4) laid_ok lawSays_ok (by kernel_rfl) (by kernel_rfl) rfl tbool (fun ds h => ?_) rfl (fun ds hd => ?_) W base args ds gs before hok hW
  · match ds, h with
    | [d, e], ⟨h1, h2, _⟩ =>
      obtain ⟨g1, g2⟩ := task_of_kinds h1
      obtain ⟨xs, rfl, hl, hx⟩ := h2
      match xs, hl with
      | [y0, y1, y2, y3], _ =>
        obtain ⟨x0, rfl, _⟩ := hx 0 _ _ rfl rfl
        obtain ⟨x1, rfl, _⟩ := hx 1 _ _ rfl rfl
        obtain ⟨x2, rfl, _⟩ := hx 2 _ _ rfl rfl
        obtain ⟨x3, rfl, _⟩ := hx 3 _ _ rfl rfl
        exact ⟨_, _, rfl, ⟨g1, g2, trivial⟩, .inl rfl⟩
  · match ds, hd with
    | [a, b], _ => exact ⟨rfl, rfl, rfl⟩
theorem windSays_holds : Rows.WindSaysSaid :=
  OpenClaim.holds_of_wide 9 Try.f9 rfl rfl rfl rfl rfl rfl rfl ⟨rfl, rfl, rfl, rfl, rfl⟩ rfl rfl rfl rfl rfl (by kernel_rfl) Try.func9 (by kernel_rfl)
    (of_decide_eq_true (by kernel_rfl)) (by unfold Func.isWrapper; first | (rw [if_pos (by decide +kernel)]; kernel_rfl) | (rw [if_neg (by decide +kernel)]; exact ⟨rfl, rfl⟩))
    (fun os started H enc _ => windSays_lifted os started H enc)
#print axioms windSays_holds
end Go.Proofs.Ytbkehkiflfhpfaa
