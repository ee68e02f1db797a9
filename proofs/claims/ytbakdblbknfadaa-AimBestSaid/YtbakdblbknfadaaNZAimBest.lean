/-
  The law AimBest is proved: the setting that Best returns is allowed, no allowed one has a lesser miss, and no earlier one the same; Accept returns OK for it; ErrDown exactly if none is allowed, for any task and bands. No condition.
-/
import Derived.Test.YtbakdblbknfadaaMo
import Derived.Test.YtbakdblbknfadaaMn
section
set_option linter.unusedVariables false
set_option linter.unusedSimpArgs false
set_option maxRecDepth 100000
namespace Go.Proofs.Ytbakdblbknfadaa
open Go.V

theorem aimBest_lifted (os : Os) (started : os.Started) (H : Type) (enc : TypeId × Value → H) :
    ReturnsInHanded {} Try.checked os 15 .any (Rows.aimBestSpec.pre6 enc Go.Proofs.Try.prog Try.f15 Rows.aimBestRow.domain false) (Rows.aimBestSpec.post enc Go.Proofs.Try.prog Try.f15 false Rows.aimBestRow.fresh Rows.aimBestRow.handsOn Rows.aimBestRow.again) := by
  refine returnsInHanded_of_change (C := Try.checked) own started (by kernel_rfl) Try.func15
    (ChangeSpec.witness6 (enc := enc) (C := Try.checked) false ⟨#[], #[.agg #[.slice none 0 0, .slice none 0 0, .int .i64 0, .int .i64 0, .int .i64 0, .int .i64 0, .int .i64 0, .int .i64 0, .int .i64 0, .int .i64 0, .int .i64 0], .slice none 0 0], []⟩ 8 (by kernel_rfl) (by kernel_rfl) (by kernel_rfl) (by kernel_rfl)) ?_
  intro W base args ds gs before hok hW _ _
  refine law_contract (l := [atK, .one bandsK]) (tb := 4) laid_ok lawABest_ok (by kernel_rfl) (by kernel_rfl) rfl tbool (fun ds h => ?_) rfl (fun ds hd => ?_) W base args ds gs before hok hW
  · obtain ⟨d, e, rfl, h1, h2⟩ := isAL2 h
    obtain ⟨n, g, rfl, hg⟩ := bands_of_kinds (f := 6) h2
    exact ⟨_, _, rfl, ⟨at_of_kinds h1, hg⟩, .inl rfl⟩
  · match ds, hd with
    | [a, b], _ => exact ⟨rfl, rfl, rfl⟩
theorem aimBest_holds : Rows.AimBestSaid :=
  OpenClaim.holds_of_wide 15 Try.f15 rfl rfl rfl rfl rfl rfl rfl ⟨rfl, rfl, rfl, rfl, rfl⟩ rfl rfl rfl rfl rfl (by kernel_rfl) Try.func15 (by kernel_rfl)
    (of_decide_eq_true (by kernel_rfl)) (by unfold Func.isWrapper; first | (rw [if_pos (by decide +kernel)]; kernel_rfl) | (rw [if_neg (by decide +kernel)]; exact ⟨rfl, rfl⟩))
    (fun os started H enc _ => aimBest_lifted os started H enc)
#print axioms aimBest_holds
end Go.Proofs.Ytbakdblbknfadaa
end
