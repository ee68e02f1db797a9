/-
  The law AimProves is proved: if Accept returns OK for any choice, no allowed setting has a lesser miss, nor an earlier one the same, and Best returns this setting, for any task, bands and choice. No condition.
-/
import Derived.Test.YtbakdblbknfadaaMo
import Derived.Test.YtbakdblbknfadaaMn
section
set_option linter.unusedVariables false
set_option linter.unusedSimpArgs false
set_option maxRecDepth 100000
namespace Go.Proofs.Ytbakdblbknfadaa
open Go.V

theorem aimProves_lifted (os : Os) (started : os.Started) (H : Type) (enc : TypeId × Value → H) :
    ReturnsInHanded {} Try.checked os 16 .any (Rows.aimProvesSpec.pre6 enc Go.Proofs.Try.prog Try.f16 Rows.aimProvesRow.domain false) (Rows.aimProvesSpec.post enc Go.Proofs.Try.prog Try.f16 false Rows.aimProvesRow.fresh Rows.aimProvesRow.handsOn Rows.aimProvesRow.again) := by
  refine returnsInHanded_of_change (C := Try.checked) own started (by kernel_rfl) Try.func16
    (ChangeSpec.witness6 (enc := enc) (C := Try.checked) false ⟨#[], #[.agg #[.slice none 0 0, .slice none 0 0, .int .i64 0, .int .i64 0, .int .i64 0, .int .i64 0, .int .i64 0, .int .i64 0, .int .i64 0, .int .i64 0, .int .i64 0], .slice none 0 0, .agg #[.int .i64 0, .int .i64 0, .slice none 0 0]], []⟩ 8 (by kernel_rfl) (by kernel_rfl) (by kernel_rfl) (by kernel_rfl)) ?_
  intro W base args ds gs before hok hW _ _
  refine law_contract (l := [atK, .one bandsK, .agg [.int .i64, .int .i64, .sl [.int .i64, .int .i64]]]) (tb := 4) laid_ok lawAProves_ok (by kernel_rfl) (by kernel_rfl) rfl tbool (fun ds h => ?_) rfl (fun ds hd => ?_) W base args ds gs before hok hW
  · obtain ⟨d, e, f, rfl, h1, h2, h3⟩ := isAL3 h
    obtain ⟨n, g, rfl, hg⟩ := bands_of_kinds (f := 6) h2
    obtain ⟨ds, rfl, hl, h3⟩ := h3
    match ds, hl with
    | [d0, d1, d2], _ =>
      obtain ⟨n0, rfl, _⟩ := h3 0 _ _ rfl rfl
      obtain ⟨n1, rfl, _⟩ := h3 1 _ _ rfl rfl
      obtain ⟨n2, g2, rfl, hn2, hg2⟩ := h3 2 _ _ rfl rfl
      exact ⟨_, _, rfl, ⟨at_of_kinds h1, hg, IM_of hg2 rfl, by omega⟩, .inl rfl⟩
  · match ds, hd with
    | [a, b, c], _ => exact ⟨rfl, rfl, rfl⟩
theorem aimProves_holds : Rows.AimProvesSaid :=
  OpenClaim.holds_of_wide 16 Try.f16 rfl rfl rfl rfl rfl rfl rfl ⟨rfl, rfl, rfl, rfl, rfl⟩ rfl rfl rfl rfl rfl (by kernel_rfl) Try.func16 (by kernel_rfl)
    (of_decide_eq_true (by kernel_rfl)) (by unfold Func.isWrapper; first | (rw [if_pos (by decide +kernel)]; kernel_rfl) | (rw [if_neg (by decide +kernel)]; exact ⟨rfl, rfl⟩))
    (fun os started H enc _ => aimProves_lifted os started H enc)
#print axioms aimProves_holds
end Go.Proofs.Ytbakdblbknfadaa
end
