/-
  The law WindFiles is proved: for any task and bytes, Write and Read return what the reference returns, and the call answers true. No condition.
-/
import Derived.Test.YtlecbjbjgfpfeaaMj
import Derived.Test.YtlecbjbjgfpfeaaMp
section
set_option linter.unusedVariables false
set_option linter.unusedSimpArgs false
set_option maxRecDepth 100000
namespace Go.Proofs.Ytlecbjbjgfpfeaa
open Go.V

theorem bytC_of {n : Nat} {g : Nat → Nat → V.D} (h : ∀ i j c, i < n → ([.int .u8] : List CK)[j]? = some c → Is 7 c (g i j)) : BytC n g := by
  refine ⟨fun i hi => ?_, fun i hi => ?_⟩
  · obtain ⟨m, e, _⟩ := h i 0 _ hi rfl
    unfold toF
    rw [e]
    rfl
  · obtain ⟨m, e, h1, h2⟩ := h i 0 _ hi rfl
    unfold toF
    rw [e]
    have h1 : (0 : Int) ≤ m := h1
    have h2 : m ≤ 255 := h2
    exact ⟨h1, by show m < 256; omega⟩
theorem windFiles_lifted (os : Os) (started : os.Started) (H : Type) (enc : TypeId × Value → H) :
    ReturnsInHanded {} Try.checked os 3 .any (Rows.windFilesSpec.pre6 enc Go.Proofs.Try.prog Try.f3 Rows.windFilesRow.domain false) (Rows.windFilesSpec.post enc Go.Proofs.Try.prog Try.f3 false Rows.windFilesRow.fresh Rows.windFilesRow.handsOn Rows.windFilesRow.again) := by
  refine returnsInHanded_of_change (C := Try.checked) own started (by kernel_rfl) Try.func3
    (ChangeSpec.witness6 (enc := enc) (C := Try.checked) false ⟨#[], #[.agg #[.slice none 0 0, .slice none 0 0, .slice none 0 0, .int .i64 0, .int .i64 0], .slice none 0 0], []⟩ 8 (by kernel_rfl) (by kernel_rfl) (by kernel_rfl) (by kernel_rfl)) ?_
  intro W base args ds gs before hok hW _ _
  refine law_contract (l := [taskK, .one (.sl [.int .u8])]) (tb := 4) laid_ok lawFiles_ok (by kernel_rfl) (by kernel_rfl) rfl tbool (fun ds h => ?_) rfl (fun ds hd => ?_) W base args ds gs before hok hW
  · match ds, h with
    | [d, e], ⟨h1, h2, _⟩ =>
      obtain ⟨g1, g2⟩ := task_of_kinds h1
      obtain ⟨n, g, rfl, hn, hg⟩ := h2
      exact ⟨_, _, rfl, ⟨⟨g1, g2⟩, bytC_of hg, hn⟩, .inl rfl⟩
  · match ds, hd with
    | [a, b], _ => exact ⟨rfl, rfl, rfl⟩
theorem windFiles_holds : Rows.WindFilesSaid :=
  OpenClaim.holds_of_wide 3 Try.f3 rfl rfl rfl rfl rfl rfl rfl ⟨rfl, rfl, rfl, rfl, rfl⟩ rfl rfl rfl rfl rfl (by kernel_rfl) Try.func3 (by kernel_rfl)
    (of_decide_eq_true (by kernel_rfl)) (by unfold Func.isWrapper; first | (rw [if_pos (by decide +kernel)]; kernel_rfl) | (rw [if_neg (by decide +kernel)]; exact ⟨rfl, rfl⟩))
    (fun os started H enc _ => windFiles_lifted os started H enc)
#print axioms windFiles_holds
end Go.Proofs.Ytlecbjbjgfpfeaa
end
