/-
  The law WindBytes is proved: for any task, bytes, and byte that is changed, Read of Write is the task, Write of Read is the same bytes, and a file of which one byte is another one is refused; the call answers true. No condition.
-/
import Derived.Test.YtlecbjbjgfpfeaaMj
import Derived.Test.YtlecbjbjgfpfeaaMq
section
set_option linter.unusedVariables false
set_option linter.unusedSimpArgs false
set_option maxRecDepth 100000
namespace Go.Proofs.Ytlecbjbjgfpfeaa
open Go.V

theorem bytC_of {n : Nat} {g : Nat → Nat → V.D} (h : ∀ i j c, i < n → ([.int .u8] : List CK)[j]? = some c → Is 7 c (g i j)) : BytC n g := by
  refine ⟨fun i hi => ?_, fun i hi => ?_⟩
  · obtain ⟨m, e, _⟩ := h i 0 _ hi rfl
    unfold toF
    rw [e]
    rfl
  · obtain ⟨m, e, h1, h2⟩ := h i 0 _ hi rfl
    unfold toF
    rw [e]
    have h1 : (0 : Int) ≤ m := h1
    have h2 : m ≤ 255 := h2
    exact ⟨h1, by show m < 256; omega⟩
theorem windBytes_lifted (os : Os) (started : os.Started) (H : Type) (enc : TypeId × Value → H) :
    ReturnsInHanded {} Try.checked os 4 .any (Rows.windBytesSpec.pre6 enc Go.Proofs.Try.prog Try.f4 Rows.windBytesRow.domain false) (Rows.windBytesSpec.post enc Go.Proofs.Try.prog Try.f4 false Rows.windBytesRow.fresh Rows.windBytesRow.handsOn Rows.windBytesRow.again) := by
  refine returnsInHanded_of_change (C := Try.checked) own started (by kernel_rfl) Try.func4
    (ChangeSpec.witness6 (enc := enc) (C := Try.checked) false ⟨#[], #[.agg #[.slice none 0 0, .slice none 0 0, .slice none 0 0, .int .i64 0, .int .i64 0], .slice none 0 0, .agg #[.int .u16 0, .int .u8 0]], []⟩ 8 (by kernel_rfl) (by kernel_rfl) (by kernel_rfl) (by kernel_rfl)) ?_
  intro W base args ds gs before hok hW _ _
  refine law_contract (l := [taskK, .one (.sl [.int .u8]), .agg [.int .u16, .int .u8]]) (tb := 4) laid_ok lawBytes_ok (by kernel_rfl) (by kernel_rfl) rfl tbool (fun ds h => ?_) rfl (fun ds hd => ?_) W base args ds gs before hok hW
  · match ds, h with
    | [d, e, x], ⟨h1, h2, h3, _⟩ =>
      obtain ⟨g1, g2⟩ := task_of_kinds h1
      obtain ⟨n, g, rfl, hn, hg⟩ := h2
      obtain ⟨xs, rfl, hl, hx⟩ := h3
      match xs, hl with
      | [y0, y1], _ =>
        obtain ⟨x0, rfl, a0, b0⟩ := hx 0 _ _ rfl rfl
        obtain ⟨x1, rfl, a1, b1⟩ := hx 1 _ _ rfl rfl
        exact ⟨_, _, rfl, ⟨⟨g1, g2⟩, ⟨bytC_of hg, hn⟩, ⟨a0, b0⟩, a1, b1⟩, .inl rfl⟩
  · match ds, hd with
    | [a, b, c], _ => exact ⟨rfl, rfl, rfl⟩
theorem windBytes_holds : Rows.WindBytesSaid :=
  OpenClaim.holds_of_wide 4 Try.f4 rfl rfl rfl rfl rfl rfl rfl ⟨rfl, rfl, rfl, rfl, rfl⟩ rfl rfl rfl rfl rfl (by kernel_rfl) Try.func4 (by kernel_rfl)
    (of_decide_eq_true (by kernel_rfl)) (by unfold Func.isWrapper; first | (rw [if_pos (by decide +kernel)]; kernel_rfl) | (rw [if_neg (by decide +kernel)]; exact ⟨rfl, rfl⟩))
    (fun os started H enc _ => windBytes_lifted os started H enc)
#print axioms windBytes_holds
end Go.Proofs.Ytlecbjbjgfpfeaa
end
