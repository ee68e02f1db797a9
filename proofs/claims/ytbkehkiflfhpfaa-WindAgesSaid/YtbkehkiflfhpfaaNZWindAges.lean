/-
  The law WindAges is proved: if the sources agree for a tick not before now, they do for each later one, and no span is narrower; bands are without errors, for any task and ticks. No condition.
-/
import Derived.Test.YtbkehkiflfhpfaaMh
import Derived.Test.YtbkehkiflfhpfaaMf
section
set_option linter.unusedVariables false
set_option linter.unusedSimpArgs false
set_option maxRecDepth 100000
set_option maxHeartbeats 4000000
namespace Go.Proofs.Ytbkehkiflfhpfaa
open Go.V
attribute [local irreducible] checkBands overT coversT covB bandsT bandA agreedT checkS
noncomputable def lib41 : Lib := (55, mk rAgreed) :: lib40
theorem lib41_ok : LibOK Go.Proofs.Try.prog lib41 := .cons agreed_ok lib40_ok
def rLAges : List V.D → Option (Prop × V.D) := fun ds => match ds with
  | [d, .agg [.int .i64 x0, .int .i64 x1, .int .i64 x2]] => some (TaskIs d ∧ (taskOf d).fits, .tt)
  | _ => none
theorem bandsT_le20 (t : Task) (a now : Int) : (bandsT t a now).1 ≤ 20 := by
  by_cases h : (bandsT t a now).2 = 0
  · rw [(bandsT_nc h).2]
    exact (bandsT_nc h).1
  · rw [bandsT_0 h]
    omega
theorem agreedN_le20 (t : Task) (a now : Int) : agreedN t a now ≤ 20 := by
  unfold agreedN
  split
  · rename_i h
    exact (bandsT_nc (by rw [agreedT_bands h])).1
  · omega
attribute [local irreducible] agreedN
theorem lawAges_ok : PSound Go.Proofs.Try.prog 15 (mk rLAges) := by
  refine psound_mk Try.func15 (by kernel_rfl) rfl (ctx lib41_ok) ?_
  (intro ds p d h; unfold rLAges at h; split at h <;> first | (cases h; done) | skip; cases h; refine ⟨Nat.le_of_ble_eq_true rfl, fun hp k hk => ?_⟩)
  rename_i d x0 x1 x2
  obtain ⟨ht, hf⟩ := hp
  refine ⟨[(taskOf d).D, .agg [.int .i64 x0, .int .i64 x1, .int .i64 x2]], task_imp ht ⟨rfl, rfl, ?_⟩⟩
  clear ht
  generalize taskOf d = t at *
  have B1 := bandsT_le20 t
  have B2 := agreedN_le20 t
  have F0 := fun a => @bandsT_0 t a x0
  have F1 : ∀ a, (bandsT t a x0).2 = 0 → (checkBands (bandsT t a x0).1 (bandA t a x0)).2 = 0 := fun a h => by
    rw [(bandsT_nc h).2]
    exact bands_check h
  have F2 : ∀ a b, x0 ≤ a → a ≤ b → b ≤ 100000 → agreedT t a x0 = true → agreedT t b x0 = true ∧ (coversT (agreedN t b x0) (bandA t b x0) (agreedN t a x0) (bandA t a x0)).1 = true ∧ (coversT (agreedN t b x0) (bandA t b x0) (agreedN t a x0) (bandA t a x0)).2 = 0 := fun a b h1 h2 h3 h => by
    obtain ⟨g1, g2⟩ := ages h h1 h2 h3
    unfold agreedN
    rw [if_pos h, if_pos g1, g2]
    exact ⟨g1, rfl, rfl⟩
  repeat' (first | ((with_reducible refine kok ?_); kernel_rfl) | ((with_reducible refine keq_mk ?_); kernel_rfl) | with_reducible rfl | ((conv => whnf); first | (with_reducible exact trivial) | ((with_reducible refine and_ff ?_ ?_); · exact rfl) | ((with_reducible refine and_tt ?_ ?_); · exact rfl) | (with_reducible refine And.intro ?_ ?_) | intro _ | (with_reducible refine fin2 hk ?_) | ((with_reducible refine eq_leaf ?_); exact rfl) | exact trivial))
  all_goals try exact hf _ (by assumption)
  all_goals clear hk hf
  all_goals try ((first | with_reducible refine (?_ : (_ : Int) ≤ _) | with_reducible refine (?_ : (_ : Int) < _) | with_reducible refine (?_ : (_ : Nat) ≤ _)); first | omega | (simp only [taskOf_agg, ↓Bool.not_eq_true', ↓Bool.not_eq_false', ↓decT, ↓decF, out_true, out_false, isin_true, isin_false, Int.toNat_natCast, Int.ofNat_lt, Nat.zero_add, Nat.add_zero, Nat.reduceAdd]; omega))
  all_goals clear B1 B2
  all_goals have f0 := F0 (max x0 (min x1 x2))
  all_goals have f1 := F1 (max x0 (min x1 x2))
  all_goals have f2 := F2 (max x0 (min x1 x2)) (max x0 (max x1 x2)) (by omega) (by omega)
  all_goals clear F0 F1 F2
  all_goals simp only [taskOf_agg, ↓Bool.not_eq_true', ↓Bool.not_eq_false', ↓decT, ↓decF, out_true, out_false, isin_true, isin_false, Int.toNat_natCast, Int.ofNat_lt, Nat.zero_add, Nat.add_zero, Nat.reduceAdd, Int.toNat_zero, Int.reduceToNat, ↓reduceIte, reduceCtorEq, Bool.or_eq_true, Bool.or_eq_false_iff, Bool.and_eq_true, Bool.and_eq_false_iff, im_imD] at *
  all_goals exfalso
  · rename_i g1 g2
    have := f0 g1
    omega
  · rename_i g1 g2
    exact g2 (f1 g1)
  · rename_i g1 g2 g3 g4 g5
    have := (f2 (by omega) g3).1
    rw [this] at g5
    cases g5
  · have := (f2 (by omega) (by assumption)).2.1
    simp_all only [reduceCtorEq]
  · rename_i g1 g2 g3 g4 g5 g6
    exact g6 (f2 (by omega) g3).2.2
end Go.Proofs.Ytbkehkiflfhpfaa
end
section
set_option linter.unusedVariables false
set_option linter.unusedSimpArgs false
set_option maxRecDepth 100000
namespace Go.Proofs.Ytbkehkiflfhpfaa
open Go.V

theorem windAges_lifted (os : Os) (started : os.Started) (H : Type) (enc : TypeId × Value → H) :
    ReturnsInHanded {} Try.checked os 15 .any (Rows.windAgesSpec.pre6 enc Go.Proofs.Try.prog Try.f15 Rows.windAgesRow.domain false) (Rows.windAgesSpec.post enc Go.Proofs.Try.prog Try.f15 false Rows.windAgesRow.fresh Rows.windAgesRow.handsOn Rows.windAgesRow.again) := by
  refine returnsInHanded_of_change (C := Try.checked) own started (by kernel_rfl) Try.func15
    (ChangeSpec.witness6 (enc := enc) (C := Try.checked) false ⟨#[], #[.agg #[.slice none 0 0, .slice none 0 0, .slice none 0 0, .int .i64 0, .int .i64 0], .agg #[.int .i64 0, .int .i64 0, .int .i64 0]], []⟩ 8 (by kernel_rfl) (by kernel_rfl) (by kernel_rfl) (by kernel_rfl)) ?_
  intro W base args ds gs before hok hW _ _
  refine law_contract (l := [taskK, .agg [.int .i64, .int .i64, .int .i64]]) (tb := 4) laid_ok lawAges_ok (by kernel_rfl) (by kernel_rfl) rfl tbool (fun ds h => ?_) rfl (fun ds hd => ?_) W base args ds gs before hok hW
  · match ds, h with
    | [d, e], ⟨h1, h2, _⟩ =>
      obtain ⟨g1, g2⟩ := task_of_kinds h1
      obtain ⟨xs, rfl, hl, hx⟩ := h2
      match xs, hl with
      | [y0, y1, y2], _ =>
        obtain ⟨x0, rfl, _⟩ := hx 0 _ _ rfl rfl
        obtain ⟨x1, rfl, _⟩ := hx 1 _ _ rfl rfl
        obtain ⟨x2, rfl, _⟩ := hx 2 _ _ rfl rfl
        exact ⟨_, _, rfl, ⟨g1, g2⟩, .inl rfl⟩
  · match ds, hd with
    | [a, b], _ => exact ⟨rfl, rfl, rfl⟩
theorem windAges_holds : Rows.WindAgesSaid :=
  OpenClaim.holds_of_wide 15 Try.f15 rfl rfl rfl rfl rfl rfl rfl ⟨rfl, rfl, rfl, rfl, rfl⟩ rfl rfl rfl rfl rfl (by kernel_rfl) Try.func15 (by kernel_rfl)
    (of_decide_eq_true (by kernel_rfl)) (by unfold Func.isWrapper; first | (rw [if_pos (by decide +kernel)]; kernel_rfl) | (rw [if_neg (by decide +kernel)]; exact ⟨rfl, rfl⟩))
    (fun os started H enc _ => windAges_lifted os started H enc)
#print axioms windAges_holds
end Go.Proofs.Ytbkehkiflfhpfaa
end
