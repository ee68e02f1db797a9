/-
  The wind's law Over: what its function answers.
-/
import Derived.Test.YtbkehkiflfhpfaaYg
set_option linter.unusedVariables false
set_option linter.unusedSimpArgs false
set_option maxRecDepth 100000
set_option maxHeartbeats 4000000
namespace Go.Proofs.Ytbkehkiflfhpfaa
open Go.V
attribute [local irreducible] checkBands overT coversT
noncomputable def lib40 : Lib := (53, mk rCovers) :: (54, mk rCovers) :: lib39
theorem lib40_ok : LibOK Go.Proofs.Try.prog lib40 := .cons windCovers_ok (.cons refCovers_ok lib39_ok)
def rLOver : List V.D → Option (Prop × V.D) := fun ds => match ds with
  | [.rsl 6 n g, .rsl 6 m h, .int .i64 x] => some (IM n 6 g ∧ IM m 6 h, .tt)
  | _ => none
theorem lawOver_ok : PSound Go.Proofs.Try.prog 14 (mk rLOver) := by
  refine psound_mk Try.func14 (by kernel_rfl) rfl (ctx lib40_ok) ?_
  (intro ds p d h; unfold rLOver at h; split at h <;> first | (cases h; done) | skip; cases h; refine ⟨Nat.le_of_ble_eq_true rfl, fun hp k hk => ?_⟩)
  rename_i n g m h x
  obtain ⟨h1, h2⟩ := hp
  refine ⟨[.rsl 6 n (imD (im g)), .rsl 6 m (imD (im h)), .int .i64 x], rfl, h1, rfl, h2, rfl, ?_⟩
  clear h1 h2
  generalize im g = a at *
  generalize im h = b at *
  repeat' (first | with_reducible rfl | ((conv => whnf); first | (with_reducible exact trivial) | ((with_reducible refine and_ff ?_ ?_); · exact rfl) | ((with_reducible refine and_tt ?_ ?_); · exact rfl) | (with_reducible refine And.intro ?_ ?_) | intro _ | (with_reducible refine fin2 hk ?_) | ((with_reducible refine eq_leaf ?_); exact rfl) | exact trivial))
  all_goals clear hk
  all_goals simp only [taskOf_agg, ↓Bool.not_eq_true', ↓Bool.not_eq_false', ↓decT, ↓decF, out_true, out_false, isin_true, isin_false, Int.toNat_natCast, Int.ofNat_lt, Nat.zero_add, Nat.add_zero, Nat.reduceAdd, Int.toNat_zero, Int.reduceToNat, ↓reduceIte, reduceCtorEq, Bool.or_eq_true, Bool.or_eq_false_iff, Bool.and_eq_true, Bool.and_eq_false_iff, im_imD, sameB_refl, beq_self_eq_true, not_true_eq_false, and_true, false_or, or_false, or_self] at *
end Go.Proofs.Ytbkehkiflfhpfaa
