/-
  The wind's law Says: what its function answers.
-/
import Derived.Test.YtbkehkiflfhpfaaYc
set_option linter.unusedVariables false
set_option linter.unusedSimpArgs false
set_option maxRecDepth 100000
set_option maxHeartbeats 4000000
namespace Go.Proofs.Ytbkehkiflfhpfaa
open Go.V
attribute [local irreducible] doubtS saysS leftS agreeS blameS answerS checkS begun nameS lowS answerN knownS exT bandsT doubtT atT bandA winA sameB saysT blameT knownT

def rLSays : List V.D → Option (Prop × V.D) := fun ds => match ds with
  | [d, .agg [.int .i64 x0, .int .i64 x1, .int .i64 x2, .int .i64 x3]] => some (TaskIs d ∧ (taskOf d).fits ∧ True, .tt)
  | _ => none
theorem lawSays_ok : PSound Go.Proofs.Try.prog 9 (mk rLSays) := by
  refine psound_mk Try.func9 (by kernel_rfl) rfl (ctx lib36_ok) ?_
  (intro ds p d h; unfold rLSays at h; split at h <;> first | (cases h; done) | skip; cases h; refine ⟨Nat.le_of_ble_eq_true rfl, fun hp k hk => ?_⟩)
  rename_i d x0 x1 x2 x3
  obtain ⟨ht, hf, hs⟩ := hp
  refine ⟨[(taskOf d).D, .agg [.int .i64 x0, .int .i64 x1, .int .i64 x2, .int .i64 x3]], task_imp ht ⟨rfl, rfl, rfl, rfl, ?_⟩⟩
  clear ht
  generalize taskOf d = t at *
  have B1 := knownT_len t
  have B2 := blameT_len t
  have B3 := bandsT_len t
  repeat' (first | with_reducible rfl | ((conv => whnf); first | (with_reducible exact trivial) | ((with_reducible refine and_ff ?_ ?_); · exact rfl) | ((with_reducible refine and_tt ?_ ?_); · exact rfl) | (with_reducible refine And.intro ?_ ?_) | intro _ | (with_reducible refine fin2 hk ?_) | ((with_reducible refine eq_leaf ?_); exact rfl) | exact trivial))
  all_goals try exact hf _ (by assumption)
  all_goals clear hf hk
  all_goals try ((first | with_reducible refine (?_ : (_ : Int) ≤ _) | with_reducible refine (?_ : (_ : Int) < _) | with_reducible refine (?_ : (_ : Nat) ≤ _)); first | with_reducible exact hs | omega | (simp only [taskOf_agg, ↓Bool.not_eq_true', ↓Bool.not_eq_false', ↓decT, ↓decF, out_true, out_false, isin_true, isin_false, Int.toNat_natCast, Int.ofNat_lt, Nat.zero_add, Nat.add_zero, Nat.reduceAdd]; first | with_reducible exact Nat.le_trans (B1 _) (Nat.le_of_ble_eq_true rfl) | with_reducible exact Nat.le_trans (B2 _ _ _) (Nat.le_of_ble_eq_true rfl) | with_reducible exact Nat.le_trans (B3 _ _) (Nat.le_of_ble_eq_true rfl)))
  all_goals clear B1 B2 B3 hs
  all_goals simp only [taskOf_agg, ↓Bool.not_eq_true', ↓Bool.not_eq_false', ↓decT, ↓decF, out_true, out_false, isin_true, isin_false, Int.toNat_natCast, Int.ofNat_lt, Nat.zero_add, Nat.add_zero, Nat.reduceAdd, Int.toNat_zero, Int.reduceToNat, ↓reduceIte, reduceCtorEq, Bool.or_eq_true, Bool.or_eq_false_iff, Bool.and_eq_true, Bool.and_eq_false_iff, im_imD, sameB_refl, beq_self_eq_true, not_true_eq_false, and_true, false_or, or_false, or_self] at *
end Go.Proofs.Ytbkehkiflfhpfaa
