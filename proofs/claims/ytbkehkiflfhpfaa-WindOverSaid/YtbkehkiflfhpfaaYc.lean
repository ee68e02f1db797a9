/-
  The wind's laws: Checks, At, Knows, Blames, Says: what their functions answer.
-/
import Derived.Test.YtbkehkiflfhpfaaYb
set_option linter.unusedVariables false
set_option linter.unusedSimpArgs false
set_option maxRecDepth 100000
set_option maxHeartbeats 4000000
namespace Go.Proofs.Ytbkehkiflfhpfaa
open Go.V
attribute [local irreducible] doubtS saysS leftS agreeS blameS answerS checkS begun nameS lowS answerN knownS exT bandsT doubtT atT bandA winA sameB saysT blameT knownT
noncomputable def lib36 : Lib := (24, mk (rConst .tt)) :: lib35
theorem lib36_ok : LibOK Go.Proofs.Try.prog lib36 := .cons awake_ok lib35_ok
theorem sameB_refl (s n : Nat) (a : Nat → Nat → Int) : sameB s n n a a = true := sameB_iff.mpr ⟨rfl, fun x _ _ j _ => rfl⟩

theorem blameFrom_length {t : Task} {low high a now : Int} : ∀ (k i : Nat) (l : List Int), (blameFrom t low high a now i l k).length ≤ l.length + k
  | 0, i, l => Nat.le_refl _
  | k + 1, i, l => by
    have h := blameFrom_length (t := t) (low := low) (high := high) (a := a) (now := now) k (i + 1) (blameStep t low high a now i l)
    have h2 : (blameStep t low high a now i l).length ≤ l.length + 1 := by
      unfold blameStep
      split
      · simp
      · omega
    show (blameFrom t low high a now (i + 1) (blameStep t low high a now i l) k).length ≤ _
    omega
theorem knownT_len (t : Task) (now : Int) : (knownT t now).1.length ≤ 60 := by
  unfold knownT
  split
  · exact Nat.zero_le _
  split
  · exact Nat.zero_le _
  rename_i h _
  have h1 := small_nx (t := t) (Classical.not_not.mp h)
  have h2 := knownUp_length t now t.nx
  show (knownUp t now t.nx).length ≤ 60
  omega
theorem blameT_len (t : Task) (b a now : Int) : (blameT t b a now).1.length ≤ 6 := by
  unfold blameT
  split
  · exact Nat.zero_le _
  split
  · exact Nat.zero_le _
  split
  · exact Nat.zero_le _
  rename_i h _ _
  have h1 := small_nx (t := t) (Classical.not_not.mp h)
  show (blameS t (lowS t b.toNat) (t.ca b.toNat 0 - 1) a now).length ≤ 6
  unfold blameS
  split
  · exact Nat.zero_le _
  · have := blameFrom_length (t := t) (low := lowS t b.toNat) (high := t.ca b.toNat 0 - 1) (a := a) (now := now) t.ns 0 []
    simp only [List.length_nil] at this
    omega
theorem bandsT_len (t : Task) (a now : Int) : (bandsT t a now).1 ≤ 20 := by
  unfold bandsT
  split
  · exact Nat.zero_le _
  split
  · exact Nat.zero_le _
  split
  · exact Nat.zero_le _
  rename_i h _ _
  have h1 := small_nx (t := t) (Classical.not_not.mp h)
  exact h1.2.2.2

def rLChecks : List V.D → Option (Prop × V.D) := fun ds => match ds with
  | [d, .str s] => some (TaskIs d ∧ (taskOf d).fits ∧ s.size ≤ 9223372036854775807, .tt)
  | _ => none
theorem lawChecks_ok : PSound Go.Proofs.Try.prog 3 (mk rLChecks) := by
  refine psound_mk Try.func3 (by kernel_rfl) rfl (ctx lib36_ok) ?_
  (intro ds p d h; unfold rLChecks at h; split at h <;> first | (cases h; done) | skip; cases h; refine ⟨Nat.le_of_ble_eq_true rfl, fun hp k hk => ?_⟩)
  rename_i d s
  obtain ⟨ht, hf, hs⟩ := hp
  refine ⟨[(taskOf d).D, .str s], task_imp ht ⟨rfl, ?_⟩⟩
  clear ht
  generalize taskOf d = t at *
  have B1 := knownT_len t
  have B2 := blameT_len t
  have B3 := bandsT_len t
  repeat' (first | with_reducible rfl | ((conv => whnf); first | (with_reducible exact trivial) | ((with_reducible refine and_ff ?_ ?_); · exact rfl) | ((with_reducible refine and_tt ?_ ?_); · exact rfl) | (with_reducible refine And.intro ?_ ?_) | intro _ | (with_reducible refine fin2 hk ?_) | ((with_reducible refine eq_leaf ?_); exact rfl) | exact trivial))
  all_goals try exact hf _ (by assumption)
  all_goals clear hf hk
  all_goals try ((first | with_reducible refine (?_ : (_ : Int) ≤ _) | with_reducible refine (?_ : (_ : Int) < _) | with_reducible refine (?_ : (_ : Nat) ≤ _)); first | with_reducible exact hs | omega | (simp only [taskOf_agg, ↓Bool.not_eq_true', ↓Bool.not_eq_false', ↓decT, ↓decF, out_true, out_false, isin_true, isin_false, Int.toNat_natCast, Int.ofNat_lt, Nat.zero_add, Nat.add_zero, Nat.reduceAdd]; first | with_reducible exact Nat.le_trans (B1 _) (Nat.le_of_ble_eq_true rfl) | with_reducible exact Nat.le_trans (B2 _ _ _) (Nat.le_of_ble_eq_true rfl) | with_reducible exact Nat.le_trans (B3 _ _) (Nat.le_of_ble_eq_true rfl)))
  all_goals clear B1 B2 B3 hs
  all_goals simp only [taskOf_agg, ↓Bool.not_eq_true', ↓Bool.not_eq_false', ↓decT, ↓decF, out_true, out_false, isin_true, isin_false, Int.toNat_natCast, Int.ofNat_lt, Nat.zero_add, Nat.add_zero, Nat.reduceAdd, Int.toNat_zero, Int.reduceToNat, ↓reduceIte, reduceCtorEq, Bool.or_eq_true, Bool.or_eq_false_iff, Bool.and_eq_true, Bool.and_eq_false_iff, im_imD, sameB_refl, beq_self_eq_true, not_true_eq_false, and_true, false_or, or_false, or_self] at *

def rLKnows : List V.D → Option (Prop × V.D) := fun ds => match ds with
  | [d, .agg [.int .i64 x0, .int .i64 x1, .int .i64 x2, .int .i64 x3]] => some (TaskIs d ∧ (taskOf d).fits ∧ True, .tt)
  | _ => none
theorem lawKnows_ok : PSound Go.Proofs.Try.prog 5 (mk rLKnows) := by
  refine psound_mk Try.func5 (by kernel_rfl) rfl (ctx lib36_ok) ?_
  (intro ds p d h; unfold rLKnows at h; split at h <;> first | (cases h; done) | skip; cases h; refine ⟨Nat.le_of_ble_eq_true rfl, fun hp k hk => ?_⟩)
  rename_i d x0 x1 x2 x3
  obtain ⟨ht, hf, hs⟩ := hp
  refine ⟨[(taskOf d).D, .agg [.int .i64 x0, .int .i64 x1, .int .i64 x2, .int .i64 x3]], task_imp ht ⟨rfl, rfl, rfl, rfl, ?_⟩⟩
  clear ht
  generalize taskOf d = t at *
  have B1 := knownT_len t
  have B2 := blameT_len t
  have B3 := bandsT_len t
  repeat' (first | with_reducible rfl | ((conv => whnf); first | (with_reducible exact trivial) | ((with_reducible refine and_ff ?_ ?_); · exact rfl) | ((with_reducible refine and_tt ?_ ?_); · exact rfl) | (with_reducible refine And.intro ?_ ?_) | intro _ | (with_reducible refine fin2 hk ?_) | ((with_reducible refine eq_leaf ?_); exact rfl) | exact trivial))
  all_goals try exact hf _ (by assumption)
  all_goals clear hf hk
  all_goals try ((first | with_reducible refine (?_ : (_ : Int) ≤ _) | with_reducible refine (?_ : (_ : Int) < _) | with_reducible refine (?_ : (_ : Nat) ≤ _)); first | with_reducible exact hs | omega | (simp only [taskOf_agg, ↓Bool.not_eq_true', ↓Bool.not_eq_false', ↓decT, ↓decF, out_true, out_false, isin_true, isin_false, Int.toNat_natCast, Int.ofNat_lt, Nat.zero_add, Nat.add_zero, Nat.reduceAdd]; first | with_reducible exact Nat.le_trans (B1 _) (Nat.le_of_ble_eq_true rfl) | with_reducible exact Nat.le_trans (B2 _ _ _) (Nat.le_of_ble_eq_true rfl) | with_reducible exact Nat.le_trans (B3 _ _) (Nat.le_of_ble_eq_true rfl)))
  all_goals clear B1 B2 B3 hs
  all_goals simp only [taskOf_agg, ↓Bool.not_eq_true', ↓Bool.not_eq_false', ↓decT, ↓decF, out_true, out_false, isin_true, isin_false, Int.toNat_natCast, Int.ofNat_lt, Nat.zero_add, Nat.add_zero, Nat.reduceAdd, Int.toNat_zero, Int.reduceToNat, ↓reduceIte, reduceCtorEq, Bool.or_eq_true, Bool.or_eq_false_iff, Bool.and_eq_true, Bool.and_eq_false_iff, im_imD, sameB_refl, beq_self_eq_true, not_true_eq_false, and_true, false_or, or_false, or_self] at *

def rLBlames : List V.D → Option (Prop × V.D) := fun ds => match ds with
  | [d, .agg [.int .i64 x0, .int .i64 x1, .int .i64 x2]] => some (TaskIs d ∧ (taskOf d).fits ∧ True, .tt)
  | _ => none
theorem lawBlames_ok : PSound Go.Proofs.Try.prog 6 (mk rLBlames) := by
  refine psound_mk Try.func6 (by kernel_rfl) rfl (ctx lib36_ok) ?_
  (intro ds p d h; unfold rLBlames at h; split at h <;> first | (cases h; done) | skip; cases h; refine ⟨Nat.le_of_ble_eq_true rfl, fun hp k hk => ?_⟩)
  rename_i d x0 x1 x2
  obtain ⟨ht, hf, hs⟩ := hp
  refine ⟨[(taskOf d).D, .agg [.int .i64 x0, .int .i64 x1, .int .i64 x2]], task_imp ht ⟨rfl, rfl, rfl, ?_⟩⟩
  clear ht
  generalize taskOf d = t at *
  have B1 := knownT_len t
  have B2 := blameT_len t
  have B3 := bandsT_len t
  repeat' (first | with_reducible rfl | ((conv => whnf); first | (with_reducible exact trivial) | ((with_reducible refine and_ff ?_ ?_); · exact rfl) | ((with_reducible refine and_tt ?_ ?_); · exact rfl) | (with_reducible refine And.intro ?_ ?_) | intro _ | (with_reducible refine fin2 hk ?_) | ((with_reducible refine eq_leaf ?_); exact rfl) | exact trivial))
  all_goals try exact hf _ (by assumption)
  all_goals clear hf hk
  all_goals try ((first | with_reducible refine (?_ : (_ : Int) ≤ _) | with_reducible refine (?_ : (_ : Int) < _) | with_reducible refine (?_ : (_ : Nat) ≤ _)); first | with_reducible exact hs | omega | (simp only [taskOf_agg, ↓Bool.not_eq_true', ↓Bool.not_eq_false', ↓decT, ↓decF, out_true, out_false, isin_true, isin_false, Int.toNat_natCast, Int.ofNat_lt, Nat.zero_add, Nat.add_zero, Nat.reduceAdd]; first | with_reducible exact Nat.le_trans (B1 _) (Nat.le_of_ble_eq_true rfl) | with_reducible exact Nat.le_trans (B2 _ _ _) (Nat.le_of_ble_eq_true rfl) | with_reducible exact Nat.le_trans (B3 _ _) (Nat.le_of_ble_eq_true rfl)))
  all_goals clear B1 B2 B3 hs
  all_goals simp only [taskOf_agg, ↓Bool.not_eq_true', ↓Bool.not_eq_false', ↓decT, ↓decF, out_true, out_false, isin_true, isin_false, Int.toNat_natCast, Int.ofNat_lt, Nat.zero_add, Nat.add_zero, Nat.reduceAdd, Int.toNat_zero, Int.reduceToNat, ↓reduceIte, reduceCtorEq, Bool.or_eq_true, Bool.or_eq_false_iff, Bool.and_eq_true, Bool.and_eq_false_iff, im_imD, sameB_refl, beq_self_eq_true, not_true_eq_false, and_true, false_or, or_false, or_self] at *
end Go.Proofs.Ytbkehkiflfhpfaa
