/-
  Contracts of the wind: Blame (both).
-/
import Derived.Test.YtbkehkiflfhpfaaWv
set_option linter.unusedVariables false
set_option linter.unusedSimpArgs false
set_option maxRecDepth 100000
set_option maxHeartbeats 4000000
namespace Go.Proofs.Ytbkehkiflfhpfaa
open Go.V
attribute [local irreducible] doubtS saysS leftS agreeS blameS answerS checkS begun nameS lowS answerN
def lib29 : Lib := (25, mk rAtT) :: (26, mk rAtT) :: (40, mk rSaysT) :: (41, mk rSaysT) :: lib28
theorem lib29_ok : LibOK Go.Proofs.Try.prog lib29 := .cons windAt_ok (.cons refAt_ok (.cons windSays_ok (.cons refSaysT_ok lib28_ok)))

def blameT (t : Task) (b a now : Int) : List Int × Bool × Int :=
  if checkE t ≠ 0 then ([], false, checkE t) else if isin b 0 (t.nc - 1) = false then ([], false, 4) else if (tickB a && tickB now) = false then ([], false, 7) else
    (blameS t (lowS t b.toNat) (t.ca b.toNat 0 - 1) a now, agreeS t (lowS t b.toNat) (t.ca b.toNat 0 - 1) a now, 0)
def listD (l : List Int) : V.D := .rsl 1 l.length (liD l)
def rBlameT : List V.D → Option (Prop × V.D) := fun ds => match ds with
  | [d, .int .i64 b, .int .i64 a, .int .i64 now] => some (TaskIs d ∧ (taskOf d).fits, .tup [listD (blameT (taskOf d) b a now).1, .bool (blameT (taskOf d) b a now).2.1, .int .i64 (blameT (taskOf d) b a now).2.2])
  | _ => none
theorem windBlameT_ok : PSound Go.Proofs.Try.prog 35 (mk rBlameT) := by
  refine psound_mk Try.func35 (by kernel_rfl) rfl (ctx lib29_ok) ?_
  (intro ds p d h; unfold rBlameT at h; split at h <;> first | (cases h; done) | skip; cases h; refine ⟨Nat.le_of_ble_eq_true rfl, fun hp k hk => ?_⟩)
  rename_i d b a now
  obtain ⟨ht, hf⟩ := hp
  refine ⟨[(taskOf d).D, .int .i64 b, .int .i64 a, .int .i64 now], task_imp ht ⟨rfl, rfl, rfl, ?_⟩⟩
  clear ht
  generalize taskOf d = t at *
  generalize hS : blameT t b a now = c at *
  repeat' (first | with_reducible rfl | ((conv => whnf); first | (with_reducible exact trivial) | ((with_reducible refine and_ff ?_ ?_); · exact rfl) | ((with_reducible refine and_tt ?_ ?_); · exact rfl) | (with_reducible refine And.intro ?_ ?_) | intro _ | (with_reducible refine fin2 hk ?_) | ((with_reducible refine eq_leaf ?_); exact rfl) | exact trivial))
  all_goals try exact hf _ (by assumption)
  all_goals clear hf
  all_goals try ((with_reducible refine (?_ : Task.ok _)); clear hS hk; simp only [taskOf_agg, ↓Bool.not_eq_true', ↓Bool.not_eq_false', ↓decT, ↓decF, out_true, out_false, isin_true, isin_false, Int.toNat_natCast, Int.ofNat_lt, Nat.zero_add, Nat.add_zero, Nat.reduceAdd] at *; exact check_ok (by assumption))
  all_goals try ((first | with_reducible refine (?_ : (_ : Int) ≤ _) | with_reducible refine (?_ : (_ : Int) < _) | with_reducible refine (?_ : (_ : Nat) ≤ _) | with_reducible refine (?_ : (_ : Nat) < _)); clear hS hk; try simp only [taskOf_agg, ↓Bool.not_eq_true', ↓Bool.not_eq_false', ↓decT, ↓decF, out_true, out_false, isin_true, isin_false, Int.toNat_natCast, Int.ofNat_lt, Nat.zero_add, Nat.add_zero, Nat.reduceAdd] at *; first | omega | (have F1 := small_nx (t := t) (by assumption); first | omega | (have F2 := low_ok (t := t) (b := b) (by assumption) (by omega) (by omega); omega)))
  all_goals clear hk
  all_goals subst hS
  all_goals try simp only [any2, taskOf_agg, ↓Bool.not_eq_true', ↓Bool.not_eq_false', ↓decT, ↓decF, out_true, out_false, isin_true, isin_false, Int.toNat_natCast, Int.ofNat_lt, Nat.zero_add, Nat.add_zero, Nat.reduceAdd, Int.toNat_zero, Int.reduceToNat, ↓reduceIte, reduceCtorEq, Bool.or_eq_true, Bool.or_eq_false_iff, Bool.and_eq_true, Bool.and_eq_false_iff] at *
  all_goals try simp only [blameT, checkE, heightB, tickB, taskOf_agg, ↓Bool.not_eq_true', ↓Bool.not_eq_false', ↓decT, ↓decF, out_true, out_false, isin_true, isin_false, Int.toNat_natCast, Int.ofNat_lt, Nat.zero_add, Nat.add_zero, Nat.reduceAdd, Int.toNat_zero, Int.reduceToNat, ↓reduceIte, reduceCtorEq, Bool.or_eq_true, Bool.or_eq_false_iff, Bool.and_eq_true, Bool.and_eq_false_iff]
  all_goals repeat' split
  all_goals first | with_reducible rfl | omega | (simp_all only [reduceCtorEq]; done) | rfl
theorem refBlameT_ok : PSound Go.Proofs.Try.prog 36 (mk rBlameT) := by
  refine psound_mk Try.func36 (by kernel_rfl) rfl (ctx lib29_ok) ?_
  (intro ds p d h; unfold rBlameT at h; split at h <;> first | (cases h; done) | skip; cases h; refine ⟨Nat.le_of_ble_eq_true rfl, fun hp k hk => ?_⟩)
  rename_i d b a now
  obtain ⟨ht, hf⟩ := hp
  refine ⟨[(taskOf d).D, .int .i64 b, .int .i64 a, .int .i64 now], task_imp ht ⟨rfl, rfl, rfl, ?_⟩⟩
  clear ht
  generalize taskOf d = t at *
  generalize hS : blameT t b a now = c at *
  repeat' (first | with_reducible rfl | ((conv => whnf); first | (with_reducible exact trivial) | ((with_reducible refine and_ff ?_ ?_); · exact rfl) | ((with_reducible refine and_tt ?_ ?_); · exact rfl) | (with_reducible refine And.intro ?_ ?_) | intro _ | (with_reducible refine fin2 hk ?_) | ((with_reducible refine eq_leaf ?_); exact rfl) | exact trivial))
  all_goals try exact hf _ (by assumption)
  all_goals clear hf
  all_goals try ((with_reducible refine (?_ : Task.ok _)); clear hS hk; simp only [taskOf_agg, ↓Bool.not_eq_true', ↓Bool.not_eq_false', ↓decT, ↓decF, out_true, out_false, isin_true, isin_false, Int.toNat_natCast, Int.ofNat_lt, Nat.zero_add, Nat.add_zero, Nat.reduceAdd] at *; exact check_ok (by assumption))
  all_goals try ((first | with_reducible refine (?_ : (_ : Int) ≤ _) | with_reducible refine (?_ : (_ : Int) < _) | with_reducible refine (?_ : (_ : Nat) ≤ _) | with_reducible refine (?_ : (_ : Nat) < _)); clear hS hk; try simp only [taskOf_agg, ↓Bool.not_eq_true', ↓Bool.not_eq_false', ↓decT, ↓decF, out_true, out_false, isin_true, isin_false, Int.toNat_natCast, Int.ofNat_lt, Nat.zero_add, Nat.add_zero, Nat.reduceAdd] at *; first | omega | (have F1 := small_nx (t := t) (by assumption); first | omega | (have F2 := low_ok (t := t) (b := b) (by assumption) (by omega) (by omega); omega)))
  all_goals clear hk
  all_goals subst hS
  all_goals try simp only [any2, taskOf_agg, ↓Bool.not_eq_true', ↓Bool.not_eq_false', ↓decT, ↓decF, out_true, out_false, isin_true, isin_false, Int.toNat_natCast, Int.ofNat_lt, Nat.zero_add, Nat.add_zero, Nat.reduceAdd, Int.toNat_zero, Int.reduceToNat, ↓reduceIte, reduceCtorEq, Bool.or_eq_true, Bool.or_eq_false_iff, Bool.and_eq_true, Bool.and_eq_false_iff] at *
  all_goals try simp only [blameT, checkE, heightB, tickB, taskOf_agg, ↓Bool.not_eq_true', ↓Bool.not_eq_false', ↓decT, ↓decF, out_true, out_false, isin_true, isin_false, Int.toNat_natCast, Int.ofNat_lt, Nat.zero_add, Nat.add_zero, Nat.reduceAdd, Int.toNat_zero, Int.reduceToNat, ↓reduceIte, reduceCtorEq, Bool.or_eq_true, Bool.or_eq_false_iff, Bool.and_eq_true, Bool.and_eq_false_iff]
  all_goals repeat' split
  all_goals first | with_reducible rfl | omega | (simp_all only [reduceCtorEq]; done) | rfl
end Go.Proofs.Ytbkehkiflfhpfaa
