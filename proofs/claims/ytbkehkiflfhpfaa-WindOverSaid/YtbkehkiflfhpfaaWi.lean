/-
  Contracts of the wind: the answer (the reference).
-/
import Derived.Test.YtbkehkiflfhpfaaWh
set_option linter.unusedVariables false
set_option linter.unusedSimpArgs false
set_option maxRecDepth 100000
set_option maxHeartbeats 4000000
namespace Go.Proofs.Ytbkehkiflfhpfaa
open Go.V

def lib9 : Lib := (79, mk rBlame) :: lib8
theorem lib9_ok : LibOK Go.Proofs.Try.prog lib9 := .cons refBlame_ok lib8_ok

/-- What is left in the end, and whether there is an answer. -/
def answerS (t : Task) (low high a now : Int) : Left × Bool :=
  if agreeS t low high a now = true then (leftS t (-1) low high a now, (leftS t (-1) low high a now).agree)
  else if (blameS t low high a now).length ≠ 1 then (⟨0, 0, 0, 0⟩, false)
  else (leftS t ((blameS t low high a now).getD 0 0) low high a now, (leftS t ((blameS t low high a now).getD 0 0) low high a now).agree)
def rAnswer : List V.D → Option (Prop × V.D) := fun ds => match ds with
  | [d, .int .i64 low, .int .i64 high, .int .i64 a, .int .i64 now] => some (TaskIs d ∧ (taskOf d).ok ∧ (0 ≤ low ∧ low < 100000000) ∧ (0 ≤ high ∧ high < 100000000) ∧ (0 ≤ a ∧ a ≤ 100000) ∧ (0 ≤ now ∧ now ≤ 100000),
      .tup [.agg [.int .i64 (answerS (taskOf d) low high a now).1.xl, .int .i64 (answerS (taskOf d) low high a now).1.xh], .agg [.int .i64 (answerS (taskOf d) low high a now).1.yl, .int .i64 (answerS (taskOf d) low high a now).1.yh], .bool (answerS (taskOf d) low high a now).2])
  | _ => none

theorem refAnswer_ok : PSound Go.Proofs.Try.prog 71 (mk rAnswer) := by
  refine psound_mk Try.func71 (by kernel_rfl) rfl (ctx lib9_ok) ?_
  (intro ds p d h; unfold rAnswer at h; split at h <;> first | (cases h; done) | skip; cases h; refine ⟨Nat.le_of_ble_eq_true rfl, fun hp k hk => ?_⟩)
  rename_i d low high a now
  obtain ⟨ht, hok, hl, hh, ha, hnow⟩ := hp
  refine ⟨[(taskOf d).D, .int .i64 low, .int .i64 high, .int .i64 a, .int .i64 now], task_imp ht ⟨rfl, rfl, rfl, rfl, ?_⟩⟩
  clear ht
  generalize taskOf d = t at *
  repeat' (first | with_reducible rfl | ((conv => whnf); first | exact trivial | refine And.intro ?_ ?_ | intro _ | (with_reducible refine (?_ : _ = true); (conv => lhs; whnf); done) | exact rfl))
  all_goals try refine fin_of hk ?_
  all_goals clear hk
  repeat' (first | with_reducible rfl | ((conv => whnf); first | exact trivial | refine And.intro ?_ ?_ | intro _ | (with_reducible refine (?_ : _ = true); (conv => lhs; whnf); done) | exact rfl))
  all_goals try exact hok
  all_goals clear hok
  all_goals try simp only [taskOf_agg, Int.toNat_natCast, Nat.zero_add, Nat.add_zero, Nat.reduceAdd, decide_eq_true_eq, decide_eq_false_iff_not, Bool.not_eq_true', Bool.not_eq_false', Int.ofNat_lt] at *
  all_goals try omega
  all_goals try (have h1 := of_decide_eq_true (by assumption : decide (((blameS t low high a now).length : Int) = 1) = true); omega)
  all_goals unfold answerS
  all_goals first
    | (rw [if_pos (by assumption)]; done)
    | (rw [if_neg (by simp_all), if_neg (fun h => h (by have := of_decide_eq_true (by assumption : decide (((blameS t low high a now).length : Int) = 1) = true); omega))]; rfl)
    | (rw [if_neg (by simp_all), if_pos (by have := of_decide_eq_false (by assumption : decide (((blameS t low high a now).length : Int) = 1) = false); omega)]; done)
    | (rw [if_neg (by simp_all), if_neg (by simp_all; omega)]; done)
    | (rw [if_neg (by simp_all), if_pos (by simp_all)]; done)
    | (rw [if_neg (by simp_all), if_neg (by simp_all)]; done)
    | (rw [if_neg (by simp_all), if_neg (by simp_all)]; rfl)
end Go.Proofs.Ytbkehkiflfhpfaa
