/-
  Contracts of the wind: whether something is left; looks.
-/
import Derived.Test.YtbkehkiflfhpfaaWp
set_option linter.unusedVariables false
set_option linter.unusedSimpArgs false
set_option maxRecDepth 100000
set_option maxHeartbeats 4000000
namespace Go.Proofs.Ytbkehkiflfhpfaa
open Go.V

def empty (a : Nat → Nat → Int) (i : Nat) : Bool := decide (a i 1 < a i 0)
theorem emptyOne_ok : PSound Go.Proofs.Try.prog 109 (mk (r11 fun a b => decide (b < a))) := by
  refine psound_mk Try.func109 (by kernel_rfl) rfl (ctx lib1_ok) ?_
  (intro ds p d h; unfold r11 at h; split at h <;> first | (cases h; done) | skip; cases h; refine ⟨Nat.le_of_ble_eq_true rfl, fun hp k hk => ?_⟩)
  rename_i a b
  refine ⟨[.agg [.int .i64 a, .int .i64 b]], ?_⟩
  repeat' (first | with_reducible rfl | ((conv => whnf); first | exact trivial | refine And.intro ?_ ?_ | intro _ | (with_reducible refine (?_ : _ = true); (conv => lhs; whnf); done) | exact rfl))
  all_goals (refine fin_of hk ?_; clear hk; repeat' (first | with_reducible rfl | ((conv => whnf); first | exact trivial | refine And.intro ?_ ?_ | intro _ | (with_reducible refine (?_ : _ = true); (conv => lhs; whnf); done) | exact rfl)))
def lib20 : Lib := (109, mk (r11 fun a b => decide (b < a))) :: (76, mk rDoubtX) :: (72, mk rBand) :: lib19
theorem lib20_ok : LibOK Go.Proofs.Try.prog lib20 := .cons emptyOne_ok (.cons viewDoubt_ok (.cons viewBand_ok lib19_ok))

def rIndexSpan : List D → Option (Prop × D) := fun ds => match ds with
  | [.rsl 2 n g, .fn 109 [] []] => some (IM n 2 g ∧ n ≤ 1099511627776, .int .i64 (firstFrom (empty (im g)) 0 n))
  | _ => none
theorem indexSpan_ok : PSound Go.Proofs.Try.prog 119 (mk rIndexSpan) := by
  refine psound_mk Try.func119 (by kernel_rfl) rfl (ctx lib20_ok) ?_
  (intro ds p d h; unfold rIndexSpan at h; split at h <;> first | (cases h; done) | skip; cases h; refine ⟨Nat.le_of_ble_eq_true rfl, fun hp k hk => ?_⟩)
  rename_i n g
  obtain ⟨h1, h2⟩ := hp
  refine ⟨[.rsl 2 n (imD (im g)), .fn 109 [] []], rfl, h1, ?_⟩
  clear h1
  generalize im g = a at *
  generalize hS : firstFrom (empty a) 0 n = c at *
  repeat' (first | with_reducible rfl | ((conv => whnf); first | exact trivial | refine And.intro ?_ ?_ | intro _ | (with_reducible refine (?_ : _ = true); (conv => lhs; whnf); done) | exact rfl))
  refine ⟨Nat, fun i => [(0, .rsl 2 n (imD a)), (1, .fn 109 [] []), (7, .int .i64 n), (8, .int .i64 i)], fun _ => [], fun i => n - i, fun i => i ≤ n ∧ c = firstFrom (empty a) i (n - i), [], 0, fun _ => ⟨rfl, rfl⟩, ?_, fun i hI => ?_⟩
  · repeat' (first | with_reducible rfl | ((conv => whnf); first | exact trivial | refine And.intro ?_ ?_ | intro _ | (with_reducible refine (?_ : _ = true); (conv => lhs; whnf); done) | exact rfl))
    · omega
    · exact hS.symm
  obtain ⟨hi, hc⟩ := hI
  clear hS
  have f1 : decide ((i : Int) < n) = true → i < n := fun h => Int.ofNat_lt.mp (of_decide_eq_true h)
  repeat' (first | with_reducible rfl | ((conv => whnf); first | exact trivial | refine And.intro ?_ ?_ | intro _ | (with_reducible refine (?_ : _ = true); (conv => lhs; whnf); done) | exact rfl))
  · omega
  · exact of_decide_eq_true (by assumption)
  · rename_i g1 g2
    rw [firstFrom_step (f1 g1), if_pos (by exact g2)] at hc
    subst hc
    (refine fin_of hk ?_; clear hk; (conv => whnf); repeat' (first | exact trivial | refine And.intro ?_ ?_ | exact rfl))
  · omega
  · omega
  · rename_i g1 g2
    have e1 := f1 g1
    rw [firstFrom_step e1, if_neg (by rw [show empty a i = false from g2]; exact Bool.noConfusion)] at hc
    clear hk
    refine ⟨i + 1, ?_⟩
    repeat' (first | with_reducible rfl | ((conv => whnf); first | exact trivial | refine And.intro ?_ ?_ | intro _ | (with_reducible refine (?_ : _ = true); (conv => lhs; whnf); done) | exact rfl))
    · omega
    · exact hc
    · simp only; omega
  · rename_i g1
    rw [firstFrom_end (by have := of_decide_eq_false g1; omega)] at hc
    subst hc
    (refine fin_of hk ?_; clear hk; (conv => whnf); repeat' (first | exact trivial | refine And.intro ?_ ?_ | exact rfl))
def rEmptyAny : List D → Option (Prop × D) := fun ds => match ds with
  | [.rsl 2 n g, .fn 109 [] []] => some (IM n 2 g ∧ n ≤ 1099511627776, .bool (anyBelow (empty (im g)) n))
  | _ => none
def rSome : List D → Option (Prop × D) := fun ds => match ds with
  | [.rsl 2 n g] => some (IM n 2 g ∧ n ≤ 1099511627776, .bool (!anyBelow (empty (im g)) n))
  | _ => none
def lib21 : Lib := (119, mk rIndexSpan) :: lib20
theorem lib21_ok : LibOK Go.Proofs.Try.prog lib21 := .cons indexSpan_ok lib20_ok
theorem containsSpan_ok : PSound Go.Proofs.Try.prog 108 (mk rEmptyAny) := by
  refine psound_mk Try.func108 (by kernel_rfl) rfl (ctx lib21_ok) ?_
  (intro ds p d h; unfold rEmptyAny at h; split at h <;> first | (cases h; done) | skip; cases h; refine ⟨Nat.le_of_ble_eq_true rfl, fun hp k hk => ?_⟩)
  rename_i n g
  obtain ⟨h1, h2⟩ := hp
  refine ⟨[.rsl 2 n (imD (im g)), .fn 109 [] []], rfl, h1, ?_⟩
  clear h1
  generalize im g = a at *
  repeat' (first | with_reducible rfl | ((conv => whnf); first | exact trivial | refine And.intro ?_ ?_ | intro _ | (with_reducible refine (?_ : _ = true); (conv => lhs; whnf); done) | exact rfl))
  · exact h2
  · (refine fin_of hk ?_; clear hk; repeat' (first | with_reducible rfl | ((conv => whnf); first | exact trivial | refine And.intro ?_ ?_ | intro _ | (with_reducible refine (?_ : _ = true); (conv => lhs; whnf); done) | exact rfl)))
    exact firstFrom_any _ _
def lib22 : Lib := (108, mk rEmptyAny) :: lib21
theorem lib22_ok : LibOK Go.Proofs.Try.prog lib22 := .cons containsSpan_ok lib21_ok
theorem leftSome_ok : PSound Go.Proofs.Try.prog 83 (mk rSome) := by
  refine psound_mk Try.func83 (by kernel_rfl) rfl (ctx lib22_ok) ?_
  (intro ds p d h; unfold rSome at h; split at h <;> first | (cases h; done) | skip; cases h; refine ⟨Nat.le_of_ble_eq_true rfl, fun hp k hk => ?_⟩)
  rename_i n g
  obtain ⟨h1, h2⟩ := hp
  refine ⟨[.rsl 2 n (imD (im g))], rfl, h1, ?_⟩
  clear h1
  generalize im g = a at *
  repeat' (first | with_reducible rfl | ((conv => whnf); first | exact trivial | refine And.intro ?_ ?_ | intro _ | (with_reducible refine (?_ : _ = true); (conv => lhs; whnf); done) | exact rfl))
  · exact h2
  · (refine fin_of hk ?_; clear hk; repeat' (first | with_reducible rfl | ((conv => whnf); first | exact trivial | refine And.intro ?_ ?_ | intro _ | (with_reducible refine (?_ : _ = true); (conv => lhs; whnf); done) | exact rfl)))

/-- The view of a task, if it is valid. -/
def rLook : List V.D → Option (Prop × V.D) := fun ds => match ds with
  | [d, .int .i64 tick, .int .i64 now] => some (TaskIs d ∧ (taskOf d).fits, .tup [.agg (viewL (taskOf d) tick now), .int .i64 (checkS (taskOf d)).2.2])
  | _ => none
theorem look_ok : PSound Go.Proofs.Try.prog 65 (mk rLook) := by
  refine psound_mk Try.func65 (by kernel_rfl) rfl (ctx lib22_ok) ?_
  (intro ds p d h; unfold rLook at h; split at h <;> first | (cases h; done) | skip; cases h; refine ⟨Nat.le_of_ble_eq_true rfl, fun hp k hk => ?_⟩)
  rename_i d tick now
  obtain ⟨ht, hf⟩ := hp
  refine ⟨[(taskOf d).D, .int .i64 tick, .int .i64 now], task_imp ht ⟨rfl, rfl, ?_⟩⟩
  clear ht
  generalize taskOf d = t at *
  generalize hS : checkS t = c at *
  repeat' (first | with_reducible rfl | ((conv => whnf); first | exact trivial | refine And.intro ?_ ?_ | intro _ | (with_reducible refine (?_ : _ = true); (conv => lhs; whnf); done) | exact rfl))
  · exact hf _ (by assumption)
  · (refine fin_of hk ?_; clear hk; repeat' (first | with_reducible rfl | ((conv => whnf); first | exact trivial | refine And.intro ?_ ?_ | intro _ | (with_reducible refine (?_ : _ = true); (conv => lhs; whnf); done) | exact rfl)))
    all_goals (rw [← hS]; rfl)
end Go.Proofs.Ytbkehkiflfhpfaa
