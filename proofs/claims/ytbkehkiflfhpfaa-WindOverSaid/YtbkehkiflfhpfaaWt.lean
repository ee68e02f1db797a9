/-
  Contracts of the wind: which sources are to blame, and the answer.
-/
import Derived.Test.YtbkehkiflfhpfaaWs
set_option linter.unusedVariables false
set_option linter.unusedSimpArgs false
set_option maxRecDepth 100000
set_option maxHeartbeats 4000000
namespace Go.Proofs.Ytbkehkiflfhpfaa
open Go.V

def lib25 : Lib := (100, mk rWithout) :: lib24
theorem lib25_ok : LibOK Go.Proofs.Try.prog lib25 := .cons without_ok lib24_ok
theorem some_agree (l : Left) : (!anyBelow (empty (im (leftG l.xl l.xh l.yl l.yh))) 2) = l.agree := by
  simp [anyBelow, empty, im, leftG, toI, Left.agree]
theorem IM_leftG (a b c d : Int) : IM 2 2 (leftG a b c d) := fun i j hi hj => rfl
def rViewBlame : List V.D → Option (Prop × V.D) := fun ds => match ds with
  | [.agg [a, b, c, e, f, .int .i64 tick, .int .i64 now], .agg [.int .i64 low, .int .i64 high]] =>
    some (TaskIs (.agg [a, b, c, e, f]) ∧ (taskOf (.agg [a, b, c, e, f])).ok ∧ (0 ≤ low ∧ low < 100000000) ∧ (0 ≤ high ∧ high < 100000000) ∧ (0 ≤ tick ∧ tick ≤ 100000) ∧ (0 ≤ now ∧ now ≤ 100000),
      .tup [.rsl 1 (blameS (taskOf (.agg [a, b, c, e, f])) low high tick now).length (liD (blameS (taskOf (.agg [a, b, c, e, f])) low high tick now)), .bool (agreeS (taskOf (.agg [a, b, c, e, f])) low high tick now)])
  | _ => none
theorem viewBlame_ok : PSound Go.Proofs.Try.prog 78 (mk rViewBlame) := by
  refine psound_mk Try.func78 (by kernel_rfl) rfl (ctx lib25_ok) ?_
  (intro ds p d h; unfold rViewBlame at h; split at h <;> first | (cases h; done) | skip; cases h; refine ⟨Nat.le_of_ble_eq_true rfl, fun hp k hk => ?_⟩)
  rename_i a b c e f tick now low high
  obtain ⟨ht, hok, hl, hh, ha, hnow⟩ := hp
  refine ⟨[.agg (viewL (taskOf (.agg [a, b, c, e, f])) tick now), .agg [.int .i64 low, .int .i64 high]], view_imp ht ⟨rfl, rfl, ?_⟩⟩
  clear ht
  generalize taskOf (.agg [a, b, c, e, f]) = t at *
  generalize hS : blameS t low high tick now = w0 at *
  generalize hA : agreeS t low high tick now = g0 at *
  have hA' : (leftS t (-1) low high tick now).agree = g0 := hA
  have hns := hok.ns
  repeat' (first | with_reducible rfl | ((conv => whnf); first | exact trivial | refine And.intro ?_ ?_ | intro _ | (with_reducible refine (?_ : _ = true); (conv => lhs; whnf); done) | exact rfl))
  all_goals try (with_reducible refine (?_ : (_ : Int) ≤ _); omega)
  all_goals try (with_reducible refine (?_ : (_ : Int) < _); omega)
  · exact hok
  · exact Nat.le_of_ble_eq_true rfl
  · rename_i g1
    have h1 : g0 = true := hA'.symm.trans ((some_agree (leftS t (-1) low high tick now)).symm.trans g1)
    have h2 : w0 = [] := hS.symm.trans (if_pos (hA.trans h1))
    subst h1; subst h2
    (refine fin_of hk ?_; clear hk; repeat' (first | with_reducible rfl | ((conv => whnf); first | exact trivial | refine And.intro ?_ ?_ | intro _ | (with_reducible refine (?_ : _ = true); (conv => lhs; whnf); done) | exact rfl)))
    all_goals (intro i j hi; exact absurd hi (Nat.not_lt_zero i))
  rename_i g1
  have h1 : g0 = false := hA'.symm.trans ((some_agree (leftS t (-1) low high tick now)).symm.trans g1)
  have h2 : w0 = blameFrom t low high tick now 0 [] t.ns := hS.symm.trans (if_neg (by rw [hA, h1]; exact Bool.noConfusion))
  subst h1
  clear hS hA hA' g1
  refine ⟨Nat × List Int, fun g => [(2, .ptr 0 0), (3, .ptr 1 0), (4, .own 2 g.2.length), (14, .int .i64 t.ns), (15, .int .i64 g.1)],
    fun g => [some (.row (viewL t tick now)), some (.row [.int .i64 low, .int .i64 high]), some (.buf 3 1 g.2.length (liD g.2))],
    fun g => t.ns - g.1, fun g => g.1 ≤ t.ns ∧ g.2.length ≤ g.1 ∧ w0 = blameFrom t low high tick now g.1 g.2 (t.ns - g.1), [(3, 1)], (0, []), fun _ => ⟨?_, ?_⟩, ?_, fun g hI => ?_⟩
  · conv => lhs; whnf
  · conv => lhs; whnf
  · clear hk
    repeat' (first | with_reducible rfl | ((conv => whnf); first | exact trivial | refine And.intro ?_ ?_ | intro _ | (with_reducible refine (?_ : _ = true); (conv => lhs; whnf); done) | exact rfl))
    · rename_i i j hi hj; exact absurd hi (Nat.not_lt_zero i)
    · exact Nat.zero_le _
    · exact Nat.le_refl _
    · exact h2
  obtain ⟨i, l⟩ := g
  obtain ⟨hi, hll, hc⟩ := hI
  simp only at hi hll hc
  clear h2
  have f1 : decide (((i, l).fst : Int) < t.ns) = true → i < t.ns := fun h => Int.ofNat_lt.mp (of_decide_eq_true h)
  repeat' (first | with_reducible rfl | ((conv => whnf); first | exact trivial | refine And.intro ?_ ?_ | intro _ | (with_reducible refine (?_ : _ = true); (conv => lhs; whnf); done) | exact rfl))
  all_goals try (with_reducible refine (?_ : (_ : Int) ≤ _); simp only; omega)
  all_goals try (with_reducible refine (?_ : (_ : Int) ≤ _); omega)
  all_goals try (with_reducible refine (?_ : (_ : Int) < _); omega)
  · exact hok
  · exact Nat.le_of_ble_eq_true rfl
  · exact Nat.zero_lt_one
  · simp only; omega
  · rename_i g1 g2
    have e1 := f1 g1
    have e2 : (leftS t i low high tick now).agree = true := (some_agree (leftS t i low high tick now)).symm.trans g2
    have hw : blameStep t low high tick now i l = l ++ [(i : Int)] := if_pos e2
    clear hk
    refine ⟨(i + 1, l ++ [(i : Int)]), ?_⟩
    repeat' (first | with_reducible rfl | ((conv => whnf); first | exact trivial | refine And.intro ?_ ?_ | intro _ | (with_reducible refine (?_ : _ = true); (conv => lhs; whnf); done) | exact rfl))
    · simp
    · simp
    · exact liD_snoc (by assumption) (by assumption)
    · exact e1
    · simp; omega
    · exact (hc.trans (blameFrom_step e1)).trans (congrArg (fun l => blameFrom t low high tick now (i + 1) l (t.ns - (i + 1))) hw)
    · simp only; omega
  · rename_i g1 g2
    have e1 := f1 g1
    have e2 : (leftS t i low high tick now).agree = false := (some_agree (leftS t i low high tick now)).symm.trans g2
    have hw : blameStep t low high tick now i l = l := if_neg (by rw [e2]; exact Bool.noConfusion)
    clear hk
    refine ⟨(i + 1, l), ?_⟩
    repeat' (first | with_reducible rfl | ((conv => whnf); first | exact trivial | refine And.intro ?_ ?_ | intro _ | (with_reducible refine (?_ : _ = true); (conv => lhs; whnf); done) | exact rfl))
    · exact e1
    · simp only; omega
    · exact (hc.trans (blameFrom_step e1)).trans (congrArg (fun l => blameFrom t low high tick now (i + 1) l (t.ns - (i + 1))) hw)
    · simp only; omega
  · rename_i g1
    have hb : w0 = l := by
      have := of_decide_eq_false g1
      rw [hc, show t.ns - i = 0 by simp only at this; omega]
      rfl
    subst hb
    (refine fin_of hk ?_; clear hk; repeat' (first | with_reducible rfl | ((conv => whnf); first | exact trivial | refine And.intro ?_ ?_ | intro _ | (with_reducible refine (?_ : _ = true); (conv => lhs; whnf); done) | exact rfl)))
    all_goals trace_state

theorem blameFrom_agree {t : Task} {low high a now : Int} : ∀ (k i : Nat) (l : List Int), (∀ x ∈ l, (leftS t x low high a now).agree = true) → ∀ x ∈ blameFrom t low high a now i l k, (leftS t x low high a now).agree = true
  | 0, i, l, h, x, hx => h x hx
  | k + 1, i, l, h, x, hx => blameFrom_agree k (i + 1) _ (fun y hy => by
      unfold blameStep at hy
      split at hy
      · rename_i g
        rcases List.mem_append.mp hy with hy | hy
        · exact h y hy
        · rw [List.mem_singleton.mp hy]; exact g
      · exact h y hy) x hx
theorem blame_agree {t : Task} {low high a now : Int} (h : (blameS t low high a now).length = 1) : (leftS t ((blameS t low high a now).getD 0 0) low high a now).agree = true := by
  have hm : (blameS t low high a now).getD 0 0 ∈ blameS t low high a now := by
    cases hl : blameS t low high a now with
    | nil => rw [hl] at h; cases h
    | cons x r => simp
  generalize (blameS t low high a now).getD 0 0 = x at hm
  unfold blameS at hm
  split at hm
  · cases hm
  · exact blameFrom_agree t.ns 0 [] (fun y hy => by cases hy) x hm

def lib26 : Lib := (78, mk rViewBlame) :: lib25
theorem lib26_ok : LibOK Go.Proofs.Try.prog lib26 := .cons viewBlame_ok lib25_ok
def answerN (t : Task) (low high a now : Int) : Nat := if (answerS t low high a now).2 = true then 2 else 0
def rViewAnswer : List V.D → Option (Prop × V.D) := fun ds => match ds with
  | [.agg [a, b, c, e, f, .int .i64 tick, .int .i64 now], .agg [.int .i64 low, .int .i64 high]] =>
    some (TaskIs (.agg [a, b, c, e, f]) ∧ (taskOf (.agg [a, b, c, e, f])).ok ∧ (0 ≤ low ∧ low < 100000000) ∧ (0 ≤ high ∧ high < 100000000) ∧ (0 ≤ tick ∧ tick ≤ 100000) ∧ (0 ≤ now ∧ now ≤ 100000),
      .tup [.rsl 2 (answerN (taskOf (.agg [a, b, c, e, f])) low high tick now) (leftG (answerS (taskOf (.agg [a, b, c, e, f])) low high tick now).1.xl (answerS (taskOf (.agg [a, b, c, e, f])) low high tick now).1.xh (answerS (taskOf (.agg [a, b, c, e, f])) low high tick now).1.yl (answerS (taskOf (.agg [a, b, c, e, f])) low high tick now).1.yh),
        .bool (answerS (taskOf (.agg [a, b, c, e, f])) low high tick now).2])
  | _ => none
theorem viewAnswer_ok : PSound Go.Proofs.Try.prog 68 (mk rViewAnswer) := by
  refine psound_mk Try.func68 (by kernel_rfl) rfl (ctx lib26_ok) ?_
  (intro ds p d h; unfold rViewAnswer at h; split at h <;> first | (cases h; done) | skip; cases h; refine ⟨Nat.le_of_ble_eq_true rfl, fun hp k hk => ?_⟩)
  rename_i a b c e f tick now low high
  obtain ⟨ht, hok, hl, hh, ha, hnow⟩ := hp
  refine ⟨[.agg (viewL (taskOf (.agg [a, b, c, e, f])) tick now), .agg [.int .i64 low, .int .i64 high]], view_imp ht ⟨rfl, rfl, ?_⟩⟩
  clear ht
  generalize taskOf (.agg [a, b, c, e, f]) = t at *
  generalize hN : answerN t low high tick now = n0 at *
  generalize hS : answerS t low high tick now = w0 at *
  have hN' : n0 = if w0.2 = true then 2 else 0 := by rw [← hN, answerN, hS]
  clear hN
  repeat' (first | with_reducible rfl | ((conv => whnf); first | exact trivial | refine And.intro ?_ ?_ | intro _ | (with_reducible refine (?_ : _ = true); (conv => lhs; whnf); done) | exact rfl))
  all_goals try (with_reducible refine (?_ : (_ : Int) ≤ _); omega)
  all_goals try (with_reducible refine (?_ : (_ : Int) < _); omega)
  · exact hok
  · exact hok
  · rename_i g1
    have e1 : agreeS t low high tick now = true := g1
    have hw : w0 = (leftS t (-1) low high tick now, true) := by
      rw [← hS, answerS, if_pos e1]
      exact congrArg (Prod.mk _) e1
    subst hw
    subst hN'
    (refine fin_of hk ?_; clear hk; repeat' (first | with_reducible rfl | ((conv => whnf); first | exact trivial | refine And.intro ?_ ?_ | intro _ | (with_reducible refine (?_ : _ = true); (conv => lhs; whnf); done) | exact rfl)))
  · rename_i g1 g2
    have e2 := of_decide_eq_true g2
    omega
  · exact hok
  · rename_i g1 g2
    have e1 : agreeS t low high tick now = false := g1
    have e2 : (blameS t low high tick now).length = 1 := by have : ((blameS t low high tick now).length : Int) = 1 := of_decide_eq_true g2; omega
    have hw : w0 = (leftS t ((blameS t low high tick now).getD 0 0) low high tick now, true) := by
      rw [← hS, answerS, if_neg (by rw [e1]; exact Bool.noConfusion), if_neg (fun h => h e2)]
      exact congrArg (Prod.mk _) (blame_agree e2)
    subst hw
    subst hN'
    (refine fin_of hk ?_; clear hk; repeat' (first | with_reducible rfl | ((conv => whnf); first | exact trivial | refine And.intro ?_ ?_ | intro _ | (with_reducible refine (?_ : _ = true); (conv => lhs; whnf); done) | exact rfl)))
  · rename_i g1 g2
    have e1 : agreeS t low high tick now = false := g1
    have e2 : (blameS t low high tick now).length ≠ 1 := by have : ¬ ((blameS t low high tick now).length : Int) = 1 := of_decide_eq_false g2; omega
    have hw : w0 = (⟨0, 0, 0, 0⟩, false) := by
      rw [← hS, answerS, if_neg (by rw [e1]; exact Bool.noConfusion), if_pos e2]
    subst hw
    subst hN'
    (refine fin_of hk ?_; clear hk; repeat' (first | with_reducible rfl | ((conv => whnf); first | exact trivial | refine And.intro ?_ ?_ | intro _ | (with_reducible refine (?_ : _ = true); (conv => lhs; whnf); done) | exact rfl)))
    all_goals trace_state
end Go.Proofs.Ytbkehkiflfhpfaa
