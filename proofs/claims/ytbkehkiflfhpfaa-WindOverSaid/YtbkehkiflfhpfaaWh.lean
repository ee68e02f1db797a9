/-
  Contracts of the wind: which sources are to blame (the reference).
-/
import Derived.Test.YtbkehkiflfhpfaaWg
set_option linter.unusedVariables false
set_option linter.unusedSimpArgs false
set_option maxRecDepth 100000
set_option maxHeartbeats 4000000
namespace Go.Proofs.Ytbkehkiflfhpfaa
open Go.V

def lib8 : Lib := (101, mk rLeft) :: lib7
theorem lib8_ok : LibOK Go.Proofs.Try.prog lib8 := .cons refLeft_ok lib7_ok

/-- A list of numbers, as cells. -/
def liD (l : List Int) (i _j : Nat) : V.D := .int .i64 (l.getD i 0)
def blameStep (t : Task) (low high a now : Int) (i : Nat) (l : List Int) : List Int := if (leftS t i low high a now).agree = true then l ++ [(i : Int)] else l
def blameFrom (t : Task) (low high a now : Int) (i : Nat) (l : List Int) : Nat → List Int
  | 0 => l
  | k + 1 => blameFrom t low high a now (i + 1) (blameStep t low high a now i l) k
theorem blameFrom_step {t : Task} {low high a now : Int} {i n : Nat} {l : List Int} (h : i < n) :
    blameFrom t low high a now i l (n - i) = blameFrom t low high a now (i + 1) (blameStep t low high a now i l) (n - (i + 1)) := by
  rw [show n - i = (n - (i + 1)) + 1 by omega, blameFrom]
def agreeS (t : Task) (low high a now : Int) : Bool := (leftS t (-1) low high a now).agree
def blameS (t : Task) (low high a now : Int) : List Int := if agreeS t low high a now = true then [] else blameFrom t low high a now 0 [] t.ns
def rBlame : List V.D → Option (Prop × V.D) := fun ds => match ds with
  | [d, .int .i64 low, .int .i64 high, .int .i64 a, .int .i64 now] => some (TaskIs d ∧ (taskOf d).ok ∧ (0 ≤ low ∧ low < 100000000) ∧ (0 ≤ high ∧ high < 100000000) ∧ (0 ≤ a ∧ a ≤ 100000) ∧ (0 ≤ now ∧ now ≤ 100000),
      .tup [.rsl 1 (blameS (taskOf d) low high a now).length (liD (blameS (taskOf d) low high a now)), .bool (agreeS (taskOf d) low high a now)])
  | _ => none

theorem liD_snoc {l : List Int} {x : Int} {i j : Nat} (hi : i < (l ++ [x]).length) (hj : j < 1) : (if i < l.length then liD l i j else [D.int IntKind.i64 x].getD ((i - l.length) * 1 + j) D.top) = liD (l ++ [x]) i j := by
  simp only [List.length_append, List.length_singleton] at hi
  unfold liD
  by_cases h : i < l.length
  · rw [if_pos h]
    simp [List.getElem?_append_left h]
  · rw [if_neg h]
    have e1 : i = l.length := by omega
    have e2 : j = 0 := by omega
    subst e1; subst e2
    simp
theorem refBlame_ok : PSound Go.Proofs.Try.prog 79 (mk rBlame) := by
  refine psound_mk Try.func79 (by kernel_rfl) rfl (ctx lib8_ok) ?_
  (intro ds p d h; unfold rBlame at h; split at h <;> first | (cases h; done) | skip; cases h; refine ⟨Nat.le_of_ble_eq_true rfl, fun hp k hk => ?_⟩)
  rename_i d low high a now
  obtain ⟨ht, hok, hl, hh, ha, hnow⟩ := hp
  refine ⟨[(taskOf d).D, .int .i64 low, .int .i64 high, .int .i64 a, .int .i64 now], task_imp ht ⟨rfl, rfl, rfl, rfl, ?_⟩⟩
  clear ht
  generalize taskOf d = t at *
  repeat' (first | with_reducible rfl | ((conv => whnf); first | exact trivial | refine And.intro ?_ ?_ | intro _ | (with_reducible refine (?_ : _ = true); (conv => lhs; whnf); done) | exact rfl))
  all_goals try first
    | exact hok
    | omega
  refine ⟨Nat × List Int, fun g => [(1, .int .i64 low), (2, .int .i64 high), (3, .int .i64 a), (4, .int .i64 now), (5, .ptr 0 0), (14, .bool (agreeS t low high a now)), (15, .own 3 g.2.length), (16, .int .i64 g.1)],
    fun g => [some (.row [.rsl 7 t.ns (smD t.nm t.sa), .rsl 5 t.nx (imD t.xa), .rsl 1 t.nc (imD t.ca), .int .i64 t.age, .int .i64 t.shear]), some (.row [.top, .top]), some (.row [.top, .top]), some (.buf 3 1 g.2.length (liD g.2))],
    fun g => t.ns - g.1, fun g => g.1 ≤ t.ns ∧ g.2.length ≤ g.1 ∧ (agreeS t low high a now = true → g.2 = []) ∧ (agreeS t low high a now = false → blameS t low high a now = blameFrom t low high a now g.1 g.2 (t.ns - g.1)), [(3, 1)], (0, []), fun _ => ⟨rfl, rfl⟩, ?_, fun g hI => ?_⟩
  · repeat' (first | with_reducible rfl | ((conv => whnf); first | exact trivial | refine And.intro ?_ ?_ | intro _ | (with_reducible refine (?_ : _ = true); (conv => lhs; whnf); done) | exact rfl))
    all_goals first
      | (simp_all [blameS]; done)
      | (intro h; simp_all [blameS]; done)
      | (intro i j hi; simp at hi; done)
  · obtain ⟨i, l⟩ := g
    obtain ⟨hi, hll, hc1, hc2⟩ := hI
    try simp only at hi hll hc1 hc2
    have hns := hok.ns
    have key : agreeS t low high a now = false → i < t.ns → blameS t low high a now = blameFrom t low high a now (i + 1) (blameStep t low high a now i l) (t.ns - (i + 1)) := fun h0 h => by rw [hc2 h0, blameFrom_step h]
    have key2 : agreeS t low high a now = true ∨ t.ns ≤ i → blameS t low high a now = l := fun h => by
      cases hq : agreeS t low high a now with
      | true => rw [hc1 hq]; simp [blameS, hq]
      | false =>
        rcases h with h | h
        · rw [hq] at h; cases h
        · rw [hc2 hq, show t.ns - i = 0 by omega]; rfl
    have hlen : (blameStep t low high a now i l).length ≤ i + 1 := by
      unfold blameStep
      split
      · simp only [List.length_append, List.length_singleton]; omega
      · omega
    clear hc2
    repeat' (first | with_reducible rfl | ((conv => whnf); first | exact trivial | refine And.intro ?_ ?_ | intro _ | (with_reducible refine (?_ : _ = true); (conv => lhs; whnf); done) | exact rfl))
    all_goals try refine fin_of hk ?_
    all_goals try refine ⟨(i + 1, blameStep t low high a now i l), ?_⟩
    all_goals clear hk
    repeat' (first | with_reducible rfl | ((conv => whnf); first | exact trivial | refine And.intro ?_ ?_ | intro _ | (with_reducible refine (?_ : _ = true); (conv => lhs; whnf); done) | exact rfl))
    all_goals try exact hok
    all_goals clear hok
    all_goals try simp only [taskOf_agg, Int.toNat_natCast, Nat.zero_add, Nat.add_zero, Nat.reduceAdd, decide_eq_true_eq, decide_eq_false_iff_not, Bool.not_eq_true', Bool.not_eq_false', Int.ofNat_lt] at *
    all_goals try omega
    all_goals first
      | exact key (by assumption) (by assumption)
      | (rw [key2 (.inl (by assumption))]; done)
      | (rw [key2 (.inr (by omega))]; done)
      | (simp [blameStep, *]; done)
      | (rw [show blameStep t low high a now i l = l ++ [(i : Int)] by simp [blameStep, *]] at *; exact liD_snoc (by assumption) (by assumption))
      | (rw [show blameStep t low high a now i l = l by simp [blameStep, *]]; done)
      | (exfalso; simp_all; done)
end Go.Proofs.Ytbkehkiflfhpfaa
