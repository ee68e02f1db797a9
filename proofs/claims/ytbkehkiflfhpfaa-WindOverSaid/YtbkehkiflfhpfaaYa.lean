/-
  Contracts of the wind's laws: equal lists of bands, the examples.
-/
import Derived.Test.YtbkehkiflfhpfaaWy
set_option linter.unusedVariables false
set_option linter.unusedSimpArgs false
set_option maxRecDepth 100000
set_option maxHeartbeats 4000000
namespace Go.Proofs.Ytbkehkiflfhpfaa
open Go.V
attribute [local irreducible] doubtS saysS leftS agreeS blameS answerS checkS begun nameS lowS answerN knownS
def lib32 : Lib := (27, mk rBandsT) :: (28, mk rBandsT) :: lib31
theorem lib32_ok : LibOK Go.Proofs.Try.prog lib32 := .cons windBandsT_ok (.cons refBandsT_ok lib31_ok)

noncomputable def rSame : List D → Option (Prop × D) := fun ds => match ds with
  | [.rsl 6 n g, .rsl 6 m h] => some (IM n 6 g ∧ IM m 6 h ∧ n ≤ 1099511627776, .bool (sameB 6 n m (im g) (im h)))
  | _ => none
theorem sameB_iff {s n m : Nat} {a b : Nat → Nat → Int} : sameB s n m a b = true ↔ n = m ∧ sameFrom s a b n 0 := by
  unfold sameB
  rw [decT]
theorem all6 {p : Nat → Prop} : (∀ j, j < 6 → p j) ↔ p 0 ∧ p 1 ∧ p 2 ∧ p 3 ∧ p 4 ∧ p 5 :=
  ⟨fun h => ⟨h 0 (by omega), h 1 (by omega), h 2 (by omega), h 3 (by omega), h 4 (by omega), h 5 (by omega)⟩, fun h j hj => by
    have hj' : j = 0 ∨ j = 1 ∨ j = 2 ∨ j = 3 ∨ j = 4 ∨ j = 5 := by omega
    rcases hj' with rfl | rfl | rfl | rfl | rfl | rfl
    · exact h.1
    · exact h.2.1
    · exact h.2.2.1
    · exact h.2.2.2.1
    · exact h.2.2.2.2.1
    · exact h.2.2.2.2.2⟩
theorem same_ok : PSound Go.Proofs.Try.prog 29 (mk rSame) := by
  refine psound_mk Try.func29 (by kernel_rfl) rfl (ctx (.nil _)) ?_
  (intro ds p d h; unfold rSame at h; split at h <;> first | (cases h; done) | skip; cases h; refine ⟨Nat.le_of_ble_eq_true rfl, fun hp k hk => ?_⟩)
  rename_i n g m h
  obtain ⟨h1, h2, h3⟩ := hp
  refine ⟨[.rsl 6 n (imD (im g)), .rsl 6 m (imD (im h))], rfl, h1, rfl, h2, ?_⟩
  clear h1 h2
  generalize im g = a at *
  generalize im h = b at *
  generalize hS : sameB 6 n m a b = c at *
  have hS' : c = true ↔ n = m ∧ sameFrom 6 a b n 0 := by rw [← hS]; exact sameB_iff
  clear hS
  repeat' (first | with_reducible rfl | ((conv => whnf); first | (with_reducible exact trivial) | ((with_reducible refine and_ff ?_ ?_); · exact rfl) | ((with_reducible refine and_tt ?_ ?_); · exact rfl) | (with_reducible refine And.intro ?_ ?_) | intro _ | (with_reducible refine fin2 hk ?_) | ((with_reducible refine eq_leaf ?_); exact rfl) | exact trivial))
  · rename_i g1
    simp only [taskOf_agg, ↓Bool.not_eq_true', ↓Bool.not_eq_false', ↓decT, ↓decF, out_true, out_false, isin_true, isin_false, Int.toNat_natCast, Int.ofNat_lt, Nat.zero_add, Nat.add_zero, Nat.reduceAdd] at g1
    symm
    rw [Bool.eq_false_iff, Ne, hS']
    omega
  rename_i g1
  simp only [taskOf_agg, ↓Bool.not_eq_true', ↓Bool.not_eq_false', ↓decT, ↓decF, out_true, out_false, isin_true, isin_false, Int.toNat_natCast, Int.ofNat_lt, Nat.zero_add, Nat.add_zero, Nat.reduceAdd] at g1
  have hnm : n = m := by omega
  subst hnm
  refine ⟨Nat, fun i => [(0, .rsl 6 n (imD a)), (1, .rsl 6 n (imD b)), (5, .int .i64 i)], fun _ => [], fun i => n - i, fun i => i ≤ n ∧ (c = true ↔ sameFrom 6 a b n i), [], 0, fun _ => ⟨rfl, rfl⟩, ?_, fun i hI => ?_⟩
  · clear hk
    repeat' (first | with_reducible rfl | ((conv => whnf); first | (with_reducible exact trivial) | ((with_reducible refine and_ff ?_ ?_); · exact rfl) | ((with_reducible refine and_tt ?_ ?_); · exact rfl) | (with_reducible refine And.intro ?_ ?_) | intro _ | (with_reducible refine fin2 hk ?_) | ((with_reducible refine eq_leaf ?_); exact rfl) | exact trivial))
    · omega
    · rw [hS']; simp
  obtain ⟨hi, hc⟩ := hI
  clear hS'
  repeat' (first | with_reducible rfl | ((conv => whnf); first | (with_reducible exact trivial) | ((with_reducible refine and_ff ?_ ?_); · exact rfl) | ((with_reducible refine and_tt ?_ ?_); · exact rfl) | (with_reducible refine And.intro ?_ ?_) | intro _ | (with_reducible refine fin2 hk ?_) | ((with_reducible refine eq_leaf ?_); exact rfl) | exact trivial))
  all_goals try ((first | with_reducible refine (?_ : (_ : Int) ≤ _) | with_reducible refine (?_ : (_ : Int) < _) | with_reducible refine (?_ : (_ : Nat) ≤ _) | with_reducible refine (?_ : (_ : Nat) < _)); clear hk; try simp only [taskOf_agg, ↓Bool.not_eq_true', ↓Bool.not_eq_false', ↓decT, ↓decF, out_true, out_false, isin_true, isin_false, Int.toNat_natCast, Int.ofNat_lt, Nat.zero_add, Nat.add_zero, Nat.reduceAdd] at *; omega)
  all_goals try conv => whnf
  · rename_i g1 g2
    clear hk
    simp only [taskOf_agg, ↓Bool.not_eq_true', ↓Bool.not_eq_false', ↓decT, ↓decF, out_true, out_false, isin_true, isin_false, Int.toNat_natCast, Int.ofNat_lt, Nat.zero_add, Nat.add_zero, Nat.reduceAdd, Int.toNat_zero, Int.reduceToNat, ↓reduceIte, reduceCtorEq, Bool.or_eq_true, Bool.or_eq_false_iff, Bool.and_eq_true, Bool.and_eq_false_iff, Bool.and_true, Bool.and_false] at g1 g2
    symm
    rw [Bool.eq_false_iff, Ne, hc, sameFrom_step g1, all6]
    omega
  · rename_i g1 g2
    clear hk
    simp only [taskOf_agg, ↓Bool.not_eq_true', ↓Bool.not_eq_false', ↓decT, ↓decF, out_true, out_false, isin_true, isin_false, Int.toNat_natCast, Int.ofNat_lt, Nat.zero_add, Nat.add_zero, Nat.reduceAdd, Int.toNat_zero, Int.reduceToNat, ↓reduceIte, reduceCtorEq, Bool.or_eq_true, Bool.or_eq_false_iff, Bool.and_eq_true, Bool.and_eq_false_iff, Bool.and_true, Bool.and_false] at g1 g2
    refine ⟨i + 1, ?_⟩
    repeat' (first | with_reducible rfl | ((conv => whnf); first | (with_reducible exact trivial) | ((with_reducible refine and_ff ?_ ?_); · exact rfl) | ((with_reducible refine and_tt ?_ ?_); · exact rfl) | (with_reducible refine And.intro ?_ ?_) | intro _ | (with_reducible refine fin2 hk ?_) | ((with_reducible refine eq_leaf ?_); exact rfl) | exact trivial))
    · exact g1
    · rw [hc, sameFrom_step g1, all6]
      exact ⟨fun h => h.2, fun h => ⟨by omega, h⟩⟩
    · simp only; omega
  · rename_i g1
    clear hk
    simp only [taskOf_agg, ↓Bool.not_eq_true', ↓Bool.not_eq_false', ↓decT, ↓decF, out_true, out_false, isin_true, isin_false, Int.toNat_natCast, Int.ofNat_lt, Nat.zero_add, Nat.add_zero, Nat.reduceAdd] at g1
    symm
    rw [hc]
    exact sameFrom_end (by omega)

/-- Numbers of a list of rows. -/
def tabI (l : List (List Int)) (i j : Nat) : Int := (l.getD i []).getD j 0
def exT : Task := ⟨3, 4, 2, fun i => [(⟨#[109, 97, 115, 116]⟩ : ByteArray), ⟨#[98, 108, 117, 101]⟩, ⟨#[98, 101, 97, 109]⟩].getD i ⟨#[]⟩,
  tabI [[1, 50, 0, 6000, 0, 300000], [2, 100, 600, 12000, 0, 30000000], [3, 80, 100, 3000, 50000, 2000000]],
  tabI [[0, 1000, 100000, 450, 0], [1, 1000, 100000, 600, -100], [1, 1600, 600000, 850, 100], [2, 2000, 300000, 760, 0]], tabI [[200000], [1000000]], 30, 20⟩
def rConst (d : V.D) : List V.D → Option (Prop × V.D) := fun ds => match ds with
  | [] => some (True, d)
  | _ => none
theorem example_ok : PSound Go.Proofs.Try.prog 56 (mk (rConst exT.D)) := by
  refine psound_mk Try.func56 (by kernel_rfl) rfl (ctx (.nil _)) ?_
  (intro ds p d h; unfold rConst at h; split at h <;> first | (cases h; done) | skip; cases h; refine ⟨Nat.le_of_ble_eq_true rfl, fun hp k hk => ?_⟩)
  refine ⟨[], ?_⟩
  repeat' (first | with_reducible rfl | ((conv => whnf); first | (with_reducible exact trivial) | ((with_reducible refine and_ff ?_ ?_); · exact rfl) | ((with_reducible refine and_tt ?_ ?_); · exact rfl) | (with_reducible refine And.intro ?_ ?_) | intro _ | (with_reducible refine fin2 hk ?_) | ((with_reducible refine eq_leaf ?_); exact rfl) | exact trivial))
  · rename_i i j hi hj
    have hi' : i = 0 ∨ i = 1 ∨ i = 2 := by have : exT.ns = 3 := rfl; omega
    have hj' : j = 0 ∨ j = 1 ∨ j = 2 ∨ j = 3 ∨ j = 4 ∨ j = 5 ∨ j = 6 := by omega
    rcases hi' with rfl | rfl | rfl <;> rcases hj' with rfl | rfl | rfl | rfl | rfl | rfl | rfl <;> rfl
  · rename_i i j hi hj
    have hi' : i = 0 ∨ i = 1 ∨ i = 2 ∨ i = 3 := by have : exT.nx = 4 := rfl; omega
    have hj' : j = 0 ∨ j = 1 ∨ j = 2 ∨ j = 3 ∨ j = 4 := by omega
    rcases hi' with rfl | rfl | rfl | rfl <;> rcases hj' with rfl | rfl | rfl | rfl | rfl <;> rfl
  · rename_i i j hi hj
    have hi' : i = 0 ∨ i = 1 := by have : exT.nc = 2 := rfl; omega
    have hj' : j = 0 := by omega
    rcases hi' with rfl | rfl <;> obtain rfl := hj' <;> rfl
def winA : Nat → Nat → Int := tabI [[0, 200000, 600, 780, -150, 80], [200000, 1000000, 640, 740, -110, 240]]
theorem winds2_ok : PSound Go.Proofs.Try.prog 58 (mk (rConst (.rsl 6 2 (imD winA)))) := by
  refine psound_mk Try.func58 (by kernel_rfl) rfl (ctx (.nil _)) ?_
  (intro ds p d h; unfold rConst at h; split at h <;> first | (cases h; done) | skip; cases h; refine ⟨Nat.le_of_ble_eq_true rfl, fun hp k hk => ?_⟩)
  refine ⟨[], ?_⟩
  repeat' (first | with_reducible rfl | ((conv => whnf); first | (with_reducible exact trivial) | ((with_reducible refine and_ff ?_ ?_); · exact rfl) | ((with_reducible refine and_tt ?_ ?_); · exact rfl) | (with_reducible refine And.intro ?_ ?_) | intro _ | (with_reducible refine fin2 hk ?_) | ((with_reducible refine eq_leaf ?_); exact rfl) | exact trivial))
  · rename_i i j hi hj
    have hi' : i = 0 ∨ i = 1 := by omega
    have hj' : j = 0 ∨ j = 1 ∨ j = 2 ∨ j = 3 ∨ j = 4 ∨ j = 5 := by omega
    rcases hi' with rfl | rfl <;> rcases hj' with rfl | rfl | rfl | rfl | rfl | rfl <;> rfl
end Go.Proofs.Ytbkehkiflfhpfaa
