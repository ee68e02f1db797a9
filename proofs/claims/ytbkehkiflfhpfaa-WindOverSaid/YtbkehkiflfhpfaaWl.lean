/-
  Contracts of the wind: numbers that are no parts of winds, bands and sources that are wrong.
-/
import Derived.Test.YtbkehkiflfhpfaaWk
set_option linter.unusedVariables false
set_option linter.unusedSimpArgs false
set_option maxRecDepth 100000
set_option maxHeartbeats 4000000
namespace Go.Proofs.Ytbkehkiflfhpfaa
open Go.V

/-- The first number from one on for which something is so; -1: there is none. -/
def firstFrom (p : Nat → Bool) (i : Nat) : Nat → Int
  | 0 => -1
  | k + 1 => if p i = true then (i : Int) else firstFrom p (i + 1) k
theorem firstFrom_step {p : Nat → Bool} {i n : Nat} (h : i < n) : firstFrom p i (n - i) = if p i = true then (i : Int) else firstFrom p (i + 1) (n - (i + 1)) := by
  rw [show n - i = (n - (i + 1)) + 1 by omega, firstFrom]
theorem firstFrom_end {p : Nat → Bool} {i n : Nat} (h : n ≤ i) : firstFrom p i (n - i) = -1 := by
  rw [show n - i = 0 by omega, firstFrom]
theorem firstFrom_spec (p : Nat → Bool) : ∀ (k i : Nat), (firstFrom p i k = -1 ∧ ∀ j, i ≤ j → j < i + k → p j = false) ∨ ∃ m : Nat, firstFrom p i k = m ∧ i ≤ m ∧ m < i + k ∧ p m = true ∧ ∀ j, i ≤ j → j < m → p j = false
  | 0, i => .inl ⟨rfl, fun j h1 h2 => absurd h2 (by omega)⟩
  | k + 1, i => by
    cases hp : p i with
    | true => exact .inr ⟨i, by simp [firstFrom, hp], Nat.le_refl _, by omega, hp, fun j h1 h2 => absurd h2 (by omega)⟩
    | false =>
      have e : firstFrom p i (k + 1) = firstFrom p (i + 1) k := by simp [firstFrom, hp]
      rw [e]
      rcases firstFrom_spec p k (i + 1) with ⟨h1, h2⟩ | ⟨m, h1, h2, h3, h4, h5⟩
      · refine .inl ⟨h1, fun j g1 g2 => ?_⟩
        rcases Nat.eq_or_lt_of_le g1 with rfl | g
        · exact hp
        · exact h2 j g (by omega)
      · refine .inr ⟨m, h1, by omega, by omega, h4, fun j g1 g2 => ?_⟩
        rcases Nat.eq_or_lt_of_le g1 with rfl | g
        · exact hp
        · exact h5 j g g2
theorem firstFrom_any (p : Nat → Bool) (n : Nat) : decide (0 ≤ firstFrom p 0 n) = anyBelow p n := by
  rcases firstFrom_spec p n 0 with ⟨h1, h2⟩ | ⟨m, h1, h2, h3, h4, h5⟩
  · rw [h1]
    symm
    rw [show decide ((0 : Int) ≤ -1) = false from rfl]
    rw [Bool.eq_false_iff]
    intro h
    obtain ⟨k, hk, hp⟩ := anyBelow_iff.mp h
    rw [h2 k (by omega) (by omega)] at hp
    cases hp
  · rw [h1, decide_eq_true (by omega)]
    exact (anyBelow_iff.mpr ⟨m, by omega, h4⟩).symm

def stormy (a : Nat → Nat → Int) (i : Nat) : Bool := out (a i 0) (-20000) 20000
theorem stormOne_ok : PSound Go.Proofs.Try.prog 117 (mk (r1 fun n => out n (-20000) 20000)) := by
  refine psound_mk Try.func117 (by kernel_rfl) rfl (ctx lib1_ok) ?_
  (intro ds p d h; unfold r1 at h; split at h <;> first | (cases h; done) | skip; cases h; refine ⟨Nat.le_of_ble_eq_true rfl, fun hp k hk => ?_⟩)
  rename_i a
  refine ⟨[.int .i64 a], ?_⟩
  repeat' (first | with_reducible rfl | ((conv => whnf); first | exact trivial | refine And.intro ?_ ?_ | intro _ | (with_reducible refine (?_ : _ = true); (conv => lhs; whnf); done) | exact rfl))
  all_goals (refine fin_of hk ?_; clear hk; repeat' (first | with_reducible rfl | ((conv => whnf); first | exact trivial | refine And.intro ?_ ?_ | intro _ | (with_reducible refine (?_ : _ = true); (conv => lhs; whnf); done) | exact rfl)))
def lib12 : Lib := (117, mk (r1 fun n => out n (-20000) 20000)) :: (21, mk rCheck) :: lib11
theorem lib12_ok : LibOK Go.Proofs.Try.prog lib12 := .cons stormOne_ok (.cons refCheck_ok lib11_ok)

def rIndexInt : List D → Option (Prop × D) := fun ds => match ds with
  | [.rsl 1 n g, .fn 117 [] []] => some (IM n 1 g ∧ n ≤ 1099511627776, .int .i64 (firstFrom (stormy (im g)) 0 n))
  | _ => none
theorem indexInt_ok : PSound Go.Proofs.Try.prog 120 (mk rIndexInt) := by
  refine psound_mk Try.func120 (by kernel_rfl) rfl (ctx lib12_ok) ?_
  (intro ds p d h; unfold rIndexInt at h; split at h <;> first | (cases h; done) | skip; cases h; refine ⟨Nat.le_of_ble_eq_true rfl, fun hp k hk => ?_⟩)
  rename_i n g
  obtain ⟨h1, h2⟩ := hp
  refine ⟨[.rsl 1 n (imD (im g)), .fn 117 [] []], rfl, h1, ?_⟩
  clear h1
  generalize im g = a at *
  generalize hS : firstFrom (stormy a) 0 n = c at *
  repeat' (first | with_reducible rfl | ((conv => whnf); first | exact trivial | refine And.intro ?_ ?_ | intro _ | (with_reducible refine (?_ : _ = true); (conv => lhs; whnf); done) | exact rfl))
  refine ⟨Nat, fun i => [(0, .rsl 1 n (imD a)), (1, .fn 117 [] []), (7, .int .i64 n), (8, .int .i64 i)], fun _ => [], fun i => n - i, fun i => i ≤ n ∧ c = firstFrom (stormy a) i (n - i), [], 0, fun _ => ⟨rfl, rfl⟩, ?_, fun i hI => ?_⟩
  · repeat' (first | with_reducible rfl | ((conv => whnf); first | exact trivial | refine And.intro ?_ ?_ | intro _ | (with_reducible refine (?_ : _ = true); (conv => lhs; whnf); done) | exact rfl))
    · omega
    · exact hS.symm
  obtain ⟨hi, hc⟩ := hI
  clear hS
  have f1 : decide ((i : Int) < n) = true → i < n := fun h => Int.ofNat_lt.mp (of_decide_eq_true h)
  repeat' (first | with_reducible rfl | ((conv => whnf); first | exact trivial | refine And.intro ?_ ?_ | intro _ | (with_reducible refine (?_ : _ = true); (conv => lhs; whnf); done) | exact rfl))
  · omega
  · exact of_decide_eq_true (by assumption)
  · rename_i g1 g2
    rw [firstFrom_step (f1 g1), if_pos (by exact g2)] at hc
    subst hc
    (refine fin_of hk ?_; clear hk; (conv => whnf); repeat' (first | exact trivial | refine And.intro ?_ ?_ | exact rfl))
  · omega
  · omega
  · rename_i g1 g2
    have e1 := f1 g1
    rw [firstFrom_step e1, if_neg (by rw [show stormy a i = false from g2]; exact Bool.noConfusion)] at hc
    clear hk
    refine ⟨i + 1, ?_⟩
    repeat' (first | with_reducible rfl | ((conv => whnf); first | exact trivial | refine And.intro ?_ ?_ | intro _ | (with_reducible refine (?_ : _ = true); (conv => lhs; whnf); done) | exact rfl))
    · omega
    · exact hc
    · simp only; omega
  · rename_i g1
    rw [firstFrom_end (by have := of_decide_eq_false g1; omega)] at hc
    subst hc
    (refine fin_of hk ?_; clear hk; (conv => whnf); repeat' (first | exact trivial | refine And.intro ?_ ?_ | exact rfl))
def rStorm : List D → Option (Prop × D) := fun ds => match ds with
  | [.rsl 1 n g] => some (IM n 1 g ∧ n ≤ 1099511627776, .bool (anyBelow (stormy (im g)) n))
  | _ => none
def rStormAny : List D → Option (Prop × D) := fun ds => match ds with
  | [.rsl 1 n g, .fn 117 [] []] => some (IM n 1 g ∧ n ≤ 1099511627776, .bool (anyBelow (stormy (im g)) n))
  | _ => none
def lib13 : Lib := (120, mk rIndexInt) :: lib12
theorem lib13_ok : LibOK Go.Proofs.Try.prog lib13 := .cons indexInt_ok lib12_ok
theorem containsInt_ok : PSound Go.Proofs.Try.prog 116 (mk rStormAny) := by
  refine psound_mk Try.func116 (by kernel_rfl) rfl (ctx lib13_ok) ?_
  (intro ds p d h; unfold rStormAny at h; split at h <;> first | (cases h; done) | skip; cases h; refine ⟨Nat.le_of_ble_eq_true rfl, fun hp k hk => ?_⟩)
  rename_i n g
  obtain ⟨h1, h2⟩ := hp
  refine ⟨[.rsl 1 n (imD (im g)), .fn 117 [] []], rfl, h1, ?_⟩
  clear h1
  generalize im g = a at *
  repeat' (first | with_reducible rfl | ((conv => whnf); first | exact trivial | refine And.intro ?_ ?_ | intro _ | (with_reducible refine (?_ : _ = true); (conv => lhs; whnf); done) | exact rfl))
  · exact h2
  · (refine fin_of hk ?_; clear hk; repeat' (first | with_reducible rfl | ((conv => whnf); first | exact trivial | refine And.intro ?_ ?_ | intro _ | (with_reducible refine (?_ : _ = true); (conv => lhs; whnf); done) | exact rfl)))
    exact firstFrom_any _ _
def lib14 : Lib := (116, mk rStormAny) :: lib13
theorem lib14_ok : LibOK Go.Proofs.Try.prog lib14 := .cons containsInt_ok lib13_ok
theorem storm_ok : PSound Go.Proofs.Try.prog 98 (mk rStorm) := by
  refine psound_mk Try.func98 (by kernel_rfl) rfl (ctx lib14_ok) ?_
  (intro ds p d h; unfold rStorm at h; split at h <;> first | (cases h; done) | skip; cases h; refine ⟨Nat.le_of_ble_eq_true rfl, fun hp k hk => ?_⟩)
  rename_i n g
  obtain ⟨h1, h2⟩ := hp
  refine ⟨[.rsl 1 n (imD (im g))], rfl, h1, ?_⟩
  clear h1
  generalize im g = a at *
  repeat' (first | with_reducible rfl | ((conv => whnf); first | exact trivial | refine And.intro ?_ ?_ | intro _ | (with_reducible refine (?_ : _ = true); (conv => lhs; whnf); done) | exact rfl))
  · exact h2
  · (refine fin_of hk ?_; clear hk; repeat' (first | with_reducible rfl | ((conv => whnf); first | exact trivial | refine And.intro ?_ ?_ | intro _ | (with_reducible refine (?_ : _ = true); (conv => lhs; whnf); done) | exact rfl)))
def lib15 : Lib := (98, mk rStorm) :: lib14
theorem lib15_ok : LibOK Go.Proofs.Try.prog lib15 := .cons storm_ok lib14_ok

def srcKind (kind err late life low high : Int) : Int :=
  if isin kind 1 3 = false then 2 else if (isin err 0 5000 && isin late 0 6000 && isin life 1 60000 && isin low 0 99999999 && isin high 0 99999999 && decide (low ≤ high)) = false then 7 else 0
def rWindSource : List V.D → Option (Prop × V.D) := fun ds => match ds with
  | [.agg [.str _, .int .i64 k, .int .i64 e, .int .i64 l, .int .i64 f, .int .i64 a, .int .i64 b]] => some (True, .int .i64 (srcKind k e l f a b))
  | _ => none
theorem out_isin (n a b : Int) : out n a b = !isin n a b := by
  rw [← not_out, Bool.not_not]
theorem windSource_ok : PSound Go.Proofs.Try.prog 60 (mk rWindSource) := by
  refine psound_mk Try.func60 (by kernel_rfl) rfl (ctx lib15_ok) ?_
  (intro ds p d h; unfold rWindSource at h; split at h <;> first | (cases h; done) | skip; cases h; refine ⟨Nat.le_of_ble_eq_true rfl, fun hp k hk => ?_⟩)
  rename_i x k1 e l f a b
  refine ⟨[.agg [.str x, .int .i64 k1, .int .i64 e, .int .i64 l, .int .i64 f, .int .i64 a, .int .i64 b]], ?_⟩
  generalize hS : srcKind k1 e l f a b = c at *
  repeat' (first | with_reducible rfl | ((conv => whnf); first | exact trivial | refine And.intro ?_ ?_ | intro _ | (with_reducible refine (?_ : _ = true); (conv => lhs; whnf); done) | exact rfl))
  all_goals ((refine fin_of hk ?_; clear hk; (conv => whnf); repeat' (first | exact trivial | refine And.intro ?_ ?_ | exact rfl)); rw [← hS]; clear hS; simp only [out_isin, Bool.not_eq_true', Bool.not_eq_false', decide_eq_true_eq, decide_eq_false_iff_not] at *; simp [srcKind, *] <;> omega)

def bandE (b0 b1 b2 b3 b4 b5 f : Int) : Int :=
  if b0 ≠ f then 2 else if b1 ≤ b0 then 7 else if 100000000 < b1 then 7 else if winds b2 b3 = false then 7 else if winds b4 b5 = false then 7 else 0
def rWindBand : List V.D → Option (Prop × V.D) := fun ds => match ds with
  | [.agg [.int .i64 b0, .int .i64 b1, .int .i64 b2, .int .i64 b3, .int .i64 b4, .int .i64 b5], .int .i64 f] => some (0 ≤ f ∧ f ≤ 100000000, .int .i64 (bandE b0 b1 b2 b3 b4 b5 f))
  | _ => none
theorem storm4 (b2 b3 b4 b5 : Int) : anyBelow (stormy (im fun i j => [D.int .i64 b2, D.int .i64 b3, D.int .i64 b4, D.int .i64 b5].getD (i * 1 + j) D.top)) 4 = (((!isin b2 (-20000) 20000 || !isin b3 (-20000) 20000) || !isin b4 (-20000) 20000) || !isin b5 (-20000) 20000) := by
  simp [anyBelow, stormy, im, toI, out_isin]
theorem windBand_ok : PSound Go.Proofs.Try.prog 95 (mk rWindBand) := by
  refine psound_mk Try.func95 (by kernel_rfl) rfl (ctx lib15_ok) ?_
  (intro ds p d h; unfold rWindBand at h; split at h <;> first | (cases h; done) | skip; cases h; refine ⟨Nat.le_of_ble_eq_true rfl, fun hp k hk => ?_⟩)
  rename_i b0 b1 b2 b3 b4 b5 f
  refine ⟨[.agg [.int .i64 b0, .int .i64 b1, .int .i64 b2, .int .i64 b3, .int .i64 b4, .int .i64 b5], .int .i64 f], ?_⟩
  generalize hS : bandE b0 b1 b2 b3 b4 b5 f = c at *
  repeat' (first | with_reducible rfl | ((conv => whnf); first | exact trivial | refine And.intro ?_ ?_ | intro _ | (with_reducible refine (?_ : _ = true); (conv => lhs; whnf); done) | exact rfl))
  rotate_left
  · omega
  · omega
  rotate_left
  · rename_i i j hi hj
    have h1 : i = 0 ∨ i = 1 ∨ i = 2 ∨ i = 3 := by omega
    obtain rfl : j = 0 := by omega
    rcases h1 with rfl | rfl | rfl | rfl <;> rfl
  · exact Nat.le_of_ble_eq_true rfl
  all_goals ((refine fin_of hk ?_; clear hk; (conv => whnf); repeat' (first | exact trivial | refine And.intro ?_ ?_ | exact rfl)); rw [← hS]; clear hS; simp only [storm4, out_isin, Bool.not_eq_true', Bool.not_eq_false', decide_eq_true_eq, decide_eq_false_iff_not] at *; simp [bandE, winds, isin] at * <;> omega)
end Go.Proofs.Ytbkehkiflfhpfaa
