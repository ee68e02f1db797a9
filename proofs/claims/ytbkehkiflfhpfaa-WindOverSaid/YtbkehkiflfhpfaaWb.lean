/-
  Contracts of the wind: lists of bands.
-/
import Derived.Test.YtbkehkiflfhpfaaWa
set_option linter.unusedVariables false
set_option linter.unusedSimpArgs false
set_option maxRecDepth 100000
namespace Go.Proofs.Ytbkehkiflfhpfaa
open Go.V

def lib4 : Lib := (96, mk (r11 winds)) :: (85, mk (r11 fun a b => decide (b < a))) :: (97, mk rWithin) :: (110, mk rAll) :: (111, mk rCommon) :: lib3
theorem lib4_ok : LibOK Go.Proofs.Try.prog lib4 := .cons winds_ok (.cons none_ok (.cons within_ok (.cons all_ok (.cons common_ok lib3_ok))))

/-- The first place that is wrong, and how. -/
def fe (e : Nat → Int) (i : Nat) : Nat → Int × Int
  | 0 => (0, 0)
  | k + 1 => if e i ≠ 0 then (i, e i) else fe e (i + 1) k
theorem fe_step (e : Nat → Int) (i n : Nat) (h : i < n) : fe e i (n - i) = if e i ≠ 0 then ((i : Int), e i) else fe e (i + 1) (n - (i + 1)) := by
  rw [show n - i = (n - (i + 1)) + 1 by omega, fe]

def fromOf (a : Nat → Nat → Int) (i : Nat) : Int := if i = 0 then 0 else a (i - 1) 1
def bandErr (a : Nat → Nat → Int) (i : Nat) : Int :=
  if a i 0 ≠ fromOf a i then 2 else if a i 1 ≤ a i 0 then 7 else if 100000000 < a i 1 then 7 else if winds (a i 2) (a i 3) = false then 7 else if winds (a i 4) (a i 5) = false then 7 else 0
def checkBands (n : Nat) (a : Nat → Nat → Int) : Int × Int := if isin n 1 20 = true then fe (bandErr a) 0 n else (0, 3)

def rCheckBands : List D → Option (Prop × D) := fun ds => match ds with
  | [.rsl 6 n g] => some (IM n 6 g, .tup [.int .i64 (checkBands n (im g)).1, .int .i64 (checkBands n (im g)).2])
  | _ => none

theorem refCheckBands_ok : PSound Go.Proofs.Try.prog 51 (mk rCheckBands) := by
  refine psound_mk Try.func51 (by kernel_rfl) rfl (ctx lib4_ok) ?_
  (intro ds p d h; unfold rCheckBands at h; split at h <;> first | (cases h; done) | skip; cases h; refine ⟨Nat.le_of_ble_eq_true rfl, fun hp k hk => ?_⟩)
  rename_i n g
  refine ⟨[.rsl 6 n (imD (im g))], rfl, hp, ?_⟩
  clear hp
  generalize im g = a at *
  repeat' (first | with_reducible rfl | ((conv => whnf); first | exact trivial | refine And.intro ?_ ?_ | intro _ | (with_reducible refine (?_ : _ = true); (conv => lhs; whnf); done) | exact rfl))
  · (refine fin_of hk ?_; clear hk; repeat' (first | with_reducible rfl | ((conv => whnf); first | exact trivial | refine And.intro ?_ ?_ | intro _ | (with_reducible refine (?_ : _ = true); (conv => lhs; whnf); done) | exact rfl)))
    all_goals simp_all [checkBands]
  · rename_i hlen
    refine ⟨Nat, fun i => [(0, .rsl 6 n (imD a)), (4, .int .i64 i)], fun _ => [], fun i => n - i, fun i => i ≤ n ∧ checkBands n a = fe (bandErr a) i (n - i), [], 0, fun _ => ⟨rfl, rfl⟩, ?_, fun i hI => ?_⟩
    · repeat' (first | with_reducible rfl | ((conv => whnf); first | exact trivial | refine And.intro ?_ ?_ | intro _ | (with_reducible refine (?_ : _ = true); (conv => lhs; whnf); done) | exact rfl))
      all_goals simp_all [checkBands]
    · obtain ⟨hi, hc⟩ := hI
      have hn : n ≤ 20 := by simp [isin] at hlen; omega
      have e1 : ((i : Int) - 1).toNat = i - 1 := by omega
      have key : i < n → checkBands n a = if bandErr a i ≠ 0 then ((i : Int), bandErr a i) else fe (bandErr a) (i + 1) (n - (i + 1)) := fun h => by rw [hc, fe_step _ _ _ h]
      have key2 : n ≤ i → checkBands n a = (0, 0) := fun h => by rw [hc, show n - i = 0 by omega]; rfl
      clear hc hlen
      repeat' (first | with_reducible rfl | ((conv => whnf); first | exact trivial | refine And.intro ?_ ?_ | intro _ | (with_reducible refine (?_ : _ = true); (conv => lhs; whnf); done) | exact rfl))
      all_goals try refine fin_of hk ?_
      all_goals try refine ⟨i + 1, ?_⟩
      all_goals clear hk
      repeat' (first | with_reducible rfl | ((conv => whnf); first | exact trivial | refine And.intro ?_ ?_ | intro _ | (with_reducible refine (?_ : _ = true); (conv => lhs; whnf); done) | exact rfl))
      all_goals simp only [Nat.zero_add, Nat.add_zero, Int.toNat_natCast, e1, decide_eq_true_eq, decide_eq_false_iff_not, Bool.not_eq_true', Bool.not_eq_false', Int.ofNat_lt, Int.natCast_pos, Nat.pos_iff_ne_zero, Nat.reduceAdd] at *
      all_goals try omega
      all_goals simp_all [bandErr, fromOf]
      all_goals omega
end Go.Proofs.Ytbkehkiflfhpfaa
