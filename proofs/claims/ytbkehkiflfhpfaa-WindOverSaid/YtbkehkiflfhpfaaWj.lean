/-
  Contracts of the wind: names.
-/
import Derived.Test.YtbkehkiflfhpfaaWi
set_option linter.unusedVariables false
set_option linter.unusedSimpArgs false
set_option maxRecDepth 100000
set_option maxHeartbeats 4000000
namespace Go.Proofs.Ytbkehkiflfhpfaa
open Go.V

def allFrom (p : Nat → Bool) (i : Nat) : Nat → Bool
  | 0 => true
  | k + 1 => p i && allFrom p (i + 1) k
theorem allFrom_step {p : Nat → Bool} {i n : Nat} (h : i < n) : allFrom p i (n - i) = (p i && allFrom p (i + 1) (n - (i + 1))) := by
  rw [show n - i = (n - (i + 1)) + 1 by omega, allFrom]
def letter (s : ByteArray) (i : Nat) : Bool := isin (byteAt s i) 97 122 || (!decide (i = 0) && (decide (byteAt s i = 45) || isin (byteAt s i) 48 57))
def nameS (s : ByteArray) : Bool := isin s.size 1 24 && allFrom (letter s) 0 s.size
theorem not_out (n a b : Int) : (!out n a b) = isin n a b := by
  rw [Bool.eq_iff_iff]
  simp [out, isin]
def rName : List D → Option (Prop × D) := fun ds => match ds with
  | [.str s] => some (s.size ≤ 9223372036854775807, .bool (nameS s))
  | _ => none

theorem windName_ok : PSound Go.Proofs.Try.prog 22 (mk rName) := by
  refine psound_mk Try.func22 (by kernel_rfl) rfl (ctx lib4_ok) ?_
  (intro ds p d h; unfold rName at h; split at h <;> first | (cases h; done) | skip; cases h; refine ⟨Nat.le_of_ble_eq_true rfl, fun hp k hk => ?_⟩)
  rename_i s
  refine ⟨[.str s], rfl, ?_⟩
  repeat' (first | with_reducible rfl | ((conv => whnf); first | exact trivial | refine And.intro ?_ ?_ | intro _ | (with_reducible refine (?_ : _ = true); (conv => lhs; whnf); done) | exact rfl))
  refine ⟨Nat, fun i => [(0, .str s), (6, .rsl 1 s.size fun i _ => .int .u8 (byteAt s i)), (7, .int .i64 s.size), (8, .int .i64 i)], fun _ => [], fun i => s.size - i, fun i => i ≤ s.size ∧ nameS s = (isin s.size 1 24 && allFrom (letter s) i (s.size - i)), [], 0, fun _ => ⟨rfl, rfl⟩, ?_, fun i hI => ?_⟩
  · repeat' (first | with_reducible rfl | ((conv => whnf); first | exact trivial | refine And.intro ?_ ?_ | intro _ | (with_reducible refine (?_ : _ = true); (conv => lhs; whnf); done) | exact rfl))
    all_goals simp_all [nameS]
  · obtain ⟨hi, hc⟩ := hI
    have key : i < s.size → nameS s = (isin s.size 1 24 && (letter s i && allFrom (letter s) (i + 1) (s.size - (i + 1)))) := fun h => by rw [hc, allFrom_step h]
    have key2 : s.size ≤ i → nameS s = isin s.size 1 24 := fun h => by rw [hc, show s.size - i = 0 by omega]; simp [allFrom]
    clear hc
    repeat' (first | with_reducible rfl | ((conv => whnf); first | exact trivial | refine And.intro ?_ ?_ | intro _ | (with_reducible refine (?_ : _ = true); (conv => lhs; whnf); done) | exact rfl))
    all_goals try refine fin_of hk ?_
    all_goals try refine ⟨i + 1, ?_⟩
    all_goals clear hk
    repeat' (first | with_reducible rfl | ((conv => whnf); first | exact trivial | refine And.intro ?_ ?_ | intro _ | (with_reducible refine (?_ : _ = true); (conv => lhs; whnf); done) | exact rfl))
    all_goals try simp only [Nat.zero_add, Nat.add_zero, Int.toNat_natCast, decide_eq_true_eq, decide_eq_false_iff_not, Bool.not_eq_true', Bool.not_eq_false', Int.ofNat_lt, Int.natCast_pos, Nat.pos_iff_ne_zero, Nat.reduceAdd] at *
    all_goals try omega
    all_goals first
      | (rw [key (by assumption), show letter s i = false by simp [letter, isin] <;> omega]; simp; done)
      | (rw [key (by assumption), show letter s i = true by simp [letter, isin] <;> omega, Bool.true_and]; done)
      | (rw [key2 (by omega), not_out]; done)

theorem refName_ok : PSound Go.Proofs.Try.prog 23 (mk rName) := by
  refine psound_mk Try.func23 (by kernel_rfl) rfl (ctx lib4_ok) ?_
  (intro ds p d h; unfold rName at h; split at h <;> first | (cases h; done) | skip; cases h; refine ⟨Nat.le_of_ble_eq_true rfl, fun hp k hk => ?_⟩)
  rename_i s
  refine ⟨[.str s], rfl, ?_⟩
  repeat' (first | with_reducible rfl | ((conv => whnf); first | exact trivial | refine And.intro ?_ ?_ | intro _ | (with_reducible refine (?_ : _ = true); (conv => lhs; whnf); done) | exact rfl))
  all_goals try (refine fin_of hk ?_; clear hk; repeat' (first | with_reducible rfl | ((conv => whnf); first | exact trivial | refine And.intro ?_ ?_ | intro _ | (with_reducible refine (?_ : _ = true); (conv => lhs; whnf); done) | exact rfl)); all_goals first | exact trivial | (refine (Bool.eq_false_iff.mpr fun h => ?_).symm; simp [nameS, isin] at h; simp_all; omega))
  refine ⟨Nat, fun i => [(0, .str s), (3, .int .i64 i)], fun _ => [], fun i => s.size - i, fun i => i ≤ s.size ∧ nameS s = allFrom (letter s) i (s.size - i), [], 0, fun _ => ⟨rfl, rfl⟩, ?_, fun i hI => ?_⟩
  · repeat' (first | with_reducible rfl | ((conv => whnf); first | exact trivial | refine And.intro ?_ ?_ | intro _ | (with_reducible refine (?_ : _ = true); (conv => lhs; whnf); done) | exact rfl))
    all_goals simp_all [nameS, isin]
    all_goals omega
  · obtain ⟨hi, hc⟩ := hI
    have key : i < s.size → nameS s = (letter s i && allFrom (letter s) (i + 1) (s.size - (i + 1))) := fun h => by rw [hc, allFrom_step h]
    have key2 : s.size ≤ i → nameS s = true := fun h => by rw [hc, show s.size - i = 0 by omega]; simp [allFrom]
    clear hc
    repeat' (first | with_reducible rfl | ((conv => whnf); first | exact trivial | refine And.intro ?_ ?_ | intro _ | (with_reducible refine (?_ : _ = true); (conv => lhs; whnf); done) | exact rfl))
    all_goals try refine fin_of hk ?_
    all_goals try refine ⟨i + 1, ?_⟩
    all_goals clear hk
    repeat' (first | with_reducible rfl | ((conv => whnf); first | exact trivial | refine And.intro ?_ ?_ | intro _ | (with_reducible refine (?_ : _ = true); (conv => lhs; whnf); done) | exact rfl))
    all_goals try simp only [Nat.zero_add, Nat.add_zero, Int.toNat_natCast, decide_eq_true_eq, decide_eq_false_iff_not, Bool.not_eq_true', Bool.not_eq_false', Int.ofNat_lt, Int.natCast_pos, Nat.pos_iff_ne_zero, Nat.reduceAdd] at *
    all_goals try omega
    all_goals first
      | (rw [key (by assumption), show letter s i = false by simp [letter, isin] <;> omega]; simp; done)
      | (rw [key (by assumption), show letter s i = true by simp [letter, isin] <;> omega, Bool.true_and]; done)
      | (rw [key2 (by omega)]; done)
end Go.Proofs.Ytbkehkiflfhpfaa
