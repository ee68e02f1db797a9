/-
  Contracts of aiming: numbers, spans, products, the least and the greatest of some numbers.
-/
import Derived.Test.YtbakdblbknfadaaMi
section
set_option linter.unusedVariables false
set_option linter.unusedSimpArgs false
set_option maxRecDepth 100000
set_option maxHeartbeats 4000000
namespace Go.Proofs.Ytbakdblbknfadaa
open Go.V
theorem aOut_ok : PSound Go.Proofs.Try.prog 48 (mk rOut) := by
  refine psound_mk Try.func48 (by kernel_rfl) rfl (ctx (.nil _)) ?_
  (intro ds p d h; unfold rOut at h; split at h <;> first | (cases h; done) | skip; cases h; refine ⟨Nat.le_of_ble_eq_true rfl, fun hp k hk => ?_⟩)
  rename_i a b c
  refine ⟨[.int .i64 a, .int .i64 b, .int .i64 c], ?_⟩
  repeat' (first | ((with_reducible refine kok ?_); kernel_rfl) | ((with_reducible refine keq_mk ?_); kernel_rfl) | with_reducible rfl | ((conv => whnf); first | exact trivial | refine And.intro ?_ ?_ | intro _ | (with_reducible refine (?_ : _ = true); (conv => lhs; whnf); done) | exact rfl))
  all_goals (refine fin_of hk ?_; clear hk; repeat' (first | ((with_reducible refine kok ?_); kernel_rfl) | ((with_reducible refine keq_mk ?_); kernel_rfl) | with_reducible rfl | ((conv => whnf); first | exact trivial | refine And.intro ?_ ?_ | intro _ | (with_reducible refine (?_ : _ = true); (conv => lhs; whnf); done) | exact rfl)))
  all_goals (simp_all [out] <;> omega)
theorem qIn_ok : PSound Go.Proofs.Try.prog 50 (mk rIn) := by
  refine psound_mk Try.func50 (by kernel_rfl) rfl (ctx (.nil _)) ?_
  (intro ds p d h; unfold rIn at h; split at h <;> first | (cases h; done) | skip; cases h; refine ⟨Nat.le_of_ble_eq_true rfl, fun hp k hk => ?_⟩)
  rename_i a b c
  refine ⟨[.int .i64 a, .int .i64 b, .int .i64 c], ?_⟩
  repeat' (first | ((with_reducible refine kok ?_); kernel_rfl) | ((with_reducible refine keq_mk ?_); kernel_rfl) | with_reducible rfl | ((conv => whnf); first | exact trivial | refine And.intro ?_ ?_ | intro _ | (with_reducible refine (?_ : _ = true); (conv => lhs; whnf); done) | exact rfl))
  all_goals (refine fin_of hk ?_; clear hk; repeat' (first | ((with_reducible refine kok ?_); kernel_rfl) | ((with_reducible refine keq_mk ?_); kernel_rfl) | with_reducible rfl | ((conv => whnf); first | exact trivial | refine And.intro ?_ ?_ | intro _ | (with_reducible refine (?_ : _ = true); (conv => lhs; whnf); done) | exact rfl)))
  all_goals (simp_all [isin] <;> omega)
noncomputable def la1 : Lib := (48, mk rOut) :: (50, mk rIn) :: lib40
theorem la1_ok : LibOK Go.Proofs.Try.prog la1 := .cons aOut_ok (.cons qIn_ok lib40_ok)
theorem qPlace_ok : PSound Go.Proofs.Try.prog 52 (mk (r1 fun n => isin n (-500000000) 500000000)) := by
  refine psound_mk Try.func52 (by kernel_rfl) rfl (ctx la1_ok) ?_
  (intro ds p d h; unfold r1 at h; split at h <;> first | (cases h; done) | skip; cases h; refine ⟨Nat.le_of_ble_eq_true rfl, fun hp k hk => ?_⟩)
  rename_i a
  refine ⟨[.int .i64 a], ?_⟩
  repeat' (first | ((with_reducible refine kok ?_); kernel_rfl) | ((with_reducible refine keq_mk ?_); kernel_rfl) | with_reducible rfl | ((conv => whnf); first | exact trivial | refine And.intro ?_ ?_ | intro _ | (with_reducible refine (?_ : _ = true); (conv => lhs; whnf); done) | exact rfl))
  all_goals (refine fin_of hk ?_; clear hk; repeat' (first | ((with_reducible refine kok ?_); kernel_rfl) | ((with_reducible refine keq_mk ?_); kernel_rfl) | with_reducible rfl | ((conv => whnf); first | exact trivial | refine And.intro ?_ ?_ | intro _ | (with_reducible refine (?_ : _ = true); (conv => lhs; whnf); done) | exact rfl)))
/-- A span whose ends are from -m to m. -/
def sideB (lo hi m : Int) : Bool := isin lo (-m) m && isin hi lo m
theorem side_true (lo hi m : Int) : (sideB lo hi m = true) = (-m ≤ lo ∧ lo ≤ hi ∧ hi ≤ m) := by
  simp [sideB, isin]
  omega
def rAAway : List D → Option (Prop × D) := fun ds => match ds with
  | [.agg [.int .i64 a, .int .i64 b]] => some (True, .bool (!sideB a b 500000000))
  | _ => none
theorem aAway_ok : PSound Go.Proofs.Try.prog 49 (mk rAAway) := by
  refine psound_mk Try.func49 (by kernel_rfl) rfl (ctx la1_ok) ?_
  (intro ds p d h; unfold rAAway at h; split at h <;> first | (cases h; done) | skip; cases h; refine ⟨Nat.le_of_ble_eq_true rfl, fun hp k hk => ?_⟩)
  rename_i a b
  refine ⟨[.agg [.int .i64 a, .int .i64 b]], ?_⟩
  generalize hS : (!sideB a b 500000000) = c at *
  repeat' (first | ((with_reducible refine kok ?_); kernel_rfl) | ((with_reducible refine keq_mk ?_); kernel_rfl) | with_reducible rfl | ((conv => whnf); first | (with_reducible exact trivial) | ((with_reducible refine and_ff ?_ ?_); · exact rfl) | ((with_reducible refine and_tt ?_ ?_); · exact rfl) | (with_reducible refine And.intro ?_ ?_) | intro _ | (with_reducible refine fin2 hk ?_) | ((with_reducible refine eq_leaf ?_); exact rfl) | exact trivial))
  all_goals first | omega | (rw [← hS]; clear hS; simp only [sideB, ← out_isin, Bool.not_and, *]; simp_all)
def areaB (a b c d : Int) : Bool := sideB a b 500000000 && sideB c d 500000000
theorem area_true (a b c d : Int) : (areaB a b c d = true) = ((-500000000 ≤ a ∧ a ≤ b ∧ b ≤ 500000000) ∧ -500000000 ≤ c ∧ c ≤ d ∧ d ≤ 500000000) := by
  simp only [areaB, Bool.and_eq_true, side_true]
def rQArea : List D → Option (Prop × D) := fun ds => match ds with
  | [.agg [.int .i64 a, .int .i64 b, .int .i64 c, .int .i64 d]] => some (True, .bool (areaB a b c d))
  | _ => none
noncomputable def la2 : Lib := (52, mk (r1 fun n => isin n (-500000000) 500000000)) :: (49, mk rAAway) :: la1
theorem la2_ok : LibOK Go.Proofs.Try.prog la2 := .cons qPlace_ok (.cons aAway_ok la1_ok)
theorem qArea_ok : PSound Go.Proofs.Try.prog 51 (mk rQArea) := by
  refine psound_mk Try.func51 (by kernel_rfl) rfl (ctx la2_ok) ?_
  (intro ds p d h; unfold rQArea at h; split at h <;> first | (cases h; done) | skip; cases h; refine ⟨Nat.le_of_ble_eq_true rfl, fun hp k hk => ?_⟩)
  rename_i a b c d
  refine ⟨[.agg [.int .i64 a, .int .i64 b, .int .i64 c, .int .i64 d]], ?_⟩
  generalize hS : areaB a b c d = e at *
  repeat' (first | ((with_reducible refine kok ?_); kernel_rfl) | ((with_reducible refine keq_mk ?_); kernel_rfl) | with_reducible rfl | ((conv => whnf); first | (with_reducible exact trivial) | ((with_reducible refine and_ff ?_ ?_); · exact rfl) | ((with_reducible refine and_tt ?_ ?_); · exact rfl) | (with_reducible refine And.intro ?_ ?_) | intro _ | (with_reducible refine fin2 hk ?_) | ((with_reducible refine eq_leaf ?_); exact rfl) | exact trivial))
  all_goals (rw [← hS]; clear hS; simp only [isin_true, isin_false, taskOf_agg, ↓Bool.not_eq_true', ↓Bool.not_eq_false', ↓decT, ↓decF, out_true, out_false, isin_true, isin_false, Int.toNat_natCast, Int.ofNat_lt, Nat.zero_add, Nat.add_zero, Nat.reduceAdd] at *; rw [Bool.eq_iff_iff]; simp only [area_true, decide_eq_true_eq, Bool.false_eq_true, iff_false, iff_true, true_iff, false_iff]; omega)
/-- Division, rounded down. -/
def rDown : List D → Option (Prop × D) := fun ds => match ds with
  | [.int .i64 a, .int .i64 b] => some (0 < b ∧ -4611686018427387904 ≤ a ∧ a ≤ 4611686018427387904, .int .i64 (a / b))
  | _ => none
theorem tmod_neg {a b : Int} (hb : 0 < b) : a.tmod b < 0 ↔ a < a.tdiv b * b := by
  have h1 := Int.tmod_add_mul_tdiv a b
  have hc : b * a.tdiv b = a.tdiv b * b := Int.mul_comm _ _
  omega
theorem aDown_ok : PSound Go.Proofs.Try.prog 101 (mk rDown) := by
  refine psound_mk Try.func101 (by kernel_rfl) rfl (ctx (.nil _)) ?_
  (intro ds p d h; unfold rDown at h; split at h <;> first | (cases h; done) | skip; cases h; refine ⟨Nat.le_of_ble_eq_true rfl, fun hp k hk => ?_⟩)
  rename_i a b
  refine ⟨[.int .i64 a, .int .i64 b], ?_⟩
  have hf := tdiv_facts a (b := b) (by omega)
  have hg := tmod_neg (a := a) (b := b) (by omega)
  obtain ⟨f1, f2, f3, f4⟩ := hf
  generalize hS : a / b = c at *
  repeat' (first | ((with_reducible refine kok ?_); kernel_rfl) | ((with_reducible refine keq_mk ?_); kernel_rfl) | with_reducible rfl | ((conv => whnf); first | (with_reducible exact trivial) | ((with_reducible refine and_ff ?_ ?_); · exact rfl) | ((with_reducible refine and_tt ?_ ?_); · exact rfl) | (with_reducible refine And.intro ?_ ?_) | intro _ | (with_reducible refine fin2 hk ?_) | ((with_reducible refine eq_leaf ?_); exact rfl) | exact trivial))
  all_goals try simp only [↓decT, ↓decF] at *
  all_goals omega
theorem qFloor_ok : PSound Go.Proofs.Try.prog 116 (mk rDown) := by
  refine psound_mk Try.func116 (by kernel_rfl) rfl (ctx (.nil _)) ?_
  (intro ds p d h; unfold rDown at h; split at h <;> first | (cases h; done) | skip; cases h; refine ⟨Nat.le_of_ble_eq_true rfl, fun hp k hk => ?_⟩)
  rename_i a b
  refine ⟨[.int .i64 a, .int .i64 b], ?_⟩
  have hf := tdiv_facts a (b := b) (by omega)
  obtain ⟨f1, f2, f3, f4⟩ := hf
  generalize hS : a / b = c at *
  repeat' (first | ((with_reducible refine kok ?_); kernel_rfl) | ((with_reducible refine keq_mk ?_); kernel_rfl) | with_reducible rfl | ((conv => whnf); first | (with_reducible exact trivial) | ((with_reducible refine and_ff ?_ ?_); · exact rfl) | ((with_reducible refine and_tt ?_ ?_); · exact rfl) | (with_reducible refine And.intro ?_ ?_) | intro _ | (with_reducible refine fin2 hk ?_) | ((with_reducible refine eq_leaf ?_); exact rfl) | exact trivial))
  all_goals try simp only [↓decT, ↓decF] at *
  all_goals omega
/-- The square of a distance in whole metres. -/
def sqM (n : Int) : Int := (max n (-n) + 999) / 1000 * ((max n (-n) + 999) / 1000)
theorem sq_nn {x : Int} (h : 0 ≤ x ∧ x ≤ 100000001) : 0 ≤ x * x ∧ x * x ≤ 10000000200000001 := by
  have h1 := Int.mul_nonneg h.1 h.1
  have h2 : x * x ≤ 100000001 * x := Int.mul_le_mul_of_nonneg_right h.2 h.1
  omega
theorem sqM_in {n : Int} (h : -100000000000 ≤ n ∧ n ≤ 100000000000) : 0 ≤ sqM n ∧ sqM n ≤ 10000000200000001 := sq_nn (x := (max n (-n) + 999) / 1000) (by omega)
theorem tdiv_pos {a b : Int} (ha : 0 ≤ a) : a.tdiv b = a / b := Int.tdiv_eq_ediv_of_nonneg ha
def rSquare : List D → Option (Prop × D) := fun ds => match ds with
  | [.int .i64 n] => some (-100000000000 ≤ n ∧ n ≤ 100000000000, .int .i64 (sqM n))
  | _ => none
theorem aSquare_ok : PSound Go.Proofs.Try.prog 108 (mk rSquare) := by
  refine psound_mk Try.func108 (by kernel_rfl) rfl (ctx (.nil _)) ?_
  (intro ds p d h; unfold rSquare at h; split at h <;> first | (cases h; done) | skip; cases h; refine ⟨Nat.le_of_ble_eq_true rfl, fun hp k hk => ?_⟩)
  rename_i n
  refine ⟨[.int .i64 n], rfl, ?_⟩
  have e : (max n (0 - n) + 999).tdiv 1000 = (max n (-n) + 999) / 1000 := by rw [tdiv_pos (by omega), Int.zero_sub]
  have S := sq_nn (x := (max n (-n) + 999) / 1000) (by omega)
  have E : sqM n = (max n (-n) + 999) / 1000 * ((max n (-n) + 999) / 1000) := rfl
  generalize sqM n = r at *
  repeat' (first | ((with_reducible refine kok ?_); kernel_rfl) | ((with_reducible refine keq_mk ?_); kernel_rfl) | with_reducible rfl | ((conv => whnf); first | (with_reducible exact trivial) | ((with_reducible refine and_ff ?_ ?_); · exact rfl) | ((with_reducible refine and_tt ?_ ?_); · exact rfl) | (with_reducible refine And.intro ?_ ?_) | intro _ | (with_reducible refine fin2 hk ?_) | ((with_reducible refine eq_leaf ?_); exact rfl) | exact trivial))
  all_goals (clear hk; first | omega | (simp only [e] at *; omega))
def rMetres : List D → Option (Prop × D) := fun ds => match ds with
  | [.int .i64 a, .int .i64 b] => some ((-50000000000 ≤ a ∧ a ≤ 50000000000) ∧ -50000000000 ≤ b ∧ b ≤ 50000000000, .int .i64 (sqM (a - b)))
  | _ => none
theorem qMetres_ok : PSound Go.Proofs.Try.prog 111 (mk rMetres) := by
  refine psound_mk Try.func111 (by kernel_rfl) rfl (ctx (.nil _)) ?_
  (intro ds p d h; unfold rMetres at h; split at h <;> first | (cases h; done) | skip; cases h; refine ⟨Nat.le_of_ble_eq_true rfl, fun hp k hk => ?_⟩)
  rename_i a b
  refine ⟨[.int .i64 a, .int .i64 b], rfl, rfl, ?_⟩
  have e : (max (a - b) (b - a) + 999).tdiv 1000 = (max (a - b) (-(a - b)) + 999) / 1000 := by rw [tdiv_pos (by omega), Int.neg_sub]
  have S := sq_nn (x := (max (a - b) (-(a - b)) + 999) / 1000) (by omega)
  have E : sqM (a - b) = (max (a - b) (-(a - b)) + 999) / 1000 * ((max (a - b) (-(a - b)) + 999) / 1000) := rfl
  generalize sqM (a - b) = r at *
  repeat' (first | ((with_reducible refine kok ?_); kernel_rfl) | ((with_reducible refine keq_mk ?_); kernel_rfl) | with_reducible rfl | ((conv => whnf); first | (with_reducible exact trivial) | ((with_reducible refine and_ff ?_ ?_); · exact rfl) | ((with_reducible refine and_tt ?_ ?_); · exact rfl) | (with_reducible refine And.intro ?_ ?_) | intro _ | (with_reducible refine fin2 hk ?_) | ((with_reducible refine eq_leaf ?_); exact rfl) | exact trivial))
  all_goals (clear hk; first | omega | (simp only [e] at *; omega))
/-- The least, and the greatest, of some numbers. -/
def minTo (a : Nat → Nat → Int) : Nat → Int
  | 0 => a 0 0
  | k + 1 => min (minTo a k) (a (k + 1) 0)
def maxTo (a : Nat → Nat → Int) : Nat → Int
  | 0 => a 0 0
  | k + 1 => max (maxTo a k) (a (k + 1) 0)
def rMinMax (f : (Nat → Nat → Int) → Nat → Int) : List D → Option (Prop × D) := fun ds => match ds with
  | [.rsl 1 n g] => some (IM n 1 g ∧ 0 < n ∧ n ≤ 1099511627776, .int .i64 (f (im g) (n - 1)))
  | _ => none
theorem sMin_ok : PSound Go.Proofs.Try.prog 121 (mk (rMinMax minTo)) := by
  refine psound_mk Try.func121 (by kernel_rfl) rfl (ctx (.nil _)) ?_
  (intro ds p d h; unfold rMinMax at h; split at h <;> first | (cases h; done) | skip; cases h; refine ⟨Nat.le_of_ble_eq_true rfl, fun hp k hk => ?_⟩)
  rename_i n g
  obtain ⟨h1, h0, h2⟩ := hp
  refine ⟨[.rsl 1 n (imD (im g))], rfl, h1, ?_⟩
  clear h1
  generalize im g = a at *
  repeat' (first | ((with_reducible refine kok ?_); kernel_rfl) | ((with_reducible refine keq_mk ?_); kernel_rfl) | with_reducible rfl | ((conv => whnf); first | (with_reducible exact trivial) | ((with_reducible refine and_ff ?_ ?_); · exact rfl) | ((with_reducible refine and_tt ?_ ?_); · exact rfl) | (with_reducible refine And.intro ?_ ?_) | intro _ | (with_reducible refine fin2 hk ?_) | ((with_reducible refine eq_leaf ?_); exact rfl) | exact trivial))
  all_goals try (clear hk; simp only [taskOf_agg, ↓Bool.not_eq_true', ↓Bool.not_eq_false', ↓decT, ↓decF, out_true, out_false, isin_true, isin_false, Int.toNat_natCast, Int.ofNat_lt, Nat.zero_add, Nat.add_zero, Nat.reduceAdd] at *; omega)
  conv => whnf
  refine ⟨Nat, fun i => [(0, .rsl 1 n (imD a)), (3, .int .i64 (minTo a i)), (4, .int .i64 ((i : Int) + 1))], fun _ => [], fun i => n - i, fun i => i + 1 ≤ n, [], 0, fun _ => ⟨rfl, rfl⟩, ?_, fun i hi => ?_⟩
  · clear hk
    repeat' (first | ((with_reducible refine kok ?_); kernel_rfl) | ((with_reducible refine keq_mk ?_); kernel_rfl) | with_reducible rfl | ((conv => whnf); first | (with_reducible exact trivial) | ((with_reducible refine and_ff ?_ ?_); · exact rfl) | ((with_reducible refine and_tt ?_ ?_); · exact rfl) | (with_reducible refine And.intro ?_ ?_) | intro _ | (with_reducible refine fin2 hk ?_) | ((with_reducible refine eq_leaf ?_); exact rfl) | exact trivial))
    all_goals first | exact h0 | rfl
  have hi : i + 1 ≤ n := hi
  have e : ((i : Int) + 1).toNat = i + 1 := by omega
  repeat' (first | ((with_reducible refine kok ?_); kernel_rfl) | ((with_reducible refine keq_mk ?_); kernel_rfl) | with_reducible rfl | ((conv => whnf); first | (with_reducible exact trivial) | ((with_reducible refine and_ff ?_ ?_); · exact rfl) | ((with_reducible refine and_tt ?_ ?_); · exact rfl) | (with_reducible refine And.intro ?_ ?_) | intro _ | (with_reducible refine fin2 hk ?_) | ((with_reducible refine eq_leaf ?_); exact rfl) | exact trivial))
  all_goals try ((first | with_reducible refine (?_ : (_ : Int) ≤ _) | with_reducible refine (?_ : (_ : Int) < _)); clear hk; simp only [taskOf_agg, ↓Bool.not_eq_true', ↓Bool.not_eq_false', ↓decT, ↓decF, out_true, out_false, isin_true, isin_false, Int.toNat_natCast, Int.ofNat_lt, Nat.zero_add, Nat.add_zero, Nat.reduceAdd] at *; omega)
  · clear hk
    conv => whnf
    refine ⟨i + 1, ?_⟩
    repeat' (first | ((with_reducible refine kok ?_); kernel_rfl) | ((with_reducible refine keq_mk ?_); kernel_rfl) | with_reducible rfl | ((conv => whnf); first | (with_reducible exact trivial) | ((with_reducible refine and_ff ?_ ?_); · exact rfl) | ((with_reducible refine and_tt ?_ ?_); · exact rfl) | (with_reducible refine And.intro ?_ ?_) | intro _ | (with_reducible refine fin2 hk ?_) | ((with_reducible refine eq_leaf ?_); exact rfl) | exact trivial))
    all_goals first
      | (rw [e]; rfl)
      | (simp only [taskOf_agg, ↓Bool.not_eq_true', ↓Bool.not_eq_false', ↓decT, ↓decF, out_true, out_false, isin_true, isin_false, Int.toNat_natCast, Int.ofNat_lt, Nat.zero_add, Nat.add_zero, Nat.reduceAdd, e] at *; omega)
  · obtain rfl : n = i + 1 := by clear hk; simp only [taskOf_agg, ↓Bool.not_eq_true', ↓Bool.not_eq_false', ↓decT, ↓decF, out_true, out_false, isin_true, isin_false, Int.toNat_natCast, Int.ofNat_lt, Nat.zero_add, Nat.add_zero, Nat.reduceAdd] at *; omega
    rfl
theorem sMax_ok : PSound Go.Proofs.Try.prog 87 (mk (rMinMax maxTo)) := by
  refine psound_mk Try.func87 (by kernel_rfl) rfl (ctx (.nil _)) ?_
  (intro ds p d h; unfold rMinMax at h; split at h <;> first | (cases h; done) | skip; cases h; refine ⟨Nat.le_of_ble_eq_true rfl, fun hp k hk => ?_⟩)
  rename_i n g
  obtain ⟨h1, h0, h2⟩ := hp
  refine ⟨[.rsl 1 n (imD (im g))], rfl, h1, ?_⟩
  clear h1
  generalize im g = a at *
  repeat' (first | ((with_reducible refine kok ?_); kernel_rfl) | ((with_reducible refine keq_mk ?_); kernel_rfl) | with_reducible rfl | ((conv => whnf); first | (with_reducible exact trivial) | ((with_reducible refine and_ff ?_ ?_); · exact rfl) | ((with_reducible refine and_tt ?_ ?_); · exact rfl) | (with_reducible refine And.intro ?_ ?_) | intro _ | (with_reducible refine fin2 hk ?_) | ((with_reducible refine eq_leaf ?_); exact rfl) | exact trivial))
  all_goals try (clear hk; simp only [taskOf_agg, ↓Bool.not_eq_true', ↓Bool.not_eq_false', ↓decT, ↓decF, out_true, out_false, isin_true, isin_false, Int.toNat_natCast, Int.ofNat_lt, Nat.zero_add, Nat.add_zero, Nat.reduceAdd] at *; omega)
  conv => whnf
  refine ⟨Nat, fun i => [(0, .rsl 1 n (imD a)), (3, .int .i64 (maxTo a i)), (4, .int .i64 ((i : Int) + 1))], fun _ => [], fun i => n - i, fun i => i + 1 ≤ n, [], 0, fun _ => ⟨rfl, rfl⟩, ?_, fun i hi => ?_⟩
  · clear hk
    repeat' (first | ((with_reducible refine kok ?_); kernel_rfl) | ((with_reducible refine keq_mk ?_); kernel_rfl) | with_reducible rfl | ((conv => whnf); first | (with_reducible exact trivial) | ((with_reducible refine and_ff ?_ ?_); · exact rfl) | ((with_reducible refine and_tt ?_ ?_); · exact rfl) | (with_reducible refine And.intro ?_ ?_) | intro _ | (with_reducible refine fin2 hk ?_) | ((with_reducible refine eq_leaf ?_); exact rfl) | exact trivial))
    all_goals first | exact h0 | rfl
  have hi : i + 1 ≤ n := hi
  have e : ((i : Int) + 1).toNat = i + 1 := by omega
  repeat' (first | ((with_reducible refine kok ?_); kernel_rfl) | ((with_reducible refine keq_mk ?_); kernel_rfl) | with_reducible rfl | ((conv => whnf); first | (with_reducible exact trivial) | ((with_reducible refine and_ff ?_ ?_); · exact rfl) | ((with_reducible refine and_tt ?_ ?_); · exact rfl) | (with_reducible refine And.intro ?_ ?_) | intro _ | (with_reducible refine fin2 hk ?_) | ((with_reducible refine eq_leaf ?_); exact rfl) | exact trivial))
  all_goals try ((first | with_reducible refine (?_ : (_ : Int) ≤ _) | with_reducible refine (?_ : (_ : Int) < _)); clear hk; simp only [taskOf_agg, ↓Bool.not_eq_true', ↓Bool.not_eq_false', ↓decT, ↓decF, out_true, out_false, isin_true, isin_false, Int.toNat_natCast, Int.ofNat_lt, Nat.zero_add, Nat.add_zero, Nat.reduceAdd] at *; omega)
  · clear hk
    conv => whnf
    refine ⟨i + 1, ?_⟩
    repeat' (first | ((with_reducible refine kok ?_); kernel_rfl) | ((with_reducible refine keq_mk ?_); kernel_rfl) | with_reducible rfl | ((conv => whnf); first | (with_reducible exact trivial) | ((with_reducible refine and_ff ?_ ?_); · exact rfl) | ((with_reducible refine and_tt ?_ ?_); · exact rfl) | (with_reducible refine And.intro ?_ ?_) | intro _ | (with_reducible refine fin2 hk ?_) | ((with_reducible refine eq_leaf ?_); exact rfl) | exact trivial))
    all_goals first
      | (rw [e]; rfl)
      | (simp only [taskOf_agg, ↓Bool.not_eq_true', ↓Bool.not_eq_false', ↓decT, ↓decF, out_true, out_false, isin_true, isin_false, Int.toNat_natCast, Int.ofNat_lt, Nat.zero_add, Nat.add_zero, Nat.reduceAdd, e] at *; omega)
  · obtain rfl : n = i + 1 := by clear hk; simp only [taskOf_agg, ↓Bool.not_eq_true', ↓Bool.not_eq_false', ↓decT, ↓decF, out_true, out_false, isin_true, isin_false, Int.toNat_natCast, Int.ofNat_lt, Nat.zero_add, Nat.add_zero, Nat.reduceAdd] at *; omega
    rfl
end Go.Proofs.Ytbakdblbknfadaa
end
section
set_option linter.unusedVariables false
set_option linter.unusedSimpArgs false
set_option maxRecDepth 100000
set_option maxHeartbeats 4000000
namespace Go.Proofs.Ytbakdblbknfadaa
open Go.V
def pLo (a b c d : Int) : Int := min (min (min (a * c) (a * d)) (b * c)) (b * d)
def pHi (a b c d : Int) : Int := max (max (max (a * c) (a * d)) (b * c)) (b * d)
theorem mul_abs {x y A B : Int} (hx : -A ≤ x ∧ x ≤ A) (hy : -B ≤ y ∧ y ≤ B) (hA : 0 ≤ A) (hB : 0 ≤ B) : -(A * B) ≤ x * y ∧ x * y ≤ A * B := by
  rcases Int.le_total 0 y with h | h
  · have h1 : x * y ≤ A * y := Int.mul_le_mul_of_nonneg_right hx.2 h
    have h2 : A * y ≤ A * B := Int.mul_le_mul_of_nonneg_left hy.2 hA
    have h3 : -A * y ≤ x * y := Int.mul_le_mul_of_nonneg_right hx.1 h
    rw [Int.neg_mul] at h3
    omega
  · have h1 : x * (-y) ≤ A * (-y) := Int.mul_le_mul_of_nonneg_right hx.2 (by omega)
    have h2 : A * (-y) ≤ A * B := Int.mul_le_mul_of_nonneg_left (by omega) hA
    have h3 : -A * (-y) ≤ x * (-y) := Int.mul_le_mul_of_nonneg_right hx.1 (by omega)
    rw [Int.neg_mul] at h3
    simp only [Int.mul_neg] at h1 h2 h3
    omega
theorem mulK {x y : Int} (hx : -10000000 ≤ x ∧ x ≤ 10000000) (hy : -20000 ≤ y ∧ y ≤ 20000) : -200000000000 ≤ x * y ∧ x * y ≤ 200000000000 := mul_abs (A := 10000000) (B := 20000) hx hy (by decide) (by decide)
theorem p_in {a b c d : Int} (ha : -10000000 ≤ a ∧ a ≤ 10000000) (hb : -10000000 ≤ b ∧ b ≤ 10000000) (hc : -20000 ≤ c ∧ c ≤ 20000) (hd : -20000 ≤ d ∧ d ≤ 20000) :
    (-200000000000 ≤ pLo a b c d ∧ pLo a b c d ≤ 200000000000) ∧ -200000000000 ≤ pHi a b c d ∧ pHi a b c d ≤ 200000000000 := by
  have h1 := mulK ha hc
  have h2 := mulK ha hd
  have h3 := mulK hb hc
  have h4 := mulK hb hd
  unfold pLo pHi
  omega
def rProd : List V.D → Option (Prop × V.D) := fun ds => match ds with
  | [.agg [.int .i64 a, .int .i64 b], .agg [.int .i64 c, .int .i64 d]] => some (((-10000000 ≤ a ∧ a ≤ 10000000) ∧ -10000000 ≤ b ∧ b ≤ 10000000) ∧ (-20000 ≤ c ∧ c ≤ 20000) ∧ -20000 ≤ d ∧ d ≤ 20000, .agg [.int .i64 (pLo a b c d), .int .i64 (pHi a b c d)])
  | _ => none
noncomputable def la3 : Lib := (51, mk rQArea) :: (101, mk rDown) :: (116, mk rDown) :: (108, mk rSquare) :: (111, mk rMetres) :: (121, mk (rMinMax minTo)) :: (87, mk (rMinMax maxTo)) :: la2
theorem la3_ok : LibOK Go.Proofs.Try.prog la3 := .cons qArea_ok (.cons aDown_ok (.cons qFloor_ok (.cons aSquare_ok (.cons qMetres_ok (.cons sMin_ok (.cons sMax_ok la2_ok))))))
theorem qProd_ok : PSound Go.Proofs.Try.prog 99 (mk rProd) := by
  refine psound_mk Try.func99 (by kernel_rfl) rfl (ctx la3_ok) ?_
  (intro ds p d h; unfold rProd at h; split at h <;> first | (cases h; done) | skip; cases h; refine ⟨Nat.le_of_ble_eq_true rfl, fun hp k hk => ?_⟩)
  rename_i a b c d
  obtain ⟨⟨ha, hb⟩, hc, hd⟩ := hp
  refine ⟨[.agg [.int .i64 a, .int .i64 b], .agg [.int .i64 c, .int .i64 d]], rfl, rfl, rfl, rfl, ?_⟩
  have h1 := mulK ha hc
  have h2 := mulK ha hd
  have h3 := mulK hb hc
  have h4 := mulK hb hd
  repeat' (first | ((with_reducible refine kok ?_); kernel_rfl) | ((with_reducible refine keq_mk ?_); kernel_rfl) | with_reducible rfl | ((conv => whnf); first | (with_reducible exact trivial) | ((with_reducible refine and_ff ?_ ?_); · exact rfl) | ((with_reducible refine and_tt ?_ ?_); · exact rfl) | (with_reducible refine And.intro ?_ ?_) | intro _ | (with_reducible refine fin2 hk ?_) | ((with_reducible refine eq_leaf ?_); exact rfl) | exact trivial))
  all_goals (clear hk; first | omega | rfl)
theorem aProd_ok : PSound Go.Proofs.Try.prog 107 (mk rProd) := by
  refine psound_mk Try.func107 (by kernel_rfl) rfl (ctx la3_ok) ?_
  (intro ds p d h; unfold rProd at h; split at h <;> first | (cases h; done) | skip; cases h; refine ⟨Nat.le_of_ble_eq_true rfl, fun hp k hk => ?_⟩)
  rename_i a b c d
  obtain ⟨⟨ha, hb⟩, hc, hd⟩ := hp
  refine ⟨[.agg [.int .i64 a, .int .i64 b], .agg [.int .i64 c, .int .i64 d]], rfl, rfl, rfl, rfl, ?_⟩
  have h1 := mulK ha hc
  have h2 := mulK ha hd
  have h3 := mulK hb hc
  have h4 := mulK hb hd
  repeat' (first | ((with_reducible refine kok ?_); kernel_rfl) | ((with_reducible refine keq_mk ?_); kernel_rfl) | with_reducible rfl | ((conv => whnf); first | (with_reducible exact trivial) | ((with_reducible refine and_ff ?_ ?_); · exact rfl) | ((with_reducible refine and_tt ?_ ?_); · exact rfl) | (with_reducible refine And.intro ?_ ?_) | intro _ | (with_reducible refine fin2 hk ?_) | ((with_reducible refine eq_leaf ?_); exact rfl) | exact trivial))
  all_goals try (clear hk; omega)
  all_goals (
    rename_i i j hi hj
    have hj' : j = 0 := by omega
    have hi' : i = 0 ∨ i = 1 ∨ i = 2 ∨ i = 3 := by omega
    subst hj'
    rcases hi' with rfl | rfl | rfl | rfl <;> rfl)
def rJoin : List V.D → Option (Prop × V.D) := fun ds => match ds with
  | [.agg [.int .i64 a, .int .i64 b], .agg [.int .i64 c, .int .i64 d]] => some (True, .agg [.int .i64 (min a c), .int .i64 (max b d)])
  | _ => none
theorem qJoin_ok : PSound Go.Proofs.Try.prog 115 (mk rJoin) := by
  refine psound_mk Try.func115 (by kernel_rfl) rfl (ctx (.nil _)) ?_
  (intro ds p d h; unfold rJoin at h; split at h <;> first | (cases h; done) | skip; cases h; refine ⟨Nat.le_of_ble_eq_true rfl, fun hp k hk => ?_⟩)
  rename_i a b c d
  refine ⟨[.agg [.int .i64 a, .int .i64 b], .agg [.int .i64 c, .int .i64 d]], rfl, rfl, rfl, rfl, ?_⟩
  repeat' (first | ((with_reducible refine kok ?_); kernel_rfl) | ((with_reducible refine keq_mk ?_); kernel_rfl) | with_reducible rfl | ((conv => whnf); first | (with_reducible exact trivial) | ((with_reducible refine and_ff ?_ ?_); · exact rfl) | ((with_reducible refine and_tt ?_ ?_); · exact rfl) | (with_reducible refine And.intro ?_ ?_) | intro _ | (with_reducible refine fin2 hk ?_) | ((with_reducible refine eq_leaf ?_); exact rfl) | exact trivial))
def sumTo (a : Nat → Nat → Int) (j : Nat) : Nat → Int
  | 0 => 0
  | k + 1 => sumTo a j k + a k j
def rSum2 : List V.D → Option (Prop × V.D) := fun ds => match ds with
  | [.rsl 2 n g] => some (IM n 2 g ∧ n ≤ 4 ∧ ∀ i j, i < n → j < 2 → -100000000000000000 ≤ im g i j ∧ im g i j ≤ 100000000000000000, .agg [.int .i64 (sumTo (im g) 0 n), .int .i64 (sumTo (im g) 1 n)])
  | _ => none
theorem sumTo_in {a : Nat → Nat → Int} {n j : Nat} (h : ∀ i, i < n → -100000000000000000 ≤ a i j ∧ a i j ≤ 100000000000000000) : ∀ k, k ≤ n → -100000000000000000 * (k : Int) ≤ sumTo a j k ∧ sumTo a j k ≤ 100000000000000000 * (k : Int)
  | 0, _ => by simp [sumTo]
  | k + 1, hk => by
    have := sumTo_in h k (by omega)
    have := h k (by omega)
    simp only [sumTo]
    omega
theorem aSum_ok : PSound Go.Proofs.Try.prog 102 (mk rSum2) := by
  refine psound_mk Try.func102 (by kernel_rfl) rfl (ctx (.nil _)) ?_
  (intro ds p d h; unfold rSum2 at h; split at h <;> first | (cases h; done) | skip; cases h; refine ⟨Nat.le_of_ble_eq_true rfl, fun hp k hk => ?_⟩)
  rename_i n g
  obtain ⟨h1, h2, h3⟩ := hp
  refine ⟨[.rsl 2 n (imD (im g))], rfl, h1, ?_⟩
  clear h1
  generalize im g = a at *
  repeat' (first | ((with_reducible refine kok ?_); kernel_rfl) | ((with_reducible refine keq_mk ?_); kernel_rfl) | with_reducible rfl | ((conv => whnf); first | (with_reducible exact trivial) | ((with_reducible refine and_ff ?_ ?_); · exact rfl) | ((with_reducible refine and_tt ?_ ?_); · exact rfl) | (with_reducible refine And.intro ?_ ?_) | intro _ | (with_reducible refine fin2 hk ?_) | ((with_reducible refine eq_leaf ?_); exact rfl) | exact trivial))
  conv => whnf
  refine ⟨Nat, fun i => [(2, .ptr 0 0), (5, .rsl 2 n (imD a)), (6, .int .i64 n), (7, .int .i64 i)], fun i => [some (.row [.int .i64 (sumTo a 0 i), .int .i64 (sumTo a 1 i)])], fun i => n - i, fun i => i ≤ n, [], 0, fun _ => ⟨rfl, rfl⟩, ?_, fun i hi => ?_⟩
  · clear hk
    repeat' (first | ((with_reducible refine kok ?_); kernel_rfl) | ((with_reducible refine keq_mk ?_); kernel_rfl) | with_reducible rfl | ((conv => whnf); first | (with_reducible exact trivial) | ((with_reducible refine and_ff ?_ ?_); · exact rfl) | ((with_reducible refine and_tt ?_ ?_); · exact rfl) | (with_reducible refine And.intro ?_ ?_) | intro _ | (with_reducible refine fin2 hk ?_) | ((with_reducible refine eq_leaf ?_); exact rfl) | exact trivial))
    all_goals first | exact Nat.zero_le _ | rfl
  have hi : i ≤ n := hi
  have S0 := sumTo_in (j := 0) (fun i hi => h3 i 0 hi (by decide)) i hi
  have S1 := sumTo_in (j := 1) (fun i hi => h3 i 1 hi (by decide)) i hi
  have A0 := fun h => h3 i 0 h (by decide)
  have A1 := fun h => h3 i 1 h (by decide)
  repeat' (first | ((with_reducible refine kok ?_); kernel_rfl) | ((with_reducible refine keq_mk ?_); kernel_rfl) | with_reducible rfl | ((conv => whnf); first | (with_reducible exact trivial) | ((with_reducible refine and_ff ?_ ?_); · exact rfl) | ((with_reducible refine and_tt ?_ ?_); · exact rfl) | (with_reducible refine And.intro ?_ ?_) | intro _ | (with_reducible refine fin2 hk ?_) | ((with_reducible refine eq_leaf ?_); exact rfl) | exact trivial))
  all_goals try ((first | with_reducible refine (?_ : (_ : Int) ≤ _) | with_reducible refine (?_ : (_ : Int) < _)); clear hk; simp only [taskOf_agg, ↓Bool.not_eq_true', ↓Bool.not_eq_false', ↓decT, ↓decF, out_true, out_false, isin_true, isin_false, Int.toNat_natCast, Int.ofNat_lt, Nat.zero_add, Nat.add_zero, Nat.reduceAdd] at *; first | omega | (have := A0 (by assumption); omega) | (have := A1 (by assumption); omega))
  · clear hk
    conv => whnf
    refine ⟨i + 1, ?_⟩
    repeat' (first | ((with_reducible refine kok ?_); kernel_rfl) | ((with_reducible refine keq_mk ?_); kernel_rfl) | with_reducible rfl | ((conv => whnf); first | (with_reducible exact trivial) | ((with_reducible refine and_ff ?_ ?_); · exact rfl) | ((with_reducible refine and_tt ?_ ?_); · exact rfl) | (with_reducible refine And.intro ?_ ?_) | intro _ | (with_reducible refine fin2 hk ?_) | ((with_reducible refine eq_leaf ?_); exact rfl) | exact trivial))
    all_goals first
      | rfl
      | (simp only [taskOf_agg, ↓Bool.not_eq_true', ↓Bool.not_eq_false', ↓decT, ↓decF, out_true, out_false, isin_true, isin_false, Int.toNat_natCast, Int.ofNat_lt, Nat.zero_add, Nat.add_zero, Nat.reduceAdd] at *; omega)
  all_goals (obtain rfl : i = n := by clear hk; simp only [taskOf_agg, ↓Bool.not_eq_true', ↓Bool.not_eq_false', ↓decT, ↓decF, out_true, out_false, isin_true, isin_false, Int.toNat_natCast, Int.ofNat_lt, Nat.zero_add, Nat.add_zero, Nat.reduceAdd] at *; omega)
  all_goals rfl
end Go.Proofs.Ytbakdblbknfadaa
end
section
set_option linter.unusedVariables false
set_option linter.unusedSimpArgs false
set_option maxRecDepth 100000
set_option maxHeartbeats 4000000
namespace Go.Proofs.Ytbakdblbknfadaa
open Go.V
structure ATask where
  nr : Nat
  ra : Nat → Nat → Int
  ns : Nat
  sa : Nat → Nat → Int
  tx : Int
  ty : Int
  al : Int
  ah : Int
  bl : Int
  bh : Int
  gain : Int
  turn : Int
  freeze : Int
def ATask.cells (t : ATask) : List V.D := [.rsl 4 t.nr (imD t.ra), .rsl 5 t.ns (imD t.sa), .int .i64 t.tx, .int .i64 t.ty, .int .i64 t.al, .int .i64 t.ah, .int .i64 t.bl, .int .i64 t.bh, .int .i64 t.gain, .int .i64 t.turn, .int .i64 t.freeze]
def ATask.D (t : ATask) : V.D := .agg t.cells
def atOf (d : V.D) : ATask := match d with
  | .agg [.rsl _ nr r, .rsl _ ns s, .int _ tx, .int _ ty, .int _ al, .int _ ah, .int _ bl, .int _ bh, .int _ g, .int _ u, .int _ f] => ⟨nr, im r, ns, im s, tx, ty, al, ah, bl, bh, g, u, f⟩
  | _ => ⟨0, fun _ _ => 0, 0, fun _ _ => 0, 0, 0, 0, 0, 0, 0, 0, 0, 0⟩
def AtIs (d : V.D) : Prop := match d with
  | .agg [.rsl 4 nr r, .rsl 5 ns s, .int .i64 _, .int .i64 _, .int .i64 _, .int .i64 _, .int .i64 _, .int .i64 _, .int .i64 _, .int .i64 _, .int .i64 _] => (IM nr 4 r ∧ nr ≤ 9223372036854775807) ∧ IM ns 5 s ∧ ns ≤ 9223372036854775807
  | _ => False
theorem atOf_D (t : ATask) : atOf t.D = t := rfl
theorem atOf_agg (t : ATask) : atOf (.agg [.rsl 4 t.nr (imD t.ra), .rsl 5 t.ns (imD t.sa), .int .i64 t.tx, .int .i64 t.ty, .int .i64 t.al, .int .i64 t.ah, .int .i64 t.bl, .int .i64 t.bh, .int .i64 t.gain, .int .i64 t.turn, .int .i64 t.freeze]) = t := rfl
theorem at_imp {d : V.D} {k : Prop} (h : AtIs d) (hk : k) : impB noGh d (atOf d).D k := by
  unfold AtIs at h
  split at h
  · exact ⟨rfl, h.1.1, rfl, h.2.1, rfl, rfl, rfl, rfl, rfl, rfl, rfl, rfl, rfl, hk⟩
  · exact h.elim
/-- How many weights and settings there are at most. -/
def ATask.fits (t : ATask) : Prop := t.nr ≤ 9223372036854775807 ∧ t.ns ≤ 9223372036854775807
theorem at_fits {d : V.D} (h : AtIs d) : (atOf d).fits := by
  unfold AtIs at h
  split at h
  · exact ⟨h.1.2, h.2.2⟩
  · exact h.elim
theorem at_is {t : ATask} (h : t.fits) : AtIs t.D := ⟨⟨IM_imD _ _ _, h.1⟩, IM_imD _ _ _, h.2⟩
def respE (t : ATask) (i : Nat) : Int := if t.ra i 0 ≠ fromOf t.ra i then 2 else if (isin (t.ra i 1) (fromOf t.ra i + 1) 100000000 && sideB (t.ra i 2) (t.ra i 3) 10000000) = false then 7 else 0
def setE (t : ATask) (i : Nat) : Int := if (areaB (t.sa i 0) (t.sa i 1) (t.sa i 2) (t.sa i 3) && isin (t.sa i 4) 0 2000) = false then 7 else 0
def okB (t : ATask) : Bool := isin t.tx (-500000000) 500000000 && isin t.ty (-500000000) 500000000 && areaB t.al t.ah t.bl t.bh && isin t.gain 0 1000000000 && isin t.turn 0 6000 && isin t.freeze 0 6000
def chkA4 (t : ATask) : Int × Int × Int := if okB t = true then (0, 0, 0) else (4, 0, 7)
def chkA3 (t : ATask) : Int × Int × Int := pickE 3 (fe (setE t) 0 t.ns) (chkA4 t)
def chkA (t : ATask) : Int × Int × Int := if (isin t.nr 1 20 && isin t.ns 1 40) = false then (1, 0, 3) else pickE 2 (fe (respE t) 0 t.nr) (chkA3 t)
def RespOK (t : ATask) (i : Nat) : Prop := (fromOf t.ra i + 1 ≤ t.ra i 1 ∧ t.ra i 1 ≤ 100000000) ∧ -10000000 ≤ t.ra i 2 ∧ t.ra i 2 ≤ t.ra i 3 ∧ t.ra i 3 ≤ 10000000
theorem resp_iff (t : ATask) (i : Nat) : (isin (t.ra i 1) (fromOf t.ra i + 1) 100000000 && sideB (t.ra i 2) (t.ra i 3) 10000000) = true ↔ RespOK t i := by
  simp only [Bool.and_eq_true, isin_true, side_true, RespOK]
theorem resp_2 {t : ATask} {i : Nat} (h : ¬ t.ra i 0 = fromOf t.ra i) : respE t i = 2 := if_pos h
theorem resp_7 {t : ATask} {i : Nat} (h : t.ra i 0 = fromOf t.ra i) (h2 : ¬ RespOK t i) : respE t i = 7 := by
  unfold respE
  rw [if_neg (fun g => g h), if_pos]
  rw [← resp_iff] at h2
  simpa using h2
theorem resp_0 {t : ATask} {i : Nat} (h : t.ra i 0 = fromOf t.ra i) (h2 : RespOK t i) : respE t i = 0 := by
  unfold respE
  rw [if_neg (fun g => g h), if_neg]
  rw [← resp_iff] at h2
  simpa using h2
def SetOK (t : ATask) (i : Nat) : Prop := ((-500000000 ≤ t.sa i 0 ∧ t.sa i 0 ≤ t.sa i 1 ∧ t.sa i 1 ≤ 500000000) ∧ -500000000 ≤ t.sa i 2 ∧ t.sa i 2 ≤ t.sa i 3 ∧ t.sa i 3 ≤ 500000000) ∧ 0 ≤ t.sa i 4 ∧ t.sa i 4 ≤ 2000
theorem set_iff (t : ATask) (i : Nat) : (areaB (t.sa i 0) (t.sa i 1) (t.sa i 2) (t.sa i 3) && isin (t.sa i 4) 0 2000) = true ↔ SetOK t i := by
  simp only [Bool.and_eq_true, isin_true, area_true, SetOK]
theorem set_7 {t : ATask} {i : Nat} (h2 : ¬ SetOK t i) : setE t i = 7 := by
  unfold setE
  rw [if_pos]
  rw [← set_iff] at h2
  simpa using h2
theorem set_0 {t : ATask} {i : Nat} (h2 : SetOK t i) : setE t i = 0 := by
  unfold setE
  rw [if_neg]
  rw [← set_iff] at h2
  simpa using h2
def RestOK (t : ATask) : Prop := (-500000000 ≤ t.tx ∧ t.tx ≤ 500000000) ∧ (-500000000 ≤ t.ty ∧ t.ty ≤ 500000000) ∧ ((-500000000 ≤ t.al ∧ t.al ≤ t.ah ∧ t.ah ≤ 500000000) ∧ -500000000 ≤ t.bl ∧ t.bl ≤ t.bh ∧ t.bh ≤ 500000000) ∧ (0 ≤ t.gain ∧ t.gain ≤ 1000000000) ∧ (0 ≤ t.turn ∧ t.turn ≤ 6000) ∧ 0 ≤ t.freeze ∧ t.freeze ≤ 6000
theorem rest_iff (t : ATask) : okB t = true ↔ RestOK t := by
  simp only [okB, Bool.and_eq_true, isin_true, area_true, RestOK, and_assoc]
theorem chkA_4 {t : ATask} (h : ¬ RestOK t) : chkA4 t = (4, 0, 7) := if_neg (fun g => h ((rest_iff t).1 g))
theorem chkA_0 {t : ATask} (h : RestOK t) : chkA4 t = (0, 0, 0) := if_pos ((rest_iff t).2 h)
theorem chkA_1 {t : ATask} (h : ¬ ((1 ≤ t.nr ∧ t.nr ≤ 20) ∧ 1 ≤ t.ns ∧ t.ns ≤ 40)) : chkA t = (1, 0, 3) := by
  refine if_pos ?_
  rw [← Bool.not_eq_true, Bool.and_eq_true, isin_true, isin_true]
  omega
theorem chkA_2 {t : ATask} (h : (1 ≤ t.nr ∧ t.nr ≤ 20) ∧ 1 ≤ t.ns ∧ t.ns ≤ 40) : chkA t = pickE 2 (fe (respE t) 0 (t.nr - 0)) (chkA3 t) := by
  refine if_neg ?_
  rw [Bool.not_eq_false, Bool.and_eq_true, isin_true, isin_true]
  omega
theorem chkA_3 (t : ATask) : chkA3 t = pickE 3 (fe (setE t) 0 (t.ns - 0)) (chkA4 t) := rfl
def rAChk : List V.D → Option (Prop × V.D) := fun ds => match ds with
  | [d] => some (AtIs d, .tup [.int .i64 (chkA (atOf d)).1, .int .i64 (chkA (atOf d)).2.1, .int .i64 (chkA (atOf d)).2.2])
  | _ => none
theorem from_0 (a : Nat → Nat → Int) : fromOf a 0 = 0 := if_pos rfl
theorem from_next (a : Nat → Nat → Int) (k : Nat) : fromOf a (k + 1) = a k 1 := if_neg (Nat.succ_ne_zero k)
theorem side_false (lo hi m : Int) : (sideB lo hi m = false) = ¬ (-m ≤ lo ∧ lo ≤ hi ∧ hi ≤ m) := by rw [← side_true, Bool.not_eq_true]
theorem area_false (a b c d : Int) : (areaB a b c d = false) = ¬ ((-500000000 ≤ a ∧ a ≤ b ∧ b ≤ 500000000) ∧ -500000000 ≤ c ∧ c ≤ d ∧ d ≤ 500000000) := by rw [← area_true, Bool.not_eq_true]
attribute [local irreducible] chkA chkA3 chkA4 respE setE sideB areaB fromOf
theorem aCheck_ok : PSound Go.Proofs.Try.prog 18 (mk rAChk) := by
  refine psound_mk Try.func18 (by kernel_rfl) rfl (ctx la3_ok) ?_
  (intro ds p d h; unfold rAChk at h; split at h <;> first | (cases h; done) | skip; cases h; refine ⟨Nat.le_of_ble_eq_true rfl, fun hp k hk => ?_⟩)
  rename_i d
  refine ⟨[(atOf d).D], at_imp hp ?_⟩
  have hf := at_fits hp
  clear hp
  generalize atOf d = t at *
  obtain ⟨f1, f2⟩ := hf
  generalize hS : chkA t = c at *
  repeat' (first | ((with_reducible refine kok ?_); kernel_rfl) | ((with_reducible refine keq_mk ?_); kernel_rfl) | with_reducible rfl | ((conv => whnf); first | (with_reducible exact trivial) | ((with_reducible refine and_ff ?_ ?_); · exact rfl) | ((with_reducible refine and_tt ?_ ?_); · exact rfl) | (with_reducible refine And.intro ?_ ?_) | intro _ | (with_reducible refine fin2 hk ?_) | ((with_reducible refine eq_leaf ?_); exact rfl) | exact trivial))
  all_goals try ((first | with_reducible refine (?_ : (_ : Int) ≤ _) | with_reducible refine (?_ : (_ : Int) < _)); clear hk hS; omega)
  all_goals try ((with_reducible refine (?_ : (_ : Int) = _)); clear hk; rw [← hS]; simp only [taskOf_agg, ↓Bool.not_eq_true', ↓Bool.not_eq_false', ↓decT, ↓decF, out_true, out_false, isin_true, isin_false, Int.toNat_natCast, Int.ofNat_lt, Nat.zero_add, Nat.add_zero, Nat.reduceAdd] at *; rw [chkA_1 (by omega)])
  rename_i q1 q2
  simp only [taskOf_agg, ↓Bool.not_eq_true', ↓Bool.not_eq_false', ↓decT, ↓decF, out_true, out_false, isin_true, isin_false, Int.toNat_natCast, Int.ofNat_lt, Nat.zero_add, Nat.add_zero, Nat.reduceAdd] at q1 q2
  have hN : (1 ≤ t.nr ∧ t.nr ≤ 20) ∧ 1 ≤ t.ns ∧ t.ns ≤ 40 := by omega
  have hS' := (chkA_2 hN).symm.trans hS
  clear hS q1 q2
  conv => whnf
  refine ⟨Nat, fun k => [(1, .ptr 0 0), (5, .int .i64 (fromOf t.ra k)), (23, .rsl 4 t.nr (imD t.ra)), (24, .int .i64 t.nr), (25, .int .i64 k)], fun k => [some (.row t.cells)],
    fun k => t.nr - k, fun k => k ≤ t.nr ∧ (0 ≤ fromOf t.ra k ∧ fromOf t.ra k ≤ 100000000) ∧ c = pickE 2 (fe (respE t) k (t.nr - k)) (chkA3 t), [], 0, fun _ => ⟨rfl, rfl⟩, ?_, fun k hI => ?_⟩
  · clear hk
    have h0 := from_0 t.ra
    repeat' (first | ((with_reducible refine kok ?_); kernel_rfl) | ((with_reducible refine keq_mk ?_); kernel_rfl) | with_reducible rfl | ((conv => whnf); first | (with_reducible exact trivial) | ((with_reducible refine and_ff ?_ ?_); · exact rfl) | ((with_reducible refine and_tt ?_ ?_); · exact rfl) | (with_reducible refine And.intro ?_ ?_) | intro _ | (with_reducible refine fin2 hk ?_) | ((with_reducible refine eq_leaf ?_); exact rfl) | exact trivial))
    all_goals first
      | exact Nat.zero_le _
      | exact h0.symm
      | (rw [h0]; decide)
      | exact hS'.symm
  clear hS'
  obtain ⟨hi, hfr, hc⟩ := hI
  have hi : k ≤ t.nr := hi
  have hfr : 0 ≤ fromOf t.ra k ∧ fromOf t.ra k ≤ 100000000 := hfr
  have hc : c = pickE 2 (fe (respE t) k (t.nr - k)) (chkA3 t) := hc
  have hn := from_next t.ra k
  repeat' (first | ((with_reducible refine kok ?_); kernel_rfl) | ((with_reducible refine keq_mk ?_); kernel_rfl) | with_reducible rfl | ((conv => whnf); first | (with_reducible exact trivial) | ((with_reducible refine and_ff ?_ ?_); · exact rfl) | ((with_reducible refine and_tt ?_ ?_); · exact rfl) | (with_reducible refine And.intro ?_ ?_) | intro _ | (with_reducible refine fin2 hk ?_) | ((with_reducible refine eq_leaf ?_); exact rfl) | exact trivial))
  all_goals try ((first | with_reducible refine (?_ : (_ : Int) ≤ _) | with_reducible refine (?_ : (_ : Int) < _)); clear hk hc; simp only [taskOf_agg, ↓Bool.not_eq_true', ↓Bool.not_eq_false', ↓decT, ↓decF, out_true, out_false, isin_true, isin_false, Int.toNat_natCast, Int.ofNat_lt, Nat.zero_add, Nat.add_zero, Nat.reduceAdd] at *; omega)
  all_goals try ((with_reducible refine (?_ : (_ : Int) = _)); clear hk; simp only [taskOf_agg, ↓Bool.not_eq_true', ↓Bool.not_eq_false', ↓decT, ↓decF, out_true, out_false, isin_true, isin_false, Int.toNat_natCast, Int.ofNat_lt, Nat.zero_add, Nat.add_zero, Nat.reduceAdd] at *; first
    | (rw [hc, pick_bad (by omega) (by rw [resp_2 (by omega)]; decide)] <;> first | rfl | exact (resp_2 (by omega)).symm)
    | (rw [hc, pick_bad (by omega) (by rw [resp_7 (by omega) (by unfold RespOK; omega)]; decide)] <;> first | rfl | exact (resp_7 (by omega) (by unfold RespOK; omega)).symm))
  · rename_i q1 q2 q3 q4 q5
    simp only [taskOf_agg, ↓Bool.not_eq_true', ↓Bool.not_eq_false', ↓decT, ↓decF, out_true, out_false, isin_true, isin_false, Int.toNat_natCast, Int.ofNat_lt, Nat.zero_add, Nat.add_zero, Nat.reduceAdd] at q1 q2 q3 q4 q5
    have hb := hc.trans (pick_next q1 (resp_0 q2 (by unfold RespOK; omega)))
    clear hk hc
    conv => whnf
    refine ⟨k + 1, ?_⟩
    repeat' (first | ((with_reducible refine kok ?_); kernel_rfl) | ((with_reducible refine keq_mk ?_); kernel_rfl) | with_reducible rfl | ((conv => whnf); first | (with_reducible exact trivial) | ((with_reducible refine and_ff ?_ ?_); · exact rfl) | ((with_reducible refine and_tt ?_ ?_); · exact rfl) | (with_reducible refine And.intro ?_ ?_) | intro _ | (with_reducible refine fin2 hk ?_) | ((with_reducible refine eq_leaf ?_); exact rfl) | exact trivial))
    all_goals first
      | exact hn.symm
      | exact hb
      | (rw [hn]; omega)
      | omega
      | (simp only; omega)
  rename_i q1
  simp only [taskOf_agg, ↓Bool.not_eq_true', ↓Bool.not_eq_false', ↓decT, ↓decF, out_true, out_false, isin_true, isin_false, Int.toNat_natCast, Int.ofNat_lt, Nat.zero_add, Nat.add_zero, Nat.reduceAdd] at q1
  have hc' := (hc.trans (pick_end (by omega))).trans (chkA_3 t)
  clear hc hi q1 hn hfr
  conv => whnf
  refine ⟨Nat, fun k => [(1, .ptr 0 0), (62, .rsl 5 t.ns (imD t.sa)), (63, .int .i64 t.ns), (64, .int .i64 k)], fun k => [some (.row t.cells)],
    fun k => t.ns - k, fun k => k ≤ t.ns ∧ c = pickE 3 (fe (setE t) k (t.ns - k)) (chkA4 t), [], 0, fun _ => ⟨rfl, rfl⟩, ?_, fun k hI => ?_⟩
  · clear hk
    repeat' (first | ((with_reducible refine kok ?_); kernel_rfl) | ((with_reducible refine keq_mk ?_); kernel_rfl) | with_reducible rfl | ((conv => whnf); first | (with_reducible exact trivial) | ((with_reducible refine and_ff ?_ ?_); · exact rfl) | ((with_reducible refine and_tt ?_ ?_); · exact rfl) | (with_reducible refine And.intro ?_ ?_) | intro _ | (with_reducible refine fin2 hk ?_) | ((with_reducible refine eq_leaf ?_); exact rfl) | exact trivial))
    all_goals first
      | exact Nat.zero_le _
      | exact hc'
  clear hc'
  obtain ⟨hi, hc⟩ := hI
  have hi : k ≤ t.ns := hi
  have hc : c = pickE 3 (fe (setE t) k (t.ns - k)) (chkA4 t) := hc
  repeat' (first | ((with_reducible refine kok ?_); kernel_rfl) | ((with_reducible refine keq_mk ?_); kernel_rfl) | with_reducible rfl | ((conv => whnf); first | (with_reducible exact trivial) | ((with_reducible refine and_ff ?_ ?_); · exact rfl) | ((with_reducible refine and_tt ?_ ?_); · exact rfl) | (with_reducible refine And.intro ?_ ?_) | intro _ | (with_reducible refine fin2 hk ?_) | ((with_reducible refine eq_leaf ?_); exact rfl) | exact trivial))
  all_goals try ((first | with_reducible refine (?_ : (_ : Int) ≤ _) | with_reducible refine (?_ : (_ : Int) < _)); clear hk hc; simp only [taskOf_agg, ↓Bool.not_eq_true', ↓Bool.not_eq_false', ↓decT, ↓decF, out_true, out_false, isin_true, isin_false, Int.toNat_natCast, Int.ofNat_lt, Nat.zero_add, Nat.add_zero, Nat.reduceAdd] at *; omega)
  all_goals try ((with_reducible refine (?_ : (_ : Int) = _)); clear hk; simp only [taskOf_agg, ↓Bool.not_eq_true', ↓Bool.not_eq_false', ↓decT, ↓decF, out_true, out_false, isin_true, isin_false, Int.toNat_natCast, Int.ofNat_lt, Nat.zero_add, Nat.add_zero, Nat.reduceAdd, side_true, side_false] at *; first
    | (rw [hc, pick_bad (by omega) (by rw [set_7 (by unfold SetOK; omega)]; decide)] <;> first | rfl | exact (set_7 (by unfold SetOK; omega)).symm)
    | (rw [hc, pick_end (by omega), chkA_4 (by unfold RestOK; omega)] <;> rfl)
    | (rw [hc, pick_end (by omega), chkA_0 (by unfold RestOK; omega)] <;> rfl))
  · rename_i q1 q2 q3 q4
    simp only [taskOf_agg, ↓Bool.not_eq_true', ↓Bool.not_eq_false', ↓decT, ↓decF, out_true, out_false, isin_true, isin_false, Int.toNat_natCast, Int.ofNat_lt, Nat.zero_add, Nat.add_zero, Nat.reduceAdd, side_true] at q1 q2 q3 q4
    have hb := hc.trans (pick_next q1 (set_0 (by unfold SetOK; omega)))
    clear hk hc
    conv => whnf
    refine ⟨k + 1, ?_⟩
    repeat' (first | ((with_reducible refine kok ?_); kernel_rfl) | ((with_reducible refine keq_mk ?_); kernel_rfl) | with_reducible rfl | ((conv => whnf); first | (with_reducible exact trivial) | ((with_reducible refine and_ff ?_ ?_); · exact rfl) | ((with_reducible refine and_tt ?_ ?_); · exact rfl) | (with_reducible refine And.intro ?_ ?_) | intro _ | (with_reducible refine fin2 hk ?_) | ((with_reducible refine eq_leaf ?_); exact rfl) | exact trivial))
    all_goals first
      | exact q1
      | exact hb
      | (simp only; omega)
theorem qCheck_ok : PSound Go.Proofs.Try.prog 19 (mk rAChk) := by
  refine psound_mk Try.func19 (by kernel_rfl) rfl (ctx la3_ok) ?_
  (intro ds p d h; unfold rAChk at h; split at h <;> first | (cases h; done) | skip; cases h; refine ⟨Nat.le_of_ble_eq_true rfl, fun hp k hk => ?_⟩)
  rename_i d
  refine ⟨[(atOf d).D], at_imp hp ?_⟩
  have hf := at_fits hp
  clear hp
  generalize atOf d = t at *
  obtain ⟨f1, f2⟩ := hf
  generalize hS : chkA t = c at *
  repeat' (first | ((with_reducible refine kok ?_); kernel_rfl) | ((with_reducible refine keq_mk ?_); kernel_rfl) | with_reducible rfl | ((conv => whnf); first | (with_reducible exact trivial) | ((with_reducible refine and_ff ?_ ?_); · exact rfl) | ((with_reducible refine and_tt ?_ ?_); · exact rfl) | (with_reducible refine And.intro ?_ ?_) | intro _ | (with_reducible refine fin2 hk ?_) | ((with_reducible refine eq_leaf ?_); exact rfl) | exact trivial))
  all_goals try ((first | with_reducible refine (?_ : (_ : Int) ≤ _) | with_reducible refine (?_ : (_ : Int) < _)); clear hk hS; omega)
  all_goals try ((with_reducible refine (?_ : (_ : Int) = _)); clear hk; rw [← hS]; simp only [taskOf_agg, ↓Bool.not_eq_true', ↓Bool.not_eq_false', ↓decT, ↓decF, out_true, out_false, isin_true, isin_false, Int.toNat_natCast, Int.ofNat_lt, Nat.zero_add, Nat.add_zero, Nat.reduceAdd] at *; rw [chkA_1 (by omega)])
  rename_i q1 q2
  simp only [taskOf_agg, ↓Bool.not_eq_true', ↓Bool.not_eq_false', ↓decT, ↓decF, out_true, out_false, isin_true, isin_false, Int.toNat_natCast, Int.ofNat_lt, Nat.zero_add, Nat.add_zero, Nat.reduceAdd] at q1 q2
  have hN : (1 ≤ t.nr ∧ t.nr ≤ 20) ∧ 1 ≤ t.ns ∧ t.ns ≤ 40 := by omega
  have hS' := (chkA_2 hN).symm.trans hS
  clear hS q1 q2
  conv => whnf
  refine ⟨Nat, fun k => [(1, .ptr 0 0), (5, .int .i64 k)], fun k => [some (.row t.cells)],
    fun k => t.nr - k, fun k => k ≤ t.nr ∧ (0 ≤ fromOf t.ra k ∧ fromOf t.ra k ≤ 100000000) ∧ c = pickE 2 (fe (respE t) k (t.nr - k)) (chkA3 t), [], 0, fun _ => ⟨rfl, rfl⟩, ?_, fun k hI => ?_⟩
  · clear hk
    have h0 := from_0 t.ra
    repeat' (first | ((with_reducible refine kok ?_); kernel_rfl) | ((with_reducible refine keq_mk ?_); kernel_rfl) | with_reducible rfl | ((conv => whnf); first | (with_reducible exact trivial) | ((with_reducible refine and_ff ?_ ?_); · exact rfl) | ((with_reducible refine and_tt ?_ ?_); · exact rfl) | (with_reducible refine And.intro ?_ ?_) | intro _ | (with_reducible refine fin2 hk ?_) | ((with_reducible refine eq_leaf ?_); exact rfl) | exact trivial))
    all_goals first
      | exact Nat.zero_le _
      | (rw [h0]; decide)
      | exact hS'.symm
  clear hS'
  obtain ⟨hi, hfr, hc⟩ := hI
  have hi : k ≤ t.nr := hi
  have hfr : 0 ≤ fromOf t.ra k ∧ fromOf t.ra k ≤ 100000000 := hfr
  have hc : c = pickE 2 (fe (respE t) k (t.nr - k)) (chkA3 t) := hc
  have hn := from_next t.ra k
  have hp0 : k = 0 → fromOf t.ra k = 0 := fun e => by rw [e]; exact from_0 _
  have hp1 : 0 < k → t.ra (k - 1) 1 = fromOf t.ra k := fun h => by
    have := from_next t.ra (k - 1)
    rw [show k - 1 + 1 = k by omega] at this
    exact this.symm
  have hpr : ((k : Int) - 1).toNat = k - 1 := by omega
  repeat' (first | ((with_reducible refine kok ?_); kernel_rfl) | ((with_reducible refine keq_mk ?_); kernel_rfl) | with_reducible rfl | ((conv => whnf); first | (with_reducible exact trivial) | ((with_reducible refine and_ff ?_ ?_); · exact rfl) | ((with_reducible refine and_tt ?_ ?_); · exact rfl) | (with_reducible refine And.intro ?_ ?_) | intro _ | (with_reducible refine fin2 hk ?_) | ((with_reducible refine eq_leaf ?_); exact rfl) | exact trivial))
  all_goals try ((first | with_reducible refine (?_ : (_ : Int) ≤ _) | with_reducible refine (?_ : (_ : Int) < _)); clear hk hc; simp only [taskOf_agg, ↓Bool.not_eq_true', ↓Bool.not_eq_false', ↓decT, ↓decF, out_true, out_false, isin_true, isin_false, Int.toNat_natCast, Int.ofNat_lt, Nat.zero_add, Nat.add_zero, Nat.reduceAdd] at *; omega)
  all_goals try ((with_reducible refine (?_ : (_ : Int) = _)); clear hk; simp only [taskOf_agg, ↓Bool.not_eq_true', ↓Bool.not_eq_false', ↓decT, ↓decF, out_true, out_false, isin_true, isin_false, Int.toNat_natCast, Int.ofNat_lt, Nat.zero_add, Nat.add_zero, Nat.reduceAdd, hpr] at *; first
    | (rw [hc, pick_bad (by omega) (by rw [resp_2 (by omega)]; decide)] <;> first | rfl | exact (resp_2 (by omega)).symm)
    | (rw [hc, pick_bad (by omega) (by rw [resp_7 (by omega) (by unfold RespOK; omega)]; decide)] <;> first | rfl | exact (resp_7 (by omega) (by unfold RespOK; omega)).symm))
  all_goals try (
    have hx : respE t k = 0 := by clear hk; simp only [taskOf_agg, ↓Bool.not_eq_true', ↓Bool.not_eq_false', ↓decT, ↓decF, out_true, out_false, isin_true, isin_false, Int.toNat_natCast, Int.ofNat_lt, Nat.zero_add, Nat.add_zero, Nat.reduceAdd, hpr] at *; exact resp_0 (by omega) (by unfold RespOK; omega)
    have hlt : k < t.nr := by clear hk; simp only [taskOf_agg, ↓Bool.not_eq_true', ↓Bool.not_eq_false', ↓decT, ↓decF, out_true, out_false, isin_true, isin_false, Int.toNat_natCast, Int.ofNat_lt, Nat.zero_add, Nat.add_zero, Nat.reduceAdd, hpr] at *; omega
    have hh : 0 ≤ t.ra k 1 ∧ t.ra k 1 ≤ 100000000 := by clear hk; simp only [taskOf_agg, ↓Bool.not_eq_true', ↓Bool.not_eq_false', ↓decT, ↓decF, out_true, out_false, isin_true, isin_false, Int.toNat_natCast, Int.ofNat_lt, Nat.zero_add, Nat.add_zero, Nat.reduceAdd, hpr] at *; omega
    have hb := hc.trans (pick_next hlt hx)
    clear hk hc
    conv => whnf
    refine ⟨k + 1, ?_⟩
    repeat' (first | ((with_reducible refine kok ?_); kernel_rfl) | ((with_reducible refine keq_mk ?_); kernel_rfl) | with_reducible rfl | ((conv => whnf); first | (with_reducible exact trivial) | ((with_reducible refine and_ff ?_ ?_); · exact rfl) | ((with_reducible refine and_tt ?_ ?_); · exact rfl) | (with_reducible refine And.intro ?_ ?_) | intro _ | (with_reducible refine fin2 hk ?_) | ((with_reducible refine eq_leaf ?_); exact rfl) | exact trivial))
    all_goals first
      | exact hlt
      | exact hb
      | (rw [hn]; omega)
      | omega
      | (simp only; omega))
  rename_i q1
  simp only [taskOf_agg, ↓Bool.not_eq_true', ↓Bool.not_eq_false', ↓decT, ↓decF, out_true, out_false, isin_true, isin_false, Int.toNat_natCast, Int.ofNat_lt, Nat.zero_add, Nat.add_zero, Nat.reduceAdd] at q1
  have hc' := (hc.trans (pick_end (by omega))).trans (chkA_3 t)
  clear hc hi q1 hn hfr hp0 hp1 hpr
  conv => whnf
  refine ⟨Nat, fun k => [(1, .ptr 0 0), (8, .int .i64 k)], fun k => [some (.row t.cells)],
    fun k => t.ns - k, fun k => k ≤ t.ns ∧ c = pickE 3 (fe (setE t) k (t.ns - k)) (chkA4 t), [], 0, fun _ => ⟨rfl, rfl⟩, ?_, fun k hI => ?_⟩
  · clear hk
    repeat' (first | ((with_reducible refine kok ?_); kernel_rfl) | ((with_reducible refine keq_mk ?_); kernel_rfl) | with_reducible rfl | ((conv => whnf); first | (with_reducible exact trivial) | ((with_reducible refine and_ff ?_ ?_); · exact rfl) | ((with_reducible refine and_tt ?_ ?_); · exact rfl) | (with_reducible refine And.intro ?_ ?_) | intro _ | (with_reducible refine fin2 hk ?_) | ((with_reducible refine eq_leaf ?_); exact rfl) | exact trivial))
    all_goals first
      | exact Nat.zero_le _
      | exact hc'
  clear hc'
  obtain ⟨hi, hc⟩ := hI
  have hi : k ≤ t.ns := hi
  have hc : c = pickE 3 (fe (setE t) k (t.ns - k)) (chkA4 t) := hc
  repeat' (first | ((with_reducible refine kok ?_); kernel_rfl) | ((with_reducible refine keq_mk ?_); kernel_rfl) | with_reducible rfl | ((conv => whnf); first | (with_reducible exact trivial) | ((with_reducible refine and_ff ?_ ?_); · exact rfl) | ((with_reducible refine and_tt ?_ ?_); · exact rfl) | (with_reducible refine And.intro ?_ ?_) | intro _ | (with_reducible refine fin2 hk ?_) | ((with_reducible refine eq_leaf ?_); exact rfl) | exact trivial))
  all_goals try ((first | with_reducible refine (?_ : (_ : Int) ≤ _) | with_reducible refine (?_ : (_ : Int) < _)); clear hk hc; simp only [taskOf_agg, ↓Bool.not_eq_true', ↓Bool.not_eq_false', ↓decT, ↓decF, out_true, out_false, isin_true, isin_false, Int.toNat_natCast, Int.ofNat_lt, Nat.zero_add, Nat.add_zero, Nat.reduceAdd] at *; omega)
  all_goals try ((with_reducible refine (?_ : (_ : Int) = _)); clear hk; simp only [taskOf_agg, ↓Bool.not_eq_true', ↓Bool.not_eq_false', ↓decT, ↓decF, out_true, out_false, isin_true, isin_false, Int.toNat_natCast, Int.ofNat_lt, Nat.zero_add, Nat.add_zero, Nat.reduceAdd, area_true, area_false] at *; first
    | (rw [hc, pick_bad (by omega) (by rw [set_7 (by unfold SetOK; omega)]; decide)] <;> first | rfl | exact (set_7 (by unfold SetOK; omega)).symm)
    | (rw [hc, pick_end (by omega), chkA_4 (by unfold RestOK; omega)] <;> rfl)
    | (rw [hc, pick_end (by omega), chkA_0 (by unfold RestOK; omega)] <;> rfl))
  · rename_i q1 q2 q3
    simp only [taskOf_agg, ↓Bool.not_eq_true', ↓Bool.not_eq_false', ↓decT, ↓decF, out_true, out_false, isin_true, isin_false, Int.toNat_natCast, Int.ofNat_lt, Nat.zero_add, Nat.add_zero, Nat.reduceAdd, area_true] at q1 q2 q3
    have hb := hc.trans (pick_next q1 (set_0 (by unfold SetOK; omega)))
    clear hk hc
    conv => whnf
    refine ⟨k + 1, ?_⟩
    repeat' (first | ((with_reducible refine kok ?_); kernel_rfl) | ((with_reducible refine keq_mk ?_); kernel_rfl) | with_reducible rfl | ((conv => whnf); first | (with_reducible exact trivial) | ((with_reducible refine and_ff ?_ ?_); · exact rfl) | ((with_reducible refine and_tt ?_ ?_); · exact rfl) | (with_reducible refine And.intro ?_ ?_) | intro _ | (with_reducible refine fin2 hk ?_) | ((with_reducible refine eq_leaf ?_); exact rfl) | exact trivial))
    all_goals first
      | exact q1
      | exact hb
      | (simp only; omega)
end Go.Proofs.Ytbakdblbknfadaa
end
section
set_option linter.unusedVariables false
set_option linter.unusedSimpArgs false
set_option maxRecDepth 100000
set_option maxHeartbeats 4000000
namespace Go.Proofs.Ytbakdblbknfadaa
open Go.V
structure AmOK (t : ATask) : Prop where
  nr : 1 ≤ t.nr ∧ t.nr ≤ 20
  ns : 1 ≤ t.ns ∧ t.ns ≤ 40
  from' : ∀ i, i < t.nr → t.ra i 0 = fromOf t.ra i
  resp : ∀ i, i < t.nr → RespOK t i
  sets : ∀ i, i < t.ns → SetOK t i
  rest : RestOK t
theorem am_ok {t : ATask} (h : (chkA t).2.2 = 0) : AmOK t := by
  unfold chkA at h
  split at h
  · exact absurd h (by decide)
  rename_i h1
  rw [Bool.not_eq_false, Bool.and_eq_true, isin_true, isin_true] at h1
  obtain ⟨f1, h⟩ := pickE_zero h
  unfold chkA3 at h
  obtain ⟨f2, h⟩ := pickE_zero h
  unfold chkA4 at h
  split at h
  rotate_left
  · exact absurd h (by decide)
  rename_i h2
  have R : ∀ i, i < t.nr → t.ra i 0 = fromOf t.ra i ∧ RespOK t i := fun i hi => by
    have e := fe_zero f1 i (Nat.zero_le i) (by omega)
    by_cases q : t.ra i 0 = fromOf t.ra i
    · refine ⟨q, Classical.byContradiction fun g => ?_⟩
      rw [resp_7 q g] at e
      exact absurd e (by decide)
    · rw [resp_2 q] at e
      exact absurd e (by decide)
  have S : ∀ i, i < t.ns → SetOK t i := fun i hi => by
    have e := fe_zero f2 i (Nat.zero_le i) (by omega)
    refine Classical.byContradiction fun g => ?_
    rw [set_7 g] at e
    exact absurd e (by decide)
  exact ⟨by omega, by omega, fun i hi => (R i hi).1, fun i hi => (R i hi).2, S, (rest_iff t).1 h2⟩
theorem fe_nil {e : Nat → Int} : ∀ {n i : Nat}, (∀ j, i ≤ j → j < i + n → e j = 0) → fe e i n = (0, 0)
  | 0, i, _ => rfl
  | n + 1, i, h => by
    rw [fe, if_neg (fun g => g (h i (Nat.le_refl _) (by omega)))]
    exact fe_nil fun j h1 h2 => h j (by omega) (by omega)
theorem AmOK.check {t : ATask} (h : AmOK t) : chkA t = (0, 0, 0) := by
  rw [chkA_2 ⟨h.nr, h.ns⟩]
  unfold chkA3
  rw [Nat.sub_zero, fe_nil (fun j h1 h2 => resp_0 (h.from' j (by omega)) (h.resp j (by omega))), fe_nil (fun j h1 h2 => set_0 (h.sets j (by omega))), chkA_0 h.rest]
  rfl
/-- The heights of a weight. -/
theorem AmOK.up {t : ATask} (h : AmOK t) : ∀ i, i < t.nr → 0 ≤ t.ra i 0 ∧ t.ra i 0 < t.ra i 1 ∧ t.ra i 1 ≤ 100000000
  | 0, hi => by
    have r := h.resp 0 hi
    have f := h.from' 0 hi
    unfold RespOK at r
    rw [from_0] at f r
    omega
  | i + 1, hi => by
    have ih := h.up i (by omega)
    have r := h.resp (i + 1) hi
    have f := h.from' (i + 1) hi
    unfold RespOK at r
    rw [from_next] at f r
    omega
/-- A band that is not in the heights of a weight. -/
def skipB (lo hi : Int) (a : Nat → Nat → Int) (k : Nat) : Bool := decide (a k 1 ≤ lo) || decide (hi ≤ a k 0)
def anyM (lo hi : Int) (a : Nat → Nat → Int) : Nat → Bool
  | 0 => false
  | k + 1 => if skipB lo hi a k = true then anyM lo hi a k else true
/-- The mean wind by the first bands: the least (or greatest) of a column. -/
def meanV (f : Int → Int → Int) (c : Nat) (lo hi : Int) (a : Nat → Nat → Int) : Nat → Int
  | 0 => 0
  | k + 1 => if skipB lo hi a k = true then meanV f c lo hi a k else if anyM lo hi a k = true then f (meanV f c lo hi a k) (a k c) else a k c
def meanD (lo hi : Int) (n : Nat) (a : Nat → Nat → Int) : V.D := .tup [.agg [.int .i64 (meanV min 2 lo hi a n), .int .i64 (meanV max 3 lo hi a n)], .agg [.int .i64 (meanV min 4 lo hi a n), .int .i64 (meanV max 5 lo hi a n)]]
theorem skip_t {lo hi : Int} {a : Nat → Nat → Int} {k : Nat} (h : a k 1 ≤ lo ∨ hi ≤ a k 0) : skipB lo hi a k = true := by
  simp [skipB, h]
theorem skip_f {lo hi : Int} {a : Nat → Nat → Int} {k : Nat} (h : ¬ (a k 1 ≤ lo ∨ hi ≤ a k 0)) : skipB lo hi a k = false := by
  simp only [skipB, Bool.or_eq_false_iff, decide_eq_false_iff_not]
  omega
theorem mean_skip {f : Int → Int → Int} {c : Nat} {lo hi : Int} {a : Nat → Nat → Int} {k : Nat} (h : skipB lo hi a k = true) : meanV f c lo hi a (k + 1) = meanV f c lo hi a k := if_pos h
theorem mean_first {f : Int → Int → Int} {c : Nat} {lo hi : Int} {a : Nat → Nat → Int} {k : Nat} (h : skipB lo hi a k = false) (h2 : anyM lo hi a k = false) : meanV f c lo hi a (k + 1) = a k c := by
  simp [meanV, h, h2]
theorem mean_more {f : Int → Int → Int} {c : Nat} {lo hi : Int} {a : Nat → Nat → Int} {k : Nat} (h : skipB lo hi a k = false) (h2 : anyM lo hi a k = true) : meanV f c lo hi a (k + 1) = f (meanV f c lo hi a k) (a k c) := by
  simp [meanV, h, h2]
theorem any_skip {lo hi : Int} {a : Nat → Nat → Int} {k : Nat} (h : skipB lo hi a k = true) : anyM lo hi a (k + 1) = anyM lo hi a k := if_pos h
theorem any_more {lo hi : Int} {a : Nat → Nat → Int} {k : Nat} (h : skipB lo hi a k = false) : anyM lo hi a (k + 1) = true := by simp [anyM, h]
theorem meanV_in {f : Int → Int → Int} {c : Nat} {lo hi : Int} {a : Nat → Nat → Int} {n : Nat} (hf : ∀ x y, (f x y = x ∨ f x y = y)) (hb : BandsOK n a) (hc : c = 2 ∨ c = 3 ∨ c = 4 ∨ c = 5) : ∀ k, k ≤ n → -20000 ≤ meanV f c lo hi a k ∧ meanV f c lo hi a k ≤ 20000
  | 0, _ => by show (-20000 : Int) ≤ 0 ∧ (0 : Int) ≤ 20000; decide
  | k + 1, hk => by
    have ih := meanV_in (lo := lo) (hi := hi) hf hb hc k (by omega)
    have x := hb.x k (by omega)
    have y := hb.y k (by omega)
    have ha : -20000 ≤ a k c ∧ a k c ≤ 20000 := by rcases hc with rfl | rfl | rfl | rfl <;> omega
    cases h : skipB lo hi a k with
    | true => rw [mean_skip h]; exact ih
    | false =>
      cases h2 : anyM lo hi a k with
      | false => rw [mean_first h h2]; exact ha
      | true =>
        rw [mean_more h h2]
        rcases hf (meanV f c lo hi a k) (a k c) with e | e <;> rw [e]
        · exact ih
        · exact ha
theorem min_or (x y : Int) : min x y = x ∨ min x y = y := by omega
theorem max_or (x y : Int) : max x y = x ∨ max x y = y := by omega
noncomputable def la4 : Lib := (18, mk rAChk) :: (19, mk rAChk) :: (107, mk rProd) :: (99, mk rProd) :: (115, mk rJoin) :: (102, mk rSum2) :: la3
theorem la4_ok : LibOK Go.Proofs.Try.prog la4 := .cons aCheck_ok (.cons qCheck_ok (.cons aProd_ok (.cons qProd_ok (.cons qJoin_ok (.cons aSum_ok la3_ok)))))
/-- Do bands not reach up to the last weight? -/
def lowB (t : ATask) (n : Nat) (a : Nat → Nat → Int) : Bool := decide (a (n - 1) 1 < t.ra (t.nr - 1) 1)
def rLow (f : Bool → Bool) : List V.D → Option (Prop × V.D) := fun ds => match ds with
  | [d, .rsl 6 n g] => some (AtIs d ∧ AmOK (atOf d) ∧ IM n 6 g ∧ 1 ≤ n ∧ n ≤ 20, .bool (f (lowB (atOf d) n (im g))))
  | _ => none
theorem aLow_ok : PSound Go.Proofs.Try.prog 83 (mk (rLow id)) := by
  refine psound_mk Try.func83 (by kernel_rfl) rfl (ctx (.nil _)) ?_
  (intro ds p d h; unfold rLow at h; split at h <;> first | (cases h; done) | skip; cases h; refine ⟨Nat.le_of_ble_eq_true rfl, fun hp k hk => ?_⟩)
  rename_i d n g
  obtain ⟨ht, hok, hg, h1, h2⟩ := hp
  refine ⟨[(atOf d).D, .rsl 6 n (imD (im g))], at_imp ht ⟨rfl, hg, ?_⟩⟩
  clear ht hg
  generalize atOf d = t at *
  generalize im g = a at *
  have hnr := hok.nr
  have e1 : ((n : Int) - 1).toNat = n - 1 := by omega
  have e2 : ((t.nr : Int) - 1).toNat = t.nr - 1 := by omega
  repeat' (first | ((with_reducible refine kok ?_); kernel_rfl) | ((with_reducible refine keq_mk ?_); kernel_rfl) | with_reducible rfl | ((conv => whnf); first | (with_reducible exact trivial) | ((with_reducible refine and_ff ?_ ?_); · exact rfl) | ((with_reducible refine and_tt ?_ ?_); · exact rfl) | (with_reducible refine And.intro ?_ ?_) | intro _ | (with_reducible refine fin2 hk ?_) | ((with_reducible refine eq_leaf ?_); exact rfl) | exact trivial))
  all_goals clear hk
  all_goals first
    | omega
    | (show decide _ = _; simp only [e1, e2]; rfl)
theorem qReach_ok : PSound Go.Proofs.Try.prog 89 (mk (rLow not)) := by
  refine psound_mk Try.func89 (by kernel_rfl) rfl (ctx (.nil _)) ?_
  (intro ds p d h; unfold rLow at h; split at h <;> first | (cases h; done) | skip; cases h; refine ⟨Nat.le_of_ble_eq_true rfl, fun hp k hk => ?_⟩)
  rename_i d n g
  obtain ⟨ht, hok, hg, h1, h2⟩ := hp
  refine ⟨[(atOf d).D, .rsl 6 n (imD (im g))], at_imp ht ⟨rfl, hg, ?_⟩⟩
  clear ht hg
  generalize atOf d = t at *
  generalize im g = a at *
  have hnr := hok.nr
  have e1 : ((n : Int) - 1).toNat = n - 1 := by omega
  have e2 : ((t.nr : Int) - 1).toNat = t.nr - 1 := by omega
  repeat' (first | ((with_reducible refine kok ?_); kernel_rfl) | ((with_reducible refine keq_mk ?_); kernel_rfl) | with_reducible rfl | ((conv => whnf); first | (with_reducible exact trivial) | ((with_reducible refine and_ff ?_ ?_); · exact rfl) | ((with_reducible refine and_tt ?_ ?_); · exact rfl) | (with_reducible refine And.intro ?_ ?_) | intro _ | (with_reducible refine fin2 hk ?_) | ((with_reducible refine eq_leaf ?_); exact rfl) | exact trivial))
  all_goals clear hk
  all_goals first
    | omega
    | (unfold lowB; rw [← decide_not, ← e1, ← e2]; exact decide_eq_decide.2 (by simp only [Nat.zero_add, Nat.add_zero]; omega))
def rMean : List V.D → Option (Prop × V.D) := fun ds => match ds with
  | [.agg [.int .i64 lo, .int .i64 hi, .int .i64 k1, .int .i64 k2], .rsl 6 n g] => some (IM n 6 g ∧ BandsOK n (im g) ∧ lo < hi, meanD lo hi n (im g))
  | _ => none
attribute [local irreducible] meanV anyM skipB
theorem qMean_ok : PSound Go.Proofs.Try.prog 98 (mk rMean) := by
  refine psound_mk Try.func98 (by kernel_rfl) rfl (ctx la4_ok) ?_
  (intro ds p d h; unfold rMean at h; split at h <;> first | (cases h; done) | skip; cases h; refine ⟨Nat.le_of_ble_eq_true rfl, fun hp k hk => ?_⟩)
  rename_i lo hi k1 k2 n g
  obtain ⟨hg, hb, hlh⟩ := hp
  refine ⟨[.agg [.int .i64 lo, .int .i64 hi, .int .i64 k1, .int .i64 k2], .rsl 6 n (imD (im g))], rfl, rfl, rfl, rfl, rfl, hg, ?_⟩
  clear hg
  generalize im g = a at *
  have hlen := hb.len
  repeat' (first | ((with_reducible refine kok ?_); kernel_rfl) | ((with_reducible refine keq_mk ?_); kernel_rfl) | with_reducible rfl | ((conv => whnf); first | (with_reducible exact trivial) | ((with_reducible refine and_ff ?_ ?_); · exact rfl) | ((with_reducible refine and_tt ?_ ?_); · exact rfl) | (with_reducible refine And.intro ?_ ?_) | intro _ | (with_reducible refine fin2 hk ?_) | ((with_reducible refine eq_leaf ?_); exact rfl) | exact trivial))
  conv => whnf
  refine ⟨Nat, fun k => [(1, .rsl 6 n (imD a)), (2, .ptr 0 0), (4, .ptr 1 0), (5, .ptr 2 0), (6, .ptr 3 0), (7, .ptr 4 0), (8, .bool (anyM lo hi a k)), (9, .int .i64 k)],
    fun k => [some (.row [.int .i64 lo, .int .i64 hi, .int .i64 k1, .int .i64 k2]), some (.row [.int .i64 0, .int .i64 0]), some (.row [.int .i64 0, .int .i64 0]), some (.row [.int .i64 (meanV min 2 lo hi a k), .int .i64 (meanV max 3 lo hi a k)]), some (.row [.int .i64 (meanV min 4 lo hi a k), .int .i64 (meanV max 5 lo hi a k)])],
    fun k => n - k, fun k => k ≤ n, [], 0, fun _ => ⟨rfl, rfl⟩, ?_, fun k hi' => ?_⟩
  · clear hk
    repeat' (first | ((with_reducible refine kok ?_); kernel_rfl) | ((with_reducible refine keq_mk ?_); kernel_rfl) | with_reducible rfl | ((conv => whnf); first | (with_reducible exact trivial) | ((with_reducible refine and_ff ?_ ?_); · exact rfl) | ((with_reducible refine and_tt ?_ ?_); · exact rfl) | (with_reducible refine And.intro ?_ ?_) | intro _ | (with_reducible refine fin2 hk ?_) | ((with_reducible refine eq_leaf ?_); exact rfl) | exact trivial))
    all_goals first | exact Nat.zero_le _ | (delta meanV; rfl) | (delta anyM; rfl) | skip
  have hi' : k ≤ n := hi'
  have U := fun h => hb.up k h
  repeat' (first | ((with_reducible refine kok ?_); kernel_rfl) | ((with_reducible refine keq_mk ?_); kernel_rfl) | with_reducible rfl | ((conv => whnf); first | (with_reducible exact trivial) | ((with_reducible refine and_ff ?_ ?_); · exact rfl) | ((with_reducible refine and_tt ?_ ?_); · exact rfl) | (with_reducible refine And.intro ?_ ?_) | intro _ | (with_reducible refine fin2 hk ?_) | ((with_reducible refine eq_leaf ?_); exact rfl) | exact trivial))
  all_goals try ((first | with_reducible refine (?_ : (_ : Int) ≤ _) | with_reducible refine (?_ : (_ : Int) < _)); clear hk; simp only [taskOf_agg, ↓Bool.not_eq_true', ↓Bool.not_eq_false', ↓decT, ↓decF, out_true, out_false, isin_true, isin_false, Int.toNat_natCast, Int.ofNat_lt, Nat.zero_add, Nat.add_zero, Nat.reduceAdd] at *; omega)
  · rename_i q1 q2
    simp only [taskOf_agg, ↓Bool.not_eq_true', ↓Bool.not_eq_false', ↓decT, ↓decF, out_true, out_false, isin_true, isin_false, Int.toNat_natCast, Int.ofNat_lt, Nat.zero_add, Nat.add_zero, Nat.reduceAdd, Nat.zero_add] at q1 q2
    have s := skip_t (lo := lo) (hi := hi) (a := a) (k := k) (by have := U q1; omega)
    clear hk
    conv => whnf
    refine ⟨k + 1, ?_⟩
    repeat' (first | ((with_reducible refine kok ?_); kernel_rfl) | ((with_reducible refine keq_mk ?_); kernel_rfl) | with_reducible rfl | ((conv => whnf); first | (with_reducible exact trivial) | ((with_reducible refine and_ff ?_ ?_); · exact rfl) | ((with_reducible refine and_tt ?_ ?_); · exact rfl) | (with_reducible refine And.intro ?_ ?_) | intro _ | (with_reducible refine fin2 hk ?_) | ((with_reducible refine eq_leaf ?_); exact rfl) | exact trivial))
    all_goals first
      | exact (any_skip s).symm
      | exact (mean_skip s).symm
      | exact q1
      | (simp only; omega)
  · rename_i q1 q2 q3
    simp only [taskOf_agg, ↓Bool.not_eq_true', ↓Bool.not_eq_false', ↓decT, ↓decF, out_true, out_false, isin_true, isin_false, Int.toNat_natCast, Int.ofNat_lt, Nat.zero_add, Nat.add_zero, Nat.reduceAdd, Nat.zero_add] at q1 q2
    have s := skip_f (lo := lo) (hi := hi) (a := a) (k := k) (by have := U q1; omega)
    clear hk
    conv => whnf
    refine ⟨k + 1, ?_⟩
    repeat' (first | ((with_reducible refine kok ?_); kernel_rfl) | ((with_reducible refine keq_mk ?_); kernel_rfl) | with_reducible rfl | ((conv => whnf); first | (with_reducible exact trivial) | ((with_reducible refine and_ff ?_ ?_); · exact rfl) | ((with_reducible refine and_tt ?_ ?_); · exact rfl) | (with_reducible refine And.intro ?_ ?_) | intro _ | (with_reducible refine fin2 hk ?_) | ((with_reducible refine eq_leaf ?_); exact rfl) | exact trivial))
    all_goals first
      | (rw [any_more s, q3]; done)
      | exact (mean_more s q3).symm
      | exact q1
      | (simp only; omega)
  · rename_i q1 q2 q3
    simp only [taskOf_agg, ↓Bool.not_eq_true', ↓Bool.not_eq_false', ↓decT, ↓decF, out_true, out_false, isin_true, isin_false, Int.toNat_natCast, Int.ofNat_lt, Nat.zero_add, Nat.add_zero, Nat.reduceAdd, Nat.zero_add] at q1 q2
    have s := skip_f (lo := lo) (hi := hi) (a := a) (k := k) (by have := U q1; omega)
    clear hk
    conv => whnf
    refine ⟨k + 1, ?_⟩
    repeat' (first | ((with_reducible refine kok ?_); kernel_rfl) | ((with_reducible refine keq_mk ?_); kernel_rfl) | with_reducible rfl | ((conv => whnf); first | (with_reducible exact trivial) | ((with_reducible refine and_ff ?_ ?_); · exact rfl) | ((with_reducible refine and_tt ?_ ?_); · exact rfl) | (with_reducible refine And.intro ?_ ?_) | intro _ | (with_reducible refine fin2 hk ?_) | ((with_reducible refine eq_leaf ?_); exact rfl) | exact trivial))
    all_goals first
      | exact (any_more s).symm
      | exact (mean_first s q3).symm
      | exact q1
      | (simp only; omega)
  all_goals (
    have e : k = n := by clear hk; simp only [taskOf_agg, ↓Bool.not_eq_true', ↓Bool.not_eq_false', ↓decT, ↓decF, out_true, out_false, isin_true, isin_false, Int.toNat_natCast, Int.ofNat_lt, Nat.zero_add, Nat.add_zero, Nat.reduceAdd] at *; omega
    rw [e])
end Go.Proofs.Ytbakdblbknfadaa
end
section
set_option linter.unusedVariables false
set_option linter.unusedSimpArgs false
set_option maxRecDepth 100000
set_option maxHeartbeats 4000000
namespace Go.Proofs.Ytbakdblbknfadaa
open Go.V
def wS (f : Int → Int → Int → Int → Int) (c : Nat) (t : ATask) (n : Nat) (a : Nat → Nat → Int) : Nat → Int
  | 0 => 0
  | i + 1 => wS f c t n a i + f (t.ra i 2) (t.ra i 3) (meanV min c (t.ra i 0) (t.ra i 1) a n) (meanV max (c + 1) (t.ra i 0) (t.ra i 1) a n)
/-- A task with the weighed wind. -/
structure Scn where
  t : ATask
  xl : Int
  xh : Int
  yl : Int
  yh : Int
def Scn.row (s : Scn) : List V.D := [.rsl 4 s.t.nr (imD s.t.ra), .rsl 5 s.t.ns (imD s.t.sa), .int .i64 s.t.tx, .int .i64 s.t.ty, .int .i64 s.t.al, .int .i64 s.t.ah, .int .i64 s.t.bl, .int .i64 s.t.bh, .int .i64 s.t.gain, .int .i64 s.t.turn, .int .i64 s.t.freeze, .int .i64 s.xl, .int .i64 s.xh, .int .i64 s.yl, .int .i64 s.yh]
def Scn.e (s : Scn) (j : Nat) : V.D := s.row.getD j .top
def weighTo (t : ATask) (n : Nat) (a : Nat → Nat → Int) (i : Nat) : Scn := ⟨t, wS pLo 2 t n a i, wS pHi 2 t n a i, wS pLo 4 t n a i, wS pHi 4 t n a i⟩
def weighS (t : ATask) (n : Nat) (a : Nat → Nat → Int) : Scn := weighTo t n a t.nr
theorem mean_in {t : ATask} {n : Nat} {a : Nat → Nat → Int} (hb : BandsOK n a) (lo hi : Int) : ((-20000 ≤ meanV min 2 lo hi a n ∧ meanV min 2 lo hi a n ≤ 20000) ∧ -20000 ≤ meanV max 3 lo hi a n ∧ meanV max 3 lo hi a n ≤ 20000) ∧ (-20000 ≤ meanV min 4 lo hi a n ∧ meanV min 4 lo hi a n ≤ 20000) ∧ -20000 ≤ meanV max 5 lo hi a n ∧ meanV max 5 lo hi a n ≤ 20000 :=
  ⟨⟨meanV_in min_or hb (by omega) n (Nat.le_refl n), meanV_in max_or hb (by omega) n (Nat.le_refl n)⟩, meanV_in min_or hb (by omega) n (Nat.le_refl n), meanV_in max_or hb (by omega) n (Nat.le_refl n)⟩
theorem term_x {t : ATask} (h : AmOK t) {n : Nat} {a : Nat → Nat → Int} (hb : BandsOK n a) {i : Nat} (hi : i < t.nr) :
    ((-10000000 ≤ t.ra i 2 ∧ t.ra i 2 ≤ 10000000) ∧ -10000000 ≤ t.ra i 3 ∧ t.ra i 3 ≤ 10000000) := by
  have r := h.resp i hi
  unfold RespOK at r
  omega
theorem wS_in {t : ATask} (h : AmOK t) {n : Nat} {a : Nat → Nat → Int} (hb : BandsOK n a) {f : Int → Int → Int → Int → Int} (hf : f = pLo ∨ f = pHi) {c : Nat} (hc : c = 2 ∨ c = 4) :
    ∀ i, i ≤ t.nr → -200000000000 * (i : Int) ≤ wS f c t n a i ∧ wS f c t n a i ≤ 200000000000 * (i : Int)
  | 0, _ => by simp [wS]
  | i + 1, hi => by
    have ih := wS_in h hb hf hc i (by omega)
    have k := term_x h hb (i := i) (by omega)
    have m1 := meanV_in (f := min) (c := c) (lo := t.ra i 0) (hi := t.ra i 1) min_or hb (by omega) n (Nat.le_refl n)
    have m2 := meanV_in (f := max) (c := c + 1) (lo := t.ra i 0) (hi := t.ra i 1) max_or hb (by omega) n (Nat.le_refl n)
    have p := p_in k.1 k.2 m1 m2
    have e : wS f c t n a (i + 1) = wS f c t n a i + f (t.ra i 2) (t.ra i 3) (meanV min c (t.ra i 0) (t.ra i 1) a n) (meanV max (c + 1) (t.ra i 0) (t.ra i 1) a n) := rfl
    rw [e]
    rcases hf with rfl | rfl <;> omega
/-- The weighed wind is small. -/
def ScOK (s : Scn) : Prop := AmOK s.t ∧ ((-4000000000000 ≤ s.xl ∧ s.xl ≤ 4000000000000) ∧ -4000000000000 ≤ s.xh ∧ s.xh ≤ 4000000000000) ∧ (-4000000000000 ≤ s.yl ∧ s.yl ≤ 4000000000000) ∧ -4000000000000 ≤ s.yh ∧ s.yh ≤ 4000000000000
theorem weighTo_ok {t : ATask} (h : AmOK t) {n : Nat} {a : Nat → Nat → Int} (hb : BandsOK n a) {i : Nat} (hi : i ≤ t.nr) : ScOK (weighTo t n a i) := by
  have h1 := wS_in h hb (f := pLo) (.inl rfl) (c := 2) (.inl rfl) i hi
  have h2 := wS_in h hb (f := pHi) (.inr rfl) (c := 2) (.inl rfl) i hi
  have h3 := wS_in h hb (f := pLo) (.inl rfl) (c := 4) (.inr rfl) i hi
  have h4 := wS_in h hb (f := pHi) (.inr rfl) (c := 4) (.inr rfl) i hi
  have hn := h.nr
  refine ⟨h, ⟨?_, ?_⟩, ?_, ?_⟩ <;> (simp only [weighTo]; omega)
noncomputable def la5 : Lib := (83, mk (rLow id)) :: (89, mk (rLow not)) :: (98, mk rMean) :: la4
theorem la5_ok : LibOK Go.Proofs.Try.prog la5 := .cons aLow_ok (.cons qReach_ok (.cons qMean_ok la4_ok))
def rWeighed : List V.D → Option (Prop × V.D) := fun ds => match ds with
  | [d, .rsl 6 n g] => some (AtIs d ∧ AmOK (atOf d) ∧ IM n 6 g ∧ BandsOK n (im g), .eptr 15 (weighS (atOf d) n (im g)).e)
  | _ => none
def rWeighQ : List V.D → Option (Prop × V.D) := fun ds => match ds with
  | [d, .rsl 6 n g] => some (AtIs d ∧ AmOK (atOf d) ∧ IM n 6 g ∧ BandsOK n (im g), .tup [.agg [.int .i64 (weighS (atOf d) n (im g)).xl, .int .i64 (weighS (atOf d) n (im g)).xh], .agg [.int .i64 (weighS (atOf d) n (im g)).yl, .int .i64 (weighS (atOf d) n (im g)).yh]])
  | _ => none
attribute [local irreducible] meanV anyM skipB pLo pHi wS
theorem qWeigh_ok : PSound Go.Proofs.Try.prog 72 (mk rWeighQ) := by
  refine psound_mk Try.func72 (by kernel_rfl) rfl (ctx la5_ok) ?_
  (intro ds p d h; unfold rWeighQ at h; split at h <;> first | (cases h; done) | skip; cases h; refine ⟨Nat.le_of_ble_eq_true rfl, fun hp k hk => ?_⟩)
  rename_i d n g
  obtain ⟨ht, hok, hg, hb⟩ := hp
  refine ⟨[(atOf d).D, .rsl 6 n (imD (im g))], at_imp ht ⟨rfl, hg, ?_⟩⟩
  clear ht hg
  generalize atOf d = t at *
  generalize im g = a at *
  have hnr := hok.nr
  have hlen := hb.len
  repeat' (first | ((with_reducible refine kok ?_); kernel_rfl) | ((with_reducible refine keq_mk ?_); kernel_rfl) | with_reducible rfl | ((conv => whnf); first | (with_reducible exact trivial) | ((with_reducible refine and_ff ?_ ?_); · exact rfl) | ((with_reducible refine and_tt ?_ ?_); · exact rfl) | (with_reducible refine And.intro ?_ ?_) | intro _ | (with_reducible refine fin2 hk ?_) | ((with_reducible refine eq_leaf ?_); exact rfl) | exact trivial))
  conv => whnf
  refine ⟨Nat, fun k => [(1, .rsl 6 n (imD a)), (2, .ptr 0 0), (4, .ptr 1 0), (5, .ptr 2 0), (6, .ptr 3 0), (7, .ptr 4 0), (8, .int .i64 k)],
    fun k => [some (.row t.cells), some (.row [.int .i64 0, .int .i64 0]), some (.row [.int .i64 0, .int .i64 0]), some (.row [.int .i64 (wS pLo 2 t n a k), .int .i64 (wS pHi 2 t n a k)]), some (.row [.int .i64 (wS pLo 4 t n a k), .int .i64 (wS pHi 4 t n a k)])],
    fun k => t.nr - k, fun k => k ≤ t.nr, [], 0, fun _ => ⟨rfl, rfl⟩, ?_, fun k hi' => ?_⟩
  · clear hk
    repeat' (first | ((with_reducible refine kok ?_); kernel_rfl) | ((with_reducible refine keq_mk ?_); kernel_rfl) | with_reducible rfl | ((conv => whnf); first | (with_reducible exact trivial) | ((with_reducible refine and_ff ?_ ?_); · exact rfl) | ((with_reducible refine and_tt ?_ ?_); · exact rfl) | (with_reducible refine And.intro ?_ ?_) | intro _ | (with_reducible refine fin2 hk ?_) | ((with_reducible refine eq_leaf ?_); exact rfl) | exact trivial))
    all_goals first | exact Nat.zero_le _ | (delta wS; rfl) | skip
  have hi' : k ≤ t.nr := hi'
  have S := weighTo_ok hok hb hi'
  obtain ⟨_, ⟨S1, S2⟩, S3, S4⟩ := S
  simp only [weighTo] at S1 S2 S3 S4
  have K := fun h => term_x hok hb (i := k) h
  have M := mean_in (t := t) hb (t.ra k 0) (t.ra k 1)
  have P := fun h => p_in (K h).1 (K h).2 M.1.1 M.1.2
  have P' := fun h => p_in (K h).1 (K h).2 M.2.1 M.2.2
  have U := fun h => hok.up k h
  have W : ∀ f c, wS f c t n a (k + 1) = wS f c t n a k + f (t.ra k 2) (t.ra k 3) (meanV min c (t.ra k 0) (t.ra k 1) a n) (meanV max (c + 1) (t.ra k 0) (t.ra k 1) a n) := fun f c => by delta wS; rfl
  repeat' (first | ((with_reducible refine kok ?_); kernel_rfl) | ((with_reducible refine keq_mk ?_); kernel_rfl) | with_reducible rfl | ((conv => whnf); first | (with_reducible exact trivial) | ((with_reducible refine and_ff ?_ ?_); · exact rfl) | ((with_reducible refine and_tt ?_ ?_); · exact rfl) | (with_reducible refine And.intro ?_ ?_) | intro _ | (with_reducible refine fin2 hk ?_) | ((with_reducible refine eq_leaf ?_); exact rfl) | exact trivial))
  all_goals try exact hb
  all_goals try ((first | with_reducible refine (?_ : (_ : Int) ≤ _) | with_reducible refine (?_ : (_ : Int) < _)); clear hk W; simp only [taskOf_agg, ↓Bool.not_eq_true', ↓Bool.not_eq_false', ↓decT, ↓decF, out_true, out_false, isin_true, isin_false, Int.toNat_natCast, Int.ofNat_lt, Nat.zero_add, Nat.add_zero, Nat.reduceAdd, im_imD, Nat.zero_add, Nat.add_zero] at *; first | omega | (have := K (by omega); have := U (by omega); have := P (by omega); have := P' (by omega); omega))
  · rename_i q1
    simp only [taskOf_agg, ↓Bool.not_eq_true', ↓Bool.not_eq_false', ↓decT, ↓decF, out_true, out_false, isin_true, isin_false, Int.toNat_natCast, Int.ofNat_lt, Nat.zero_add, Nat.add_zero, Nat.reduceAdd] at q1
    clear hk
    conv => whnf
    refine ⟨k + 1, ?_⟩
    repeat' (first | ((with_reducible refine kok ?_); kernel_rfl) | ((with_reducible refine keq_mk ?_); kernel_rfl) | with_reducible rfl | ((conv => whnf); first | (with_reducible exact trivial) | ((with_reducible refine and_ff ?_ ?_); · exact rfl) | ((with_reducible refine and_tt ?_ ?_); · exact rfl) | (with_reducible refine And.intro ?_ ?_) | intro _ | (with_reducible refine fin2 hk ?_) | ((with_reducible refine eq_leaf ?_); exact rfl) | exact trivial))
    all_goals first
      | exact (W _ _).symm
      | exact q1
      | (simp only; omega)
  all_goals (
    have e : k = t.nr := by clear hk; simp only [taskOf_agg, ↓Bool.not_eq_true', ↓Bool.not_eq_false', ↓decT, ↓decF, out_true, out_false, isin_true, isin_false, Int.toNat_natCast, Int.ofNat_lt, Nat.zero_add, Nat.add_zero, Nat.reduceAdd] at *; omega
    rw [e]
    rfl)
theorem aWeighed_ok : PSound Go.Proofs.Try.prog 84 (mk rWeighed) := by
  refine psound_mk Try.func84 (by kernel_rfl) rfl (ctx la5_ok) ?_
  (intro ds p d h; unfold rWeighed at h; split at h <;> first | (cases h; done) | skip; cases h; refine ⟨Nat.le_of_ble_eq_true rfl, fun hp k hk => ?_⟩)
  rename_i d n g
  obtain ⟨ht, hok, hg, hb⟩ := hp
  refine ⟨[(atOf d).D, .rsl 6 n (imD (im g))], at_imp ht ⟨rfl, hg, ?_⟩⟩
  clear ht hg
  generalize atOf d = t at *
  generalize im g = a at *
  have hnr := hok.nr
  have hlen := hb.len
  repeat' (first | ((with_reducible refine kok ?_); kernel_rfl) | ((with_reducible refine keq_mk ?_); kernel_rfl) | with_reducible rfl | ((conv => whnf); first | (with_reducible exact trivial) | ((with_reducible refine and_ff ?_ ?_); · exact rfl) | ((with_reducible refine and_tt ?_ ?_); · exact rfl) | (with_reducible refine And.intro ?_ ?_) | intro _ | (with_reducible refine fin2 hk ?_) | ((with_reducible refine eq_leaf ?_); exact rfl) | exact trivial))
  conv => whnf
  refine ⟨Nat, fun i => [(1, .rsl 6 n (imD a)), (2, .ptr 0 0), (5, .ptr 1 0), (16, .rsl 4 t.nr (imD t.ra)), (17, .int .i64 t.nr), (18, .int .i64 i)],
    fun i => [some (.row t.cells), some (.row (weighTo t n a i).row)],
    fun i => t.nr - i, fun i => i ≤ t.nr, [], 0, fun _ => ⟨rfl, rfl⟩, ?_, fun i hi => ?_⟩
  · clear hk
    repeat' (first | ((with_reducible refine kok ?_); kernel_rfl) | ((with_reducible refine keq_mk ?_); kernel_rfl) | with_reducible rfl | ((conv => whnf); first | (with_reducible exact trivial) | ((with_reducible refine and_ff ?_ ?_); · exact rfl) | ((with_reducible refine and_tt ?_ ?_); · exact rfl) | (with_reducible refine And.intro ?_ ?_) | intro _ | (with_reducible refine fin2 hk ?_) | ((with_reducible refine eq_leaf ?_); exact rfl) | exact trivial))
    all_goals first | exact Nat.zero_le _ | (show (0 : Int) = wS _ _ _ _ _ 0; delta wS; rfl) | skip
  have hi : i ≤ t.nr := hi
  have S := weighTo_ok hok hb hi
  obtain ⟨_, ⟨S1, S2⟩, S3, S4⟩ := S
  simp only [weighTo] at S1 S2 S3 S4
  have K := fun h => term_x hok hb (i := i) h
  have M := mean_in (t := t) hb (t.ra i 0) (t.ra i 1)
  have P := fun h => p_in (K h).1 (K h).2 M.1.1 M.1.2
  have P' := fun h => p_in (K h).1 (K h).2 M.2.1 M.2.2
  have W : ∀ f c, wS f c t n a (i + 1) = wS f c t n a i + f (t.ra i 2) (t.ra i 3) (meanV min c (t.ra i 0) (t.ra i 1) a n) (meanV max (c + 1) (t.ra i 0) (t.ra i 1) a n) := fun f c => by delta wS; rfl
  conv => whnf
  refine ⟨fun g1 => ?_, fun g1 => ?_⟩
  rotate_left
  · repeat' (first | ((with_reducible refine kok ?_); kernel_rfl) | ((with_reducible refine keq_mk ?_); kernel_rfl) | with_reducible rfl | ((conv => whnf); first | (with_reducible exact trivial) | ((with_reducible refine and_ff ?_ ?_); · exact rfl) | ((with_reducible refine and_tt ?_ ?_); · exact rfl) | (with_reducible refine And.intro ?_ ?_) | intro _ | (with_reducible refine fin2 hk ?_) | ((with_reducible refine eq_leaf ?_); exact rfl) | exact trivial))
    all_goals (
      have e : i = t.nr := by have := of_decide_eq_false g1; omega
      clear hk
      rename_i j hj
      subst e
      match j, hj with
      | 0, _ | 1, _ | 2, _ | 3, _ | 4, _ | 5, _ | 6, _ | 7, _ | 8, _ | 9, _ | 10, _ | 11, _ | 12, _ | 13, _ | 14, _ => rfl)
  have hlt : i < t.nr := by have := of_decide_eq_true g1; omega
  have K := K hlt
  have P := P hlt
  have P' := P' hlt
  have UP := hok.up i hlt
  repeat' (first | ((with_reducible refine kok ?_); kernel_rfl) | ((with_reducible refine keq_mk ?_); kernel_rfl) | with_reducible rfl | ((conv => whnf); first | (with_reducible exact trivial) | ((with_reducible refine and_ff ?_ ?_); · exact rfl) | ((with_reducible refine and_tt ?_ ?_); · exact rfl) | (with_reducible refine And.intro ?_ ?_) | intro _ | (with_reducible refine fin2 hk ?_) | ((with_reducible refine eq_leaf ?_); exact rfl) | exact trivial))
  all_goals try (clear hk; omega)
  conv => whnf
  refine ⟨Nat, fun k => [(1, .rsl 6 n (imD a)), (2, .ptr 0 0), (5, .ptr 1 0), (7, .ptr 2 0), (8, .ptr 3 0), (9, .bool (!anyM (t.ra i 0) (t.ra i 1) a k)), (16, .rsl 4 t.nr (imD t.ra)), (17, .int .i64 t.nr), (18, .int .i64 i), (22, .rsl 6 n (imD a)), (23, .int .i64 n), (24, .int .i64 k)],
    fun k => [some (.row t.cells), some (.row (weighTo t n a i).row), some (.row [.int .i64 (t.ra i 0), .int .i64 (t.ra i 1), .int .i64 (t.ra i 2), .int .i64 (t.ra i 3)]), some (.row [.int .i64 (meanV min 2 (t.ra i 0) (t.ra i 1) a k), .int .i64 (meanV max 3 (t.ra i 0) (t.ra i 1) a k), .int .i64 (meanV min 4 (t.ra i 0) (t.ra i 1) a k), .int .i64 (meanV max 5 (t.ra i 0) (t.ra i 1) a k)])],
    fun k => n - k, fun k => k ≤ n, [], 0, fun _ => ⟨rfl, rfl⟩, ?_, fun k hk' => ?_⟩
  · clear hk
    repeat' (first | ((with_reducible refine kok ?_); kernel_rfl) | ((with_reducible refine keq_mk ?_); kernel_rfl) | with_reducible rfl | ((conv => whnf); first | (with_reducible exact trivial) | ((with_reducible refine and_ff ?_ ?_); · exact rfl) | ((with_reducible refine and_tt ?_ ?_); · exact rfl) | (with_reducible refine And.intro ?_ ?_) | intro _ | (with_reducible refine fin2 hk ?_) | ((with_reducible refine eq_leaf ?_); exact rfl) | exact trivial))
    all_goals first | exact Nat.zero_le _ | (delta meanV; rfl) | (delta anyM; rfl) | skip
  have hk' : k ≤ n := hk'
  have U := fun h => hb.up k h
  conv => whnf
  refine ⟨fun g2 => ?_, fun g2 => ?_⟩
  · have hkn : k < n := by have := of_decide_eq_true g2; omega
    have U2 := U hkn
    clear U
    repeat' (first | ((with_reducible refine kok ?_); kernel_rfl) | ((with_reducible refine keq_mk ?_); kernel_rfl) | with_reducible rfl | ((conv => whnf); first | (with_reducible exact trivial) | ((with_reducible refine and_ff ?_ ?_); · exact rfl) | ((with_reducible refine and_tt ?_ ?_); · exact rfl) | (with_reducible refine And.intro ?_ ?_) | intro _ | (with_reducible refine fin2 hk ?_) | ((with_reducible refine eq_leaf ?_); exact rfl) | exact trivial))
    all_goals try ((first | with_reducible refine (?_ : (_ : Int) ≤ _) | with_reducible refine (?_ : (_ : Int) < _)); clear hk W; simp only [taskOf_agg, ↓Bool.not_eq_true', ↓Bool.not_eq_false', ↓decT, ↓decF, out_true, out_false, isin_true, isin_false, Int.toNat_natCast, Int.ofNat_lt, Nat.zero_add, Nat.add_zero, Nat.reduceAdd, Nat.zero_add, Nat.add_zero] at *; omega)
    · rename_i q1
      simp only [taskOf_agg, ↓Bool.not_eq_true', ↓Bool.not_eq_false', ↓decT, ↓decF, out_true, out_false, isin_true, isin_false, Int.toNat_natCast, Int.ofNat_lt, Nat.zero_add, Nat.add_zero, Nat.reduceAdd] at q1
      have s := skip_t (lo := t.ra i 0) (hi := t.ra i 1) (a := a) (k := k) (.inl q1)
      clear hk
      conv => whnf
      refine ⟨k + 1, ?_⟩
      repeat' (first | ((with_reducible refine kok ?_); kernel_rfl) | ((with_reducible refine keq_mk ?_); kernel_rfl) | with_reducible rfl | ((conv => whnf); first | (with_reducible exact trivial) | ((with_reducible refine and_ff ?_ ?_); · exact rfl) | ((with_reducible refine and_tt ?_ ?_); · exact rfl) | (with_reducible refine And.intro ?_ ?_) | intro _ | (with_reducible refine fin2 hk ?_) | ((with_reducible refine eq_leaf ?_); exact rfl) | exact trivial))
      all_goals first
        | (rw [any_skip s]; done)
        | exact (mean_skip s).symm
        | exact hkn
        | (simp only; omega)
    · rename_i q1 q2
      simp only [taskOf_agg, ↓Bool.not_eq_true', ↓Bool.not_eq_false', ↓decT, ↓decF, out_true, out_false, isin_true, isin_false, Int.toNat_natCast, Int.ofNat_lt, Nat.zero_add, Nat.add_zero, Nat.reduceAdd] at q1 q2
      have s := skip_t (lo := t.ra i 0) (hi := t.ra i 1) (a := a) (k := k) (.inr q2)
      clear hk
      conv => whnf
      refine ⟨k + 1, ?_⟩
      repeat' (first | ((with_reducible refine kok ?_); kernel_rfl) | ((with_reducible refine keq_mk ?_); kernel_rfl) | with_reducible rfl | ((conv => whnf); first | (with_reducible exact trivial) | ((with_reducible refine and_ff ?_ ?_); · exact rfl) | ((with_reducible refine and_tt ?_ ?_); · exact rfl) | (with_reducible refine And.intro ?_ ?_) | intro _ | (with_reducible refine fin2 hk ?_) | ((with_reducible refine eq_leaf ?_); exact rfl) | exact trivial))
      all_goals first
        | (rw [any_skip s]; done)
        | exact (mean_skip s).symm
        | exact hkn
        | (simp only; omega)
    · rename_i q1 q2 q3
      simp only [taskOf_agg, ↓Bool.not_eq_true', ↓Bool.not_eq_false', ↓decT, ↓decF, out_true, out_false, isin_true, isin_false, Int.toNat_natCast, Int.ofNat_lt, Nat.zero_add, Nat.add_zero, Nat.reduceAdd] at q1 q2 q3
      have s := skip_f (lo := t.ra i 0) (hi := t.ra i 1) (a := a) (k := k) (by omega)
      clear hk
      conv => whnf
      refine ⟨k + 1, ?_⟩
      repeat' (first | ((with_reducible refine kok ?_); kernel_rfl) | ((with_reducible refine keq_mk ?_); kernel_rfl) | with_reducible rfl | ((conv => whnf); first | (with_reducible exact trivial) | ((with_reducible refine and_ff ?_ ?_); · exact rfl) | ((with_reducible refine and_tt ?_ ?_); · exact rfl) | (with_reducible refine And.intro ?_ ?_) | intro _ | (with_reducible refine fin2 hk ?_) | ((with_reducible refine eq_leaf ?_); exact rfl) | exact trivial))
      all_goals first
        | (rw [any_more s]; rfl)
        | exact (mean_first s q3).symm
        | exact hkn
        | (simp only; omega)
    · rename_i q1 q2 q3
      simp only [taskOf_agg, ↓Bool.not_eq_true', ↓Bool.not_eq_false', ↓decT, ↓decF, out_true, out_false, isin_true, isin_false, Int.toNat_natCast, Int.ofNat_lt, Nat.zero_add, Nat.add_zero, Nat.reduceAdd] at q1 q2 q3
      have s := skip_f (lo := t.ra i 0) (hi := t.ra i 1) (a := a) (k := k) (by omega)
      clear hk
      conv => whnf
      refine ⟨k + 1, ?_⟩
      repeat' (first | ((with_reducible refine kok ?_); kernel_rfl) | ((with_reducible refine keq_mk ?_); kernel_rfl) | with_reducible rfl | ((conv => whnf); first | (with_reducible exact trivial) | ((with_reducible refine and_ff ?_ ?_); · exact rfl) | ((with_reducible refine and_tt ?_ ?_); · exact rfl) | (with_reducible refine And.intro ?_ ?_) | intro _ | (with_reducible refine fin2 hk ?_) | ((with_reducible refine eq_leaf ?_); exact rfl) | exact trivial))
      all_goals first
        | (rw [any_more s, q3]; done)
        | exact (mean_more s q3).symm
        | exact hkn
        | (simp only; omega)
  · obtain rfl : k = n := by have := of_decide_eq_false g2; omega
    repeat' (first | ((with_reducible refine kok ?_); kernel_rfl) | ((with_reducible refine keq_mk ?_); kernel_rfl) | with_reducible rfl | ((conv => whnf); first | (with_reducible exact trivial) | ((with_reducible refine and_ff ?_ ?_); · exact rfl) | ((with_reducible refine and_tt ?_ ?_); · exact rfl) | (with_reducible refine And.intro ?_ ?_) | intro _ | (with_reducible refine fin2 hk ?_) | ((with_reducible refine eq_leaf ?_); exact rfl) | exact trivial))
    all_goals try ((first | with_reducible refine (?_ : (_ : Int) ≤ _) | with_reducible refine (?_ : (_ : Int) < _)); clear hk W; simp only [taskOf_agg, ↓Bool.not_eq_true', ↓Bool.not_eq_false', ↓decT, ↓decF, out_true, out_false, isin_true, isin_false, Int.toNat_natCast, Int.ofNat_lt, Nat.zero_add, Nat.add_zero, Nat.reduceAdd, Nat.zero_add, Nat.add_zero] at *; omega)
    all_goals try decide
    all_goals try (
      rename_i i' j' hi' hj'
      have e1 : i' = 0 ∨ i' = 1 := by omega
      have e2 : j' = 0 ∨ j' = 1 := by omega
      clear hk W
      rcases e1 with rfl | rfl <;> rcases e2 with rfl | rfl <;> first | rfl | (show (_ : Int) ≤ wS _ _ _ _ _ _; omega) | (show wS _ _ _ _ _ _ ≤ (_ : Int); omega) | (show (_ : Int) ≤ pLo _ _ _ _; omega) | (show pLo _ _ _ _ ≤ (_ : Int); omega) | (show (_ : Int) ≤ pHi _ _ _ _; omega) | (show pHi _ _ _ _ ≤ (_ : Int); omega))
    clear hk
    conv => whnf
    refine ⟨i + 1, ?_⟩
    repeat' (first | ((with_reducible refine kok ?_); kernel_rfl) | ((with_reducible refine keq_mk ?_); kernel_rfl) | with_reducible rfl | ((conv => whnf); first | (with_reducible exact trivial) | ((with_reducible refine and_ff ?_ ?_); · exact rfl) | ((with_reducible refine and_tt ?_ ?_); · exact rfl) | (with_reducible refine And.intro ?_ ?_) | intro _ | (with_reducible refine fin2 hk ?_) | ((with_reducible refine eq_leaf ?_); exact rfl) | exact trivial))
    all_goals first
      | (show 0 + wS _ _ _ _ _ _ + _ = wS _ _ _ _ _ _; rw [W, Int.zero_add]; rfl)
      | (simp only; omega)
end Go.Proofs.Ytbakdblbknfadaa
end
