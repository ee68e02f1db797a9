/-
  Contracts of the flight: numbers and spans.
-/
import Derived.Test.YtphcblofacfkaaaGreatMh
import Derived.Test.YtphcblofacfkaaaGreatMi
import Derived.Test.YtphcblofacfkaaaGreatMf
set_option linter.unusedVariables false
set_option linter.unusedSimpArgs false
set_option maxRecDepth 100000
set_option maxHeartbeats 4000000
section
namespace Go.Proofs.YtphcblofacfkaaaGreat
open Go.V
def minTo (a : Nat → Nat → Int) : Nat → Int
  | 0 => a 0 0
  | k + 1 => min (minTo a k) (a (k + 1) 0)
def maxTo (a : Nat → Nat → Int) : Nat → Int
  | 0 => a 0 0
  | k + 1 => max (maxTo a k) (a (k + 1) 0)
def rMinMax (f : (Nat → Nat → Int) → Nat → Int) : List D → Option (Prop × D) := fun ds => match ds with
  | [.rsl 1 n g] => some (IM n 1 g ∧ 0 < n ∧ n ≤ 1099511627776, .int .i64 (f (im g) (n - 1)))
  | _ => none
theorem sMin_ok : PSound Go.Proofs.Tryz.prog 96 (mk (rMinMax minTo)) := by
  refine psound_mk Tryz.func96 (by kernel_rfl) rfl (ctx (.nil _)) ?_
  (intro ds p d h; unfold rMinMax at h; split at h <;> first | (cases h; done) | skip; cases h; refine ⟨Nat.le_of_ble_eq_true rfl, fun hp k hk => ?_⟩)
  rename_i n g
  obtain ⟨h1, h0, h2⟩ := hp
  refine ⟨[.rsl 1 n (imD (im g))], rfl, h1, ?_⟩
  clear h1
  generalize im g = a at *
  repeat' (first | ((with_reducible refine kok ?_); kernel_rfl) | ((with_reducible refine keq_mk ?_); kernel_rfl) | with_reducible rfl | ((conv => whnf); first | (with_reducible exact trivial) | ((with_reducible refine and_ff ?_ ?_); · exact rfl) | ((with_reducible refine and_tt ?_ ?_); · exact rfl) | (with_reducible refine And.intro ?_ ?_) | intro _ | (with_reducible refine fin2 hk ?_) | ((with_reducible refine eq_leaf ?_); exact rfl) | exact trivial))
  all_goals try (clear hk; simp only [taskOf_agg, ↓Bool.not_eq_true', ↓Bool.not_eq_false', ↓decT, ↓decF, out_true, out_false, isin_true, isin_false, Int.toNat_natCast, Int.ofNat_lt, Nat.zero_add, Nat.add_zero, Nat.reduceAdd] at *; omega)
  conv => whnf
  refine ⟨Nat, fun i => [(0, .rsl 1 n (imD a)), (3, .int .i64 (minTo a i)), (4, .int .i64 ((i : Int) + 1))], fun _ => [], fun i => n - i, fun i => i + 1 ≤ n, [], 0, fun _ => ⟨rfl, rfl⟩, ?_, fun i hi => ?_⟩
  · clear hk
    repeat' (first | ((with_reducible refine kok ?_); kernel_rfl) | ((with_reducible refine keq_mk ?_); kernel_rfl) | with_reducible rfl | ((conv => whnf); first | (with_reducible exact trivial) | ((with_reducible refine and_ff ?_ ?_); · exact rfl) | ((with_reducible refine and_tt ?_ ?_); · exact rfl) | (with_reducible refine And.intro ?_ ?_) | intro _ | (with_reducible refine fin2 hk ?_) | ((with_reducible refine eq_leaf ?_); exact rfl) | exact trivial))
    all_goals first | exact h0 | rfl
  have hi : i + 1 ≤ n := hi
  have e : ((i : Int) + 1).toNat = i + 1 := by omega
  repeat' (first | ((with_reducible refine kok ?_); kernel_rfl) | ((with_reducible refine keq_mk ?_); kernel_rfl) | with_reducible rfl | ((conv => whnf); first | (with_reducible exact trivial) | ((with_reducible refine and_ff ?_ ?_); · exact rfl) | ((with_reducible refine and_tt ?_ ?_); · exact rfl) | (with_reducible refine And.intro ?_ ?_) | intro _ | (with_reducible refine fin2 hk ?_) | ((with_reducible refine eq_leaf ?_); exact rfl) | exact trivial))
  all_goals try ((first | with_reducible refine (?_ : (_ : Int) ≤ _) | with_reducible refine (?_ : (_ : Int) < _)); clear hk; simp only [taskOf_agg, ↓Bool.not_eq_true', ↓Bool.not_eq_false', ↓decT, ↓decF, out_true, out_false, isin_true, isin_false, Int.toNat_natCast, Int.ofNat_lt, Nat.zero_add, Nat.add_zero, Nat.reduceAdd] at *; omega)
  · clear hk
    conv => whnf
    refine ⟨i + 1, ?_⟩
    repeat' (first | ((with_reducible refine kok ?_); kernel_rfl) | ((with_reducible refine keq_mk ?_); kernel_rfl) | with_reducible rfl | ((conv => whnf); first | (with_reducible exact trivial) | ((with_reducible refine and_ff ?_ ?_); · exact rfl) | ((with_reducible refine and_tt ?_ ?_); · exact rfl) | (with_reducible refine And.intro ?_ ?_) | intro _ | (with_reducible refine fin2 hk ?_) | ((with_reducible refine eq_leaf ?_); exact rfl) | exact trivial))
    all_goals first
      | (rw [e]; rfl)
      | (simp only [taskOf_agg, ↓Bool.not_eq_true', ↓Bool.not_eq_false', ↓decT, ↓decF, out_true, out_false, isin_true, isin_false, Int.toNat_natCast, Int.ofNat_lt, Nat.zero_add, Nat.add_zero, Nat.reduceAdd, e] at *; omega)
  · obtain rfl : n = i + 1 := by clear hk; simp only [taskOf_agg, ↓Bool.not_eq_true', ↓Bool.not_eq_false', ↓decT, ↓decF, out_true, out_false, isin_true, isin_false, Int.toNat_natCast, Int.ofNat_lt, Nat.zero_add, Nat.add_zero, Nat.reduceAdd] at *; omega
    rfl
theorem sMax_ok : PSound Go.Proofs.Tryz.prog 97 (mk (rMinMax maxTo)) := by
  refine psound_mk Tryz.func97 (by kernel_rfl) rfl (ctx (.nil _)) ?_
  (intro ds p d h; unfold rMinMax at h; split at h <;> first | (cases h; done) | skip; cases h; refine ⟨Nat.le_of_ble_eq_true rfl, fun hp k hk => ?_⟩)
  rename_i n g
  obtain ⟨h1, h0, h2⟩ := hp
  refine ⟨[.rsl 1 n (imD (im g))], rfl, h1, ?_⟩
  clear h1
  generalize im g = a at *
  repeat' (first | ((with_reducible refine kok ?_); kernel_rfl) | ((with_reducible refine keq_mk ?_); kernel_rfl) | with_reducible rfl | ((conv => whnf); first | (with_reducible exact trivial) | ((with_reducible refine and_ff ?_ ?_); · exact rfl) | ((with_reducible refine and_tt ?_ ?_); · exact rfl) | (with_reducible refine And.intro ?_ ?_) | intro _ | (with_reducible refine fin2 hk ?_) | ((with_reducible refine eq_leaf ?_); exact rfl) | exact trivial))
  all_goals try (clear hk; simp only [taskOf_agg, ↓Bool.not_eq_true', ↓Bool.not_eq_false', ↓decT, ↓decF, out_true, out_false, isin_true, isin_false, Int.toNat_natCast, Int.ofNat_lt, Nat.zero_add, Nat.add_zero, Nat.reduceAdd] at *; omega)
  conv => whnf
  refine ⟨Nat, fun i => [(0, .rsl 1 n (imD a)), (3, .int .i64 (maxTo a i)), (4, .int .i64 ((i : Int) + 1))], fun _ => [], fun i => n - i, fun i => i + 1 ≤ n, [], 0, fun _ => ⟨rfl, rfl⟩, ?_, fun i hi => ?_⟩
  · clear hk
    repeat' (first | ((with_reducible refine kok ?_); kernel_rfl) | ((with_reducible refine keq_mk ?_); kernel_rfl) | with_reducible rfl | ((conv => whnf); first | (with_reducible exact trivial) | ((with_reducible refine and_ff ?_ ?_); · exact rfl) | ((with_reducible refine and_tt ?_ ?_); · exact rfl) | (with_reducible refine And.intro ?_ ?_) | intro _ | (with_reducible refine fin2 hk ?_) | ((with_reducible refine eq_leaf ?_); exact rfl) | exact trivial))
    all_goals first | exact h0 | rfl
  have hi : i + 1 ≤ n := hi
  have e : ((i : Int) + 1).toNat = i + 1 := by omega
  repeat' (first | ((with_reducible refine kok ?_); kernel_rfl) | ((with_reducible refine keq_mk ?_); kernel_rfl) | with_reducible rfl | ((conv => whnf); first | (with_reducible exact trivial) | ((with_reducible refine and_ff ?_ ?_); · exact rfl) | ((with_reducible refine and_tt ?_ ?_); · exact rfl) | (with_reducible refine And.intro ?_ ?_) | intro _ | (with_reducible refine fin2 hk ?_) | ((with_reducible refine eq_leaf ?_); exact rfl) | exact trivial))
  all_goals try ((first | with_reducible refine (?_ : (_ : Int) ≤ _) | with_reducible refine (?_ : (_ : Int) < _)); clear hk; simp only [taskOf_agg, ↓Bool.not_eq_true', ↓Bool.not_eq_false', ↓decT, ↓decF, out_true, out_false, isin_true, isin_false, Int.toNat_natCast, Int.ofNat_lt, Nat.zero_add, Nat.add_zero, Nat.reduceAdd] at *; omega)
  · clear hk
    conv => whnf
    refine ⟨i + 1, ?_⟩
    repeat' (first | ((with_reducible refine kok ?_); kernel_rfl) | ((with_reducible refine keq_mk ?_); kernel_rfl) | with_reducible rfl | ((conv => whnf); first | (with_reducible exact trivial) | ((with_reducible refine and_ff ?_ ?_); · exact rfl) | ((with_reducible refine and_tt ?_ ?_); · exact rfl) | (with_reducible refine And.intro ?_ ?_) | intro _ | (with_reducible refine fin2 hk ?_) | ((with_reducible refine eq_leaf ?_); exact rfl) | exact trivial))
    all_goals first
      | (rw [e]; rfl)
      | (simp only [taskOf_agg, ↓Bool.not_eq_true', ↓Bool.not_eq_false', ↓decT, ↓decF, out_true, out_false, isin_true, isin_false, Int.toNat_natCast, Int.ofNat_lt, Nat.zero_add, Nat.add_zero, Nat.reduceAdd, e] at *; omega)
  · obtain rfl : n = i + 1 := by clear hk; simp only [taskOf_agg, ↓Bool.not_eq_true', ↓Bool.not_eq_false', ↓decT, ↓decF, out_true, out_false, isin_true, isin_false, Int.toNat_natCast, Int.ofNat_lt, Nat.zero_add, Nat.add_zero, Nat.reduceAdd] at *; omega
    rfl
def sp (a b : Int) : V.D := .agg [.int .i64 a, .int .i64 b]
def i64 (n : Int) : Prop := -9223372036854775808 ≤ n ∧ n ≤ 9223372036854775807
theorem fOut_ok : PSound Go.Proofs.Tryz.prog 67 (mk rOut) := by
  refine psound_mk Tryz.func67 (by kernel_rfl) rfl (ctx (.nil _)) ?_
  (intro ds p d h; unfold rOut at h; split at h <;> first | (cases h; done) | skip; cases h; refine ⟨Nat.le_of_ble_eq_true rfl, fun hp k hk => ?_⟩)
  rename_i a b c
  refine ⟨[.int .i64 a, .int .i64 b, .int .i64 c], ?_⟩
  repeat' (first | ((with_reducible refine kok ?_); kernel_rfl) | ((with_reducible refine keq_mk ?_); kernel_rfl) | with_reducible rfl | ((conv => whnf); first | exact trivial | refine And.intro ?_ ?_ | intro _ | (with_reducible refine (?_ : _ = true); (conv => lhs; whnf); done) | exact rfl))
  all_goals (refine fin_of hk ?_; clear hk; repeat' (first | ((with_reducible refine kok ?_); kernel_rfl) | ((with_reducible refine keq_mk ?_); kernel_rfl) | with_reducible rfl | ((conv => whnf); first | exact trivial | refine And.intro ?_ ?_ | intro _ | (with_reducible refine (?_ : _ = true); (conv => lhs; whnf); done) | exact rfl)))
  all_goals (simp_all [out] <;> omega)
def rAt1 : List V.D → Option (Prop × V.D) := fun ds => match ds with
  | [.int .i64 n] => some (True, sp n n)
  | _ => none
theorem fAt_ok : PSound Go.Proofs.Tryz.prog 44 (mk rAt1) := by
  refine psound_mk Tryz.func44 (by kernel_rfl) rfl (ctx (.nil _)) ?_
  (intro ds p d h; unfold rAt1 at h; split at h <;> first | (cases h; done) | skip; cases h; refine ⟨Nat.le_of_ble_eq_true rfl, fun hp k hk => ?_⟩)
  rename_i n
  refine ⟨[.int .i64 n], rfl, ?_⟩
  repeat' (first | ((with_reducible refine kok ?_); kernel_rfl) | ((with_reducible refine keq_mk ?_); kernel_rfl) | with_reducible rfl | ((conv => whnf); first | (with_reducible exact trivial) | ((with_reducible refine and_ff ?_ ?_); · exact rfl) | ((with_reducible refine and_tt ?_ ?_); · exact rfl) | (with_reducible refine And.intro ?_ ?_) | intro _ | (with_reducible refine fin2 hk ?_) | ((with_reducible refine eq_leaf ?_); exact rfl) | exact trivial))
def beyondB (a b lo hi : Int) : Bool := decide (a < lo) || (decide (hi < b) || decide (b < a))
def rBeyond : List V.D → Option (Prop × V.D) := fun ds => match ds with
  | [.agg [.int .i64 a, .int .i64 b], .int .i64 lo, .int .i64 hi] => some (True, .bool (beyondB a b lo hi))
  | _ => none
theorem fBeyond_ok : PSound Go.Proofs.Tryz.prog 66 (mk rBeyond) := by
  refine psound_mk Tryz.func66 (by kernel_rfl) rfl (ctx (.nil _)) ?_
  (intro ds p d h; unfold rBeyond at h; split at h <;> first | (cases h; done) | skip; cases h; refine ⟨Nat.le_of_ble_eq_true rfl, fun hp k hk => ?_⟩)
  rename_i a b lo hi
  refine ⟨[.agg [.int .i64 a, .int .i64 b], .int .i64 lo, .int .i64 hi], rfl, rfl, rfl, rfl, ?_⟩
  have hc : beyondB a b lo hi = true ↔ a < lo ∨ hi < b ∨ b < a := by simp [beyondB]
  generalize beyondB a b lo hi = c at *
  repeat' (first | ((with_reducible refine kok ?_); kernel_rfl) | ((with_reducible refine keq_mk ?_); kernel_rfl) | with_reducible rfl | ((conv => whnf); first | (with_reducible exact trivial) | ((with_reducible refine and_ff ?_ ?_); · exact rfl) | ((with_reducible refine and_tt ?_ ?_); · exact rfl) | (with_reducible refine And.intro ?_ ?_) | intro _ | (with_reducible refine fin2 hk ?_) | ((with_reducible refine eq_leaf ?_); exact rfl) | exact trivial))
  all_goals (clear hk; cases c <;> simp_all <;> omega)
def r2 (p : Int → Int → Int → Int → Prop) (f g : Int → Int → Int → Int → Int) : List V.D → Option (Prop × V.D) := fun ds => match ds with
  | [.agg [.int .i64 a, .int .i64 b], .agg [.int .i64 c, .int .i64 d]] => some (p a b c d, sp (f a b c d) (g a b c d))
  | _ => none
def rPlus := r2 (fun a b c d => i64 (a + c) ∧ i64 (b + d)) (fun a b c d => a + c) (fun a b c d => b + d)
def rMinus := r2 (fun a b c d => i64 (a - d) ∧ i64 (b - c)) (fun a b c d => a - d) (fun a b c d => b - c)
def rHull := r2 (fun a b c d => True) (fun a b c d => min a c) (fun a b c d => max b d)
theorem fPlus_ok : PSound Go.Proofs.Tryz.prog 79 (mk rPlus) := by
  refine psound_mk Tryz.func79 (by kernel_rfl) rfl (ctx (.nil _)) ?_
  unfold rPlus
  (intro ds p d h; unfold r2 at h; split at h <;> first | (cases h; done) | skip; cases h; refine ⟨Nat.le_of_ble_eq_true rfl, fun hp k hk => ?_⟩)
  rename_i a b c d
  refine ⟨[.agg [.int .i64 a, .int .i64 b], .agg [.int .i64 c, .int .i64 d]], rfl, rfl, rfl, rfl, ?_⟩
  obtain ⟨⟨h1, h2⟩, h3, h4⟩ := hp
  repeat' (first | ((with_reducible refine kok ?_); kernel_rfl) | ((with_reducible refine keq_mk ?_); kernel_rfl) | with_reducible rfl | ((conv => whnf); first | (with_reducible exact trivial) | ((with_reducible refine and_ff ?_ ?_); · exact rfl) | ((with_reducible refine and_tt ?_ ?_); · exact rfl) | (with_reducible refine And.intro ?_ ?_) | intro _ | (with_reducible refine fin2 hk ?_) | ((with_reducible refine eq_leaf ?_); exact rfl) | exact trivial))
  all_goals assumption
theorem fMinus_ok : PSound Go.Proofs.Tryz.prog 111 (mk rMinus) := by
  refine psound_mk Tryz.func111 (by kernel_rfl) rfl (ctx (.nil _)) ?_
  unfold rMinus
  (intro ds p d h; unfold r2 at h; split at h <;> first | (cases h; done) | skip; cases h; refine ⟨Nat.le_of_ble_eq_true rfl, fun hp k hk => ?_⟩)
  rename_i a b c d
  refine ⟨[.agg [.int .i64 a, .int .i64 b], .agg [.int .i64 c, .int .i64 d]], rfl, rfl, rfl, rfl, ?_⟩
  obtain ⟨⟨h1, h2⟩, h3, h4⟩ := hp
  repeat' (first | ((with_reducible refine kok ?_); kernel_rfl) | ((with_reducible refine keq_mk ?_); kernel_rfl) | with_reducible rfl | ((conv => whnf); first | (with_reducible exact trivial) | ((with_reducible refine and_ff ?_ ?_); · exact rfl) | ((with_reducible refine and_tt ?_ ?_); · exact rfl) | (with_reducible refine And.intro ?_ ?_) | intro _ | (with_reducible refine fin2 hk ?_) | ((with_reducible refine eq_leaf ?_); exact rfl) | exact trivial))
  all_goals assumption
theorem fHull_ok : PSound Go.Proofs.Tryz.prog 81 (mk rHull) := by
  refine psound_mk Tryz.func81 (by kernel_rfl) rfl (ctx (.nil _)) ?_
  unfold rHull
  (intro ds p d h; unfold r2 at h; split at h <;> first | (cases h; done) | skip; cases h; refine ⟨Nat.le_of_ble_eq_true rfl, fun hp k hk => ?_⟩)
  rename_i a b c d
  refine ⟨[.agg [.int .i64 a, .int .i64 b], .agg [.int .i64 c, .int .i64 d]], rfl, rfl, rfl, rfl, ?_⟩
  repeat' (first | ((with_reducible refine kok ?_); kernel_rfl) | ((with_reducible refine keq_mk ?_); kernel_rfl) | with_reducible rfl | ((conv => whnf); first | (with_reducible exact trivial) | ((with_reducible refine and_ff ?_ ?_); · exact rfl) | ((with_reducible refine and_tt ?_ ?_); · exact rfl) | (with_reducible refine And.intro ?_ ?_) | intro _ | (with_reducible refine fin2 hk ?_) | ((with_reducible refine eq_leaf ?_); exact rfl) | exact trivial))
end Go.Proofs.YtphcblofacfkaaaGreat
end
section
namespace Go.Proofs.YtphcblofacfkaaaGreat
open Go.V
noncomputable def lt1 : Lib := (96, mk (rMinMax minTo)) :: (97, mk (rMinMax maxTo)) :: (67, mk rOut) :: (44, mk rAt1) :: (66, mk rBeyond) :: (79, mk rPlus) :: (111, mk rMinus) :: (81, mk rHull) :: []
theorem lt1_ok : LibOK Go.Proofs.Tryz.prog lt1 := .cons sMin_ok (.cons sMax_ok (.cons fOut_ok (.cons fAt_ok (.cons fBeyond_ok (.cons fPlus_ok (.cons fMinus_ok (.cons fHull_ok (.nil _))))))))
theorem fFloor_ok : PSound Go.Proofs.Tryz.prog 123 (mk rFloor) := by
  refine psound_mk Tryz.func123 (by kernel_rfl) rfl (ctx (.nil _)) ?_
  (intro ds p d h; unfold rFloor at h; split at h <;> first | (cases h; done) | skip; cases h; refine ⟨Nat.le_of_ble_eq_true rfl, fun hp k hk => ?_⟩)
  rename_i a b
  obtain ⟨h1, h2, h3⟩ := hp
  refine ⟨[.int .i64 a, .int .i64 b], rfl, rfl, ?_⟩
  obtain ⟨f1, f2, f3, f4⟩ := tdiv_facts a h1
  have f5 : a.tdiv b ≤ 4611686018427387904 ∧ -4611686018427387904 ≤ a.tdiv b ∧ a.tdiv b * b ≤ 4611686018427387904 ∧ -4611686018427387904 ≤ a.tdiv b * b := by
    rcases Int.le_total 0 a with ha | ha
    · have := f3 ha; omega
    · have := f4 ha; omega
  clear f3 f4
  generalize hS : a / b = c at *
  repeat' (first | ((with_reducible refine kok ?_); kernel_rfl) | ((with_reducible refine keq_mk ?_); kernel_rfl) | with_reducible rfl | ((conv => whnf); first | (with_reducible exact trivial) | ((with_reducible refine and_ff ?_ ?_); · exact rfl) | ((with_reducible refine and_tt ?_ ?_); · exact rfl) | (with_reducible refine And.intro ?_ ?_) | intro _ | (with_reducible refine fin2 hk ?_) | ((with_reducible refine eq_leaf ?_); exact rfl) | exact trivial))
  all_goals try (clear hk; omega)
  · rename_i g; exact f1 (of_decide_eq_true g)
  · rename_i g; exact f2 (of_decide_eq_false g)
def mulL (a b c d : Int) : Int := min (min (min (a * c) (a * d)) (b * c)) (b * d)
def mulH (a b c d : Int) : Int := max (max (max (a * c) (a * d)) (b * c)) (b * d)
def rTimes := r2 (fun a b c d => (i64 (a * c) ∧ i64 (a * d)) ∧ i64 (b * c) ∧ i64 (b * d)) mulL mulH
theorem fTimes_ok : PSound Go.Proofs.Tryz.prog 76 (mk rTimes) := by
  refine psound_mk Tryz.func76 (by kernel_rfl) rfl (ctx lt1_ok) ?_
  unfold rTimes
  (intro ds p d h; unfold r2 at h; split at h <;> first | (cases h; done) | skip; cases h; refine ⟨Nat.le_of_ble_eq_true rfl, fun hp k hk => ?_⟩)
  rename_i a b c d
  refine ⟨[.agg [.int .i64 a, .int .i64 b], .agg [.int .i64 c, .int .i64 d]], rfl, rfl, rfl, rfl, ?_⟩
  obtain ⟨⟨⟨h1, h2⟩, h3, h4⟩, ⟨h5, h6⟩, h7, h8⟩ := hp
  repeat' (first | ((with_reducible refine kok ?_); kernel_rfl) | ((with_reducible refine keq_mk ?_); kernel_rfl) | with_reducible rfl | ((conv => whnf); first | (with_reducible exact trivial) | ((with_reducible refine and_ff ?_ ?_); · exact rfl) | ((with_reducible refine and_tt ?_ ?_); · exact rfl) | (with_reducible refine And.intro ?_ ?_) | intro _ | (with_reducible refine fin2 hk ?_) | ((with_reducible refine eq_leaf ?_); exact rfl) | exact trivial))
  all_goals first
    | assumption
    | decide
    | (rename_i i j hi hj
       clear hk
       obtain rfl : j = 0 := by omega
       have hi' : i = 0 ∨ i = 1 ∨ i = 2 ∨ i = 3 := by omega
       rcases hi' with rfl | rfl | rfl | rfl <;> rfl)
    | skip
def sqLo (a b : Int) : Int := max (max 0 a) (-b) * max (max 0 a) (-b)
def sqHi (a b : Int) : Int := max (-a) b * max (-a) b
def rSquared : List V.D → Option (Prop × V.D) := fun ds => match ds with
  | [.agg [.int .i64 a, .int .i64 b]] => some ((-2000000000 ≤ a ∧ a ≤ b) ∧ b ≤ 2000000000, sp (sqLo a b) (sqHi a b))
  | _ => none
theorem sq_inF {x : Int} (h : 0 ≤ x ∧ x ≤ 2000000000) : 0 ≤ x * x ∧ x * x ≤ 4000000000000000000 := by
  have h1 := Int.mul_nonneg h.1 h.1
  have h2 : x * x ≤ 2000000000 * x := Int.mul_le_mul_of_nonneg_right h.2 h.1
  omega
theorem fSquared_ok : PSound Go.Proofs.Tryz.prog 112 (mk rSquared) := by
  refine psound_mk Tryz.func112 (by kernel_rfl) rfl (ctx (.nil _)) ?_
  (intro ds p d h; unfold rSquared at h; split at h <;> first | (cases h; done) | skip; cases h; refine ⟨Nat.le_of_ble_eq_true rfl, fun hp k hk => ?_⟩)
  rename_i a b
  refine ⟨[.agg [.int .i64 a, .int .i64 b]], rfl, rfl, ?_⟩
  obtain ⟨⟨h1, hab⟩, h2⟩ := hp
  have e1 : 0 - a = -a := Int.zero_sub a
  have e2 : 0 - b = -b := Int.zero_sub b
  have s1 := sq_inF (x := max (max 0 a) (-b)) (by omega)
  have s2 := sq_inF (x := max (-a) b) (by omega)
  repeat' (first | ((with_reducible refine kok ?_); kernel_rfl) | ((with_reducible refine keq_mk ?_); kernel_rfl) | with_reducible rfl | ((conv => whnf); first | (with_reducible exact trivial) | ((with_reducible refine and_ff ?_ ?_); · exact rfl) | ((with_reducible refine and_tt ?_ ?_); · exact rfl) | (with_reducible refine And.intro ?_ ?_) | intro _ | (with_reducible refine fin2 hk ?_) | ((with_reducible refine eq_leaf ?_); exact rfl) | exact trivial))
  all_goals first
    | (rw [e2]; rfl)
    | (rw [e1]; rfl)
    | (clear hk; simp only [e1, e2] at *; omega)
end Go.Proofs.YtphcblofacfkaaaGreat
end
section
namespace Go.Proofs.YtphcblofacfkaaaGreat
open Go.V
def newt (n : Int) : Nat → Int → Int → Int
  | 0, x, _ => x
  | f + 1, x, y => if y < x then newt n f y ((y + n / y) / 2) else x
def rootN (n : Int) : Int := newt n (n.toNat + 1) n ((n + 1) / 2)
theorem newt_root {n : Int} (hn : 1 ≤ n) : ∀ {f : Nat} {x : Int}, x.toNat < f → 1 ≤ x → 1 ≤ newt n f x ((x + n / x) / 2) ∧ newt n f x ((x + n / x) / 2) * newt n f x ((x + n / x) / 2) ≤ n
  | 0, x, h, _ => absurd h (by omega)
  | f + 1, x, h, hx => by
    have h0 : 0 ≤ n / x := Int.ediv_nonneg (by omega) (by omega)
    unfold newt
    split
    · rename_i hlt
      refine newt_root hn (by omega) ?_
      rcases Int.lt_or_le 1 x with h1 | h1
      · omega
      · obtain rfl : x = 1 := by omega
        rw [Int.ediv_one] at hlt
        omega
    · rename_i hge
      have h1 : x ≤ n / x := by omega
      have h2 := Int.ediv_mul_le n (b := x) (by omega)
      have h3 := Int.mul_le_mul_of_nonneg_right h1 (show 0 ≤ x by omega)
      exact ⟨hx, by omega⟩
theorem rootN_0 : rootN 0 = 0 := rfl
theorem rootN_in {n : Int} (h : 0 ≤ n) : 0 ≤ rootN n ∧ rootN n * rootN n ≤ n := by
  rcases Int.lt_or_le 0 n with h1 | h1
  · have h2 := newt_root (n := n) (f := n.toNat + 1) (x := n) (by omega) (by omega) (by omega)
    rw [Int.ediv_self (by omega)] at h2
    exact ⟨by unfold rootN; omega, by unfold rootN; exact h2.2⟩
  · obtain rfl : n = 0 := by omega
    rw [rootN_0]
    omega
def rRoot : List V.D → Option (Prop × V.D) := fun ds => match ds with
  | [.int .i64 n] => some (0 ≤ n ∧ n ≤ 4000000000000000000, .int .i64 (rootN n))
  | _ => none
theorem fRoot_ok : PSound Go.Proofs.Tryz.prog 122 (mk rRoot) := by
  refine psound_mk Tryz.func122 (by kernel_rfl) rfl (ctx (.nil _)) ?_
  (intro ds p d h; unfold rRoot at h; split at h <;> first | (cases h; done) | skip; cases h; refine ⟨Nat.le_of_ble_eq_true rfl, fun hp k hk => ?_⟩)
  rename_i n
  obtain ⟨h0, h1⟩ := hp
  refine ⟨[.int .i64 n], rfl, ?_⟩
  have e : rootN n = newt n (n.toNat + 1) n ((n + 1) / 2) := rfl
  have e2 : (n + 1).tdiv 2 = (n + 1) / 2 := Int.tdiv_eq_ediv_of_nonneg (by omega)
  generalize rootN n = r at *
  repeat' (first | ((with_reducible refine kok ?_); kernel_rfl) | ((with_reducible refine keq_mk ?_); kernel_rfl) | with_reducible rfl | ((conv => whnf); first | (with_reducible exact trivial) | ((with_reducible refine and_ff ?_ ?_); · exact rfl) | ((with_reducible refine and_tt ?_ ?_); · exact rfl) | (with_reducible refine And.intro ?_ ?_) | intro _ | (with_reducible refine fin2 hk ?_) | ((with_reducible refine eq_leaf ?_); exact rfl) | exact trivial))
  all_goals try (clear hk; omega)
  conv => whnf
  refine ⟨Nat × Int × Int, fun s => [(0, .int .i64 n), (3, .int .i64 s.2.1), (4, .int .i64 s.2.2)], fun _ => [], fun s => s.2.1.toNat, fun s => (newt n s.1 s.2.1 s.2.2 = r ∧ s.2.1.toNat < s.1) ∧ (0 ≤ s.2.1 ∧ s.2.1 ≤ n) ∧ (0 ≤ s.2.2 ∧ s.2.2 ≤ n) ∧ (s.2.2 < s.2.1 → 1 ≤ s.2.2), [], (n.toNat + 1, n, (n + 1) / 2), fun _ => ⟨rfl, rfl⟩, ?_, fun s hs => ?_⟩
  · clear hk
    repeat' (first | ((with_reducible refine kok ?_); kernel_rfl) | ((with_reducible refine keq_mk ?_); kernel_rfl) | with_reducible rfl | ((conv => whnf); first | (with_reducible exact trivial) | ((with_reducible refine and_ff ?_ ?_); · exact rfl) | ((with_reducible refine and_tt ?_ ?_); · exact rfl) | (with_reducible refine And.intro ?_ ?_) | intro _ | (with_reducible refine fin2 hk ?_) | ((with_reducible refine eq_leaf ?_); exact rfl) | exact trivial))
    all_goals first
      | exact e2
      | exact e.symm
      | (simp only; omega)
      | (rename_i q; simp only at q ⊢; omega)
      | skip
  obtain ⟨f, x, y⟩ := s
  obtain ⟨⟨i1, i2⟩, ⟨i3, i4⟩, ⟨i5, i6⟩, i7⟩ := hs
  dsimp only at i1 i2 i3 i4 i5 i6 i7
  match f, i2, i1 with
  | 0, i2, _ => exact absurd i2 (by omega)
  | f + 1, i2, i1 =>
  unfold newt at i1
  by_cases hyx : y < x
  · have hy := i7 hyx
    rw [if_pos hyx] at i1
    have d1 : n.tdiv y = n / y := Int.tdiv_eq_ediv_of_nonneg h0
    have d2 : 0 ≤ n / y := Int.ediv_nonneg h0 (by omega)
    have d3 : n / y ≤ n := Int.ediv_le_self _ h0
    have d5 : y = 1 → n / y = n := fun h => by rw [h, Int.ediv_one]
    have d4 : (y + n / y).tdiv 2 = (y + n / y) / 2 := Int.tdiv_eq_ediv_of_nonneg (by omega)
    repeat' (first | ((with_reducible refine kok ?_); kernel_rfl) | ((with_reducible refine keq_mk ?_); kernel_rfl) | with_reducible rfl | ((conv => whnf); first | (with_reducible exact trivial) | ((with_reducible refine and_ff ?_ ?_); · exact rfl) | ((with_reducible refine and_tt ?_ ?_); · exact rfl) | (with_reducible refine And.intro ?_ ?_) | intro _ | (with_reducible refine fin2 hk ?_) | ((with_reducible refine eq_leaf ?_); exact rfl) | exact trivial))
    all_goals try (clear hk; simp only [d1, d4] at *; first | omega | (exfalso; rename_i q; have q := of_decide_eq_false q; omega))
    clear hk
    conv => whnf
    refine ⟨(f, y, (y + n / y) / 2), ?_⟩
    repeat' (first | ((with_reducible refine kok ?_); kernel_rfl) | ((with_reducible refine keq_mk ?_); kernel_rfl) | with_reducible rfl | ((conv => whnf); first | (with_reducible exact trivial) | ((with_reducible refine and_ff ?_ ?_); · exact rfl) | ((with_reducible refine and_tt ?_ ?_); · exact rfl) | (with_reducible refine And.intro ?_ ?_) | intro _ | (with_reducible refine fin2 hk ?_) | ((with_reducible refine eq_leaf ?_); exact rfl) | exact trivial))
    all_goals first
      | exact i1
      | (rw [d1, d4])
      | (simp only; omega)
      | (rename_i q; simp only at q ⊢; omega)
      | skip
  · rw [if_neg hyx] at i1
    repeat' (first | ((with_reducible refine kok ?_); kernel_rfl) | ((with_reducible refine keq_mk ?_); kernel_rfl) | with_reducible rfl | ((conv => whnf); first | (with_reducible exact trivial) | ((with_reducible refine and_ff ?_ ?_); · exact rfl) | ((with_reducible refine and_tt ?_ ?_); · exact rfl) | (with_reducible refine And.intro ?_ ?_) | intro _ | (with_reducible refine fin2 hk ?_) | ((with_reducible refine eq_leaf ?_); exact rfl) | exact trivial))
    all_goals first
      | exact i1
      | (exfalso; clear hk; have q : y < x := of_decide_eq_true (by assumption); omega)
      | skip
def ovN (a c d n : Int) : Int := (if 0 < a then d else c) * n
def rOver3 : List V.D → Option (Prop × V.D) := fun ds => match ds with
  | [.agg [.int .i64 a, .int .i64 b], .agg [.int .i64 c, .int .i64 d], .int .i64 n] => some (((-4000000000000000000 ≤ a ∧ a ≤ 4000000000000000000) ∧ -4000000000000000000 ≤ b ∧ b ≤ 4000000000000000000) ∧ (1 ≤ c ∧ c ≤ 100000) ∧ (1 ≤ d ∧ d ≤ 100000) ∧ 1 ≤ n ∧ n ≤ 1000000000, sp (a / ovN a c d n) (-((-b) / ovN (-b) c d n)))
  | _ => none
noncomputable def lt2 : Lib := (123, mk rFloor) :: (76, mk rTimes) :: (112, mk rSquared) :: (122, mk rRoot) :: lt1
theorem lt2_ok : LibOK Go.Proofs.Tryz.prog lt2 := .cons fFloor_ok (.cons fTimes_ok (.cons fSquared_ok (.cons fRoot_ok lt1_ok)))
theorem ovN_in {a c d n : Int} (hc : 1 ≤ c ∧ c ≤ 100000) (hd : 1 ≤ d ∧ d ≤ 100000) (hn : 1 ≤ n ∧ n ≤ 1000000000) : 1 ≤ ovN a c d n ∧ ovN a c d n ≤ 100000000000000 := by
  have key : ∀ m : Int, 1 ≤ m ∧ m ≤ 100000 → 1 ≤ m * n ∧ m * n ≤ 100000000000000 := fun m hm => by
    have h1 := Int.mul_le_mul_of_nonneg_right hm.1 (show 0 ≤ n by omega)
    have h2 := Int.mul_le_mul_of_nonneg_right hm.2 (show 0 ≤ n by omega)
    omega
  unfold ovN
  split
  · exact key d hd
  · exact key c hc
theorem ediv_in {x m : Int} (hm : 1 ≤ m) (h : -4000000000000000000 ≤ x ∧ x ≤ 4000000000000000000) : -4000000000000000000 ≤ x / m ∧ x / m ≤ 4000000000000000000 := by
  constructor
  · rw [Int.le_ediv_iff_mul_le (by omega)]
    have := Int.mul_le_mul_of_nonneg_left hm (show (0 : Int) ≤ 4000000000000000000 by decide)
    omega
  · refine Int.le_trans (Int.ediv_le_ediv (by omega) h.2) (Int.ediv_le_self _ (by decide))
theorem fOver_ok : PSound Go.Proofs.Tryz.prog 116 (mk rOver3) := by
  refine psound_mk Tryz.func116 (by kernel_rfl) rfl (ctx lt2_ok) ?_
  (intro ds p d h; unfold rOver3 at h; split at h <;> first | (cases h; done) | skip; cases h; refine ⟨Nat.le_of_ble_eq_true rfl, fun hp k hk => ?_⟩)
  rename_i a b c d n
  refine ⟨[.agg [.int .i64 a, .int .i64 b], .agg [.int .i64 c, .int .i64 d], .int .i64 n], rfl, rfl, rfl, rfl, rfl, ?_⟩
  obtain ⟨ha, hc, hd, hn⟩ := hp
  have o1 := ovN_in (a := 1) hc hd hn
  have o2 := ovN_in (a := 0) hc hd hn
  have e1 : ovN 1 c d n = d * n := rfl
  have e2 : ovN 0 c d n = c * n := rfl
  rw [e1] at o1
  rw [e2] at o2
  have e3 : 0 - b = -b := Int.zero_sub b
  have q1 := ediv_in (x := -b) o1.1 (by omega)
  have q2 := ediv_in (x := -b) o2.1 (by omega)
  have p1 : ∀ {x : Int}, 0 < x → ovN x c d n = d * n := fun h => by unfold ovN; rw [if_pos h]
  have p2 : ∀ {x : Int}, ¬ 0 < x → ovN x c d n = c * n := fun h => by unfold ovN; rw [if_neg h]
  repeat' (first | ((with_reducible refine kok ?_); kernel_rfl) | ((with_reducible refine keq_mk ?_); kernel_rfl) | with_reducible rfl | ((conv => whnf); first | (with_reducible exact trivial) | ((with_reducible refine and_ff ?_ ?_); · exact rfl) | ((with_reducible refine and_tt ?_ ?_); · exact rfl) | (with_reducible refine And.intro ?_ ?_) | intro _ | (with_reducible refine fin2 hk ?_) | ((with_reducible refine eq_leaf ?_); exact rfl) | exact trivial))
  all_goals first
    | ((first | with_reducible refine (?_ : (_ : Int) ≤ _) | with_reducible refine (?_ : (_ : Int) < _)); clear hk p1 p2; simp only [e3] at *; omega)
    | (clear hk
       simp only [e3, Int.zero_sub, decT, decF] at *
       first
         | (rw [p1 (by omega)])
         | (rw [p2 (by omega)])
         | skip)
end Go.Proofs.YtphcblofacfkaaaGreat
end
section
namespace Go.Proofs.YtphcblofacfkaaaGreat
open Go.V
def rootUp (n : Int) : Int := if rootN n * rootN n < n then rootN n + 1 else rootN n
def rRooted : List V.D → Option (Prop × V.D) := fun ds => match ds with
  | [.agg [.int .i64 a, .int .i64 b]] => some ((0 ≤ a ∧ a ≤ 4000000000000000000) ∧ 0 ≤ b ∧ b ≤ 4000000000000000000, sp (rootN a) (rootUp b))
  | _ => none
theorem root_le {n m : Int} (h0 : 0 ≤ n) (hm : 0 ≤ m) (h : n ≤ m * m) : rootN n ≤ m := by
  have h1 := rootN_in h0
  rcases Int.lt_or_le m (rootN n) with h2 | h2
  · have h3 : (m + 1) * (m + 1) ≤ rootN n * rootN n := Int.mul_le_mul (by omega) (by omega) (by omega) h1.1
    have h4 : (m + 1) * (m + 1) = m * m + m + m + 1 := by
      rw [Int.add_mul, Int.mul_add, Int.one_mul, Int.mul_one]
      omega
    omega
  · exact h2
theorem fRooted_ok : PSound Go.Proofs.Tryz.prog 114 (mk rRooted) := by
  refine psound_mk Tryz.func114 (by kernel_rfl) rfl (ctx lt2_ok) ?_
  (intro ds p d h; unfold rRooted at h; split at h <;> first | (cases h; done) | skip; cases h; refine ⟨Nat.le_of_ble_eq_true rfl, fun hp k hk => ?_⟩)
  rename_i a b
  obtain ⟨ha, hb⟩ := hp
  refine ⟨[.agg [.int .i64 a, .int .i64 b]], rfl, rfl, ?_⟩
  have s1 := rootN_in hb.1
  have s3 := Int.mul_nonneg s1.1 s1.1
  have s2 := root_le (n := b) (m := 2000000000) hb.1 (by decide) (by omega)
  have e : rootUp b = if rootN b * rootN b < b then rootN b + 1 else rootN b := rfl
  generalize rootUp b = u at *
  repeat' (first | ((with_reducible refine kok ?_); kernel_rfl) | ((with_reducible refine keq_mk ?_); kernel_rfl) | with_reducible rfl | ((conv => whnf); first | (with_reducible exact trivial) | ((with_reducible refine and_ff ?_ ?_); · exact rfl) | ((with_reducible refine and_tt ?_ ?_); · exact rfl) | (with_reducible refine And.intro ?_ ?_) | intro _ | (with_reducible refine fin2 hk ?_) | ((with_reducible refine eq_leaf ?_); exact rfl) | exact trivial))
  all_goals first
    | (clear hk; omega)
    | (rename_i q
       rw [if_pos (of_decide_eq_true q)] at e
       exact e.symm)
    | (rename_i q
       rw [if_neg (of_decide_eq_false q)] at e
       exact e.symm)
    | skip
def wideAt (a : Nat → Nat → Int) (s : Int) (i : Nat) : Bool := beyondB (a i 0) (a i 1) (-s) s
def rWide1 : List V.D → Option (Prop × V.D) := fun ds => match ds with
  | [.agg [.int .i64 a, .int .i64 b], .eptr 1 g] => some (g 0 = .int .i64 (toI (g 0)) ∧ 0 ≤ toI (g 0) ∧ toI (g 0) ≤ 9223372036854775807, .bool (beyondB a b (-(toI (g 0))) (toI (g 0))))
  | _ => none
theorem fWide1_ok : PSound Go.Proofs.Tryz.prog 93 (mk rWide1) := by
  refine psound_mk Tryz.func93 (by kernel_rfl) rfl (ctx lt2_ok) ?_
  (intro ds p d h; unfold rWide1 at h; split at h <;> first | (cases h; done) | skip; cases h; refine ⟨Nat.le_of_ble_eq_true rfl, fun hp k hk => ?_⟩)
  rename_i a b g
  obtain ⟨hg, h0, h1⟩ := hp
  generalize toI (g 0) = s at *
  refine ⟨[.agg [.int .i64 a, .int .i64 b], .eptr 1 fun _ => .int .i64 s], rfl, rfl, rfl, fun j hj => ?_, ?_⟩
  · obtain rfl : j = 0 := by omega
    exact hg
  clear hg
  have e : 0 - s = -s := Int.zero_sub s
  repeat' (first | ((with_reducible refine kok ?_); kernel_rfl) | ((with_reducible refine keq_mk ?_); kernel_rfl) | with_reducible rfl | ((conv => whnf); first | (with_reducible exact trivial) | ((with_reducible refine and_ff ?_ ?_); · exact rfl) | ((with_reducible refine and_tt ?_ ?_); · exact rfl) | (with_reducible refine And.intro ?_ ?_) | intro _ | (with_reducible refine fin2 hk ?_) | ((with_reducible refine eq_leaf ?_); exact rfl) | exact trivial))
  all_goals first
    | (clear hk; omega)
    | rw [e]
    | skip
def rIndexSpanF : List V.D → Option (Prop × V.D) := fun ds => match ds with
  | [.rsl 2 n g, .fn 93 [] [.eptr 1 e]] => some (IM n 2 g ∧ n ≤ 1099511627776 ∧ (e 0 = .int .i64 (toI (e 0)) ∧ 0 ≤ toI (e 0) ∧ toI (e 0) ≤ 9223372036854775807), .int .i64 (firstFrom (wideAt (im g) (toI (e 0))) 0 n))
  | _ => none
noncomputable def lt3 : Lib := (114, mk rRooted) :: (93, mk rWide1) :: (116, mk rOver3) :: lt2
theorem lt3_ok : LibOK Go.Proofs.Tryz.prog lt3 := .cons fRooted_ok (.cons fWide1_ok (.cons fOver_ok lt2_ok))
theorem fIndexSpan_ok : PSound Go.Proofs.Tryz.prog 109 (mk rIndexSpanF) := by
  refine psound_mk Tryz.func109 (by kernel_rfl) rfl (ctx lt3_ok) ?_
  (intro ds p d h; unfold rIndexSpanF at h; split at h <;> first | (cases h; done) | skip; cases h; refine ⟨Nat.le_of_ble_eq_true rfl, fun hp k hk => ?_⟩)
  rename_i n g e
  obtain ⟨h1, h2, h3⟩ := hp
  refine ⟨[.rsl 2 n (imD (im g)), .fn 93 [] [.eptr 1 e]], rfl, h1, ?_⟩
  clear h1
  generalize im g = a at *
  generalize hH : toI (e 0) = s at *
  generalize hS : firstFrom (wideAt a s) 0 n = c at *
  repeat' (first | ((with_reducible refine kok ?_); kernel_rfl) | ((with_reducible refine keq_mk ?_); kernel_rfl) | with_reducible rfl | ((conv => whnf); first | (with_reducible exact trivial) | ((with_reducible refine and_ff ?_ ?_); · exact rfl) | ((with_reducible refine and_tt ?_ ?_); · exact rfl) | (with_reducible refine And.intro ?_ ?_) | intro _ | (with_reducible refine fin2 hk ?_) | ((with_reducible refine eq_leaf ?_); exact rfl) | exact trivial))
  refine ⟨Nat, fun i => [(0, .rsl 2 n (imD a)), (1, .fn 93 [] [.eptr 1 e]), (7, .int .i64 n), (8, .int .i64 i)], fun _ => [], fun i => n - i, fun i => i ≤ n ∧ c = firstFrom (wideAt a s) i (n - i), [], 0, fun _ => ⟨rfl, rfl⟩, ?_, fun i hI => ?_⟩
  · clear hk
    repeat' (first | ((with_reducible refine kok ?_); kernel_rfl) | ((with_reducible refine keq_mk ?_); kernel_rfl) | with_reducible rfl | ((conv => whnf); first | (with_reducible exact trivial) | ((with_reducible refine and_ff ?_ ?_); · exact rfl) | ((with_reducible refine and_tt ?_ ?_); · exact rfl) | (with_reducible refine And.intro ?_ ?_) | intro _ | (with_reducible refine fin2 hk ?_) | ((with_reducible refine eq_leaf ?_); exact rfl) | exact trivial))
    · omega
    · exact hS.symm
  obtain ⟨hi, hc⟩ := hI
  clear hS
  repeat' (first | ((with_reducible refine kok ?_); kernel_rfl) | ((with_reducible refine keq_mk ?_); kernel_rfl) | with_reducible rfl | ((conv => whnf); first | (with_reducible exact trivial) | ((with_reducible refine and_ff ?_ ?_); · exact rfl) | ((with_reducible refine and_tt ?_ ?_); · exact rfl) | (with_reducible refine And.intro ?_ ?_) | intro _ | (with_reducible refine fin2 hk ?_) | ((with_reducible refine eq_leaf ?_); exact rfl) | exact trivial))
  all_goals try ((first | with_reducible refine (?_ : (_ : Int) ≤ _) | with_reducible refine (?_ : (_ : Int) < _)); clear hk hc; simp only [taskOf_agg, ↓Bool.not_eq_true', ↓Bool.not_eq_false', ↓decT, ↓decF, out_true, out_false, isin_true, isin_false, Int.toNat_natCast, Int.ofNat_lt, Nat.zero_add, Nat.add_zero, Nat.reduceAdd, hH] at *; omega)
  · rw [hH]
    exact h3.1
  · rename_i g1 g2
    clear hk
    simp only [taskOf_agg, ↓Bool.not_eq_true', ↓Bool.not_eq_false', ↓decT, ↓decF, out_true, out_false, isin_true, isin_false, Int.toNat_natCast, Int.ofNat_lt, Nat.zero_add, Nat.add_zero, Nat.reduceAdd] at g1
    rw [hH, Int.toNat_natCast] at g2
    rw [firstFrom_step g1, if_pos (show wideAt a s i = true from g2)] at hc
    exact hc.symm
  · rename_i g1 g2
    clear hk
    simp only [taskOf_agg, ↓Bool.not_eq_true', ↓Bool.not_eq_false', ↓decT, ↓decF, out_true, out_false, isin_true, isin_false, Int.toNat_natCast, Int.ofNat_lt, Nat.zero_add, Nat.add_zero, Nat.reduceAdd] at g1
    rw [hH, Int.toNat_natCast] at g2
    rw [firstFrom_step g1, if_neg (by unfold wideAt; rw [g2]; exact Bool.noConfusion)] at hc
    conv => whnf
    refine ⟨i + 1, ?_⟩
    repeat' (first | ((with_reducible refine kok ?_); kernel_rfl) | ((with_reducible refine keq_mk ?_); kernel_rfl) | with_reducible rfl | ((conv => whnf); first | (with_reducible exact trivial) | ((with_reducible refine and_ff ?_ ?_); · exact rfl) | ((with_reducible refine and_tt ?_ ?_); · exact rfl) | (with_reducible refine And.intro ?_ ?_) | intro _ | (with_reducible refine fin2 hk ?_) | ((with_reducible refine eq_leaf ?_); exact rfl) | exact trivial))
    · exact g1
    · exact hc
    · simp only; omega
  · rename_i g1
    clear hk
    simp only [taskOf_agg, ↓Bool.not_eq_true', ↓Bool.not_eq_false', ↓decT, ↓decF, out_true, out_false, isin_true, isin_false, Int.toNat_natCast, Int.ofNat_lt, Nat.zero_add, Nat.add_zero, Nat.reduceAdd] at g1
    rw [firstFrom_end (by omega)] at hc
    exact hc.symm
end Go.Proofs.YtphcblofacfkaaaGreat
end
section
namespace Go.Proofs.YtphcblofacfkaaaGreat
open Go.V
def rContSpan : List V.D → Option (Prop × V.D) := fun ds => match ds with
  | [.rsl 2 n g, .fn 93 [] [.eptr 1 e]] => some (IM n 2 g ∧ n ≤ 1099511627776 ∧ (e 0 = .int .i64 (toI (e 0)) ∧ 0 ≤ toI (e 0) ∧ toI (e 0) ≤ 9223372036854775807), .bool (decide (0 ≤ firstFrom (wideAt (im g) (toI (e 0))) 0 n)))
  | _ => none
noncomputable def lt4 : Lib := (109, mk rIndexSpanF) :: lt3
theorem lt4_ok : LibOK Go.Proofs.Tryz.prog lt4 := .cons fIndexSpan_ok lt3_ok
theorem fContSpan_ok : PSound Go.Proofs.Tryz.prog 92 (mk rContSpan) := by
  refine psound_mk Tryz.func92 (by kernel_rfl) rfl (ctx lt4_ok) ?_
  (intro ds p d h; unfold rContSpan at h; split at h <;> first | (cases h; done) | skip; cases h; refine ⟨Nat.le_of_ble_eq_true rfl, fun hp k hk => ?_⟩)
  rename_i n g e
  obtain ⟨h1, h2, h3⟩ := hp
  refine ⟨[.rsl 2 n (imD (im g)), .fn 93 [] [.eptr 1 e]], rfl, h1, ?_⟩
  clear h1
  generalize im g = a at *
  repeat' (first | ((with_reducible refine kok ?_); kernel_rfl) | ((with_reducible refine keq_mk ?_); kernel_rfl) | with_reducible rfl | ((conv => whnf); first | (with_reducible exact trivial) | ((with_reducible refine and_ff ?_ ?_); · exact rfl) | ((with_reducible refine and_tt ?_ ?_); · exact rfl) | (with_reducible refine And.intro ?_ ?_) | intro _ | (with_reducible refine fin2 hk ?_) | ((with_reducible refine eq_leaf ?_); exact rfl) | exact trivial))
  all_goals first
    | exact h2
    | exact h3.1
    | exact h3.2.1
    | exact h3.2.2
    | skip
def ax (a : Nat → Int) : V.D := .agg [.int .i64 (a 0), .int .i64 (a 1), .int .i64 (a 2), .int .i64 (a 3), .int .i64 (a 4), .int .i64 (a 5)]
def n6 (a b c d e f : Int) (i : Nat) : Int := match i with
  | 0 => a | 1 => b | 2 => c | 3 => d | 4 => e | _ => f
def wideB (a : Nat → Int) (s : Int) : Bool := beyondB (a 0) (a 1) (-s) s || (beyondB (a 2) (a 3) (-s) s || beyondB (a 4) (a 5) (-s) s)
theorem wide_first {m : Nat → Nat → Int} {a : Nat → Int} {s : Int} (h : ∀ i, i < 3 → m i 0 = a (2 * i) ∧ m i 1 = a (2 * i + 1)) : decide (0 ≤ firstFrom (wideAt m s) 0 3) = wideB a s := by
  have h0 := h 0 (by decide)
  have h1 := h 1 (by decide)
  have h2 := h 2 (by decide)
  have e0 : wideAt m s 0 = beyondB (a 0) (a 1) (-s) s := by unfold wideAt; rw [h0.1, h0.2]
  have e1 : wideAt m s 1 = beyondB (a 2) (a 3) (-s) s := by unfold wideAt; rw [h1.1, h1.2]
  have e2 : wideAt m s 2 = beyondB (a 4) (a 5) (-s) s := by unfold wideAt; rw [h2.1, h2.2]
  simp only [firstFrom, wideB, e0, e1, e2, Nat.zero_add, Nat.reduceAdd]
  cases beyondB (a 0) (a 1) (-s) s <;> cases beyondB (a 2) (a 3) (-s) s <;> cases beyondB (a 4) (a 5) (-s) s <;> rfl
def rWide : List V.D → Option (Prop × V.D) := fun ds => match ds with
  | [.agg [.int .i64 a, .int .i64 b, .int .i64 c, .int .i64 d, .int .i64 e, .int .i64 f], .int .i64 s] => some (0 ≤ s ∧ s ≤ 9223372036854775807, .bool (wideB (n6 a b c d e f) s))
  | _ => none
noncomputable def lt5 : Lib := (92, mk rContSpan) :: lt4
theorem lt5_ok : LibOK Go.Proofs.Tryz.prog lt5 := .cons fContSpan_ok lt4_ok
theorem fWide_ok : PSound Go.Proofs.Tryz.prog 70 (mk rWide) := by
  refine psound_mk Tryz.func70 (by kernel_rfl) rfl (ctx lt5_ok) ?_
  (intro ds p d h; unfold rWide at h; split at h <;> first | (cases h; done) | skip; cases h; refine ⟨Nat.le_of_ble_eq_true rfl, fun hp k hk => ?_⟩)
  rename_i a b c d e f s
  obtain ⟨h0, h1⟩ := hp
  refine ⟨[.agg [.int .i64 a, .int .i64 b, .int .i64 c, .int .i64 d, .int .i64 e, .int .i64 f], .int .i64 s], rfl, rfl, rfl, rfl, rfl, rfl, rfl, ?_⟩
  repeat' (first | ((with_reducible refine kok ?_); kernel_rfl) | ((with_reducible refine keq_mk ?_); kernel_rfl) | with_reducible rfl | ((conv => whnf); first | (with_reducible exact trivial) | ((with_reducible refine and_ff ?_ ?_); · exact rfl) | ((with_reducible refine and_tt ?_ ?_); · exact rfl) | (with_reducible refine And.intro ?_ ?_) | intro _ | (with_reducible refine fin2 hk ?_) | ((with_reducible refine eq_leaf ?_); exact rfl) | exact trivial))
  · rename_i i j hi hj
    clear hk
    have hi' : i = 0 ∨ i = 1 ∨ i = 2 := by omega
    have hj' : j = 0 ∨ j = 1 := by omega
    rcases hi' with rfl | rfl | rfl <;> rcases hj' with rfl | rfl <;> rfl
  · decide
  · exact h0
  · exact h1
  · clear hk
    refine wide_first (s := s) fun i hi => ?_
    have hi' : i = 0 ∨ i = 1 ∨ i = 2 := by omega
    rcases hi' with rfl | rfl | rfl <;> exact ⟨rfl, rfl⟩
noncomputable def lt6 : Lib := (70, mk rWide) :: lt5
theorem lt6_ok : LibOK Go.Proofs.Tryz.prog lt6 := .cons fWide_ok lt5_ok
def farB (a b : Nat → Int) : Bool := wideB a 2000000000 || wideB b 1000000
def rFlFar : List V.D → Option (Prop × V.D) := fun ds => match ds with
  | [.agg [.int .i64 a, .int .i64 b, .int .i64 c, .int .i64 d, .int .i64 e, .int .i64 f, .int .i64 a', .int .i64 b', .int .i64 c', .int .i64 d', .int .i64 e', .int .i64 f']] => some (True, .bool (farB (n6 a b c d e f) (n6 a' b' c' d' e' f')))
  | _ => none
theorem flFar_ok : PSound Go.Proofs.Tryz.prog 74 (mk rFlFar) := by
  refine psound_mk Tryz.func74 (by kernel_rfl) rfl (ctx lt6_ok) ?_
  (intro ds p d h; unfold rFlFar at h; split at h <;> first | (cases h; done) | skip; cases h; refine ⟨Nat.le_of_ble_eq_true rfl, fun hp k hk => ?_⟩)
  rename_i a b c d e f a' b' c' d' e' f'
  refine ⟨[.agg [.int .i64 a, .int .i64 b, .int .i64 c, .int .i64 d, .int .i64 e, .int .i64 f, .int .i64 a', .int .i64 b', .int .i64 c', .int .i64 d', .int .i64 e', .int .i64 f']], rfl, rfl, rfl, rfl, rfl, rfl, rfl, rfl, rfl, rfl, rfl, rfl, ?_⟩
  have hc : farB (n6 a b c d e f) (n6 a' b' c' d' e' f') = (wideB (n6 a b c d e f) 2000000000 || wideB (n6 a' b' c' d' e' f') 1000000) := rfl
  generalize farB (n6 a b c d e f) (n6 a' b' c' d' e' f') = u at *
  repeat' (first | ((with_reducible refine kok ?_); kernel_rfl) | ((with_reducible refine keq_mk ?_); kernel_rfl) | with_reducible rfl | ((conv => whnf); first | (with_reducible exact trivial) | ((with_reducible refine and_ff ?_ ?_); · exact rfl) | ((with_reducible refine and_tt ?_ ?_); · exact rfl) | (with_reducible refine And.intro ?_ ?_) | intro _ | (with_reducible refine fin2 hk ?_) | ((with_reducible refine eq_leaf ?_); exact rfl) | exact trivial))
  all_goals first
    | decide
    | (clear hk; rename_i q; rw [hc, q]; rfl)
    | (clear hk; rw [hc]; simp_all; done)
    | skip
def heavyB (a b c d : Int) : Bool := beyondB a b 1 100000 || beyondB c d 0 1000
def rHeavy : List V.D → Option (Prop × V.D) := fun ds => match ds with
  | [.agg [.int .i64 a, .int .i64 b], .agg [.int .i64 c, .int .i64 d]] => some (True, .bool (heavyB a b c d))
  | _ => none
theorem fHeavy_ok : PSound Go.Proofs.Tryz.prog 68 (mk rHeavy) := by
  refine psound_mk Tryz.func68 (by kernel_rfl) rfl (ctx lt6_ok) ?_
  (intro ds p d h; unfold rHeavy at h; split at h <;> first | (cases h; done) | skip; cases h; refine ⟨Nat.le_of_ble_eq_true rfl, fun hp k hk => ?_⟩)
  rename_i a b c d
  refine ⟨[.agg [.int .i64 a, .int .i64 b], .agg [.int .i64 c, .int .i64 d]], rfl, rfl, rfl, rfl, ?_⟩
  have hc : heavyB a b c d = (beyondB a b 1 100000 || beyondB c d 0 1000) := rfl
  generalize heavyB a b c d = u at *
  repeat' (first | ((with_reducible refine kok ?_); kernel_rfl) | ((with_reducible refine keq_mk ?_); kernel_rfl) | with_reducible rfl | ((conv => whnf); first | (with_reducible exact trivial) | ((with_reducible refine and_ff ?_ ?_); · exact rfl) | ((with_reducible refine and_tt ?_ ?_); · exact rfl) | (with_reducible refine And.intro ?_ ?_) | intro _ | (with_reducible refine fin2 hk ?_) | ((with_reducible refine eq_leaf ?_); exact rfl) | exact trivial))
  all_goals first
    | decide
    | (clear hk; rename_i q; rw [hc, q]; rfl)
    | (clear hk; rw [hc]; simp_all; done)
    | skip
def rTilted : List V.D → Option (Prop × V.D) := fun ds => match ds with
  | [.agg [.int .i64 a, .int .i64 b, .int .i64 c, .int .i64 d, .int .i64 e, .int .i64 f]] => some (True, .agg [.int .i64 a, .int .i64 b, .int .i64 c, .int .i64 d, .int .i64 e, .int .i64 f])
  | _ => none
theorem fTilted_ok : PSound Go.Proofs.Tryz.prog 69 (mk rTilted) := by
  refine psound_mk Tryz.func69 (by kernel_rfl) rfl (ctx lt6_ok) ?_
  (intro ds p d h; unfold rTilted at h; split at h <;> first | (cases h; done) | skip; cases h; refine ⟨Nat.le_of_ble_eq_true rfl, fun hp k hk => ?_⟩)
  rename_i a b c d e f
  refine ⟨[.agg [.int .i64 a, .int .i64 b, .int .i64 c, .int .i64 d, .int .i64 e, .int .i64 f]], rfl, rfl, rfl, rfl, rfl, rfl, ?_⟩
  repeat' (first | ((with_reducible refine kok ?_); kernel_rfl) | ((with_reducible refine keq_mk ?_); kernel_rfl) | with_reducible rfl | ((conv => whnf); first | (with_reducible exact trivial) | ((with_reducible refine and_ff ?_ ?_); · exact rfl) | ((with_reducible refine and_tt ?_ ?_); · exact rfl) | (with_reducible refine And.intro ?_ ?_) | intro _ | (with_reducible refine fin2 hk ?_) | ((with_reducible refine eq_leaf ?_); exact rfl) | exact trivial))
end Go.Proofs.YtphcblofacfkaaaGreat
end
section
namespace Go.Proofs.YtphcblofacfkaaaGreat
open Go.V
def btw (m x : Int) : Prop := -m ≤ x ∧ x ≤ m
theorem mul_bd {x y A B : Int} (hx : btw A x) (hy : btw B y) (hA : 0 ≤ A) (hB : 0 ≤ B) : btw (A * B) (x * y) := by
  have h1 : x.natAbs ≤ A.natAbs := by unfold btw at hx; omega
  have h2 : y.natAbs ≤ B.natAbs := by unfold btw at hy; omega
  have h3 := Nat.mul_le_mul h1 h2
  rw [← Int.natAbs_mul, ← Int.natAbs_mul] at h3
  have h4 := Int.mul_nonneg hA hB
  unfold btw
  omega
theorem mulL_bd {a b c d A B : Int} (ha : btw A a) (hb : btw A b) (hc : btw B c) (hd : btw B d) (hA : 0 ≤ A) (hB : 0 ≤ B) : btw (A * B) (mulL a b c d) ∧ btw (A * B) (mulH a b c d) := by
  have h1 := mul_bd ha hc hA hB
  have h2 := mul_bd ha hd hA hB
  have h3 := mul_bd hb hc hA hB
  have h4 := mul_bd hb hd hA hB
  generalize A * B = M at *
  unfold btw mulL mulH at *
  omega
theorem ediv_bd {x m A : Int} (hm : 1 ≤ m) (h : btw A x) : btw A (x / m) := by
  unfold btw at *
  constructor
  · rw [Int.le_ediv_iff_mul_le (by omega)]
    have := Int.mul_le_mul_of_nonneg_left hm (show (0 : Int) ≤ A by omega)
    rw [Int.neg_mul]
    omega
  · exact Int.le_trans (Int.ediv_le_ediv (by omega) h.2) (Int.ediv_le_self _ (by omega))
structure BodyOK (b : Nat → Int) : Prop where
  push : 0 ≤ b 0 ∧ b 0 ≤ b 1 ∧ b 1 ≤ 20000000
  mass : 1 ≤ b 2 ∧ b 2 ≤ b 3 ∧ b 3 ≤ 100000
  drag : 0 ≤ b 4 ∧ b 4 ≤ b 5 ∧ b 5 ≤ 1000
  tilt : ∀ i, 6 ≤ i → i < 12 → btw 2000 (b i)
def ovL (x c d n : Int) : Int := x / ovN x c d n
def ovH (x c d n : Int) : Int := -((-x) / ovN (-x) c d n)
theorem ov_bd {x c d n A : Int} (hc : 1 ≤ c ∧ c ≤ 100000) (hd : 1 ≤ d ∧ d ≤ 100000) (hn : 1 ≤ n ∧ n ≤ 1000000000) (h : btw A x) : btw A (ovL x c d n) ∧ btw A (ovH x c d n) := by
  have h1 := ediv_bd (ovN_in (a := x) hc hd hn).1 h
  have h2 := ediv_bd (x := -x) (ovN_in (a := -x) hc hd hn).1 (A := A) (by unfold btw at *; omega)
  unfold ovL ovH btw at *
  omega
def fc1L (b : Nat → Int) (d0 d1 t0 t1 : Int) : Int := ovL (mulL (b 0) (b 1) (d0 + t0) (d1 + t1)) (b 2) (b 3) 10000
def fc1H (b : Nat → Int) (d0 d1 t0 t1 : Int) : Int := ovH (mulH (b 0) (b 1) (d0 + t0) (d1 + t1)) (b 2) (b 3) 10000
def cellI (g : Nat → V.D) (n : Nat) : Prop := ∀ i, i < n → g i = .int .i64 (toI (g i))
def rForce1 : List V.D → Option (Prop × V.D) := fun ds => match ds with
  | [.agg [.int .i64 d0, .int .i64 d1], .agg [.int .i64 t0, .int .i64 t1], .eptr 12 g] => some ((cellI g 12 ∧ BodyOK (fun i => toI (g i))) ∧ (btw 10000 d0 ∧ btw 10000 d1) ∧ btw 2000 t0 ∧ btw 2000 t1,
      sp (fc1L (fun i => toI (g i)) d0 d1 t0 t1) (fc1H (fun i => toI (g i)) d0 d1 t0 t1))
  | _ => none
noncomputable def lt7 : Lib := (74, mk rFlFar) :: (68, mk rHeavy) :: (69, mk rTilted) :: lt6
theorem lt7_ok : LibOK Go.Proofs.Tryz.prog lt7 := .cons flFar_ok (.cons fHeavy_ok (.cons fTilted_ok lt6_ok))
theorem fForce1_ok : PSound Go.Proofs.Tryz.prog 115 (mk rForce1) := by
  refine psound_mk Tryz.func115 (by kernel_rfl) rfl (ctx lt7_ok) ?_
  (intro ds p d h; unfold rForce1 at h; split at h <;> first | (cases h; done) | skip; cases h; refine ⟨Nat.le_of_ble_eq_true rfl, fun hp k hk => ?_⟩)
  rename_i d0 d1 t0 t1 g
  obtain ⟨⟨hg, hB⟩, ⟨hd0, hd1⟩, ht0, ht1⟩ := hp
  generalize hb : (fun i => toI (g i)) = b at *
  refine ⟨[.agg [.int .i64 d0, .int .i64 d1], .agg [.int .i64 t0, .int .i64 t1], .eptr 12 fun i => .int .i64 (b i)], rfl, rfl, rfl, rfl, rfl, fun j hj => ?_, ?_⟩
  · rw [← hb]
    exact hg j hj
  clear hg hb
  have hpu := hB.push
  have hm := hB.mass
  clear hB
  have q0 : btw 20000000 (b 0) := by unfold btw; omega
  have q1 : btw 20000000 (b 1) := by unfold btw; omega
  have r0 : btw 12000 (d0 + t0) := by unfold btw at *; omega
  have r1 : btw 12000 (d1 + t1) := by unfold btw at *; omega
  have m := mulL_bd q0 q1 r0 r1 (by decide) (by decide)
  have p1 := mul_bd q0 r0 (by decide) (by decide)
  have p2 := mul_bd q0 r1 (by decide) (by decide)
  have p3 := mul_bd q1 r0 (by decide) (by decide)
  have p4 := mul_bd q1 r1 (by decide) (by decide)
  repeat' (first | ((with_reducible refine kok ?_); kernel_rfl) | ((with_reducible refine keq_mk ?_); kernel_rfl) | with_reducible rfl | ((conv => whnf); first | (with_reducible exact trivial) | ((with_reducible refine and_ff ?_ ?_); · exact rfl) | ((with_reducible refine and_tt ?_ ?_); · exact rfl) | (with_reducible refine And.intro ?_ ?_) | intro _ | (with_reducible refine fin2 hk ?_) | ((with_reducible refine eq_leaf ?_); exact rfl) | exact trivial))
  all_goals (
    clear hk
    try simp only [Nat.add_zero, Nat.zero_add, Nat.reduceAdd]
    unfold btw at *
    omega)
def fc2L (b : Nat → Int) (r0 r1 t0 t1 v0 v1 : Int) : Int := t0 - ovH (mulH r0 r1 v0 v1) (b 2) (b 3) 1000000000
def fc2H (b : Nat → Int) (r0 r1 t0 t1 v0 v1 : Int) : Int := t1 - ovL (mulL r0 r1 v0 v1) (b 2) (b 3) 1000000000
def rForce2 : List V.D → Option (Prop × V.D) := fun ds => match ds with
  | [.agg [.int .i64 t0, .int .i64 t1], .agg [.int .i64 v0, .int .i64 v1], .eptr 2 h, .eptr 12 g] => some ((cellI g 12 ∧ BodyOK (fun i => toI (g i))) ∧ (cellI h 2 ∧ btw 2000000000000 (toI (h 0)) ∧ btw 2000000000000 (toI (h 1))) ∧ (btw 240000000000 t0 ∧ btw 240000000000 t1) ∧ btw 1020000 v0 ∧ btw 1020000 v1,
      sp (fc2L (fun i => toI (g i)) (toI (h 0)) (toI (h 1)) t0 t1 v0 v1) (fc2H (fun i => toI (g i)) (toI (h 0)) (toI (h 1)) t0 t1 v0 v1))
  | _ => none
theorem fForce2_ok : PSound Go.Proofs.Tryz.prog 117 (mk rForce2) := by
  refine psound_mk Tryz.func117 (by kernel_rfl) rfl (ctx lt7_ok) ?_
  (intro ds p d h; unfold rForce2 at h; split at h <;> first | (cases h; done) | skip; cases h; refine ⟨Nat.le_of_ble_eq_true rfl, fun hp k hk => ?_⟩)
  rename_i t0 t1 v0 v1 h g
  obtain ⟨⟨hg, hB⟩, ⟨hh, hr0, hr1⟩, ⟨ht0, ht1⟩, hv0, hv1⟩ := hp
  generalize hb : (fun i => toI (g i)) = b at *
  refine ⟨[.agg [.int .i64 t0, .int .i64 t1], .agg [.int .i64 v0, .int .i64 v1], .eptr 2 fun i => .int .i64 (toI (h i)), .eptr 12 fun i => .int .i64 (b i)], rfl, rfl, rfl, rfl, rfl, hh, rfl, fun j hj => ?_, ?_⟩
  · rw [← hb]
    exact hg j hj
  clear hg hb hh
  have hm := hB.mass
  clear hB
  have m := mulL_bd hr0 hr1 hv0 hv1 (by decide) (by decide)
  have p1 := mul_bd hr0 hv0 (by decide) (by decide)
  have p2 := mul_bd hr0 hv1 (by decide) (by decide)
  have p3 := mul_bd hr1 hv0 (by decide) (by decide)
  have p4 := mul_bd hr1 hv1 (by decide) (by decide)
  have o1 := ov_bd (c := b 2) (d := b 3) (n := 1000000000) (by omega) (by omega) (by decide) m.1
  have o2 := ov_bd (c := b 2) (d := b 3) (n := 1000000000) (by omega) (by omega) (by decide) m.2
  unfold ovL ovH at o1 o2
  repeat' (first | ((with_reducible refine kok ?_); kernel_rfl) | ((with_reducible refine keq_mk ?_); kernel_rfl) | with_reducible rfl | ((conv => whnf); first | (with_reducible exact trivial) | ((with_reducible refine and_ff ?_ ?_); · exact rfl) | ((with_reducible refine and_tt ?_ ?_); · exact rfl) | (with_reducible refine And.intro ?_ ?_) | intro _ | (with_reducible refine fin2 hk ?_) | ((with_reducible refine eq_leaf ?_); exact rfl) | exact trivial))
  all_goals (
    clear hk
    try simp only [Nat.add_zero, Nat.zero_add, Nat.reduceAdd]
    unfold btw at *
    omega)
end Go.Proofs.YtphcblofacfkaaaGreat
end
