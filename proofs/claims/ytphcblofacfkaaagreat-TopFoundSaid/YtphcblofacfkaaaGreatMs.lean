/-
  Contracts of the recovery's laws: equal plans, equal lists of cells, the examples.
-/
import Derived.Test.YtphcblofacfkaaaGreatMr
import Derived.Test.YtphcblofacfkaaaGreatMf
import Derived.Test.YtphcblofacfkaaaGreatRows
set_option linter.unusedVariables false
set_option linter.unusedSimpArgs false
set_option maxRecDepth 100000
set_option maxHeartbeats 4000000
section
namespace Go.Proofs.YtphcblofacfkaaaGreat
open Go.V
theorem all3 {p : Nat → Prop} : (∀ j, j < 3 → p j) ↔ p 0 ∧ p 1 ∧ p 2 :=
  ⟨fun h => ⟨h 0 (by omega), h 1 (by omega), h 2 (by omega)⟩, fun h j hj => by
    have hj' : j = 0 ∨ j = 1 ∨ j = 2 := by omega
    rcases hj' with rfl | rfl | rfl
    · exact h.1
    · exact h.2.1
    · exact h.2.2⟩
theorem all2 {p : Nat → Prop} : (∀ j, j < 2 → p j) ↔ p 0 ∧ p 1 :=
  ⟨fun h => ⟨h 0 (by omega), h 1 (by omega)⟩, fun h j hj => by
    have hj' : j = 0 ∨ j = 1 := by omega
    rcases hj' with rfl | rfl
    · exact h.1
    · exact h.2⟩
noncomputable def rSameP : List D → Option (Prop × D) := fun ds => match ds with
  | [.agg [.rsl 3 n g, .rsl 2 p q], .agg [.rsl 3 m h, .rsl 2 r s]] => some ((IM n 3 g ∧ IM m 3 h ∧ n ≤ 1099511627776) ∧ IM p 2 q ∧ IM r 2 s ∧ p ≤ 1099511627776, .bool (sameB 3 n m (im g) (im h) && sameB 2 p r (im q) (im s)))
  | _ => none
theorem sameP_ok : PSound Go.Proofs.Tryz.prog 24 (mk rSameP) := by
  refine psound_mk Tryz.func24 (by kernel_rfl) rfl (ctx (.nil _)) ?_
  (intro ds p d h; unfold rSameP at h; split at h <;> first | (cases h; done) | skip; cases h; refine ⟨Nat.le_of_ble_eq_true rfl, fun hp k hk => ?_⟩)
  rename_i n g p q m h r s
  obtain ⟨⟨h1, h2, h3⟩, h4, h5, h6⟩ := hp
  refine ⟨[.agg [.rsl 3 n (imD (im g)), .rsl 2 p (imD (im q))], .agg [.rsl 3 m (imD (im h)), .rsl 2 r (imD (im s))]], rfl, h1, rfl, h4, rfl, h2, rfl, h5, ?_⟩
  clear h1 h2 h4 h5
  generalize im g = a at *
  generalize im h = b at *
  generalize im q = a2 at *
  generalize im s = b2 at *
  generalize hS : (sameB 3 n m a b && sameB 2 p r a2 b2) = c at *
  have hS' : c = true ↔ (n = m ∧ sameFrom 3 a b n 0) ∧ p = r ∧ sameFrom 2 a2 b2 p 0 := by rw [← hS, Bool.and_eq_true, sameB_iff, sameB_iff]
  clear hS
  repeat' (first | ((with_reducible refine kok ?_); kernel_rfl) | ((with_reducible refine keq_mk ?_); kernel_rfl) | with_reducible rfl | ((conv => whnf); first | (with_reducible exact trivial) | ((with_reducible refine and_ff ?_ ?_); · exact rfl) | ((with_reducible refine and_tt ?_ ?_); · exact rfl) | (with_reducible refine And.intro ?_ ?_) | intro _ | (with_reducible refine fin2 hk ?_) | ((with_reducible refine eq_leaf ?_); exact rfl) | exact trivial))
  · rename_i g1
    simp only [taskOf_agg, ↓Bool.not_eq_true', ↓Bool.not_eq_false', ↓decT, ↓decF, out_true, out_false, isin_true, isin_false, Int.toNat_natCast, Int.ofNat_lt, Nat.zero_add, Nat.add_zero, Nat.reduceAdd] at g1
    symm
    rw [Bool.eq_false_iff, Ne, hS']
    omega
  · rename_i g1 g2
    simp only [taskOf_agg, ↓Bool.not_eq_true', ↓Bool.not_eq_false', ↓decT, ↓decF, out_true, out_false, isin_true, isin_false, Int.toNat_natCast, Int.ofNat_lt, Nat.zero_add, Nat.add_zero, Nat.reduceAdd] at g1 g2
    symm
    rw [Bool.eq_false_iff, Ne, hS']
    omega
  rename_i g1 g2
  simp only [taskOf_agg, ↓Bool.not_eq_true', ↓Bool.not_eq_false', ↓decT, ↓decF, out_true, out_false, isin_true, isin_false, Int.toNat_natCast, Int.ofNat_lt, Nat.zero_add, Nat.add_zero, Nat.reduceAdd] at g1 g2
  have hnm : n = m := by omega
  subst hnm
  have hpr : p = r := by omega
  subst hpr
  have hS' : c = true ↔ sameFrom 3 a b n 0 ∧ sameFrom 2 a2 b2 p 0 := by rw [hS']; simp
  conv => whnf
  refine ⟨Nat, fun i => [(2, .ptr 0 0), (3, .ptr 1 0), (5, .int .i64 i)], fun _ => [some (.row [.rsl 3 n (imD a), .rsl 2 p (imD a2)]), some (.row [.rsl 3 n (imD b), .rsl 2 p (imD b2)])], fun i => n - i, fun i => i ≤ n ∧ (c = true ↔ sameFrom 3 a b n i ∧ sameFrom 2 a2 b2 p 0), [], 0, fun _ => ⟨rfl, rfl⟩, ?_, fun i hI => ?_⟩
  · clear hk
    repeat' (first | ((with_reducible refine kok ?_); kernel_rfl) | ((with_reducible refine keq_mk ?_); kernel_rfl) | with_reducible rfl | ((conv => whnf); first | (with_reducible exact trivial) | ((with_reducible refine and_ff ?_ ?_); · exact rfl) | ((with_reducible refine and_tt ?_ ?_); · exact rfl) | (with_reducible refine And.intro ?_ ?_) | intro _ | (with_reducible refine fin2 hk ?_) | ((with_reducible refine eq_leaf ?_); exact rfl) | exact trivial))
    · exact Nat.zero_le n
    · exact hS'
  obtain ⟨hi, hc⟩ := hI
  have hi : i ≤ n := hi
  have hc : c = true ↔ sameFrom 3 a b n i ∧ sameFrom 2 a2 b2 p 0 := hc
  clear hS'
  repeat' (first | ((with_reducible refine kok ?_); kernel_rfl) | ((with_reducible refine keq_mk ?_); kernel_rfl) | with_reducible rfl | ((conv => whnf); first | (with_reducible exact trivial) | ((with_reducible refine and_ff ?_ ?_); · exact rfl) | ((with_reducible refine and_tt ?_ ?_); · exact rfl) | (with_reducible refine And.intro ?_ ?_) | intro _ | (with_reducible refine fin2 hk ?_) | ((with_reducible refine eq_leaf ?_); exact rfl) | exact trivial))
  all_goals try ((first | with_reducible refine (?_ : (_ : Int) ≤ _) | with_reducible refine (?_ : (_ : Int) < _) | with_reducible refine (?_ : (_ : Nat) ≤ _) | with_reducible refine (?_ : (_ : Nat) < _)); clear hk; try simp only [taskOf_agg, ↓Bool.not_eq_true', ↓Bool.not_eq_false', ↓decT, ↓decF, out_true, out_false, isin_true, isin_false, Int.toNat_natCast, Int.ofNat_lt, Nat.zero_add, Nat.add_zero, Nat.reduceAdd] at *; omega)
  · rename_i g1 g2
    clear hk
    simp only [taskOf_agg, ↓Bool.not_eq_true', ↓Bool.not_eq_false', ↓decT, ↓decF, out_true, out_false, isin_true, isin_false, Int.toNat_natCast, Int.ofNat_lt, Nat.zero_add, Nat.add_zero, Nat.reduceAdd, Int.toNat_zero, Int.reduceToNat, ↓reduceIte, reduceCtorEq, Bool.or_eq_true, Bool.or_eq_false_iff, Bool.and_eq_true, Bool.and_eq_false_iff, Bool.and_true, Bool.and_false] at g1 g2
    symm
    rw [Bool.eq_false_iff, Ne, hc, sameFrom_step g1, all3]
    omega
  · rename_i g1 g2
    clear hk
    simp only [taskOf_agg, ↓Bool.not_eq_true', ↓Bool.not_eq_false', ↓decT, ↓decF, out_true, out_false, isin_true, isin_false, Int.toNat_natCast, Int.ofNat_lt, Nat.zero_add, Nat.add_zero, Nat.reduceAdd, Int.toNat_zero, Int.reduceToNat, ↓reduceIte, reduceCtorEq, Bool.or_eq_true, Bool.or_eq_false_iff, Bool.and_eq_true, Bool.and_eq_false_iff, Bool.and_true, Bool.and_false] at g1 g2
    conv => whnf
    refine ⟨i + 1, ?_⟩
    repeat' (first | ((with_reducible refine kok ?_); kernel_rfl) | ((with_reducible refine keq_mk ?_); kernel_rfl) | with_reducible rfl | ((conv => whnf); first | (with_reducible exact trivial) | ((with_reducible refine and_ff ?_ ?_); · exact rfl) | ((with_reducible refine and_tt ?_ ?_); · exact rfl) | (with_reducible refine And.intro ?_ ?_) | intro _ | (with_reducible refine fin2 hk ?_) | ((with_reducible refine eq_leaf ?_); exact rfl) | exact trivial))
    · exact g1
    · rw [hc, sameFrom_step g1, all3]
      exact ⟨fun h => ⟨h.1.2, h.2⟩, fun h => ⟨⟨by omega, h.1⟩, h.2⟩⟩
    · simp only; omega
  rename_i g1
  have hin : i = n := by clear hk; simp only [taskOf_agg, ↓Bool.not_eq_true', ↓Bool.not_eq_false', ↓decT, ↓decF, out_true, out_false, isin_true, isin_false, Int.toNat_natCast, Int.ofNat_lt, Nat.zero_add, Nat.add_zero, Nat.reduceAdd] at g1; omega
  have hc : c = true ↔ sameFrom 2 a2 b2 p 0 := by rw [hc]; exact ⟨fun h => h.2, fun h => ⟨sameFrom_end (by omega), h⟩⟩
  clear g1
  conv => whnf
  refine ⟨Nat, fun i => [(2, .ptr 0 0), (3, .ptr 1 0), (6, .int .i64 i)], fun _ => [some (.row [.rsl 3 n (imD a), .rsl 2 p (imD a2)]), some (.row [.rsl 3 n (imD b), .rsl 2 p (imD b2)])], fun i => p - i, fun i => i ≤ p ∧ (c = true ↔ sameFrom 2 a2 b2 p i), [], 0, fun _ => ⟨rfl, rfl⟩, ?_, fun i hI => ?_⟩
  · clear hk
    repeat' (first | ((with_reducible refine kok ?_); kernel_rfl) | ((with_reducible refine keq_mk ?_); kernel_rfl) | with_reducible rfl | ((conv => whnf); first | (with_reducible exact trivial) | ((with_reducible refine and_ff ?_ ?_); · exact rfl) | ((with_reducible refine and_tt ?_ ?_); · exact rfl) | (with_reducible refine And.intro ?_ ?_) | intro _ | (with_reducible refine fin2 hk ?_) | ((with_reducible refine eq_leaf ?_); exact rfl) | exact trivial))
    · exact Nat.zero_le p
    · exact hc
  obtain ⟨hi, hc⟩ := hI
  have hi : i ≤ p := hi
  have hc : c = true ↔ sameFrom 2 a2 b2 p i := hc
  repeat' (first | ((with_reducible refine kok ?_); kernel_rfl) | ((with_reducible refine keq_mk ?_); kernel_rfl) | with_reducible rfl | ((conv => whnf); first | (with_reducible exact trivial) | ((with_reducible refine and_ff ?_ ?_); · exact rfl) | ((with_reducible refine and_tt ?_ ?_); · exact rfl) | (with_reducible refine And.intro ?_ ?_) | intro _ | (with_reducible refine fin2 hk ?_) | ((with_reducible refine eq_leaf ?_); exact rfl) | exact trivial))
  all_goals try ((first | with_reducible refine (?_ : (_ : Int) ≤ _) | with_reducible refine (?_ : (_ : Int) < _) | with_reducible refine (?_ : (_ : Nat) ≤ _) | with_reducible refine (?_ : (_ : Nat) < _)); clear hk; try simp only [taskOf_agg, ↓Bool.not_eq_true', ↓Bool.not_eq_false', ↓decT, ↓decF, out_true, out_false, isin_true, isin_false, Int.toNat_natCast, Int.ofNat_lt, Nat.zero_add, Nat.add_zero, Nat.reduceAdd] at *; omega)
  · rename_i g1 g2
    clear hk
    simp only [taskOf_agg, ↓Bool.not_eq_true', ↓Bool.not_eq_false', ↓decT, ↓decF, out_true, out_false, isin_true, isin_false, Int.toNat_natCast, Int.ofNat_lt, Nat.zero_add, Nat.add_zero, Nat.reduceAdd, Int.toNat_zero, Int.reduceToNat, ↓reduceIte, reduceCtorEq, Bool.or_eq_true, Bool.or_eq_false_iff, Bool.and_eq_true, Bool.and_eq_false_iff, Bool.and_true, Bool.and_false] at g1 g2
    symm
    rw [Bool.eq_false_iff, Ne, hc, sameFrom_step g1, all2]
    omega
  · rename_i g1 g2
    clear hk
    simp only [taskOf_agg, ↓Bool.not_eq_true', ↓Bool.not_eq_false', ↓decT, ↓decF, out_true, out_false, isin_true, isin_false, Int.toNat_natCast, Int.ofNat_lt, Nat.zero_add, Nat.add_zero, Nat.reduceAdd, Int.toNat_zero, Int.reduceToNat, ↓reduceIte, reduceCtorEq, Bool.or_eq_true, Bool.or_eq_false_iff, Bool.and_eq_true, Bool.and_eq_false_iff, Bool.and_true, Bool.and_false] at g1 g2
    conv => whnf
    refine ⟨i + 1, ?_⟩
    repeat' (first | ((with_reducible refine kok ?_); kernel_rfl) | ((with_reducible refine keq_mk ?_); kernel_rfl) | with_reducible rfl | ((conv => whnf); first | (with_reducible exact trivial) | ((with_reducible refine and_ff ?_ ?_); · exact rfl) | ((with_reducible refine and_tt ?_ ?_); · exact rfl) | (with_reducible refine And.intro ?_ ?_) | intro _ | (with_reducible refine fin2 hk ?_) | ((with_reducible refine eq_leaf ?_); exact rfl) | exact trivial))
    · exact g1
    · rw [hc, sameFrom_step g1, all2]
      exact ⟨fun h => h.2, fun h => ⟨by omega, h⟩⟩
    · simp only; omega
  · rename_i g1
    clear hk
    simp only [taskOf_agg, ↓Bool.not_eq_true', ↓Bool.not_eq_false', ↓decT, ↓decF, out_true, out_false, isin_true, isin_false, Int.toNat_natCast, Int.ofNat_lt, Nat.zero_add, Nat.add_zero, Nat.reduceAdd] at g1
    symm
    rw [hc]
    exact sameFrom_end (by omega)
noncomputable def lr38 : Lib := (24, mk rSameP) :: (11, mk rSearch) :: lr37
theorem lr38_ok : LibOK Go.Proofs.Tryz.prog lr38 := .cons sameP_ok (.cons rSearch_ok lr37_ok)
def rSpan : List V.D → Option (Prop × V.D) := fun ds => match ds with
  | [.int .i64 a, .int .i64 b] => some (True, .agg [.int .i64 a, .int .i64 b])
  | _ => none
theorem span_ok : PSound Go.Proofs.Tryz.prog 23 (mk rSpan) := by
  refine psound_mk Tryz.func23 (by kernel_rfl) rfl (ctx (.nil _)) ?_
  (intro ds p d h; unfold rSpan at h; split at h <;> first | (cases h; done) | skip; cases h; refine ⟨Nat.le_of_ble_eq_true rfl, fun hp k hk => ?_⟩)
  rename_i a b
  refine ⟨[.int .i64 a, .int .i64 b], rfl, rfl, ?_⟩
  repeat' (first | ((with_reducible refine kok ?_); kernel_rfl) | ((with_reducible refine keq_mk ?_); kernel_rfl) | with_reducible rfl | ((conv => whnf); first | (with_reducible exact trivial) | ((with_reducible refine and_ff ?_ ?_); · exact rfl) | ((with_reducible refine and_tt ?_ ?_); · exact rfl) | (with_reducible refine And.intro ?_ ?_) | intro _ | (with_reducible refine fin2 hk ?_) | ((with_reducible refine eq_leaf ?_); exact rfl) | exact trivial))
noncomputable def lr39 : Lib := (23, mk rSpan) :: lr38
theorem lr39_ok : LibOK Go.Proofs.Tryz.prog lr39 := .cons span_ok lr38_ok
def rArea4 : List V.D → Option (Prop × V.D) := fun ds => match ds with
  | [.int .i64 a, .int .i64 b, .int .i64 c, .int .i64 d] => some (True, .agg [.int .i64 a, .int .i64 b, .int .i64 c, .int .i64 d])
  | _ => none
theorem area4_ok : PSound Go.Proofs.Tryz.prog 22 (mk rArea4) := by
  refine psound_mk Tryz.func22 (by kernel_rfl) rfl (ctx lr39_ok) ?_
  (intro ds p d h; unfold rArea4 at h; split at h <;> first | (cases h; done) | skip; cases h; refine ⟨Nat.le_of_ble_eq_true rfl, fun hp k hk => ?_⟩)
  rename_i a b c d
  refine ⟨[.int .i64 a, .int .i64 b, .int .i64 c, .int .i64 d], rfl, rfl, rfl, rfl, ?_⟩
  repeat' (first | ((with_reducible refine kok ?_); kernel_rfl) | ((with_reducible refine keq_mk ?_); kernel_rfl) | with_reducible rfl | ((conv => whnf); first | (with_reducible exact trivial) | ((with_reducible refine and_ff ?_ ?_); · exact rfl) | ((with_reducible refine and_tt ?_ ?_); · exact rfl) | (with_reducible refine And.intro ?_ ?_) | intro _ | (with_reducible refine fin2 hk ?_) | ((with_reducible refine eq_leaf ?_); exact rfl) | exact trivial))
noncomputable def lr40 : Lib := (22, mk rArea4) :: lr39
theorem lr40_ok : LibOK Go.Proofs.Tryz.prog lr40 := .cons area4_ok lr39_ok
def chuteD : V.D := .agg [.int .i64 300000, .int .i64 50, .int .i64 60]
theorem chute_ok : PSound Go.Proofs.Tryz.prog 19 (mk (rConst chuteD)) := by
  refine psound_mk Tryz.func19 (by kernel_rfl) rfl (ctx lr40_ok) ?_
  (intro ds p d h; unfold rConst at h; split at h <;> first | (cases h; done) | skip; cases h; refine ⟨Nat.le_of_ble_eq_true rfl, fun hp k hk => ?_⟩)
  refine ⟨[], ?_⟩
  repeat' (first | ((with_reducible refine kok ?_); kernel_rfl) | ((with_reducible refine keq_mk ?_); kernel_rfl) | with_reducible rfl | ((conv => whnf); first | (with_reducible exact trivial) | ((with_reducible refine and_ff ?_ ?_); · exact rfl) | ((with_reducible refine and_tt ?_ ?_); · exact rfl) | (with_reducible refine And.intro ?_ ?_) | intro _ | (with_reducible refine fin2 hk ?_) | ((with_reducible refine eq_leaf ?_); exact rfl) | exact trivial))
def impactD : V.D := .agg [.int .i64 0, .int .i64 0, .int .i64 1000, .int .i64 0, .int .i64 1000, .int .i64 500, .int .i64 510]
theorem impact_ok : PSound Go.Proofs.Tryz.prog 18 (mk (rConst impactD)) := by
  refine psound_mk Tryz.func18 (by kernel_rfl) rfl (ctx lr40_ok) ?_
  (intro ds p d h; unfold rConst at h; split at h <;> first | (cases h; done) | skip; cases h; refine ⟨Nat.le_of_ble_eq_true rfl, fun hp k hk => ?_⟩)
  refine ⟨[], ?_⟩
  repeat' (first | ((with_reducible refine kok ?_); kernel_rfl) | ((with_reducible refine keq_mk ?_); kernel_rfl) | with_reducible rfl | ((conv => whnf); first | (with_reducible exact trivial) | ((with_reducible refine and_ff ?_ ?_); · exact rfl) | ((with_reducible refine and_tt ?_ ?_); · exact rfl) | (with_reducible refine And.intro ?_ ?_) | intro _ | (with_reducible refine fin2 hk ?_) | ((with_reducible refine eq_leaf ?_); exact rfl) | exact trivial))
def exR : RTask := ⟨0, 2999, 0, 1999, 1000, 1, tabI [[-1000, 500, 1, 0, 200]], 2, fun i => [(⟨#[102, 97, 114, 109]⟩ : ByteArray), ⟨#[108, 97, 107, 101]⟩].getD i ⟨#[]⟩, tabI [[2000, 5000, 0, 999, 100], [2500, 2600, 1500, 1600, -1]], -2000, 500, 0, 100, 200, 10, 20⟩
theorem exampleR_ok : PSound Go.Proofs.Tryz.prog 21 (mk (rConst exR.D)) := by
  refine psound_mk Tryz.func21 (by kernel_rfl) rfl (ctx lr40_ok) ?_
  (intro ds p d h; unfold rConst at h; split at h <;> first | (cases h; done) | skip; cases h; refine ⟨Nat.le_of_ble_eq_true rfl, fun hp k hk => ?_⟩)
  refine ⟨[], ?_⟩
  repeat' (first | ((with_reducible refine kok ?_); kernel_rfl) | ((with_reducible refine keq_mk ?_); kernel_rfl) | with_reducible rfl | ((conv => whnf); first | (with_reducible exact trivial) | ((with_reducible refine and_ff ?_ ?_); · exact rfl) | ((with_reducible refine and_tt ?_ ?_); · exact rfl) | (with_reducible refine And.intro ?_ ?_) | intro _ | (with_reducible refine fin2 hk ?_) | ((with_reducible refine eq_leaf ?_); exact rfl) | exact trivial))
  · rename_i i j hi hj
    have hi' : i = 0 := by have : exR.nf = 1 := rfl; omega
    have hj' : j = 0 ∨ j = 1 ∨ j = 2 ∨ j = 3 ∨ j = 4 := by omega
    rcases hi' with rfl <;> rcases hj' with rfl | rfl | rfl | rfl | rfl <;> rfl
  · rename_i i j hi hj
    have hi' : i = 0 ∨ i = 1 := by have : exR.no = 2 := rfl; omega
    have hj' : j = 0 ∨ j = 1 ∨ j = 2 ∨ j = 3 ∨ j = 4 ∨ j = 5 := by omega
    rcases hi' with rfl | rfl <;> rcases hj' with rfl | rfl | rfl | rfl | rfl | rfl <;> rfl
def planA : Nat → Nat → Int := tabI [[0, 25, 35], [1, 45, 55], [3, 65, 75], [2, 100, 110], [-1, 155, 175]]
def planB : Nat → Nat → Int := tabI [[4, 1]]
theorem plan_ok : PSound Go.Proofs.Tryz.prog 25 (mk (rConst (.agg [.rsl 3 5 (imD planA), .rsl 2 1 (imD planB)]))) := by
  refine psound_mk Tryz.func25 (by kernel_rfl) rfl (ctx lr40_ok) ?_
  (intro ds p d h; unfold rConst at h; split at h <;> first | (cases h; done) | skip; cases h; refine ⟨Nat.le_of_ble_eq_true rfl, fun hp k hk => ?_⟩)
  refine ⟨[], ?_⟩
  repeat' (first | ((with_reducible refine kok ?_); kernel_rfl) | ((with_reducible refine keq_mk ?_); kernel_rfl) | with_reducible rfl | ((conv => whnf); first | (with_reducible exact trivial) | ((with_reducible refine and_ff ?_ ?_); · exact rfl) | ((with_reducible refine and_tt ?_ ?_); · exact rfl) | (with_reducible refine And.intro ?_ ?_) | intro _ | (with_reducible refine fin2 hk ?_) | ((with_reducible refine eq_leaf ?_); exact rfl) | exact trivial))
  · rename_i i j hi hj
    have hi' : i = 0 ∨ i = 1 ∨ i = 2 ∨ i = 3 ∨ i = 4 := by omega
    have hj' : j = 0 ∨ j = 1 ∨ j = 2 := by omega
    rcases hi' with rfl | rfl | rfl | rfl | rfl <;> rcases hj' with rfl | rfl | rfl <;> rfl
  · rename_i i j hi hj
    have hi' : i = 0 := by omega
    have hj' : j = 0 ∨ j = 1 := by omega
    rcases hi' with rfl <;> rcases hj' with rfl | rfl <;> rfl
noncomputable def lr41 : Lib := (25, mk (rConst (.agg [.rsl 3 5 (imD planA), .rsl 2 1 (imD planB)]))) :: (21, mk (rConst exR.D)) :: (18, mk (rConst impactD)) :: (19, mk (rConst chuteD)) :: lr40
theorem lr41_ok : LibOK Go.Proofs.Tryz.prog lr41 := .cons plan_ok (.cons exampleR_ok (.cons impact_ok (.cons chute_ok lr40_ok)))
theorem exR_fits : exR.fits := fun i hi => by
  have hi' : i = 0 ∨ i = 1 := by have : exR.no = 2 := rfl; omega
  rcases hi' with rfl | rfl <;> exact Nat.le_of_ble_eq_true rfl
theorem exR_check : checkR exR = (0, 0, 0) := by decide +kernel
theorem exR_cells : cellsL exR = [0, 1, 2, 4, 5] := by decide +kernel
end Go.Proofs.YtphcblofacfkaaaGreat
end
section
namespace Go.Proofs.YtphcblofacfkaaaGreat
open Go.V
def dn0 : Nat → Bool := fun _ => false
def dn1 : Nat → Bool := fun j => dn0 j || decide ((j : Int) = 0)
def dn2 : Nat → Bool := fun j => dn1 j || decide ((j : Int) = 1)
def dn3 : Nat → Bool := fun j => dn2 j || decide ((j : Int) = 3)
def dn4 : Nat → Bool := fun j => dn3 j || decide ((j : Int) = 2)
def dn5 : Nat → Bool := fun j => dn4 j || decide ((j : Int) = (-1))
theorem exB0 : bestS exR ⟨-1, 0, 0, dn0⟩ = 0 := by decide +kernel
theorem exB1 : bestS exR ⟨0, 35, 0, dn1⟩ = 1 := by decide +kernel
theorem exB2 : bestS exR ⟨1, 55, 0, dn2⟩ = 3 := by decide +kernel
theorem exB3 : bestS exR ⟨3, 75, 0, dn3⟩ = 2 := by decide +kernel
theorem exB4 : bestS exR ⟨2, 110, 0, dn4⟩ = -1 := by decide +kernel
theorem exB5 : bestS exR ⟨-1, 175, 0, dn5⟩ = -1 := by decide +kernel
theorem exF0 : visF exR (-1) 0 0 = 25 := by decide +kernel
theorem exU0 : visU exR (-1) 0 0 = 35 := by decide +kernel
theorem exT0 : tripS exR (-1) 0 0 25 = 0 := by decide +kernel
theorem exF1 : visF exR 0 35 1 = 45 := by decide +kernel
theorem exU1 : visU exR 0 35 1 = 55 := by decide +kernel
theorem exT1 : tripS exR 0 0 1 45 = 0 := by decide +kernel
theorem exF2 : visF exR 1 55 3 = 65 := by decide +kernel
theorem exU2 : visU exR 1 55 3 = 75 := by decide +kernel
theorem exT2 : tripS exR 1 0 3 65 = 0 := by decide +kernel
theorem exF3 : visF exR 3 75 2 = 100 := by decide +kernel
theorem exU3 : visU exR 3 75 2 = 110 := by decide +kernel
theorem exT3 : tripS exR 3 0 2 100 = 0 := by decide +kernel
theorem exF4 : visF exR 2 110 (-1) = 155 := by decide +kernel
theorem exU4 : visU exR 2 110 (-1) = 175 := by decide +kernel
theorem exS0 : simS exR 0 = ⟨-1, 0, 0, dn0⟩ := rfl
theorem exS1 : simS exR 1 = ⟨0, 35, 0, dn1⟩ := by
  show stepS exR (simS exR 0) = _
  rw [exS0]
  unfold stepS
  rw [exB0]
  unfold goS
  rw [exF0, exU0, exT0]
  rfl
theorem exS2 : simS exR 2 = ⟨1, 55, 0, dn2⟩ := by
  show stepS exR (simS exR 1) = _
  rw [exS1]
  unfold stepS
  rw [exB1]
  unfold goS
  rw [exF1, exU1, exT1]
  rfl
theorem exS3 : simS exR 3 = ⟨3, 75, 0, dn3⟩ := by
  show stepS exR (simS exR 2) = _
  rw [exS2]
  unfold stepS
  rw [exB2]
  unfold goS
  rw [exF2, exU2, exT2]
  rfl
theorem exS4 : simS exR 4 = ⟨2, 110, 0, dn4⟩ := by
  show stepS exR (simS exR 3) = _
  rw [exS3]
  unfold stepS
  rw [exB3]
  unfold goS
  rw [exF3, exU3, exT3]
  rfl
theorem exS5 : simS exR 5 = ⟨-1, 175, 0, dn5⟩ := by
  show stepS exR (simS exR 4) = _
  rw [exS4]
  unfold stepS
  rw [exB4]
  unfold goS
  rw [exU4]
  rfl
theorem exP0 : stopAt exR 0 = false := by
  unfold stopAt stopB
  rw [exS0, exB0]
  rfl
theorem exP1 : stopAt exR 1 = false := by
  unfold stopAt stopB
  rw [exS1, exB1]
  rfl
theorem exP2 : stopAt exR 2 = false := by
  unfold stopAt stopB
  rw [exS2, exB2]
  rfl
theorem exP3 : stopAt exR 3 = false := by
  unfold stopAt stopB
  rw [exS3, exB3]
  rfl
theorem exP4 : stopAt exR 4 = false := by
  unfold stopAt stopB
  rw [exS4, exB4]
  rfl
theorem exP5 : stopAt exR 5 = true := by
  unfold stopAt stopB
  rw [exS5, exB5]
  rfl
theorem exM : cellsM exR = 5 := by unfold cellsM; rw [exR_cells]; rfl
theorem exN : nVis exR = 5 := by
  unfold nVis
  rw [exM]
  simp only [firstFrom, exP0, exP1, exP2, exP3, exP4, exP5, if_true, if_false, Bool.false_eq_true]
  rfl
theorem exV : ∀ i, i < 5 → ∀ j, j < 3 → visN exR i j = planA i j := fun i hi j hj => by
  have hi' : i = 0 ∨ i = 1 ∨ i = 2 ∨ i = 3 ∨ i = 4 := by omega
  have hj' : j = 0 ∨ j = 1 ∨ j = 2 := by omega
  rcases hi' with rfl | rfl | rfl | rfl | rfl <;> rcases hj' with rfl | rfl | rfl <;> simp only [visN, exS0, exB0, exF0, exU0, exS1, exB1, exF1, exU1, exS2, exB2, exF2, exU2, exS3, exB3, exF3, exU3, exS4, exB4, exF4, exU4] <;> rfl
theorem exE : (endS exR).done = dn5 := by unfold endS; rw [exN, exS5]
theorem exL : leftsL exR = [4] := by
  unfold leftsL
  rw [exE, exM]
  decide +kernel
theorem exO : opC exR 4 = -1 := by decide +kernel
theorem exW : ∀ i, i < 1 → ∀ j, j < 2 → leftM exR (leftsL exR) i j = planB i j := fun i hi j hj => by
  have hj' : j = 0 ∨ j = 1 := by omega
  obtain rfl := Nat.lt_one_iff.1 hi
  rw [exL]
  rcases hj' with rfl | rfl
  · rfl
  · show (if opC exR 4 < 0 then (1 : Int) else 2) = 1
    rw [exO]
    rfl
theorem ex_vn : visitsN exR = 5 := by unfold visitsN; rw [exR_check, exN]; rfl
theorem ex_ln : leftsN exR = 1 := by unfold leftsN; rw [exR_check, exL]; rfl
theorem ex_sv : sameB 3 5 5 (visN exR) planA = true := sameB_iff.mpr ⟨rfl, fun x _ hx j hj => exV x hx j hj⟩
theorem ex_sl : sameB 2 1 1 (leftM exR (leftsL exR)) planB = true := sameB_iff.mpr ⟨rfl, fun x _ hx j hj => exW x hx j hj⟩
def exLand : Impt × Int := landT ⟨0, 0, 1000, 0, 1000, 500, 510⟩ 300000 50 60 2 winA
theorem exR_land : exLand.2 = 0 ∧ exLand.1.pc = 0 ∧ exLand.1.xl = 3066666 ∧ exLand.1.xh = 4601000 ∧ exLand.1.yl = -820000 ∧ exLand.1.yh = 801000 ∧ exLand.1.t0 = 5500 ∧ exLand.1.t1 = 6510 := by decide +kernel
theorem exR_cell : cellT exR 500 1500 = (0, 4) := by decide +kernel
theorem exR_c0 : (checkR exR).2.2 = 0 := by rw [exR_check]
attribute [local irreducible] exR checkR visitsN leftsN visN leftM leftsL cellT landT planA planB winA sameB
theorem awakeR_ok : PSound Go.Proofs.Tryz.prog 5 (mk (rConst .tt)) := by
  refine psound_mk Tryz.func5 (by kernel_rfl) rfl (ctx lr41_ok) ?_
  (intro ds p d h; unfold rConst at h; split at h <;> first | (cases h; done) | skip; cases h; refine ⟨Nat.le_of_ble_eq_true rfl, fun hp k hk => ?_⟩)
  refine ⟨[], ?_⟩
  repeat' (first | ((with_reducible refine kok ?_); kernel_rfl) | ((with_reducible refine keq_mk ?_); kernel_rfl) | with_reducible rfl | ((conv => whnf); first | (with_reducible exact trivial) | ((with_reducible refine and_ff ?_ ?_); · exact rfl) | ((with_reducible refine and_tt ?_ ?_); · exact rfl) | (with_reducible refine And.intro ?_ ?_) | intro _ | (with_reducible refine fin2 hk ?_) | ((with_reducible refine eq_leaf ?_); exact rfl) | exact trivial))
  all_goals try exact exR_fits _ (by assumption)
  all_goals (have e1 : rtOf (.agg exR.cells) = exR := rfl)
  all_goals (have hL : landT ⟨0, 0, 1000, 0, 1000, 500, 510⟩ 300000 50 60 2 winA = exLand := rfl)
  all_goals (obtain ⟨l1, l2, l3, l4, l5, l6, l7, l8⟩ := exR_land)
  all_goals clear hk
  all_goals simp only [e1, im_imD, hL, l1, l2, l3, l4, l5, l6, l7, l8, exR_c0, ex_vn, ex_ln, exR_cell, ex_sv, ex_sl, decide_true, Bool.and_true, Bool.true_and, Bool.and_self] at *
  all_goals first
    | exact Nat.le_of_ble_eq_true rfl
    | rfl
    | (exfalso; simp_all; done)
noncomputable def lr42 : Lib := (5, mk (rConst .tt)) :: lr41
theorem lr42_ok : LibOK Go.Proofs.Tryz.prog lr42 := .cons awakeR_ok lr41_ok
end Go.Proofs.YtphcblofacfkaaaGreat
end
section
namespace Go.Proofs.YtphcblofacfkaaaGreat
open Go.V
attribute [local irreducible] exR checkR visitsN leftsN visN leftM leftsL cellT landT planA planB winA sameB cellsN cellM cellsL
end Go.Proofs.YtphcblofacfkaaaGreat
end
section
namespace Go.Proofs.YtphcblofacfkaaaGreat
open Go.V
theorem own : ownKnob Go.Proofs.Tryz.prog.godebug = none := by kernel_rfl
theorem laid_ok : laidOutB Go.Proofs.Tryz.prog = true := by kernel_rfl
theorem tbool : Go.Proofs.Tryz.prog.underlying 4 = some .bool := by kernel_rfl
theorem isAL3 {a b c : AK} {ds : List V.D} (h : IsAL [a, b, c] ds) : ∃ d e f, ds = [d, e, f] ∧ IsA a d ∧ IsA b e ∧ IsA c f := by
  match ds, h with
  | [d, e, f], h => exact ⟨d, e, f, rfl, h.1, h.2.1, h.2.2.1⟩
def ints : Nat → List CK
  | 0 => []
  | n + 1 => .int .i64 :: ints n
end Go.Proofs.YtphcblofacfkaaaGreat
end
