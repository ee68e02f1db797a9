/-
  Contracts of the wind's laws: equal lists of bands, the examples.
-/
import Derived.Test.YtlecbjbjgfpfeaaMi
import Derived.Test.YtlecbjbjgfpfeaaMf
import Derived.Test.YtlecbjbjgfpfeaaRows
section
set_option linter.unusedVariables false
set_option linter.unusedSimpArgs false
set_option maxRecDepth 100000
set_option maxHeartbeats 4000000
namespace Go.Proofs.Ytlecbjbjgfpfeaa
open Go.V
attribute [local irreducible] doubtS saysS leftS agreeS blameS answerS checkS begun nameS lowS answerN knownS
def lib32 : Lib := (21, mk rBandsT) :: lib31
theorem lib32_ok : LibOK Go.Proofs.Try.prog lib32 := .cons windBandsT_ok lib31_ok

noncomputable def rSame : List D → Option (Prop × D) := fun ds => match ds with
  | [.rsl 6 n g, .rsl 6 m h] => some (IM n 6 g ∧ IM m 6 h ∧ n ≤ 1099511627776, .bool (sameB 6 n m (im g) (im h)))
  | _ => none
theorem sameB_iff {s n m : Nat} {a b : Nat → Nat → Int} : sameB s n m a b = true ↔ n = m ∧ sameFrom s a b n 0 := by
  unfold sameB
  rw [decT]
theorem all6 {p : Nat → Prop} : (∀ j, j < 6 → p j) ↔ p 0 ∧ p 1 ∧ p 2 ∧ p 3 ∧ p 4 ∧ p 5 :=
  ⟨fun h => ⟨h 0 (by omega), h 1 (by omega), h 2 (by omega), h 3 (by omega), h 4 (by omega), h 5 (by omega)⟩, fun h j hj => by
    have hj' : j = 0 ∨ j = 1 ∨ j = 2 ∨ j = 3 ∨ j = 4 ∨ j = 5 := by omega
    rcases hj' with rfl | rfl | rfl | rfl | rfl | rfl
    · exact h.1
    · exact h.2.1
    · exact h.2.2.1
    · exact h.2.2.2.1
    · exact h.2.2.2.2.1
    · exact h.2.2.2.2.2⟩
theorem same_ok : PSound Go.Proofs.Try.prog 22 (mk rSame) := by
  refine psound_mk Try.func22 (by kernel_rfl) rfl (ctx (.nil _)) ?_
  (intro ds p d h; unfold rSame at h; split at h <;> first | (cases h; done) | skip; cases h; refine ⟨Nat.le_of_ble_eq_true rfl, fun hp k hk => ?_⟩)
  rename_i n g m h
  obtain ⟨h1, h2, h3⟩ := hp
  refine ⟨[.rsl 6 n (imD (im g)), .rsl 6 m (imD (im h))], rfl, h1, rfl, h2, ?_⟩
  clear h1 h2
  generalize im g = a at *
  generalize im h = b at *
  generalize hS : sameB 6 n m a b = c at *
  have hS' : c = true ↔ n = m ∧ sameFrom 6 a b n 0 := by rw [← hS]; exact sameB_iff
  clear hS
  repeat' (first | ((with_reducible refine kok ?_); kernel_rfl) | ((with_reducible refine keq_mk ?_); kernel_rfl) | with_reducible rfl | ((conv => whnf); first | (with_reducible exact trivial) | ((with_reducible refine and_ff ?_ ?_); · exact rfl) | ((with_reducible refine and_tt ?_ ?_); · exact rfl) | (with_reducible refine And.intro ?_ ?_) | intro _ | (with_reducible refine fin2 hk ?_) | ((with_reducible refine eq_leaf ?_); exact rfl) | exact trivial))
  · rename_i g1
    simp only [taskOf_agg, ↓Bool.not_eq_true', ↓Bool.not_eq_false', ↓decT, ↓decF, out_true, out_false, isin_true, isin_false, Int.toNat_natCast, Int.ofNat_lt, Nat.zero_add, Nat.add_zero, Nat.reduceAdd] at g1
    symm
    rw [Bool.eq_false_iff, Ne, hS']
    omega
  rename_i g1
  simp only [taskOf_agg, ↓Bool.not_eq_true', ↓Bool.not_eq_false', ↓decT, ↓decF, out_true, out_false, isin_true, isin_false, Int.toNat_natCast, Int.ofNat_lt, Nat.zero_add, Nat.add_zero, Nat.reduceAdd] at g1
  have hnm : n = m := by omega
  subst hnm
  refine ⟨Nat, fun i => [(0, .rsl 6 n (imD a)), (1, .rsl 6 n (imD b)), (5, .int .i64 i)], fun _ => [], fun i => n - i, fun i => i ≤ n ∧ (c = true ↔ sameFrom 6 a b n i), [], 0, fun _ => ⟨rfl, rfl⟩, ?_, fun i hI => ?_⟩
  · clear hk
    repeat' (first | ((with_reducible refine kok ?_); kernel_rfl) | ((with_reducible refine keq_mk ?_); kernel_rfl) | with_reducible rfl | ((conv => whnf); first | (with_reducible exact trivial) | ((with_reducible refine and_ff ?_ ?_); · exact rfl) | ((with_reducible refine and_tt ?_ ?_); · exact rfl) | (with_reducible refine And.intro ?_ ?_) | intro _ | (with_reducible refine fin2 hk ?_) | ((with_reducible refine eq_leaf ?_); exact rfl) | exact trivial))
    · omega
    · rw [hS']; simp
  obtain ⟨hi, hc⟩ := hI
  clear hS'
  repeat' (first | ((with_reducible refine kok ?_); kernel_rfl) | ((with_reducible refine keq_mk ?_); kernel_rfl) | with_reducible rfl | ((conv => whnf); first | (with_reducible exact trivial) | ((with_reducible refine and_ff ?_ ?_); · exact rfl) | ((with_reducible refine and_tt ?_ ?_); · exact rfl) | (with_reducible refine And.intro ?_ ?_) | intro _ | (with_reducible refine fin2 hk ?_) | ((with_reducible refine eq_leaf ?_); exact rfl) | exact trivial))
  all_goals try ((first | with_reducible refine (?_ : (_ : Int) ≤ _) | with_reducible refine (?_ : (_ : Int) < _) | with_reducible refine (?_ : (_ : Nat) ≤ _) | with_reducible refine (?_ : (_ : Nat) < _)); clear hk; try simp only [taskOf_agg, ↓Bool.not_eq_true', ↓Bool.not_eq_false', ↓decT, ↓decF, out_true, out_false, isin_true, isin_false, Int.toNat_natCast, Int.ofNat_lt, Nat.zero_add, Nat.add_zero, Nat.reduceAdd] at *; omega)
  all_goals try conv => whnf
  · rename_i g1 g2
    clear hk
    simp only [taskOf_agg, ↓Bool.not_eq_true', ↓Bool.not_eq_false', ↓decT, ↓decF, out_true, out_false, isin_true, isin_false, Int.toNat_natCast, Int.ofNat_lt, Nat.zero_add, Nat.add_zero, Nat.reduceAdd, Int.toNat_zero, Int.reduceToNat, ↓reduceIte, reduceCtorEq, Bool.or_eq_true, Bool.or_eq_false_iff, Bool.and_eq_true, Bool.and_eq_false_iff, Bool.and_true, Bool.and_false] at g1 g2
    symm
    rw [Bool.eq_false_iff, Ne, hc, sameFrom_step g1, all6]
    omega
  · rename_i g1 g2
    clear hk
    simp only [taskOf_agg, ↓Bool.not_eq_true', ↓Bool.not_eq_false', ↓decT, ↓decF, out_true, out_false, isin_true, isin_false, Int.toNat_natCast, Int.ofNat_lt, Nat.zero_add, Nat.add_zero, Nat.reduceAdd, Int.toNat_zero, Int.reduceToNat, ↓reduceIte, reduceCtorEq, Bool.or_eq_true, Bool.or_eq_false_iff, Bool.and_eq_true, Bool.and_eq_false_iff, Bool.and_true, Bool.and_false] at g1 g2
    refine ⟨i + 1, ?_⟩
    repeat' (first | ((with_reducible refine kok ?_); kernel_rfl) | ((with_reducible refine keq_mk ?_); kernel_rfl) | with_reducible rfl | ((conv => whnf); first | (with_reducible exact trivial) | ((with_reducible refine and_ff ?_ ?_); · exact rfl) | ((with_reducible refine and_tt ?_ ?_); · exact rfl) | (with_reducible refine And.intro ?_ ?_) | intro _ | (with_reducible refine fin2 hk ?_) | ((with_reducible refine eq_leaf ?_); exact rfl) | exact trivial))
    · exact g1
    · rw [hc, sameFrom_step g1, all6]
      exact ⟨fun h => h.2, fun h => ⟨by omega, h⟩⟩
    · simp only; omega
  · rename_i g1
    clear hk
    simp only [taskOf_agg, ↓Bool.not_eq_true', ↓Bool.not_eq_false', ↓decT, ↓decF, out_true, out_false, isin_true, isin_false, Int.toNat_natCast, Int.ofNat_lt, Nat.zero_add, Nat.add_zero, Nat.reduceAdd] at g1
    symm
    rw [hc]
    exact sameFrom_end (by omega)

/-- Numbers of a list of rows. -/
def tabI (l : List (List Int)) (i j : Nat) : Int := (l.getD i []).getD j 0
def exT : Task := ⟨3, 4, 2, fun i => [(⟨#[109, 97, 115, 116]⟩ : ByteArray), ⟨#[98, 108, 117, 101]⟩, ⟨#[98, 101, 97, 109]⟩].getD i ⟨#[]⟩,
  tabI [[1, 50, 0, 6000, 0, 300000], [2, 100, 600, 12000, 0, 30000000], [3, 80, 100, 3000, 50000, 2000000]],
  tabI [[0, 1000, 100000, 450, 0], [1, 1000, 100000, 600, -100], [1, 1600, 600000, 850, 100], [2, 2000, 300000, 760, 0]], tabI [[200000], [1000000]], 30, 20⟩
def rConst (d : V.D) : List V.D → Option (Prop × V.D) := fun ds => match ds with
  | [] => some (True, d)
  | _ => none
theorem example_ok : PSound Go.Proofs.Try.prog 13 (mk (rConst exT.D)) := by
  refine psound_mk Try.func13 (by kernel_rfl) rfl (ctx (.nil _)) ?_
  (intro ds p d h; unfold rConst at h; split at h <;> first | (cases h; done) | skip; cases h; refine ⟨Nat.le_of_ble_eq_true rfl, fun hp k hk => ?_⟩)
  refine ⟨[], ?_⟩
  repeat' (first | ((with_reducible refine kok ?_); kernel_rfl) | ((with_reducible refine keq_mk ?_); kernel_rfl) | with_reducible rfl | ((conv => whnf); first | (with_reducible exact trivial) | ((with_reducible refine and_ff ?_ ?_); · exact rfl) | ((with_reducible refine and_tt ?_ ?_); · exact rfl) | (with_reducible refine And.intro ?_ ?_) | intro _ | (with_reducible refine fin2 hk ?_) | ((with_reducible refine eq_leaf ?_); exact rfl) | exact trivial))
  · rename_i i j hi hj
    have hi' : i = 0 ∨ i = 1 ∨ i = 2 := by have : exT.ns = 3 := rfl; omega
    have hj' : j = 0 ∨ j = 1 ∨ j = 2 ∨ j = 3 ∨ j = 4 ∨ j = 5 ∨ j = 6 := by omega
    rcases hi' with rfl | rfl | rfl <;> rcases hj' with rfl | rfl | rfl | rfl | rfl | rfl | rfl <;> rfl
  · rename_i i j hi hj
    have hi' : i = 0 ∨ i = 1 ∨ i = 2 ∨ i = 3 := by have : exT.nx = 4 := rfl; omega
    have hj' : j = 0 ∨ j = 1 ∨ j = 2 ∨ j = 3 ∨ j = 4 := by omega
    rcases hi' with rfl | rfl | rfl | rfl <;> rcases hj' with rfl | rfl | rfl | rfl | rfl <;> rfl
  · rename_i i j hi hj
    have hi' : i = 0 ∨ i = 1 := by have : exT.nc = 2 := rfl; omega
    have hj' : j = 0 := by omega
    rcases hi' with rfl | rfl <;> obtain rfl := hj' <;> rfl
def winA : Nat → Nat → Int := tabI [[0, 200000, 600, 780, -150, 80], [200000, 1000000, 640, 740, -110, 240]]
theorem winds2_ok : PSound Go.Proofs.Try.prog 24 (mk (rConst (.rsl 6 2 (imD winA)))) := by
  refine psound_mk Try.func24 (by kernel_rfl) rfl (ctx (.nil _)) ?_
  (intro ds p d h; unfold rConst at h; split at h <;> first | (cases h; done) | skip; cases h; refine ⟨Nat.le_of_ble_eq_true rfl, fun hp k hk => ?_⟩)
  refine ⟨[], ?_⟩
  repeat' (first | ((with_reducible refine kok ?_); kernel_rfl) | ((with_reducible refine keq_mk ?_); kernel_rfl) | with_reducible rfl | ((conv => whnf); first | (with_reducible exact trivial) | ((with_reducible refine and_ff ?_ ?_); · exact rfl) | ((with_reducible refine and_tt ?_ ?_); · exact rfl) | (with_reducible refine And.intro ?_ ?_) | intro _ | (with_reducible refine fin2 hk ?_) | ((with_reducible refine eq_leaf ?_); exact rfl) | exact trivial))
  · rename_i i j hi hj
    have hi' : i = 0 ∨ i = 1 := by omega
    have hj' : j = 0 ∨ j = 1 ∨ j = 2 ∨ j = 3 ∨ j = 4 ∨ j = 5 := by omega
    rcases hi' with rfl | rfl <;> rcases hj' with rfl | rfl | rfl | rfl | rfl | rfl <;> rfl
end Go.Proofs.Ytlecbjbjgfpfeaa
end
section
set_option linter.unusedVariables false
set_option linter.unusedSimpArgs false
set_option maxRecDepth 100000
set_option maxHeartbeats 4000000
namespace Go.Proofs.Ytlecbjbjgfpfeaa
open Go.V
attribute [local irreducible] doubtS saysS leftS agreeS blameS answerS checkS begun nameS lowS answerN knownS
noncomputable def lib33 : Lib := (22, mk rSame) :: (13, mk (rConst exT.D)) :: (24, mk (rConst (.rsl 6 2 (imD winA)))) :: lib32
theorem lib33_ok : LibOK Go.Proofs.Try.prog lib33 := .cons same_ok (.cons example_ok (.cons winds2_ok lib32_ok))

def taskTop (e : Int) : V.D := .tup [.agg [.nilS, .nilS, .nilS, .int .i64 0, .int .i64 0], .int .i64 e]
def rNil (e : Int) : List V.D → Option (Prop × V.D) := fun ds => match ds with
  | [.nilS] => some (True, taskTop e)
  | _ => none
noncomputable def Lparse : Libs := ⟨lib33, [(55, inl (cxOf tab lib33) Go.Proofs.Try.f55)], [], [(54, inlD (cxOf tab lib33) Go.Proofs.Try.f54 (codeOf Go.Proofs.Try.f54))]⟩
theorem Lparse_ok : LibsOK Go.Proofs.Try.prog Lparse := ⟨lib33_ok,
  asGet_cons (csound_in Try.func55 (by kernel_rfl) rfl (ctx lib33_ok)) (fun g s h => by cases h), fun f r h => (by cases h),
  asGet_cons (dsound_of Try.func54 (by kernel_rfl) rfl rfl (ctx lib33_ok)) (fun g s h => by cases h)⟩
theorem parseNil_ok : PSound Go.Proofs.Try.prog 31 (mk (rNil 6)) := by
  refine psound_mk Try.func31 (by kernel_rfl) rfl (ctxA Lparse_ok) ?_
  (intro ds p d h; unfold rNil at h; split at h <;> first | (cases h; done) | skip; cases h; refine ⟨Nat.le_of_ble_eq_true rfl, fun hp k hk => ?_⟩)
  refine ⟨[.nilS], ?_⟩
  repeat' (first | ((with_reducible refine kok ?_); kernel_rfl) | ((with_reducible refine keq_mk ?_); kernel_rfl) | with_reducible rfl | ((conv => whnf); first | (with_reducible exact trivial) | ((with_reducible refine and_ff ?_ ?_); · exact rfl) | ((with_reducible refine and_tt ?_ ?_); · exact rfl) | (with_reducible refine And.intro ?_ ?_) | intro _ | (with_reducible refine fin2 hk ?_) | ((with_reducible refine eq_leaf ?_); exact rfl) | exact trivial))
noncomputable def lib34 : Lib := (31, mk (rNil 6)) :: lib33
theorem lib34_ok : LibOK Go.Proofs.Try.prog lib34 := .cons parseNil_ok lib33_ok
theorem readNil_ok : PSound Go.Proofs.Try.prog 9 (mk (rNil 6)) := by
  refine psound_mk Try.func9 (by kernel_rfl) rfl (ctx lib34_ok) ?_
  (intro ds p d h; unfold rNil at h; split at h <;> first | (cases h; done) | skip; cases h; refine ⟨Nat.le_of_ble_eq_true rfl, fun hp k hk => ?_⟩)
  refine ⟨[.nilS], ?_⟩
  repeat' (first | ((with_reducible refine kok ?_); kernel_rfl) | ((with_reducible refine keq_mk ?_); kernel_rfl) | with_reducible rfl | ((conv => whnf); first | (with_reducible exact trivial) | ((with_reducible refine and_ff ?_ ?_); · exact rfl) | ((with_reducible refine and_tt ?_ ?_); · exact rfl) | (with_reducible refine And.intro ?_ ?_) | intro _ | (with_reducible refine fin2 hk ?_) | ((with_reducible refine eq_leaf ?_); exact rfl) | exact trivial))
noncomputable def lib35 : Lib := (9, mk (rNil 6)) :: lib34
theorem lib35_ok : LibOK Go.Proofs.Try.prog lib35 := .cons readNil_ok lib34_ok
theorem ex_fits : exT.fits := fun i hi => by
  have hi' : i = 0 ∨ i = 1 ∨ i = 2 := by have : exT.ns = 3 := rfl; omega
  rcases hi' with rfl | rfl | rfl <;> exact Nat.le_of_ble_eq_true rfl
theorem ex_bands : bandsT exT 2200 2200 = (2, 0) := by decide +kernel
theorem ex_doubt : doubtT exT 2 0 1000 = (250, 0) := by decide +kernel
theorem ex_at : (atT exT 700000 2200 2200).2 = 9 := by decide +kernel
theorem ex_same : ∀ i, i < 2 → ∀ j, j < 6 → bandA exT 2200 2200 i j = winA i j := by decide +kernel
theorem ex_same2 : sameB 6 2 2 (bandA exT 2200 2200) winA = true := sameB_iff.mpr ⟨rfl, fun x _ hx j hj => ex_same x hx j hj⟩
theorem ex_n1 : nameS ⟨#[109, 97, 115, 116]⟩ = true := by decide +kernel
theorem ex_n2 : nameS ⟨#[77, 97, 115, 116]⟩ = false := by decide +kernel
attribute [local irreducible] exT bandsT doubtT atT bandA winA sameB
theorem awake_ok : PSound Go.Proofs.Try.prog 12 (mk (rConst .tt)) := by
  refine psound_mk Try.func12 (by kernel_rfl) rfl (ctx lib35_ok) ?_
  (intro ds p d h; unfold rConst at h; split at h <;> first | (cases h; done) | skip; cases h; refine ⟨Nat.le_of_ble_eq_true rfl, fun hp k hk => ?_⟩)
  refine ⟨[], ?_⟩
  repeat' (first | ((with_reducible refine kok ?_); kernel_rfl) | ((with_reducible refine keq_mk ?_); kernel_rfl) | with_reducible rfl | ((conv => whnf); first | (with_reducible exact trivial) | ((with_reducible refine and_ff ?_ ?_); · exact rfl) | ((with_reducible refine and_tt ?_ ?_); · exact rfl) | (with_reducible refine And.intro ?_ ?_) | intro _ | (with_reducible refine fin2 hk ?_) | ((with_reducible refine eq_leaf ?_); exact rfl) | exact trivial))
  all_goals try exact ex_fits _ (by assumption)
  all_goals try exact Nat.le_of_ble_eq_true rfl
  all_goals simp only [taskOf_agg, ↓Bool.not_eq_true', ↓Bool.not_eq_false', ↓decT, ↓decF, out_true, out_false, isin_true, isin_false, Int.toNat_natCast, Int.ofNat_lt, Nat.zero_add, Nat.add_zero, Nat.reduceAdd, Int.toNat_zero, Int.reduceToNat, ↓reduceIte, reduceCtorEq, Bool.or_eq_true, Bool.or_eq_false_iff, Bool.and_eq_true, Bool.and_eq_false_iff, ex_bands, ex_doubt, ex_at, ex_n1, ex_n2, im_imD, ex_same2, Bool.not_false] at *
  all_goals first | exact Nat.le_of_ble_eq_true rfl | omega | simp_all
end Go.Proofs.Ytlecbjbjgfpfeaa
end
section
set_option linter.unusedVariables false
set_option linter.unusedSimpArgs false
set_option maxRecDepth 100000
set_option maxHeartbeats 4000000
namespace Go.Proofs.Ytlecbjbjgfpfeaa
open Go.V
attribute [local irreducible] doubtS saysS leftS agreeS blameS answerS checkS begun nameS lowS answerN knownS exT bandsT doubtT atT bandA winA sameB saysT blameT knownT
noncomputable def lib36 : Lib := (12, mk (rConst .tt)) :: lib35
theorem lib36_ok : LibOK Go.Proofs.Try.prog lib36 := .cons awake_ok lib35_ok
theorem sameB_refl (s n : Nat) (a : Nat → Nat → Int) : sameB s n n a a = true := sameB_iff.mpr ⟨rfl, fun x _ _ j _ => rfl⟩

theorem blameFrom_length {t : Task} {low high a now : Int} : ∀ (k i : Nat) (l : List Int), (blameFrom t low high a now i l k).length ≤ l.length + k
  | 0, i, l => Nat.le_refl _
  | k + 1, i, l => by
    have h := blameFrom_length (t := t) (low := low) (high := high) (a := a) (now := now) k (i + 1) (blameStep t low high a now i l)
    have h2 : (blameStep t low high a now i l).length ≤ l.length + 1 := by
      unfold blameStep
      split
      · simp
      · omega
    show (blameFrom t low high a now (i + 1) (blameStep t low high a now i l) k).length ≤ _
    omega
theorem knownT_len (t : Task) (now : Int) : (knownT t now).1.length ≤ 60 := by
  unfold knownT
  split
  · exact Nat.zero_le _
  split
  · exact Nat.zero_le _
  rename_i h _
  have h1 := small_nx (t := t) (Classical.not_not.mp h)
  have h2 := knownUp_length t now t.nx
  show (knownUp t now t.nx).length ≤ 60
  omega
theorem blameT_len (t : Task) (b a now : Int) : (blameT t b a now).1.length ≤ 6 := by
  unfold blameT
  split
  · exact Nat.zero_le _
  split
  · exact Nat.zero_le _
  split
  · exact Nat.zero_le _
  rename_i h _ _
  have h1 := small_nx (t := t) (Classical.not_not.mp h)
  show (blameS t (lowS t b.toNat) (t.ca b.toNat 0 - 1) a now).length ≤ 6
  unfold blameS
  split
  · exact Nat.zero_le _
  · have := blameFrom_length (t := t) (low := lowS t b.toNat) (high := t.ca b.toNat 0 - 1) (a := a) (now := now) t.ns 0 []
    simp only [List.length_nil] at this
    omega
theorem bandsT_len (t : Task) (a now : Int) : (bandsT t a now).1 ≤ 20 := by
  unfold bandsT
  split
  · exact Nat.zero_le _
  split
  · exact Nat.zero_le _
  split
  · exact Nat.zero_le _
  rename_i h _ _
  have h1 := small_nx (t := t) (Classical.not_not.mp h)
  exact h1.2.2.2

def rLChecks : List V.D → Option (Prop × V.D) := fun ds => match ds with
  | [d, .str s] => some (TaskIs d ∧ (taskOf d).fits ∧ s.size ≤ 9223372036854775807, .tt)
  | _ => none
def rLKnows : List V.D → Option (Prop × V.D) := fun ds => match ds with
  | [d, .agg [.int .i64 x0, .int .i64 x1, .int .i64 x2, .int .i64 x3]] => some (TaskIs d ∧ (taskOf d).fits ∧ True, .tt)
  | _ => none
def rLBlames : List V.D → Option (Prop × V.D) := fun ds => match ds with
  | [d, .agg [.int .i64 x0, .int .i64 x1, .int .i64 x2]] => some (TaskIs d ∧ (taskOf d).fits ∧ True, .tt)
  | _ => none
end Go.Proofs.Ytlecbjbjgfpfeaa
end
section
set_option linter.unusedVariables false
set_option linter.unusedSimpArgs false
set_option maxRecDepth 100000
namespace Go.Proofs.Ytlecbjbjgfpfeaa
open Go.V

theorem own : ownKnob Go.Proofs.Try.prog.godebug = none := by kernel_rfl
theorem laid_ok : laidOutB Go.Proofs.Try.prog = true := by kernel_rfl
theorem tbool : Go.Proofs.Try.prog.underlying 4 = some .bool := by kernel_rfl
def taskK : AK := .agg [.sl [.str, .int .i64, .int .i64, .int .i64, .int .i64, .int .i64, .int .i64], .sl [.int .i64, .int .i64, .int .i64, .int .i64, .int .i64], .sl [.int .i64], .int .i64, .int .i64]
/-- What is read of a task is one. -/
theorem task_of_kinds {d : V.D} (h : IsA taskK d) : TaskIs d ∧ (taskOf d).fits := by
  obtain ⟨ds, rfl, hl, h⟩ := h
  match ds, hl with
  | [d0, d1, d2, d3, d4], _ =>
    obtain ⟨n0, g0, rfl, hn0, hg0⟩ := h 0 _ _ rfl rfl
    obtain ⟨n1, g1, rfl, hn1, hg1⟩ := h 1 _ _ rfl rfl
    obtain ⟨n2, g2, rfl, hn2, hg2⟩ := h 2 _ _ rfl rfl
    obtain ⟨n3, rfl, _⟩ := h 3 _ _ rfl rfl
    obtain ⟨n4, rfl, _⟩ := h 4 _ _ rfl rfl
    obtain ⟨s1, s2⟩ := SM_of hg0 rfl
    exact ⟨⟨s1, IM_of hg1 rfl, IM_of hg2 rfl⟩, s2⟩
theorem isAL1 {a : AK} {ds : List V.D} (h : IsAL [a] ds) : ∃ d, ds = [d] ∧ IsA a d := by
  match ds, h with
  | [d], h => exact ⟨d, rfl, h.1⟩
theorem isAL2 {a b : AK} {ds : List V.D} (h : IsAL [a, b] ds) : ∃ d e, ds = [d, e] ∧ IsA a d ∧ IsA b e := by
  match ds, h with
  | [d, e], h => exact ⟨d, e, rfl, h.1, h.2.1⟩
theorem isAL3 {a b c : AK} {ds : List V.D} (h : IsAL [a, b, c] ds) : ∃ d e f, ds = [d, e, f] ∧ IsA a d ∧ IsA b e ∧ IsA c f := by
  match ds, h with
  | [d, e, f], h => exact ⟨d, e, f, rfl, h.1, h.2.1, h.2.2.1⟩
def bandsK : CK := .sl [.int .i64, .int .i64, .int .i64, .int .i64, .int .i64, .int .i64]
theorem bands_of_kinds {f : Nat} {d : V.D} (h : Is (f + 2) bandsK d) : ∃ n g, d = .rsl 6 n g ∧ IM n 6 g := by
  obtain ⟨n, g, rfl, _, hg⟩ := h
  exact ⟨n, g, rfl, IM_of hg rfl⟩
theorem int_of_kinds {f : Nat} {k : IntKind} {d : V.D} (h : Is (f + 1) (.int k) d) : ∃ n, d = .int k n ∧ k.min ≤ n ∧ n ≤ k.max := h
end Go.Proofs.Ytlecbjbjgfpfeaa
end
