/-
  Contracts of the wind: Over (both).
-/
import Derived.Test.YtbkehkiflfhpfaaMf
section
set_option linter.unusedVariables false
set_option linter.unusedSimpArgs false
set_option maxRecDepth 100000
set_option maxHeartbeats 4000000
namespace Go.Proofs.Ytbkehkiflfhpfaa
open Go.V
/-- What CheckBands has looked at. -/
structure BandsOK (n : Nat) (a : Nat → Nat → Int) : Prop where
  len : 1 ≤ n ∧ n ≤ 20
  from0 : ∀ i, i < n → a i 0 = fromOf a i
  up : ∀ i, i < n → a i 0 < a i 1 ∧ a i 1 ≤ 100000000
  x : ∀ i, i < n → (-20000 ≤ a i 2 ∧ a i 2 ≤ a i 3 ∧ a i 3 ≤ 20000)
  y : ∀ i, i < n → (-20000 ≤ a i 4 ∧ a i 4 ≤ a i 5 ∧ a i 5 ≤ 20000)
theorem winds_true {a b : Int} (h : winds a b = true) : -20000 ≤ a ∧ a ≤ b ∧ b ≤ 20000 := by
  simp only [winds, isin, Bool.and_eq_true, decide_eq_true_eq] at h
  omega
theorem bands_ok {n : Nat} {a : Nat → Nat → Int} (h : (checkBands n a).2 = 0) : BandsOK n a := by
  unfold checkBands at h
  split at h
  · rename_i h1
    have hz := fun j (hj : j < n) => fe_zero h j (Nat.zero_le j) (by omega : j < 0 + n)
    have hb : ∀ j, j < n → a j 0 = fromOf a j ∧ a j 0 < a j 1 ∧ a j 1 ≤ 100000000 ∧ winds (a j 2) (a j 3) = true ∧ winds (a j 4) (a j 5) = true := fun j hj => by
      have := hz j hj
      unfold bandErr at this
      split at this
      · cases this
      split at this
      · cases this
      split at this
      · cases this
      split at this
      · cases this
      split at this
      · cases this
      rename_i g1 g2 g3 g4 g5
      exact ⟨Classical.not_not.mp g1, by omega, by omega, by simpa using g4, by simpa using g5⟩
    simp only [isin, Bool.and_eq_true, decide_eq_true_eq] at h1
    exact ⟨by omega, fun i hi => (hb i hi).1, fun i hi => ⟨(hb i hi).2.1, (hb i hi).2.2.1⟩, fun i hi => winds_true (hb i hi).2.2.2.1, fun i hi => winds_true (hb i hi).2.2.2.2⟩
  · cases h
attribute [local irreducible] checkBands

theorem cellsD_int (k : IntKind) (n : Int) : cellsD (.int k n) = [.int k n] := rfl
theorem hide_int (H : HL) (k : IntKind) (n : Int) : hide H (.int k n) = .int k n := rfl
theorem toI_int (k : IntKind) (n : Int) : toI (.int k n) = n := rfl
/-- The wind at a height, by bands. -/
def belowTo (a : Nat → Nat → Int) (h : Int) (i : Nat) : Bool := decide (h < a i 1)
def overS (n : Nat) (a : Nat → Nat → Int) (h : Int) : Left × Int :=
  if firstFrom (belowTo a h) 0 n < 0 then (left00, 4) else (⟨a (firstFrom (belowTo a h) 0 n).toNat 2, a (firstFrom (belowTo a h) 0 n).toNat 3, a (firstFrom (belowTo a h) 0 n).toNat 4, a (firstFrom (belowTo a h) 0 n).toNat 5⟩, 0)
def overT (n : Nat) (a : Nat → Nat → Int) (h : Int) : Left × Int := if (checkBands n a).2 ≠ 0 then (left00, (checkBands n a).2) else if heightB h = false then (left00, 7) else overS n a h
def rOver : List V.D → Option (Prop × V.D) := fun ds => match ds with
  | [.rsl 6 n g, .int .i64 h] => some (IM n 6 g, spansD (overT n (im g) h).1 (overT n (im g) h).2)
  | _ => none

def rOver1 : List V.D → Option (Prop × V.D) := fun ds => match ds with
  | [.agg [.int .i64 b0, .int .i64 b1, .int .i64 b2, .int .i64 b3, .int .i64 b4, .int .i64 b5], .eptr 1 g] => some (g 0 = .int .i64 (toI (g 0)), .bool (decide (toI (g 0) < b1)))
  | _ => none
theorem over1_ok : PSound Go.Proofs.Try.prog 94 (mk rOver1) := by
  refine psound_mk Try.func94 (by kernel_rfl) rfl (ctx (.nil _)) ?_
  (intro ds p d h; unfold rOver1 at h; split at h <;> first | (cases h; done) | skip; cases h; refine ⟨Nat.le_of_ble_eq_true rfl, fun hp k hk => ?_⟩)
  rename_i b0 b1 b2 b3 b4 b5 g
  generalize toI (g 0) = h at *
  refine ⟨[.agg [.int .i64 b0, .int .i64 b1, .int .i64 b2, .int .i64 b3, .int .i64 b4, .int .i64 b5], .eptr 1 fun _ => .int .i64 h], rfl, rfl, rfl, rfl, rfl, rfl, rfl, fun j hj => ?_, ?_⟩
  · obtain rfl : j = 0 := by omega
    exact hp
  clear hp
  repeat' (first | ((with_reducible refine kok ?_); kernel_rfl) | ((with_reducible refine keq_mk ?_); kernel_rfl) | with_reducible rfl | ((conv => whnf); first | (with_reducible exact trivial) | ((with_reducible refine and_ff ?_ ?_); · exact rfl) | ((with_reducible refine and_tt ?_ ?_); · exact rfl) | (with_reducible refine And.intro ?_ ?_) | intro _ | (with_reducible refine fin2 hk ?_) | ((with_reducible refine eq_leaf ?_); exact rfl) | exact trivial))
noncomputable def lib37 : Lib := (94, mk rOver1) :: lib36
theorem lib37_ok : LibOK Go.Proofs.Try.prog lib37 := .cons over1_ok lib36_ok
def rIndexBand : List V.D → Option (Prop × V.D) := fun ds => match ds with
  | [.rsl 6 n g, .fn 94 [] [.eptr 1 e]] => some (IM n 6 g ∧ n ≤ 1099511627776 ∧ e 0 = .int .i64 (toI (e 0)), .int .i64 (firstFrom (belowTo (im g) (toI (e 0))) 0 n))
  | _ => none
theorem indexBand_ok : PSound Go.Proofs.Try.prog 93 (mk rIndexBand) := by
  refine psound_mk Try.func93 (by kernel_rfl) rfl (ctx lib37_ok) ?_
  (intro ds p d h; unfold rIndexBand at h; split at h <;> first | (cases h; done) | skip; cases h; refine ⟨Nat.le_of_ble_eq_true rfl, fun hp k hk => ?_⟩)
  rename_i n g e
  obtain ⟨h1, h2, h3⟩ := hp
  have h4 : toI (e 0) = toI (e 0) := rfl
  generalize hH : toI (e 0) = h at *
  clear h4
  refine ⟨[.rsl 6 n (imD (im g)), .fn 94 [] [.eptr 1 e]], rfl, h1, ?_⟩
  clear h1
  generalize im g = a at *
  generalize hS : firstFrom (belowTo a h) 0 n = c at *
  repeat' (first | ((with_reducible refine kok ?_); kernel_rfl) | ((with_reducible refine keq_mk ?_); kernel_rfl) | with_reducible rfl | ((conv => whnf); first | (with_reducible exact trivial) | ((with_reducible refine and_ff ?_ ?_); · exact rfl) | ((with_reducible refine and_tt ?_ ?_); · exact rfl) | (with_reducible refine And.intro ?_ ?_) | intro _ | (with_reducible refine fin2 hk ?_) | ((with_reducible refine eq_leaf ?_); exact rfl) | exact trivial))
  refine ⟨Nat, fun i => [(0, .rsl 6 n (imD a)), (1, .fn 94 [] [.eptr 1 e]), (7, .int .i64 n), (8, .int .i64 i)], fun _ => [], fun i => n - i, fun i => i ≤ n ∧ c = firstFrom (belowTo a h) i (n - i), [], 0, fun _ => ⟨rfl, rfl⟩, ?_, fun i hI => ?_⟩
  · clear hk
    repeat' (first | ((with_reducible refine kok ?_); kernel_rfl) | ((with_reducible refine keq_mk ?_); kernel_rfl) | with_reducible rfl | ((conv => whnf); first | (with_reducible exact trivial) | ((with_reducible refine and_ff ?_ ?_); · exact rfl) | ((with_reducible refine and_tt ?_ ?_); · exact rfl) | (with_reducible refine And.intro ?_ ?_) | intro _ | (with_reducible refine fin2 hk ?_) | ((with_reducible refine eq_leaf ?_); exact rfl) | exact trivial))
    · omega
    · exact hS.symm
  obtain ⟨hi, hc⟩ := hI
  clear hS
  repeat' (first | ((with_reducible refine kok ?_); kernel_rfl) | ((with_reducible refine keq_mk ?_); kernel_rfl) | with_reducible rfl | ((conv => whnf); first | (with_reducible exact trivial) | ((with_reducible refine and_ff ?_ ?_); · exact rfl) | ((with_reducible refine and_tt ?_ ?_); · exact rfl) | (with_reducible refine And.intro ?_ ?_) | intro _ | (with_reducible refine fin2 hk ?_) | ((with_reducible refine eq_leaf ?_); exact rfl) | exact trivial))
  all_goals try ((first | with_reducible refine (?_ : (_ : Int) ≤ _) | with_reducible refine (?_ : (_ : Int) < _)); clear hk hc h3 hH; simp only [taskOf_agg, ↓Bool.not_eq_true', ↓Bool.not_eq_false', ↓decT, ↓decF, out_true, out_false, isin_true, isin_false, Int.toNat_natCast, Int.ofNat_lt, Nat.zero_add, Nat.add_zero, Nat.reduceAdd] at *; omega)
  · exact h3.trans (congrArg _ hH.symm)
  · rename_i g1 g2
    clear hk
    simp only [taskOf_agg, ↓Bool.not_eq_true', ↓Bool.not_eq_false', ↓decT, ↓decF, out_true, out_false, isin_true, isin_false, Int.toNat_natCast, Int.ofNat_lt, Nat.zero_add, Nat.add_zero, Nat.reduceAdd] at g1 g2
    rw [hH] at g2
    rw [firstFrom_step g1, if_pos (by rw [belowTo]; exact decide_eq_true g2)] at hc
    exact hc.symm
  · rename_i g1 g2
    clear hk
    simp only [taskOf_agg, ↓Bool.not_eq_true', ↓Bool.not_eq_false', ↓decT, ↓decF, out_true, out_false, isin_true, isin_false, Int.toNat_natCast, Int.ofNat_lt, Nat.zero_add, Nat.add_zero, Nat.reduceAdd] at g1 g2
    rw [hH] at g2
    rw [firstFrom_step g1, if_neg (by rw [belowTo, decide_eq_false g2]; exact Bool.noConfusion)] at hc
    refine ⟨i + 1, ?_⟩
    repeat' (first | ((with_reducible refine kok ?_); kernel_rfl) | ((with_reducible refine keq_mk ?_); kernel_rfl) | with_reducible rfl | ((conv => whnf); first | (with_reducible exact trivial) | ((with_reducible refine and_ff ?_ ?_); · exact rfl) | ((with_reducible refine and_tt ?_ ?_); · exact rfl) | (with_reducible refine And.intro ?_ ?_) | intro _ | (with_reducible refine fin2 hk ?_) | ((with_reducible refine eq_leaf ?_); exact rfl) | exact trivial))
    · exact g1
    · exact hc
    · simp only; omega
  · rename_i g1
    clear hk
    simp only [taskOf_agg, ↓Bool.not_eq_true', ↓Bool.not_eq_false', ↓decT, ↓decF, out_true, out_false, isin_true, isin_false, Int.toNat_natCast, Int.ofNat_lt, Nat.zero_add, Nat.add_zero, Nat.reduceAdd] at g1
    rw [firstFrom_end (by omega)] at hc
    exact hc.symm
noncomputable def lib38 : Lib := (93, mk rIndexBand) :: lib37
theorem lib38_ok : LibOK Go.Proofs.Try.prog lib38 := .cons indexBand_ok lib37_ok
theorem first_lt (p : Nat → Bool) (n : Nat) : firstFrom p 0 n = -1 ∨ (0 ≤ firstFrom p 0 n ∧ firstFrom p 0 n < n) := by
  rcases firstFrom_spec p n 0 with ⟨h, _⟩ | ⟨m, h, _, h2, _⟩
  · exact .inl h
  · right; omega
theorem first_is {p : Nat → Bool} {n i : Nat} (hi : i < n) (h : p i = true) (hq : ∀ j, j < i → p j = false) : firstFrom p 0 n = i := by
  rcases firstFrom_spec p n 0 with ⟨h1, h2⟩ | ⟨m, h1, _, h3, h4, h5⟩
  · rw [h2 i (by omega) (by omega)] at h; cases h
  · have : m = i := by
      rcases Nat.lt_trichotomy m i with g | g | g
      · rw [hq m g] at h4; cases h4
      · exact g
      · rw [h5 i (by omega) g] at h; cases h
    rw [h1, this]
theorem first_none {p : Nat → Bool} {n : Nat} (hq : ∀ j, j < n → p j = false) : firstFrom p 0 n = -1 := by
  rcases firstFrom_spec p n 0 with ⟨h1, h2⟩ | ⟨m, h1, _, h3, h4, h5⟩
  · exact h1
  · rw [hq m (by omega)] at h4; cases h4
theorem windOver_ok : PSound Go.Proofs.Try.prog 49 (mk rOver) := by
  refine psound_mk Try.func49 (by kernel_rfl) rfl (ctx lib38_ok) ?_
  (intro ds p d h; unfold rOver at h; split at h <;> first | (cases h; done) | skip; cases h; refine ⟨Nat.le_of_ble_eq_true rfl, fun hp k hk => ?_⟩)
  rename_i n g h
  refine ⟨[.rsl 6 n (imD (im g)), .int .i64 h], rfl, hp, rfl, ?_⟩
  clear hp
  generalize im g = a at *
  generalize hS : overT n a h = c at *
  have hn : (checkBands n a).2 = 0 → 1 ≤ n ∧ n ≤ 20 := fun h => (bands_ok h).len
  have hf := first_lt (belowTo a h) n
  repeat' (first | ((with_reducible refine kok ?_); kernel_rfl) | ((with_reducible refine keq_mk ?_); kernel_rfl) | with_reducible rfl | ((conv => whnf); first | (with_reducible exact trivial) | ((with_reducible refine and_ff ?_ ?_); · exact rfl) | ((with_reducible refine and_tt ?_ ?_); · exact rfl) | (with_reducible refine And.intro ?_ ?_) | intro _ | (with_reducible refine fin2 hk ?_) | ((with_reducible refine eq_leaf ?_); exact rfl) | exact trivial))
  all_goals try simp only [taskOf_agg, ↓Bool.not_eq_true', ↓Bool.not_eq_false', ↓decT, ↓decF, out_true, out_false, isin_true, isin_false, Int.toNat_natCast, Int.ofNat_lt, Nat.zero_add, Nat.add_zero, Nat.reduceAdd, Int.toNat_zero, Int.reduceToNat, ↓reduceIte, reduceCtorEq, Bool.or_eq_true, Bool.or_eq_false_iff, Bool.and_eq_true, Bool.and_eq_false_iff, cellsD_int, hide_int, toI_int, List.getD_cons_zero, im_imD] at *
  all_goals try ((first | with_reducible refine (?_ : (_ : Int) ≤ _) | with_reducible refine (?_ : (_ : Int) < _) | with_reducible refine (?_ : (_ : Nat) ≤ _)); clear hk hS; first | omega | (have := hn (by assumption); omega))
  all_goals clear hk
  all_goals subst hS
  all_goals try simp only [overT, overS, left00, heightB, taskOf_agg, ↓Bool.not_eq_true', ↓Bool.not_eq_false', ↓decT, ↓decF, out_true, out_false, isin_true, isin_false, Int.toNat_natCast, Int.ofNat_lt, Nat.zero_add, Nat.add_zero, Nat.reduceAdd, Int.toNat_zero, Int.reduceToNat, ↓reduceIte, reduceCtorEq, Bool.or_eq_true, Bool.or_eq_false_iff, Bool.and_eq_true, Bool.and_eq_false_iff]
  all_goals repeat' split
  all_goals first | with_reducible rfl | omega | (simp_all only [reduceCtorEq]; done) | rfl
theorem refOver_ok : PSound Go.Proofs.Try.prog 52 (mk rOver) := by
  refine psound_mk Try.func52 (by kernel_rfl) rfl (ctx lib38_ok) ?_
  (intro ds p d h; unfold rOver at h; split at h <;> first | (cases h; done) | skip; cases h; refine ⟨Nat.le_of_ble_eq_true rfl, fun hp k hk => ?_⟩)
  rename_i n g h
  refine ⟨[.rsl 6 n (imD (im g)), .int .i64 h], rfl, hp, rfl, ?_⟩
  clear hp
  generalize im g = a at *
  generalize hS : overT n a h = c at *
  have hn : (checkBands n a).2 = 0 → 1 ≤ n ∧ n ≤ 20 := fun h => (bands_ok h).len
  repeat' (first | ((with_reducible refine kok ?_); kernel_rfl) | ((with_reducible refine keq_mk ?_); kernel_rfl) | with_reducible rfl | ((conv => whnf); first | (with_reducible exact trivial) | ((with_reducible refine and_ff ?_ ?_); · exact rfl) | ((with_reducible refine and_tt ?_ ?_); · exact rfl) | (with_reducible refine And.intro ?_ ?_) | intro _ | (with_reducible refine fin2 hk ?_) | ((with_reducible refine eq_leaf ?_); exact rfl) | exact trivial))
  all_goals try (exfalso; clear hk hS hn; simp only [taskOf_agg, ↓Bool.not_eq_true', ↓Bool.not_eq_false', ↓decT, ↓decF, out_true, out_false, isin_true, isin_false, Int.toNat_natCast, Int.ofNat_lt, Nat.zero_add, Nat.add_zero, Nat.reduceAdd] at *; omega)
  rotate_left 5
  · rename_i g1 g2 g3
    have E : (checkBands n a).2 = 0 := by
      clear hk hS
      simp only [taskOf_agg, ↓Bool.not_eq_true', ↓Bool.not_eq_false', ↓decT, ↓decF, out_true, out_false, isin_true, isin_false, Int.toNat_natCast, Int.ofNat_lt, Nat.zero_add, Nat.add_zero, Nat.reduceAdd, im_imD] at *
      assumption
    have hh : 0 ≤ h ∧ h ≤ 99999999 := by
      clear hk hS
      simp only [taskOf_agg, ↓Bool.not_eq_true', ↓Bool.not_eq_false', ↓decT, ↓decF, out_true, out_false, isin_true, isin_false, Int.toNat_natCast, Int.ofNat_lt, Nat.zero_add, Nat.add_zero, Nat.reduceAdd, im_imD] at *
      assumption
    have hc : c = overS n a h := by
      rw [← hS, overT, if_neg (fun h => h E), if_neg]
      rw [show heightB h = true from by simp only [heightB, taskOf_agg, ↓Bool.not_eq_true', ↓Bool.not_eq_false', ↓decT, ↓decF, out_true, out_false, isin_true, isin_false, Int.toNat_natCast, Int.ofNat_lt, Nat.zero_add, Nat.add_zero, Nat.reduceAdd]; exact hh]
      exact Bool.noConfusion
    have hb := bands_ok E
    have hl := hb.len
    clear hS hn g1 g2 g3
    refine ⟨Nat, fun i => [(0, .rsl 6 n (imD a)), (1, .int .i64 h), (4, .ptr 0 0), (5, .ptr 1 0), (6, .int .i64 0), (9, .int .i64 i)], fun _ => [some (.row [.int .i64 0, .int .i64 0]), some (.row [.int .i64 0, .int .i64 0])],
      fun i => n - i, fun i => i ≤ n ∧ (∀ j, j < i → ¬ h < a j 1), [], 0, fun _ => ⟨?_, ?_⟩, ?_, fun i hi => ?_⟩
    · conv => lhs; whnf
    · conv => lhs; whnf
    · clear hk
      repeat' (first | ((with_reducible refine kok ?_); kernel_rfl) | ((with_reducible refine keq_mk ?_); kernel_rfl) | with_reducible rfl | ((conv => whnf); first | (with_reducible exact trivial) | ((with_reducible refine and_ff ?_ ?_); · exact rfl) | ((with_reducible refine and_tt ?_ ?_); · exact rfl) | (with_reducible refine And.intro ?_ ?_) | intro _ | (with_reducible refine fin2 hk ?_) | ((with_reducible refine eq_leaf ?_); exact rfl) | exact trivial))
      all_goals first | exact Nat.zero_le _ | (exact absurd (by assumption) (Nat.not_lt_zero _))
    obtain ⟨hi, hq⟩ := hi
    have hfrom : i < n → a i 0 ≤ h := fun g => by
      rw [hb.from0 i g, fromOf]
      split
      · exact hh.1
      · have := hq (i - 1) (by omega); omega
    repeat' (first | ((with_reducible refine kok ?_); kernel_rfl) | ((with_reducible refine keq_mk ?_); kernel_rfl) | with_reducible rfl | ((conv => whnf); first | (with_reducible exact trivial) | ((with_reducible refine and_ff ?_ ?_); · exact rfl) | ((with_reducible refine and_tt ?_ ?_); · exact rfl) | (with_reducible refine And.intro ?_ ?_) | intro _ | (with_reducible refine fin2 hk ?_) | ((with_reducible refine eq_leaf ?_); exact rfl) | exact trivial))
    all_goals try ((first | with_reducible refine (?_ : (_ : Int) ≤ _) | with_reducible refine (?_ : (_ : Int) < _)); clear hk; simp only [taskOf_agg, ↓Bool.not_eq_true', ↓Bool.not_eq_false', ↓decT, ↓decF, out_true, out_false, isin_true, isin_false, Int.toNat_natCast, Int.ofNat_lt, Nat.zero_add, Nat.add_zero, Nat.reduceAdd] at *; omega)
    all_goals try (exfalso; clear hk; simp only [taskOf_agg, ↓Bool.not_eq_true', ↓Bool.not_eq_false', ↓decT, ↓decF, out_true, out_false, isin_true, isin_false, Int.toNat_natCast, Int.ofNat_lt, Nat.zero_add, Nat.add_zero, Nat.reduceAdd] at *; have := hfrom (by omega); omega)
    all_goals try conv => whnf
    rotate_left 5
    · rename_i g1 g2 g3
      clear hk hc hfrom
      simp only [taskOf_agg, ↓Bool.not_eq_true', ↓Bool.not_eq_false', ↓decT, ↓decF, out_true, out_false, isin_true, isin_false, Int.toNat_natCast, Int.ofNat_lt, Nat.zero_add, Nat.add_zero, Nat.reduceAdd] at g1 g2 g3
      refine ⟨i + 1, ?_⟩
      repeat' (first | ((with_reducible refine kok ?_); kernel_rfl) | ((with_reducible refine keq_mk ?_); kernel_rfl) | with_reducible rfl | ((conv => whnf); first | (with_reducible exact trivial) | ((with_reducible refine and_ff ?_ ?_); · exact rfl) | ((with_reducible refine and_tt ?_ ?_); · exact rfl) | (with_reducible refine And.intro ?_ ?_) | intro _ | (with_reducible refine fin2 hk ?_) | ((with_reducible refine eq_leaf ?_); exact rfl) | exact trivial))
      · exact g1
      · rename_i j hj hx
        rcases Nat.lt_or_eq_of_le (Nat.le_of_lt_succ hj) with g | g
        · exact hq j g hx
        · rw [g] at hx; exact g3 hx
      · simp only; omega
    rotate_left 5
    all_goals clear hk
    all_goals simp only [taskOf_agg, ↓Bool.not_eq_true', ↓Bool.not_eq_false', ↓decT, ↓decF, out_true, out_false, isin_true, isin_false, Int.toNat_natCast, Int.ofNat_lt, Nat.zero_add, Nat.add_zero, Nat.reduceAdd] at *
    all_goals first
      | (have e : firstFrom (belowTo a h) 0 n = i := first_is (by assumption) (decide_eq_true (by assumption)) (fun j hj => decide_eq_false (hq j hj))
         rw [hc, overS, e, if_neg (by omega), Int.toNat_natCast]; done)
      | (have e : firstFrom (belowTo a h) 0 n = -1 := first_none (fun j hj => decide_eq_false (hq j (by omega)))
         rw [hc, overS, e, if_pos (by omega)]
         try rfl)
  all_goals clear hk
  all_goals subst hS
  all_goals try simp only [taskOf_agg, ↓Bool.not_eq_true', ↓Bool.not_eq_false', ↓decT, ↓decF, out_true, out_false, isin_true, isin_false, Int.toNat_natCast, Int.ofNat_lt, Nat.zero_add, Nat.add_zero, Nat.reduceAdd, Int.toNat_zero, Int.reduceToNat, ↓reduceIte, reduceCtorEq, Bool.or_eq_true, Bool.or_eq_false_iff, Bool.and_eq_true, Bool.and_eq_false_iff, im_imD] at *
  all_goals try simp only [overT, overS, left00, heightB, taskOf_agg, ↓Bool.not_eq_true', ↓Bool.not_eq_false', ↓decT, ↓decF, out_true, out_false, isin_true, isin_false, Int.toNat_natCast, Int.ofNat_lt, Nat.zero_add, Nat.add_zero, Nat.reduceAdd, Int.toNat_zero, Int.reduceToNat, ↓reduceIte, reduceCtorEq, Bool.or_eq_true, Bool.or_eq_false_iff, Bool.and_eq_true, Bool.and_eq_false_iff]
  all_goals repeat' split
  all_goals first | with_reducible rfl | omega | (simp_all only [reduceCtorEq]; done) | rfl
end Go.Proofs.Ytbkehkiflfhpfaa
end
section
set_option linter.unusedVariables false
set_option linter.unusedSimpArgs false
set_option maxRecDepth 100000
set_option maxHeartbeats 4000000
namespace Go.Proofs.Ytbkehkiflfhpfaa
open Go.V
attribute [local irreducible] checkBands
noncomputable def lib39 : Lib := (49, mk rOver) :: (52, mk rOver) :: lib38
theorem lib39_ok : LibOK Go.Proofs.Try.prog lib39 := .cons windOver_ok (.cons refOver_ok lib38_ok)

def inB (a b : Nat → Nat → Int) (i k : Nat) : Prop := a i 2 ≤ b k 2 ∧ b k 3 ≤ a i 3 ∧ a i 4 ≤ b k 4 ∧ b k 5 ≤ a i 5
def meetB (a b : Nat → Nat → Int) (i k : Nat) : Prop := max (a i 0) (b k 0) < min (a i 1) (b k 1)
/-- Bands cover other ones. -/
def Cov (n : Nat) (a : Nat → Nat → Int) (m : Nat) (b : Nat → Nat → Int) : Prop := b (m - 1) 1 ≤ a (n - 1) 1 ∧ ∀ i k, i < n → k < m → meetB a b i k → inB a b i k
open Classical in
noncomputable def covB (n : Nat) (a : Nat → Nat → Int) (m : Nat) (b : Nat → Nat → Int) : Bool := decide (Cov n a m b)
noncomputable def coversT (n : Nat) (a : Nat → Nat → Int) (m : Nat) (b : Nat → Nat → Int) : Bool × Int :=
  if (checkBands n a).2 ≠ 0 then (false, (checkBands n a).2) else if (checkBands m b).2 ≠ 0 then (false, (checkBands m b).2) else (covB n a m b, 0)
noncomputable def rCovers : List V.D → Option (Prop × V.D) := fun ds => match ds with
  | [.rsl 6 n g, .rsl 6 m h] => some (IM n 6 g ∧ IM m 6 h, .tup [.bool (coversT n (im g) m (im h)).1, .int .i64 (coversT n (im g) m (im h)).2])
  | _ => none
/-- What two places in the lists have left behind. -/
def CovTo (n : Nat) (a : Nat → Nat → Int) (m : Nat) (b : Nat → Nat → Int) (i k : Nat) : Prop := ∀ i' k', i' < n → k' < m → (i' < i ∨ k' < k) → meetB a b i' k' → inB a b i' k'
attribute [local irreducible] inB meetB CovTo
theorem covB_true {n m : Nat} {a b : Nat → Nat → Int} (h : Cov n a m b) : covB n a m b = true := by unfold covB; rw [decT]; exact h
theorem covB_false {n m : Nat} {a b : Nat → Nat → Int} (h : ¬ Cov n a m b) : covB n a m b = false := by unfold covB; rw [decF]; exact h
theorem cov_last {n m : Nat} {a b : Nat → Nat → Int} (hn : 1 ≤ n) (hm : 1 ≤ m) (g : a ((n : Int) - 1).toNat 1 < b ((m : Int) - 1).toNat 1) : covB n a m b = false := covB_false fun hC => by
  have := hC.1
  rw [show ((n : Int) - 1).toNat = n - 1 by omega, show ((m : Int) - 1).toNat = m - 1 by omega] at g
  omega
theorem BandsOK.step {n : Nat} {a : Nat → Nat → Int} (h : BandsOK n a) {i : Nat} (hi : i + 1 < n) : a (i + 1) 0 = a i 1 := by
  rw [h.from0 (i + 1) hi, fromOf, if_neg (by omega)]; rfl
theorem BandsOK.zero {n : Nat} {a : Nat → Nat → Int} (h : BandsOK n a) : a 0 0 = 0 := by
  rw [h.from0 0 (by have := h.len; omega)]; rfl
theorem BandsOK.mono {n : Nat} {a : Nat → Nat → Int} (h : BandsOK n a) {i : Nat} (j : Nat) (h1 : i ≤ j) (h2 : j < n) : a i 1 ≤ a j 1 := by
  induction j with
  | zero => rw [show i = 0 by omega]; exact Int.le_refl _
  | succ j ih =>
    rcases Nat.lt_or_eq_of_le h1 with g | rfl
    · have g1 := ih (by omega) (by omega)
      have g2 := h.step h2
      have g3 := (h.up (j + 1) h2).1
      omega
    · exact Int.le_refl _
theorem BandsOK.above {n : Nat} {a : Nat → Nat → Int} (h : BandsOK n a) {i j : Nat} (h1 : i < j) (h2 : j < n) : a i 1 ≤ a j 0 := by
  obtain ⟨j, rfl⟩ : ∃ k, j = k + 1 := ⟨j - 1, by omega⟩
  rw [h.step h2]
  exact h.mono j (by omega) (by omega)
theorem refCovers_ok : PSound Go.Proofs.Try.prog 54 (mk rCovers) := by
  refine psound_mk Try.func54 (by kernel_rfl) rfl (ctx lib39_ok) ?_
  (intro ds p d h; unfold rCovers at h; split at h <;> first | (cases h; done) | skip; cases h; refine ⟨Nat.le_of_ble_eq_true rfl, fun hp k hk => ?_⟩)
  rename_i n g m h
  obtain ⟨h1, h2⟩ := hp
  refine ⟨[.rsl 6 n (imD (im g)), .rsl 6 m (imD (im h))], rfl, h1, rfl, h2, ?_⟩
  clear h1 h2
  generalize im g = a at *
  generalize im h = b at *
  generalize hS : coversT n a m b = c at *
  have hn : (checkBands n a).2 = 0 → 1 ≤ n ∧ n ≤ 20 := fun h => (bands_ok h).len
  have hm : (checkBands m b).2 = 0 → 1 ≤ m ∧ m ≤ 20 := fun h => (bands_ok h).len
  repeat' (first | ((with_reducible refine kok ?_); kernel_rfl) | ((with_reducible refine keq_mk ?_); kernel_rfl) | with_reducible rfl | ((conv => whnf); first | (with_reducible exact trivial) | ((with_reducible refine and_ff ?_ ?_); · exact rfl) | ((with_reducible refine and_tt ?_ ?_); · exact rfl) | (with_reducible refine And.intro ?_ ?_) | intro _ | (with_reducible refine fin2 hk ?_) | ((with_reducible refine eq_leaf ?_); exact rfl) | exact trivial))
  all_goals try (exfalso; clear hk hS hn hm; simp only [taskOf_agg, ↓Bool.not_eq_true', ↓Bool.not_eq_false', ↓decT, ↓decF, out_true, out_false, isin_true, isin_false, Int.toNat_natCast, Int.ofNat_lt, Nat.zero_add, Nat.add_zero, Nat.reduceAdd] at *; omega)
  rotate_left 2
  · clear hk hS; simp only [taskOf_agg, ↓Bool.not_eq_true', ↓Bool.not_eq_false', ↓decT, ↓decF, out_true, out_false, isin_true, isin_false, Int.toNat_natCast, Int.ofNat_lt, Nat.zero_add, Nat.add_zero, Nat.reduceAdd, im_imD] at *; have := hn (by assumption); omega
  · clear hk hS; simp only [taskOf_agg, ↓Bool.not_eq_true', ↓Bool.not_eq_false', ↓decT, ↓decF, out_true, out_false, isin_true, isin_false, Int.toNat_natCast, Int.ofNat_lt, Nat.zero_add, Nat.add_zero, Nat.reduceAdd, im_imD] at *; have := hn (by assumption); omega
  · clear hk hS; simp only [taskOf_agg, ↓Bool.not_eq_true', ↓Bool.not_eq_false', ↓decT, ↓decF, out_true, out_false, isin_true, isin_false, Int.toNat_natCast, Int.ofNat_lt, Nat.zero_add, Nat.add_zero, Nat.reduceAdd, im_imD] at *; have := hn (by assumption); omega
  · clear hk hS; simp only [taskOf_agg, ↓Bool.not_eq_true', ↓Bool.not_eq_false', ↓decT, ↓decF, out_true, out_false, isin_true, isin_false, Int.toNat_natCast, Int.ofNat_lt, Nat.zero_add, Nat.add_zero, Nat.reduceAdd, im_imD] at *; have := hn (by assumption); omega
  · clear hk hS; simp only [taskOf_agg, ↓Bool.not_eq_true', ↓Bool.not_eq_false', ↓decT, ↓decF, out_true, out_false, isin_true, isin_false, Int.toNat_natCast, Int.ofNat_lt, Nat.zero_add, Nat.add_zero, Nat.reduceAdd, im_imD] at *; have := hm (by assumption); omega
  · clear hk hS; simp only [taskOf_agg, ↓Bool.not_eq_true', ↓Bool.not_eq_false', ↓decT, ↓decF, out_true, out_false, isin_true, isin_false, Int.toNat_natCast, Int.ofNat_lt, Nat.zero_add, Nat.add_zero, Nat.reduceAdd, im_imD] at *; have := hm (by assumption); omega
  · clear hk hS; simp only [taskOf_agg, ↓Bool.not_eq_true', ↓Bool.not_eq_false', ↓decT, ↓decF, out_true, out_false, isin_true, isin_false, Int.toNat_natCast, Int.ofNat_lt, Nat.zero_add, Nat.add_zero, Nat.reduceAdd, im_imD] at *; have := hm (by assumption); omega
  · clear hk hS; simp only [taskOf_agg, ↓Bool.not_eq_true', ↓Bool.not_eq_false', ↓decT, ↓decF, out_true, out_false, isin_true, isin_false, Int.toNat_natCast, Int.ofNat_lt, Nat.zero_add, Nat.add_zero, Nat.reduceAdd, im_imD] at *; have := hm (by assumption); omega
  rotate_left 2
  · rename_i g1 g2 g3
    have EA : (checkBands n a).2 = 0 := by
      clear hk hS
      simp only [taskOf_agg, ↓Bool.not_eq_true', ↓Bool.not_eq_false', ↓decT, ↓decF, out_true, out_false, isin_true, isin_false, Int.toNat_natCast, Int.ofNat_lt, Nat.zero_add, Nat.add_zero, Nat.reduceAdd, im_imD] at *
      assumption
    have EB : (checkBands m b).2 = 0 := by
      clear hk hS
      simp only [taskOf_agg, ↓Bool.not_eq_true', ↓Bool.not_eq_false', ↓decT, ↓decF, out_true, out_false, isin_true, isin_false, Int.toNat_natCast, Int.ofNat_lt, Nat.zero_add, Nat.add_zero, Nat.reduceAdd, im_imD] at *
      assumption
    have hA := bands_ok EA
    have hB := bands_ok EB
    have lA := hA.len
    have lB := hB.len
    have hc : c = (covB n a m b, 0) := by rw [← hS, coversT, if_neg (fun h => h EA), if_neg (fun h => h EB)]
    clear hS hn hm
    have hlast : b (m - 1) 1 ≤ a (n - 1) 1 := by
      clear hk
      simp only [taskOf_agg, ↓Bool.not_eq_true', ↓Bool.not_eq_false', ↓decT, ↓decF, out_true, out_false, isin_true, isin_false, Int.toNat_natCast, Int.ofNat_lt, Nat.zero_add, Nat.add_zero, Nat.reduceAdd] at g3
      rw [show ((n : Int) - 1).toNat = n - 1 by omega, show ((m : Int) - 1).toNat = m - 1 by omega] at g3
      omega
    clear g1 g2 g3
    refine ⟨Nat, fun i => [(0, .rsl 6 n (imD a)), (1, .rsl 6 m (imD b)), (8, .int .i64 i)], fun _ => [], fun i => n - i, fun i => i ≤ n ∧ (∀ j l, j < i → l < m → meetB a b j l → inB a b j l), [], 0, fun _ => ⟨?_, ?_⟩, ?_, fun i hi => ?_⟩
    · conv => lhs; whnf
    · conv => lhs; whnf
    · clear hk
      repeat' (first | ((with_reducible refine kok ?_); kernel_rfl) | ((with_reducible refine keq_mk ?_); kernel_rfl) | with_reducible rfl | ((conv => whnf); first | (with_reducible exact trivial) | ((with_reducible refine and_ff ?_ ?_); · exact rfl) | ((with_reducible refine and_tt ?_ ?_); · exact rfl) | (with_reducible refine And.intro ?_ ?_) | intro _ | (with_reducible refine fin2 hk ?_) | ((with_reducible refine eq_leaf ?_); exact rfl) | exact trivial))
      all_goals first | exact Nat.zero_le _ | (exact absurd (by assumption) (Nat.not_lt_zero _))
    obtain ⟨hi, hq⟩ := hi
    repeat' (first | ((with_reducible refine kok ?_); kernel_rfl) | ((with_reducible refine keq_mk ?_); kernel_rfl) | with_reducible rfl | ((conv => whnf); first | (with_reducible exact trivial) | ((with_reducible refine and_ff ?_ ?_); · exact rfl) | ((with_reducible refine and_tt ?_ ?_); · exact rfl) | (with_reducible refine And.intro ?_ ?_) | intro _ | (with_reducible refine fin2 hk ?_) | ((with_reducible refine eq_leaf ?_); exact rfl) | exact trivial))
    · refine ⟨Nat, fun l => [(0, .rsl 6 n (imD a)), (1, .rsl 6 m (imD b)), (8, .int .i64 i), (9, .int .i64 l)], fun _ => [], fun l => m - l, fun l => l ≤ m ∧ (∀ l', l' < l → meetB a b i l' → inB a b i l'), [], 0, fun _ => ⟨?_, ?_⟩, ?_, fun l hl => ?_⟩
      · conv => lhs; whnf
      · conv => lhs; whnf
      · clear hk
        repeat' (first | ((with_reducible refine kok ?_); kernel_rfl) | ((with_reducible refine keq_mk ?_); kernel_rfl) | with_reducible rfl | ((conv => whnf); first | (with_reducible exact trivial) | ((with_reducible refine and_ff ?_ ?_); · exact rfl) | ((with_reducible refine and_tt ?_ ?_); · exact rfl) | (with_reducible refine And.intro ?_ ?_) | intro _ | (with_reducible refine fin2 hk ?_) | ((with_reducible refine eq_leaf ?_); exact rfl) | exact trivial))
        all_goals first | exact Nat.zero_le _ | (exact absurd (by assumption) (Nat.not_lt_zero _))
      obtain ⟨hl, hr⟩ := hl
      repeat' (first | ((with_reducible refine kok ?_); kernel_rfl) | ((with_reducible refine keq_mk ?_); kernel_rfl) | with_reducible rfl | ((conv => whnf); first | (with_reducible exact trivial) | ((with_reducible refine and_ff ?_ ?_); · exact rfl) | ((with_reducible refine and_tt ?_ ?_); · exact rfl) | (with_reducible refine And.intro ?_ ?_) | intro _ | (with_reducible refine fin2 hk ?_) | ((with_reducible refine eq_leaf ?_); exact rfl) | exact trivial))
      all_goals try ((first | with_reducible refine (?_ : (_ : Int) ≤ _) | with_reducible refine (?_ : (_ : Int) < _)); clear hk hc; simp only [taskOf_agg, ↓Bool.not_eq_true', ↓Bool.not_eq_false', ↓decT, ↓decF, out_true, out_false, isin_true, isin_false, Int.toNat_natCast, Int.ofNat_lt, Nat.zero_add, Nat.add_zero, Nat.reduceAdd] at *; omega)
      all_goals try conv => whnf
      all_goals try (rw [hc]; done)
      rotate_left 2
      · rename_i g1 g2 g3 g4 g5
        clear hk hc
        simp only [taskOf_agg, ↓Bool.not_eq_true', ↓Bool.not_eq_false', ↓decT, ↓decF, out_true, out_false, isin_true, isin_false, Int.toNat_natCast, Int.ofNat_lt, Nat.zero_add, Nat.add_zero, Nat.reduceAdd, Int.toNat_zero, Int.reduceToNat, ↓reduceIte, reduceCtorEq, Bool.or_eq_true, Bool.or_eq_false_iff, Bool.and_eq_true, Bool.and_eq_false_iff] at g1 g2 g3 g4 g5
        refine ⟨l + 1, ?_⟩
        repeat' (first | ((with_reducible refine kok ?_); kernel_rfl) | ((with_reducible refine keq_mk ?_); kernel_rfl) | with_reducible rfl | ((conv => whnf); first | (with_reducible exact trivial) | ((with_reducible refine and_ff ?_ ?_); · exact rfl) | ((with_reducible refine and_tt ?_ ?_); · exact rfl) | (with_reducible refine And.intro ?_ ?_) | intro _ | (with_reducible refine fin2 hk ?_) | ((with_reducible refine eq_leaf ?_); exact rfl) | exact trivial))
        · exact g2
        · rename_i l' hl' _
          rcases Nat.lt_or_eq_of_le (Nat.le_of_lt_succ hl') with g | g
          · exact hr l' g (by assumption)
          · rw [g]; unfold inB; omega
        · simp only; omega
      · rename_i g1 g2 g3
        clear hk hc
        simp only [taskOf_agg, ↓Bool.not_eq_true', ↓Bool.not_eq_false', ↓decT, ↓decF, out_true, out_false, isin_true, isin_false, Int.toNat_natCast, Int.ofNat_lt, Nat.zero_add, Nat.add_zero, Nat.reduceAdd, Int.toNat_zero, Int.reduceToNat, ↓reduceIte, reduceCtorEq, Bool.or_eq_true, Bool.or_eq_false_iff, Bool.and_eq_true, Bool.and_eq_false_iff] at g1 g2 g3
        refine ⟨l + 1, ?_⟩
        repeat' (first | ((with_reducible refine kok ?_); kernel_rfl) | ((with_reducible refine keq_mk ?_); kernel_rfl) | with_reducible rfl | ((conv => whnf); first | (with_reducible exact trivial) | ((with_reducible refine and_ff ?_ ?_); · exact rfl) | ((with_reducible refine and_tt ?_ ?_); · exact rfl) | (with_reducible refine And.intro ?_ ?_) | intro _ | (with_reducible refine fin2 hk ?_) | ((with_reducible refine eq_leaf ?_); exact rfl) | exact trivial))
        · exact g2
        · rename_i l' hl' hm'
          rcases Nat.lt_or_eq_of_le (Nat.le_of_lt_succ hl') with g | g
          · exact hr l' g hm'
          · rw [g] at hm'; unfold meetB at hm'; exact absurd hm' g3
        · simp only; omega
      · rename_i g1 g2
        clear hk hc
        simp only [taskOf_agg, ↓Bool.not_eq_true', ↓Bool.not_eq_false', ↓decT, ↓decF, out_true, out_false, isin_true, isin_false, Int.toNat_natCast, Int.ofNat_lt, Nat.zero_add, Nat.add_zero, Nat.reduceAdd, Int.toNat_zero, Int.reduceToNat, ↓reduceIte, reduceCtorEq, Bool.or_eq_true, Bool.or_eq_false_iff, Bool.and_eq_true, Bool.and_eq_false_iff] at g1 g2
        refine ⟨i + 1, ?_⟩
        repeat' (first | ((with_reducible refine kok ?_); kernel_rfl) | ((with_reducible refine keq_mk ?_); kernel_rfl) | with_reducible rfl | ((conv => whnf); first | (with_reducible exact trivial) | ((with_reducible refine and_ff ?_ ?_); · exact rfl) | ((with_reducible refine and_tt ?_ ?_); · exact rfl) | (with_reducible refine And.intro ?_ ?_) | intro _ | (with_reducible refine fin2 hk ?_) | ((with_reducible refine eq_leaf ?_); exact rfl) | exact trivial))
        · exact g1
        · rename_i j l' hj hl' hm'
          rcases Nat.lt_or_eq_of_le (Nat.le_of_lt_succ hj) with g | g
          · exact hq j l' g hl' hm'
          · rw [g] at hm' ⊢; exact hr l' (by omega) hm'
        · simp only; omega
      · rename_i g1 g2 g3 g4
        clear hk
        simp only [taskOf_agg, ↓Bool.not_eq_true', ↓Bool.not_eq_false', ↓decT, ↓decF, out_true, out_false, isin_true, isin_false, Int.toNat_natCast, Int.ofNat_lt, Nat.zero_add, Nat.add_zero, Nat.reduceAdd, Int.toNat_zero, Int.reduceToNat, ↓reduceIte, reduceCtorEq, Bool.or_eq_true, Bool.or_eq_false_iff, Bool.and_eq_true, Bool.and_eq_false_iff] at g1 g2 g3 g4
        have hnc : ¬ Cov n a m b := fun hC => by
          have := hC.2 i l g1 g2 (by unfold meetB; exact g3)
          unfold inB at this
          omega
        rw [hc, covB_false hnc]
      · rename_i g1 g2 g3 g4 g5
        clear hk
        simp only [taskOf_agg, ↓Bool.not_eq_true', ↓Bool.not_eq_false', ↓decT, ↓decF, out_true, out_false, isin_true, isin_false, Int.toNat_natCast, Int.ofNat_lt, Nat.zero_add, Nat.add_zero, Nat.reduceAdd, Int.toNat_zero, Int.reduceToNat, ↓reduceIte, reduceCtorEq, Bool.or_eq_true, Bool.or_eq_false_iff, Bool.and_eq_true, Bool.and_eq_false_iff] at g1 g2 g3 g4 g5
        have hnc : ¬ Cov n a m b := fun hC => by
          have := hC.2 i l g1 g2 (by unfold meetB; exact g3)
          unfold inB at this
          omega
        rw [hc, covB_false hnc]
    all_goals (rename_i g1; clear hk; simp only [taskOf_agg, ↓Bool.not_eq_true', ↓Bool.not_eq_false', ↓decT, ↓decF, out_true, out_false, isin_true, isin_false, Int.toNat_natCast, Int.ofNat_lt, Nat.zero_add, Nat.add_zero, Nat.reduceAdd, Int.toNat_zero, Int.reduceToNat, ↓reduceIte, reduceCtorEq, Bool.or_eq_true, Bool.or_eq_false_iff, Bool.and_eq_true, Bool.and_eq_false_iff] at g1; have hC : Cov n a m b := ⟨hlast, fun j l hj hl hm => hq j l (by omega) hl hm⟩; rw [hc, covB_true hC])
  all_goals clear hk
  all_goals subst hS
  all_goals try simp only [taskOf_agg, ↓Bool.not_eq_true', ↓Bool.not_eq_false', ↓decT, ↓decF, out_true, out_false, isin_true, isin_false, Int.toNat_natCast, Int.ofNat_lt, Nat.zero_add, Nat.add_zero, Nat.reduceAdd, Int.toNat_zero, Int.reduceToNat, ↓reduceIte, reduceCtorEq, Bool.or_eq_true, Bool.or_eq_false_iff, Bool.and_eq_true, Bool.and_eq_false_iff, im_imD] at *
  all_goals try simp only [coversT, taskOf_agg, ↓Bool.not_eq_true', ↓Bool.not_eq_false', ↓decT, ↓decF, out_true, out_false, isin_true, isin_false, Int.toNat_natCast, Int.ofNat_lt, Nat.zero_add, Nat.add_zero, Nat.reduceAdd, Int.toNat_zero, Int.reduceToNat, ↓reduceIte, reduceCtorEq, Bool.or_eq_true, Bool.or_eq_false_iff, Bool.and_eq_true, Bool.and_eq_false_iff]
  all_goals repeat' split
  all_goals first | with_reducible rfl | omega | (simp_all only [reduceCtorEq]; done) | (have g1 := hn (by assumption); have g2 := hm (by assumption); exact (cov_last g1.1 g2.1 (by assumption)).symm) | rfl
theorem fromOf_last {n : Nat} {a : Nat → Nat → Int} (h : 1 ≤ n) : fromOf a n = a (n - 1) 1 := by rw [fromOf, if_neg (by omega)]
theorem fromOf_succ (a : Nat → Nat → Int) (i : Nat) : fromOf a (i + 1) = a i 1 := by rw [fromOf, if_neg (by omega)]; rfl
theorem cov_meet {n m : Nat} {a b : Nat → Nat → Int} (hA : BandsOK n a) (hB : BandsOK m b) {i l : Nat} (hi : i < n) (hl : l < m) (h1 : fromOf a i < b l 1) (h2 : fromOf b l < a i 1) : meetB a b i l := by
  have e1 := hA.from0 i hi
  have e2 := hB.from0 l hl
  have u1 := hA.up i hi
  have u2 := hB.up l hl
  unfold meetB
  omega
theorem cov_i {n m : Nat} {a b : Nat → Nat → Int} (hB : BandsOK m b) {i l : Nat} (h : CovTo n a m b i l) (hin : inB a b i l) (hle : a i 1 ≤ b l 1) : CovTo n a m b (i + 1) l := by
  unfold CovTo at *
  intro i' k' hi' hk' hor hm
  by_cases g : i' < i ∨ k' < l
  · exact h i' k' hi' hk' g hm
  · have e : i' = i := by omega
    subst e
    by_cases g2 : k' = l
    · subst g2; exact hin
    · exfalso
      have := hB.above (i := l) (j := k') (by omega) hk'
      unfold meetB at hm
      omega
theorem cov_l {n m : Nat} {a b : Nat → Nat → Int} (hA : BandsOK n a) {i l : Nat} (h : CovTo n a m b i l) (hin : inB a b i l) (hle : b l 1 ≤ a i 1) : CovTo n a m b i (l + 1) := by
  unfold CovTo at *
  intro i' k' hi' hk' hor hm
  by_cases g : i' < i ∨ k' < l
  · exact h i' k' hi' hk' g hm
  · have e : k' = l := by omega
    subst e
    by_cases g2 : i' = i
    · subst g2; exact hin
    · exfalso
      have := hA.above (i := i) (j := i') (by omega) hi'
      unfold meetB at hm
      omega
theorem cov_end {n m : Nat} {a b : Nat → Nat → Int} (hA : BandsOK n a) (hB : BandsOK m b) {i l : Nat} (hl : l = m) (h3 : fromOf b l ≤ a (n - 1) 1) (hq : CovTo n a m b i l) : covB n a m b = true := by
  subst hl
  refine covB_true ⟨?_, fun i' k' hi' hk' hm => ?_⟩
  · rw [fromOf_last hB.len.1] at h3; exact h3
  · unfold CovTo at hq
    exact hq i' k' hi' hk' (.inr hk') hm
theorem cov_not {n m : Nat} {a b : Nat → Nat → Int} (hA : BandsOK n a) (hB : BandsOK m b) {i l : Nat} (hi : i = n) (hl : l < m) (h1 : fromOf a i < b l 1) : covB n a m b = false := by
  subst hi
  refine covB_false fun hC => ?_
  have h2 := hC.1
  have h3 := hB.mono (i := l) (m - 1) (by omega) (by omega)
  rw [fromOf_last hA.len.1] at h1
  omega
theorem cov_bad {n m : Nat} {a b : Nat → Nat → Int} (hA : BandsOK n a) (hB : BandsOK m b) {i l : Nat} (hi : i < n) (hl : l < m) (h1 : fromOf a i < b l 1) (h2 : fromOf b l < a i 1) (hb : ¬ inB a b i l) : covB n a m b = false :=
  covB_false fun hC => hb (hC.2 i l hi hl (cov_meet hA hB hi hl h1 h2))
theorem cov_from {n : Nat} {a : Nat → Nat → Int} (hA : BandsOK n a) {i : Nat} (hi : i + 1 < n) : a i 1 < a (i + 1) 1 := by
  have h1 := hA.step hi
  have h2 := (hA.up (i + 1) hi).1
  omega
theorem windCovers_ok : PSound Go.Proofs.Try.prog 53 (mk rCovers) := by
  refine psound_mk Try.func53 (by kernel_rfl) rfl (ctx lib39_ok) ?_
  (intro ds p d h; unfold rCovers at h; split at h <;> first | (cases h; done) | skip; cases h; refine ⟨Nat.le_of_ble_eq_true rfl, fun hp k hk => ?_⟩)
  rename_i n g m h
  obtain ⟨h1, h2⟩ := hp
  refine ⟨[.rsl 6 n (imD (im g)), .rsl 6 m (imD (im h))], rfl, h1, rfl, h2, ?_⟩
  clear h1 h2
  generalize im g = a at *
  generalize im h = b at *
  generalize hS : coversT n a m b = c at *
  have hn : (checkBands n a).2 = 0 → 1 ≤ n ∧ n ≤ 20 := fun h => (bands_ok h).len
  have hm : (checkBands m b).2 = 0 → 1 ≤ m ∧ m ≤ 20 := fun h => (bands_ok h).len
  repeat' (first | ((with_reducible refine kok ?_); kernel_rfl) | ((with_reducible refine keq_mk ?_); kernel_rfl) | with_reducible rfl | ((conv => whnf); first | (with_reducible exact trivial) | ((with_reducible refine and_ff ?_ ?_); · exact rfl) | ((with_reducible refine and_tt ?_ ?_); · exact rfl) | (with_reducible refine And.intro ?_ ?_) | intro _ | (with_reducible refine fin2 hk ?_) | ((with_reducible refine eq_leaf ?_); exact rfl) | exact trivial))
  all_goals try (exfalso; clear hk hS hn hm; simp only [taskOf_agg, ↓Bool.not_eq_true', ↓Bool.not_eq_false', ↓decT, ↓decF, out_true, out_false, isin_true, isin_false, Int.toNat_natCast, Int.ofNat_lt, Nat.zero_add, Nat.add_zero, Nat.reduceAdd] at *; omega)
  refine ⟨Nat, fun j => [(0, .rsl 6 n (imD a)), (1, .rsl 6 m (imD b)), (16, .own 0 2), (17, .int .i64 (2 : Nat)), (18, .int .i64 j)], fun _ => [some (.buf 38 1 2 (fun i j => [V.D.rsl 6 n (imD a), V.D.rsl 6 m (imD b)].getD (i * 1 + j) V.D.top))],
    fun j => 2 - j, fun j => j ≤ 2 ∧ (1 ≤ j → (checkBands n a).2 = 0) ∧ (2 ≤ j → (checkBands m b).2 = 0), [], 0, fun _ => ⟨?_, ?_⟩, ?_, fun j hj => ?_⟩
  · conv => lhs; whnf
  · conv => lhs; whnf
  · clear hk
    repeat' (first | ((with_reducible refine kok ?_); kernel_rfl) | ((with_reducible refine keq_mk ?_); kernel_rfl) | with_reducible rfl | ((conv => whnf); first | (with_reducible exact trivial) | ((with_reducible refine and_ff ?_ ?_); · exact rfl) | ((with_reducible refine and_tt ?_ ?_); · exact rfl) | (with_reducible refine And.intro ?_ ?_) | intro _ | (with_reducible refine fin2 hk ?_) | ((with_reducible refine eq_leaf ?_); exact rfl) | exact trivial))
    all_goals omega
  obtain ⟨hj, hj1, hj2⟩ := hj
  have hj3 : j = 0 ∨ j = 1 ∨ j = 2 := by omega
  rcases hj3 with rfl | rfl | rfl
  · repeat' (first | ((with_reducible refine kok ?_); kernel_rfl) | ((with_reducible refine keq_mk ?_); kernel_rfl) | with_reducible rfl | ((conv => whnf); first | (with_reducible exact trivial) | ((with_reducible refine and_ff ?_ ?_); · exact rfl) | ((with_reducible refine and_tt ?_ ?_); · exact rfl) | (with_reducible refine And.intro ?_ ?_) | intro _ | (with_reducible refine fin2 hk ?_) | ((with_reducible refine eq_leaf ?_); exact rfl) | exact trivial))
    all_goals try ((first | with_reducible refine (?_ : (_ : Int) ≤ _) | with_reducible refine (?_ : (_ : Int) < _) | with_reducible refine (?_ : (_ : Nat) ≤ _) | with_reducible refine (?_ : (_ : Nat) < _)); clear hk hS; omega)
    · rename_i g1
      simp only [taskOf_agg, ↓Bool.not_eq_true', ↓Bool.not_eq_false', ↓decT, ↓decF, out_true, out_false, isin_true, isin_false, Int.toNat_natCast, Int.ofNat_lt, Nat.zero_add, Nat.add_zero, Nat.reduceAdd, im_imD] at g1
      rw [← hS, coversT, if_pos g1]
    · rename_i g1
      simp only [taskOf_agg, ↓Bool.not_eq_true', ↓Bool.not_eq_false', ↓decT, ↓decF, out_true, out_false, isin_true, isin_false, Int.toNat_natCast, Int.ofNat_lt, Nat.zero_add, Nat.add_zero, Nat.reduceAdd, im_imD] at g1 ⊢
      rw [← hS, coversT, if_pos g1]
    · rename_i g1
      simp only [taskOf_agg, ↓Bool.not_eq_true', ↓Bool.not_eq_false', ↓decT, ↓decF, out_true, out_false, isin_true, isin_false, Int.toNat_natCast, Int.ofNat_lt, Nat.zero_add, Nat.add_zero, Nat.reduceAdd, im_imD] at g1
      clear hk hS
      refine ⟨1, ?_⟩
      repeat' (first | ((with_reducible refine kok ?_); kernel_rfl) | ((with_reducible refine keq_mk ?_); kernel_rfl) | with_reducible rfl | ((conv => whnf); first | (with_reducible exact trivial) | ((with_reducible refine and_ff ?_ ?_); · exact rfl) | ((with_reducible refine and_tt ?_ ?_); · exact rfl) | (with_reducible refine And.intro ?_ ?_) | intro _ | (with_reducible refine fin2 hk ?_) | ((with_reducible refine eq_leaf ?_); exact rfl) | exact trivial))
      · omega
      · exact g1
      · exact absurd (by assumption : 2 ≤ 1) (by omega)
      · simp only; omega
  · have E := hj1 (Nat.le_refl _)
    repeat' (first | ((with_reducible refine kok ?_); kernel_rfl) | ((with_reducible refine keq_mk ?_); kernel_rfl) | with_reducible rfl | ((conv => whnf); first | (with_reducible exact trivial) | ((with_reducible refine and_ff ?_ ?_); · exact rfl) | ((with_reducible refine and_tt ?_ ?_); · exact rfl) | (with_reducible refine And.intro ?_ ?_) | intro _ | (with_reducible refine fin2 hk ?_) | ((with_reducible refine eq_leaf ?_); exact rfl) | exact trivial))
    all_goals try ((first | with_reducible refine (?_ : (_ : Int) ≤ _) | with_reducible refine (?_ : (_ : Int) < _) | with_reducible refine (?_ : (_ : Nat) ≤ _) | with_reducible refine (?_ : (_ : Nat) < _)); clear hk hS; omega)
    · rename_i g1
      simp only [taskOf_agg, ↓Bool.not_eq_true', ↓Bool.not_eq_false', ↓decT, ↓decF, out_true, out_false, isin_true, isin_false, Int.toNat_natCast, Int.ofNat_lt, Nat.zero_add, Nat.add_zero, Nat.reduceAdd, im_imD] at g1
      rw [← hS, coversT, if_neg (fun h => h E), if_pos g1]
    · rename_i g1
      simp only [taskOf_agg, ↓Bool.not_eq_true', ↓Bool.not_eq_false', ↓decT, ↓decF, out_true, out_false, isin_true, isin_false, Int.toNat_natCast, Int.ofNat_lt, Nat.zero_add, Nat.add_zero, Nat.reduceAdd, im_imD] at g1 ⊢
      rw [← hS, coversT, if_neg (fun h => h E), if_pos g1]
    · rename_i g1
      simp only [taskOf_agg, ↓Bool.not_eq_true', ↓Bool.not_eq_false', ↓decT, ↓decF, out_true, out_false, isin_true, isin_false, Int.toNat_natCast, Int.ofNat_lt, Nat.zero_add, Nat.add_zero, Nat.reduceAdd, im_imD] at g1
      clear hk hS
      refine ⟨2, ?_⟩
      repeat' (first | ((with_reducible refine kok ?_); kernel_rfl) | ((with_reducible refine keq_mk ?_); kernel_rfl) | with_reducible rfl | ((conv => whnf); first | (with_reducible exact trivial) | ((with_reducible refine and_ff ?_ ?_); · exact rfl) | ((with_reducible refine and_tt ?_ ?_); · exact rfl) | (with_reducible refine And.intro ?_ ?_) | intro _ | (with_reducible refine fin2 hk ?_) | ((with_reducible refine eq_leaf ?_); exact rfl) | exact trivial))
      · omega
      · exact E
      · exact g1
      · simp only; omega
  · have EA := hj1 (by omega)
    have EB := hj2 (by omega)
    have hA := bands_ok EA
    have hB := bands_ok EB
    have lA := hA.len
    have lB := hB.len
    have hc : c = (covB n a m b, 0) := by rw [← hS, coversT, if_neg (fun h => h EA), if_neg (fun h => h EB)]
    clear hS hn hm
    repeat' (first | ((with_reducible refine kok ?_); kernel_rfl) | ((with_reducible refine keq_mk ?_); kernel_rfl) | with_reducible rfl | ((conv => whnf); first | (with_reducible exact trivial) | ((with_reducible refine and_ff ?_ ?_); · exact rfl) | ((with_reducible refine and_tt ?_ ?_); · exact rfl) | (with_reducible refine And.intro ?_ ?_) | intro _ | (with_reducible refine fin2 hk ?_) | ((with_reducible refine eq_leaf ?_); exact rfl) | exact trivial))
    refine ⟨Nat × Nat, fun g => [(0, .rsl 6 n (imD a)), (1, .rsl 6 m (imD b)), (10, .int .i64 g.1), (11, .int .i64 g.2)], fun _ => [some (.buf 38 1 2 (fun i j => [V.D.rsl 6 n (imD a), V.D.rsl 6 m (imD b)].getD (i * 1 + j) V.D.top))],
      fun g => (n - g.1) + (m - g.2), fun g => (g.1 ≤ n ∧ g.2 ≤ m) ∧ (g.2 < m → fromOf a g.1 < b g.2 1) ∧ (g.1 < n → fromOf b g.2 < a g.1 1) ∧ fromOf b g.2 ≤ a (n - 1) 1 ∧ CovTo n a m b g.1 g.2, [], (0, 0), fun _ => ⟨?_, ?_⟩, ?_, fun g hg => ?_⟩
    · conv => lhs; whnf
    · conv => lhs; whnf
    · clear hk
      have z1 := hA.zero
      have z2 := hB.zero
      have u1 := (hA.up 0 (by omega)).1
      have u2 := (hB.up 0 (by omega)).1
      have u3 := hA.mono (i := 0) (n - 1) (by omega) (by omega)
      repeat' (first | ((with_reducible refine kok ?_); kernel_rfl) | ((with_reducible refine keq_mk ?_); kernel_rfl) | with_reducible rfl | ((conv => whnf); first | (with_reducible exact trivial) | ((with_reducible refine and_ff ?_ ?_); · exact rfl) | ((with_reducible refine and_tt ?_ ?_); · exact rfl) | (with_reducible refine And.intro ?_ ?_) | intro _ | (with_reducible refine fin2 hk ?_) | ((with_reducible refine eq_leaf ?_); exact rfl) | exact trivial))
      · exact Nat.zero_le _
      · exact Nat.zero_le _
      · show (0 : Int) < b 0 1; omega
      · show (0 : Int) < a 0 1; omega
      · show (0 : Int) ≤ a (n - 1) 1; omega
      · unfold CovTo
        intro i' k' _ _ h
        exact absurd h (by simp)
    obtain ⟨i, l⟩ := g
    obtain ⟨⟨hi, hl⟩, h1, h2, h3, hq⟩ := hg
    simp only at hi hl h1 h2 h3 hq
    repeat' (first | ((with_reducible refine kok ?_); kernel_rfl) | ((with_reducible refine keq_mk ?_); kernel_rfl) | with_reducible rfl | ((conv => whnf); first | (with_reducible exact trivial) | ((with_reducible refine and_ff ?_ ?_); · exact rfl) | ((with_reducible refine and_tt ?_ ?_); · exact rfl) | (with_reducible refine And.intro ?_ ?_) | intro _ | (with_reducible refine fin2 hk ?_) | ((with_reducible refine eq_leaf ?_); exact rfl) | exact trivial))
    all_goals try ((first | with_reducible refine (?_ : (_ : Int) ≤ _) | with_reducible refine (?_ : (_ : Int) < _) | with_reducible refine (?_ : (_ : Nat) ≤ _) | with_reducible refine (?_ : (_ : Nat) < _)); clear hk hc; simp only [taskOf_agg, ↓Bool.not_eq_true', ↓Bool.not_eq_false', ↓decT, ↓decF, out_true, out_false, isin_true, isin_false, Int.toNat_natCast, Int.ofNat_lt, Nat.zero_add, Nat.add_zero, Nat.reduceAdd] at *; omega)
    all_goals try (rw [hc]; done)
    all_goals try (clear hk; simp only [taskOf_agg, ↓Bool.not_eq_true', ↓Bool.not_eq_false', ↓decT, ↓decF, out_true, out_false, isin_true, isin_false, Int.toNat_natCast, Int.ofNat_lt, Nat.zero_add, Nat.add_zero, Nat.reduceAdd, Int.toNat_zero, Int.reduceToNat, ↓reduceIte, reduceCtorEq, Bool.or_eq_true, Bool.or_eq_false_iff, Bool.and_eq_true, Bool.and_eq_false_iff] at *; rw [hc, cov_bad hA hB (by assumption) (by assumption) (h1 (by assumption)) (h2 (by assumption)) (by unfold inB; omega)]; done)
    all_goals try conv => whnf
    · rename_i g1 g2 g3 g4 g5 g6 g7 g8
      clear hk hc
      simp only [taskOf_agg, ↓Bool.not_eq_true', ↓Bool.not_eq_false', ↓decT, ↓decF, out_true, out_false, isin_true, isin_false, Int.toNat_natCast, Int.ofNat_lt, Nat.zero_add, Nat.add_zero, Nat.reduceAdd] at g1 g2 g3 g4 g5 g6 g7 g8
      have hin : inB a b i l := by unfold inB; omega
      have p1 := h1 g2
      have p2 := h2 g1
      have e1 := fromOf_succ a i
      have e2 := fromOf_succ b l
      have last := hA.mono (i := i) (n - 1) (by omega) (by omega)
      have q1 : CovTo n a m b (i + 1) (l + 1) := by
        have r1 := cov_i hB hq hin g7
        have r2 := cov_l hA hq hin g8
        unfold CovTo at *
        intro i' k' hi' hk' hor hm
        by_cases g : i' < i + 1 ∨ k' < l
        · exact r1 i' k' hi' hk' g hm
        · by_cases g' : k' < l + 1 ∧ ¬ i' < i + 1
          · exact r2 i' k' hi' hk' (.inr g'.1) hm
          · exact r1 i' k' hi' hk' (.inl (by omega)) hm
      refine ⟨(i + 1, l + 1), ?_⟩
      repeat' (first | ((with_reducible refine kok ?_); kernel_rfl) | ((with_reducible refine keq_mk ?_); kernel_rfl) | with_reducible rfl | ((conv => whnf); first | (with_reducible exact trivial) | ((with_reducible refine and_ff ?_ ?_); · exact rfl) | ((with_reducible refine and_tt ?_ ?_); · exact rfl) | (with_reducible refine And.intro ?_ ?_) | intro _ | (with_reducible refine fin2 hk ?_) | ((with_reducible refine eq_leaf ?_); exact rfl) | exact trivial))
      · show i + 1 ≤ n; omega
      · show l + 1 ≤ m; omega
      · show fromOf a (i + 1) < b (l + 1) 1
        have t1 : l + 1 < m := by assumption
        have := cov_from hB t1; omega
      · show fromOf b (l + 1) < a (i + 1) 1
        have t1 : i + 1 < n := by assumption
        have := cov_from hA t1; omega
      · show fromOf b (l + 1) ≤ a (n - 1) 1; omega
      · exact q1
      · simp only; omega
    · rename_i g1 g2 g3 g4 g5 g6 g7 g8
      clear hk hc
      simp only [taskOf_agg, ↓Bool.not_eq_true', ↓Bool.not_eq_false', ↓decT, ↓decF, out_true, out_false, isin_true, isin_false, Int.toNat_natCast, Int.ofNat_lt, Nat.zero_add, Nat.add_zero, Nat.reduceAdd] at g1 g2 g3 g4 g5 g6 g7 g8
      have hin : inB a b i l := by unfold inB; omega
      have p1 := h1 g2
      have p2 := h2 g1
      have e1 := fromOf_succ a i
      have e2 := fromOf_succ b l
      have last := hA.mono (i := i) (n - 1) (by omega) (by omega)
      refine ⟨(i + 1, l), ?_⟩
      repeat' (first | ((with_reducible refine kok ?_); kernel_rfl) | ((with_reducible refine keq_mk ?_); kernel_rfl) | with_reducible rfl | ((conv => whnf); first | (with_reducible exact trivial) | ((with_reducible refine and_ff ?_ ?_); · exact rfl) | ((with_reducible refine and_tt ?_ ?_); · exact rfl) | (with_reducible refine And.intro ?_ ?_) | intro _ | (with_reducible refine fin2 hk ?_) | ((with_reducible refine eq_leaf ?_); exact rfl) | exact trivial))
      · show i + 1 ≤ n; omega
      · show l ≤ m; omega
      · show fromOf a (i + 1) < b (l) 1
        omega
      · show fromOf b (l) < a (i + 1) 1
        have t1 : i + 1 < n := by assumption
        have := cov_from hA t1; omega
      · show fromOf b (l) ≤ a (n - 1) 1; omega
      · exact cov_i hB hq hin g7
      · simp only; omega
    · rename_i g1 g2 g3 g4 g5 g6 g7 g8
      clear hk hc
      simp only [taskOf_agg, ↓Bool.not_eq_true', ↓Bool.not_eq_false', ↓decT, ↓decF, out_true, out_false, isin_true, isin_false, Int.toNat_natCast, Int.ofNat_lt, Nat.zero_add, Nat.add_zero, Nat.reduceAdd] at g1 g2 g3 g4 g5 g6 g7 g8
      have hin : inB a b i l := by unfold inB; omega
      have p1 := h1 g2
      have p2 := h2 g1
      have e1 := fromOf_succ a i
      have e2 := fromOf_succ b l
      have last := hA.mono (i := i) (n - 1) (by omega) (by omega)
      refine ⟨(i, l + 1), ?_⟩
      repeat' (first | ((with_reducible refine kok ?_); kernel_rfl) | ((with_reducible refine keq_mk ?_); kernel_rfl) | with_reducible rfl | ((conv => whnf); first | (with_reducible exact trivial) | ((with_reducible refine and_ff ?_ ?_); · exact rfl) | ((with_reducible refine and_tt ?_ ?_); · exact rfl) | (with_reducible refine And.intro ?_ ?_) | intro _ | (with_reducible refine fin2 hk ?_) | ((with_reducible refine eq_leaf ?_); exact rfl) | exact trivial))
      · show i ≤ n; omega
      · show l + 1 ≤ m; omega
      · show fromOf a (i) < b (l + 1) 1
        have t1 : l + 1 < m := by assumption
        have := cov_from hB t1; omega
      · show fromOf b (l + 1) < a (i) 1
        omega
      · show fromOf b (l + 1) ≤ a (n - 1) 1; omega
      · exact cov_l hA hq hin g8
      · simp only; omega
    · exfalso
      clear hk hc
      simp only [taskOf_agg, ↓Bool.not_eq_true', ↓Bool.not_eq_false', ↓decT, ↓decF, out_true, out_false, isin_true, isin_false, Int.toNat_natCast, Int.ofNat_lt, Nat.zero_add, Nat.add_zero, Nat.reduceAdd] at *
      omega
    · rename_i g1 g2
      clear hk
      simp only [taskOf_agg, ↓Bool.not_eq_true', ↓Bool.not_eq_false', ↓decT, ↓decF, out_true, out_false, isin_true, isin_false, Int.toNat_natCast, Int.ofNat_lt, Nat.zero_add, Nat.add_zero, Nat.reduceAdd] at g1 g2
      have e : l = m := by omega
      rw [hc, cov_end hA hB e h3 hq, decT]
      simp only; omega
    · rename_i g1
      clear hk
      simp only [taskOf_agg, ↓Bool.not_eq_true', ↓Bool.not_eq_false', ↓decT, ↓decF, out_true, out_false, isin_true, isin_false, Int.toNat_natCast, Int.ofNat_lt, Nat.zero_add, Nat.add_zero, Nat.reduceAdd] at g1
      by_cases e : l = m
      · rw [hc, cov_end hA hB e h3 hq, decT]
        simp only; omega
      · rw [hc, cov_not hA hB (by omega) (by omega) (h1 (by omega)), decF]
        simp only; omega
end Go.Proofs.Ytbkehkiflfhpfaa
end
section
set_option linter.unusedVariables false
set_option linter.unusedSimpArgs false
set_option maxRecDepth 100000
set_option maxHeartbeats 4000000
namespace Go.Proofs.Ytbkehkiflfhpfaa
open Go.V
attribute [local irreducible] checkBands overT coversT
noncomputable def lib40 : Lib := (53, mk rCovers) :: (54, mk rCovers) :: lib39
theorem lib40_ok : LibOK Go.Proofs.Try.prog lib40 := .cons windCovers_ok (.cons refCovers_ok lib39_ok)
def rLOver : List V.D → Option (Prop × V.D) := fun ds => match ds with
  | [.rsl 6 n g, .rsl 6 m h, .int .i64 x] => some (IM n 6 g ∧ IM m 6 h, .tt)
  | _ => none
theorem lawOver_ok : PSound Go.Proofs.Try.prog 14 (mk rLOver) := by
  refine psound_mk Try.func14 (by kernel_rfl) rfl (ctx lib40_ok) ?_
  (intro ds p d h; unfold rLOver at h; split at h <;> first | (cases h; done) | skip; cases h; refine ⟨Nat.le_of_ble_eq_true rfl, fun hp k hk => ?_⟩)
  rename_i n g m h x
  obtain ⟨h1, h2⟩ := hp
  refine ⟨[.rsl 6 n (imD (im g)), .rsl 6 m (imD (im h)), .int .i64 x], rfl, h1, rfl, h2, rfl, ?_⟩
  clear h1 h2
  generalize im g = a at *
  generalize im h = b at *
  repeat' (first | ((with_reducible refine kok ?_); kernel_rfl) | ((with_reducible refine keq_mk ?_); kernel_rfl) | with_reducible rfl | ((conv => whnf); first | (with_reducible exact trivial) | ((with_reducible refine and_ff ?_ ?_); · exact rfl) | ((with_reducible refine and_tt ?_ ?_); · exact rfl) | (with_reducible refine And.intro ?_ ?_) | intro _ | (with_reducible refine fin2 hk ?_) | ((with_reducible refine eq_leaf ?_); exact rfl) | exact trivial))
  all_goals clear hk
  all_goals simp only [taskOf_agg, ↓Bool.not_eq_true', ↓Bool.not_eq_false', ↓decT, ↓decF, out_true, out_false, isin_true, isin_false, Int.toNat_natCast, Int.ofNat_lt, Nat.zero_add, Nat.add_zero, Nat.reduceAdd, Int.toNat_zero, Int.reduceToNat, ↓reduceIte, reduceCtorEq, Bool.or_eq_true, Bool.or_eq_false_iff, Bool.and_eq_true, Bool.and_eq_false_iff, im_imD, sameB_refl, beq_self_eq_true, not_true_eq_false, and_true, false_or, or_false, or_self] at *
end Go.Proofs.Ytbkehkiflfhpfaa
end
section
set_option linter.unusedVariables false
set_option linter.unusedSimpArgs false
namespace Go.Proofs.Ytbkehkiflfhpfaa
open Go.V

theorem covT_ok {n m : Nat} {a b : Nat → Nat → Int} (h : (coversT n a m b).2 = 0) : BandsOK n a ∧ BandsOK m b ∧ (coversT n a m b).1 = covB n a m b := by
  unfold coversT at h ⊢
  split at h
  · rename_i g; exact absurd h g
  split at h
  · rename_i g; exact absurd h g
  rename_i g1 g2
  rw [if_neg g1, if_neg g2]
  exact ⟨bands_ok (Classical.not_not.mp g1), bands_ok (Classical.not_not.mp g2), rfl⟩
theorem covT_bad {n m : Nat} {a b : Nat → Nat → Int} (h : (coversT n a m b).2 ≠ 0) : (coversT n a m b).1 = false := by
  unfold coversT at h ⊢
  split
  · rfl
  split
  · rfl
  · rename_i g1 g2
    rw [if_neg g1, if_neg g2] at h
    exact absurd rfl h
theorem covT_mk {n m : Nat} {a b : Nat → Nat → Int} (h1 : (checkBands n a).2 = 0) (h2 : (checkBands m b).2 = 0) : coversT n a m b = (covB n a m b, 0) := by
  rw [coversT, if_neg (fun h => h h1), if_neg (fun h => h h2)]
theorem covT_chk {n m : Nat} {a b : Nat → Nat → Int} (h : (coversT n a m b).2 = 0) : (checkBands n a).2 = 0 ∧ (checkBands m b).2 = 0 := by
  unfold coversT at h
  split at h
  · rename_i g; exact absurd h g
  split at h
  · rename_i g; exact absurd h g
  rename_i g1 g2
  exact ⟨Classical.not_not.mp g1, Classical.not_not.mp g2⟩
theorem covB_iff {n m : Nat} {a b : Nat → Nat → Int} : covB n a m b = true ↔ Cov n a m b := by unfold covB; rw [decT]
theorem BandsOK.low {n : Nat} {a : Nat → Nat → Int} (h : BandsOK n a) {i : Nat} (hi : i < n) : 0 ≤ a i 0 := by
  rw [h.from0 i hi, fromOf]
  split
  · exact Int.le_refl _
  · have h1 := h.up (i - 1) (by omega)
    have h2 := h.mono (i := 0) (i - 1) (by omega) (by omega)
    have h3 := h.up 0 (by omega)
    have h4 := h.zero
    omega
theorem meet_one {n : Nat} {a : Nat → Nat → Int} (h : BandsOK n a) {i k : Nat} (hi : i < n) (hk : k < n) (hm : meetB a a i k) : i = k := by
  unfold meetB at hm
  rcases Nat.lt_trichotomy i k with g | g | g
  · have := h.above g hk; omega
  · exact g
  · have := h.above g hi; omega
theorem Cov.refl {n : Nat} {a : Nat → Nat → Int} (h : BandsOK n a) : Cov n a n a := ⟨Int.le_refl _, fun i k hi hk hm => by
  obtain rfl := meet_one h hi hk hm
  exact ⟨Int.le_refl _, Int.le_refl _, Int.le_refl _, Int.le_refl _⟩⟩
/-- The band that has a height. -/
theorem BandsOK.at {n : Nat} {a : Nat → Nat → Int} (h : BandsOK n a) {x : Int} (h0 : 0 ≤ x) (h1 : x < a (n - 1) 1) : ∃ i, i < n ∧ a i 0 ≤ x ∧ x < a i 1 := by
  have key : ∀ k, k < n → x < a k 1 → ∃ i, i < n ∧ a i 0 ≤ x ∧ x < a i 1 := by
    intro k
    induction k with
    | zero =>
      intro hk hx
      exact ⟨0, hk, by rw [h.zero]; exact h0, hx⟩
    | succ k ih =>
      intro hk hx
      by_cases g : x < a k 1
      · exact ih (by omega) g
      · exact ⟨k + 1, hk, by rw [h.step hk]; omega, hx⟩
  have := h.len
  exact key (n - 1) (by omega) h1
theorem BandsOK.one {n : Nat} {a : Nat → Nat → Int} (h : BandsOK n a) {x : Int} {i j : Nat} (hi : i < n) (hj : j < n) (h1 : a i 0 ≤ x) (h2 : x < a i 1) (h3 : a j 0 ≤ x) (h4 : x < a j 1) : i = j :=
  meet_one h hi hj (by unfold meetB; omega)
theorem Cov.trans {n m l : Nat} {a b c : Nat → Nat → Int} (hA : BandsOK n a) (hB : BandsOK m b) (hC : BandsOK l c) (h1 : Cov n a m b) (h2 : Cov m b l c) : Cov n a l c := by
  refine ⟨Int.le_trans h2.1 h1.1, fun i k hi hk hm => ?_⟩
  have hx := hC.mono (i := k) (l - 1) (by omega) (by have := hC.len; omega)
  have h20 := h2.1
  have lo := hA.low hi
  unfold meetB at hm
  obtain ⟨j, hj, g1, g2⟩ := hB.at (x := max (a i 0) (c k 0)) (by omega) (by omega)
  have q1 := h1.2 i j hi hj (by unfold meetB; omega)
  have q2 := h2.2 j k hj hk (by unfold meetB; omega)
  unfold inB at *
  omega

/-- What Over has found. -/
theorem over_ok {n : Nat} {a : Nat → Nat → Int} {x : Int} (h : (overT n a x).2 = 0) : BandsOK n a ∧ (0 ≤ x ∧ x ≤ 99999999) ∧ ∃ i, i < n ∧ a i 0 ≤ x ∧ x < a i 1 ∧ (overT n a x).1 = ⟨a i 2, a i 3, a i 4, a i 5⟩ := by
  unfold overT at h ⊢
  split at h
  · rename_i g; exact absurd h g
  split at h
  · cases h
  rename_i g1 g2
  rw [if_neg g1, if_neg g2]
  have hb := bands_ok (Classical.not_not.mp g1)
  have hx : 0 ≤ x ∧ x ≤ 99999999 := by simpa [heightB, isin] using g2
  refine ⟨hb, hx, ?_⟩
  unfold overS at h ⊢
  rcases firstFrom_spec (belowTo a x) n 0 with ⟨e, hn⟩ | ⟨m, e, _, hm, hp, hq⟩
  · rw [e, if_pos (by omega)] at h; cases h
  · rw [e, if_neg (by omega), Int.toNat_natCast]
    refine ⟨m, by omega, ?_, by simpa [belowTo] using hp, rfl⟩
    rw [hb.from0 m (by omega), fromOf]
    split
    · exact hx.1
    · have := hq (m - 1) (Nat.zero_le _) (by omega)
      simp only [belowTo, decide_eq_false_iff_not] at this
      omega
theorem over_mk {n : Nat} {a : Nat → Nat → Int} {x : Int} (hc : (checkBands n a).2 = 0) (hx : 0 ≤ x ∧ x ≤ 99999999) {i : Nat} (hi : i < n) (h1 : a i 0 ≤ x) (h2 : x < a i 1) : overT n a x = (⟨a i 2, a i 3, a i 4, a i 5⟩, 0) := by
  have hb := bands_ok hc
  have e : firstFrom (belowTo a x) 0 n = i := first_is hi (by simpa [belowTo] using h2) fun j hj => by
    have := hb.above hj hi
    simp only [belowTo, decide_eq_false_iff_not]
    omega
  rw [overT, if_neg (fun h => h hc), if_neg (by simp [heightB, isin]; omega), overS, e, if_neg (by omega), Int.toNat_natCast]
theorem over_none {n : Nat} {a : Nat → Nat → Int} {x : Int} (hc : (checkBands n a).2 = 0) (hx : 0 ≤ x ∧ x ≤ 99999999) (h : a (n - 1) 1 ≤ x) : overT n a x = (left00, 4) := by
  have hb := bands_ok hc
  have e : firstFrom (belowTo a x) 0 n = -1 := first_none fun j hj => by
    have := hb.mono (i := j) (n - 1) (by omega) (by omega)
    simp only [belowTo, decide_eq_false_iff_not]
    omega
  rw [overT, if_neg (fun h => h hc), if_neg (by simp [heightB, isin]; omega), overS, e, if_pos (by omega)]
/-- At each height the spans of bands that are covered lie in those of the others. -/
theorem over_cov {n m : Nat} {a b : Nat → Nat → Int} {x : Int} (hA : (checkBands n a).2 = 0) (hC : Cov n a m b) (hb : (overT m b x).2 = 0) :
    (overT n a x).2 = 0 ∧ (overT n a x).1.xl ≤ (overT m b x).1.xl ∧ (overT m b x).1.xh ≤ (overT n a x).1.xh ∧ (overT n a x).1.yl ≤ (overT m b x).1.yl ∧ (overT m b x).1.yh ≤ (overT n a x).1.yh := by
  obtain ⟨hB, hx, k, hk, g1, g2, e⟩ := over_ok hb
  have ha := bands_ok hA
  have hm := hB.mono (i := k) (m - 1) (by omega) (by omega)
  have h0 := hC.1
  obtain ⟨i, hi, g3, g4⟩ := ha.at hx.1 (by omega : x < a (n - 1) 1)
  have e2 := over_mk hA hx hi g3 g4
  have q := hC.2 i k hi hk (by unfold meetB; omega)
  unfold inB at q
  rw [e2, e]
  exact ⟨rfl, q.1, q.2.1, q.2.2.1, q.2.2.2⟩
end Go.Proofs.Ytbkehkiflfhpfaa
end
section
set_option linter.unusedVariables false
set_option linter.unusedSimpArgs false
namespace Go.Proofs.Ytbkehkiflfhpfaa
open Go.V

/-- A sounding that a view looks at: of one source; of all but one. -/
def Hears (t : Task) (s now : Int) (j : Nat) : Prop := t.xa j 0 = s ∧ knownS t j now = true
theorem says_some {t : Task} {s low high a now : Int} : ∀ (k i : Nat) (w : Word), (saysFrom t s low high a now i w k).some = true ↔ w.some = true ∨ ∃ j, i ≤ j ∧ j < i + k ∧ Hears t s now j
  | 0, i, w => ⟨fun h => .inl h, fun h => by
    rcases h with h | ⟨j, h1, h2, _⟩
    · exact h
    · omega⟩
  | k + 1, i, w => by
    rw [saysFrom, says_some k (i + 1)]
    unfold sayStep
    by_cases g : Hears t s now i
    · obtain ⟨g1, g2⟩ := g
      rw [if_neg (fun h => h g1), if_neg (by rw [g2]; exact Bool.noConfusion)]
      exact ⟨fun _ => .inr ⟨i, Nat.le_refl _, by omega, g1, g2⟩, fun _ => .inl rfl⟩
    · have e : (if t.xa i 0 ≠ s then w else if knownS t i now = false then w else (⟨true, max w.xl (t.xa i 3 - dOf t low high a i), min w.xh (t.xa i 3 + dOf t low high a i), max w.yl (t.xa i 4 - dOf t low high a i), min w.yh (t.xa i 4 + dOf t low high a i)⟩ : Word)) = w := by
        split
        · rfl
        split
        · rfl
        · rename_i h1 h2
          exact absurd ⟨Classical.not_not.mp h1, by simpa using h2⟩ g
      rw [e]
      constructor
      · rintro (h | ⟨j, h1, h2, h3⟩)
        · exact .inl h
        · exact .inr ⟨j, by omega, by omega, h3⟩
      · rintro (h | ⟨j, h1, h2, h3⟩)
        · exact .inl h
        · rcases Nat.eq_or_lt_of_le h1 with rfl | h4
          · exact absurd h3 g
          · exact .inr ⟨j, h4, by omega, h3⟩
theorem sayStep_no {t : Task} {s low high a now : Int} {i : Nat} {w : Word} (g : ¬ Hears t s now i) : sayStep t s low high a now i w = w := by
  unfold sayStep
  split
  · rfl
  split
  · rfl
  · rename_i h1 h2
    exact absurd ⟨Classical.not_not.mp h1, by simpa using h2⟩ g
theorem sayStep_yes {t : Task} {s low high a now : Int} {i : Nat} {w : Word} (g : Hears t s now i) : sayStep t s low high a now i w = ⟨true, max w.xl (t.xa i 3 - dOf t low high a i), min w.xh (t.xa i 3 + dOf t low high a i), max w.yl (t.xa i 4 - dOf t low high a i), min w.yh (t.xa i 4 + dOf t low high a i)⟩ := by
  unfold sayStep
  rw [if_neg (fun h => h g.1), if_neg (by rw [g.2]; exact Bool.noConfusion)]
theorem says_xl {t : Task} {s low high a now v : Int} : ∀ (k i : Nat) (w : Word), (saysFrom t s low high a now i w k).xl ≤ v ↔ w.xl ≤ v ∧ ∀ j, i ≤ j → j < i + k → Hears t s now j → t.xa j 3 - dOf t low high a j ≤ v
  | 0, i, w => ⟨fun h => ⟨h, fun j h1 h2 => absurd h2 (by omega)⟩, fun h => h.1⟩
  | k + 1, i, w => by
    rw [saysFrom, says_xl k (i + 1)]
    by_cases g : Hears t s now i
    · rw [sayStep_yes g]
      constructor
      · rintro ⟨h1, h2⟩
        refine ⟨by simp only at h1; omega, fun j g1 g2 g3 => ?_⟩
        rcases Nat.eq_or_lt_of_le g1 with rfl | g4
        · simp only at h1; omega
        · exact h2 j g4 (by omega) g3
      · rintro ⟨h1, h2⟩
        have := h2 i (Nat.le_refl _) (by omega) g
        exact ⟨by simp only; omega, fun j g1 g2 g3 => h2 j (by omega) (by omega) g3⟩
    · rw [sayStep_no g]
      constructor
      · rintro ⟨h1, h2⟩
        refine ⟨h1, fun j g1 g2 g3 => ?_⟩
        rcases Nat.eq_or_lt_of_le g1 with rfl | g4
        · exact absurd g3 g
        · exact h2 j g4 (by omega) g3
      · rintro ⟨h1, h2⟩
        exact ⟨h1, fun j g1 g2 g3 => h2 j (by omega) (by omega) g3⟩
theorem leftF_xl {t : Task} {but low high a now v : Int} : ∀ (k i : Nat) (l : Left), (leftFrom t but low high a now i l k).xl ≤ v ↔ l.xl ≤ v ∧ ∀ s : Nat, i ≤ s → s < i + k → (s : Int) ≠ but → (saysS t s low high a now).some = true → (saysS t s low high a now).xl ≤ v
  | 0, i, l => ⟨fun h => ⟨h, fun j h1 h2 => absurd h2 (by omega)⟩, fun h => h.1⟩
  | k + 1, i, l => by
    rw [leftFrom, leftF_xl k (i + 1)]
    unfold leftStep
    by_cases g : (i : Int) = but ∨ (saysS t i low high a now).some = false
    · have e : (if (i : Int) = but then l else if (saysS t i low high a now).some = false then l else (⟨max l.xl (saysS t i low high a now).xl, min l.xh (saysS t i low high a now).xh, max l.yl (saysS t i low high a now).yl, min l.yh (saysS t i low high a now).yh⟩ : Left)) = l := by
        split
        · rfl
        split
        · rfl
        · rename_i h1 h2
          rcases g with g | g
          · exact absurd g h1
          · exact absurd g h2
      rw [e]
      constructor
      · rintro ⟨h1, h2⟩
        refine ⟨h1, fun s g1 g2 g3 g4 => ?_⟩
        rcases Nat.eq_or_lt_of_le g1 with rfl | g5
        · rcases g with g | g
          · exact absurd g g3
          · rw [g] at g4; cases g4
        · exact h2 s g5 (by omega) g3 g4
      · rintro ⟨h1, h2⟩
        exact ⟨h1, fun s g1 g2 g3 g4 => h2 s (by omega) (by omega) g3 g4⟩
    · have n1 : ¬ (i : Int) = but := fun h => g (.inl h)
      have n2 : ¬ (saysS t i low high a now).some = false := fun h => g (.inr h)
      rw [if_neg n1, if_neg n2]
      constructor
      · rintro ⟨h1, h2⟩
        refine ⟨by simp only at h1; omega, fun s g1 g2 g3 g4 => ?_⟩
        rcases Nat.eq_or_lt_of_le g1 with rfl | g5
        · simp only at h1; omega
        · exact h2 s g5 (by omega) g3 g4
      · rintro ⟨h1, h2⟩
        have := h2 i (Nat.le_refl _) (by omega) n1 (by simpa using n2)
        exact ⟨by simp only; omega, fun s g1 g2 g3 g4 => h2 s (by omega) (by omega) g3 g4⟩
/-- What is left, by the soundings. -/
theorem left_xl {t : Task} (hok : t.ok) {but low high a now v : Int} : (leftS t but low high a now).xl ≤ v ↔ -20000 ≤ v ∧ ∀ j, j < t.nx → t.xa j 0 ≠ but → knownS t j now = true → t.xa j 3 - dOf t low high a j ≤ v := by
  unfold leftS
  rw [leftF_xl]
  constructor
  · rintro ⟨h1, h2⟩
    refine ⟨h1, fun j g1 g2 g3 => ?_⟩
    have hs := hok.src j g1
    have e : (((t.xa j 0).toNat : Nat) : Int) = t.xa j 0 := by omega
    have h3 := h2 (t.xa j 0).toNat (Nat.zero_le _) (by omega) (by rw [e]; exact g2) (by
      unfold saysS
      rw [says_some]
      exact .inr ⟨j, Nat.zero_le _, by omega, e.symm, g3⟩)
    unfold saysS at h3
    rw [says_xl] at h3
    exact h3.2 j (Nat.zero_le _) (by omega) ⟨e.symm, g3⟩
  · rintro ⟨h1, h2⟩
    refine ⟨h1, fun s g1 g2 g3 g4 => ?_⟩
    unfold saysS
    rw [says_xl]
    exact ⟨h1, fun j q1 q2 q3 => h2 j (by omega) (by rw [q3.1]; exact g3) q3.2⟩
theorem says_xh {t : Task} {s low high a now v : Int} : ∀ (k i : Nat) (w : Word), v ≤ (saysFrom t s low high a now i w k).xh ↔ v ≤ w.xh ∧ ∀ j, i ≤ j → j < i + k → Hears t s now j → v ≤ t.xa j 3 + dOf t low high a j
  | 0, i, w => ⟨fun h => ⟨h, fun j h1 h2 => absurd h2 (by omega)⟩, fun h => h.1⟩
  | k + 1, i, w => by
    rw [saysFrom, says_xh k (i + 1)]
    by_cases g : Hears t s now i
    · rw [sayStep_yes g]
      constructor
      · rintro ⟨h1, h2⟩
        refine ⟨by simp only at h1; omega, fun j g1 g2 g3 => ?_⟩
        rcases Nat.eq_or_lt_of_le g1 with rfl | g4
        · simp only at h1; omega
        · exact h2 j g4 (by omega) g3
      · rintro ⟨h1, h2⟩
        have := h2 i (Nat.le_refl _) (by omega) g
        exact ⟨by simp only; omega, fun j g1 g2 g3 => h2 j (by omega) (by omega) g3⟩
    · rw [sayStep_no g]
      constructor
      · rintro ⟨h1, h2⟩
        refine ⟨h1, fun j g1 g2 g3 => ?_⟩
        rcases Nat.eq_or_lt_of_le g1 with rfl | g4
        · exact absurd g3 g
        · exact h2 j g4 (by omega) g3
      · rintro ⟨h1, h2⟩
        exact ⟨h1, fun j g1 g2 g3 => h2 j (by omega) (by omega) g3⟩
theorem leftF_xh {t : Task} {but low high a now v : Int} : ∀ (k i : Nat) (l : Left), v ≤ (leftFrom t but low high a now i l k).xh ↔ v ≤ l.xh ∧ ∀ s : Nat, i ≤ s → s < i + k → (s : Int) ≠ but → (saysS t s low high a now).some = true → v ≤ (saysS t s low high a now).xh
  | 0, i, l => ⟨fun h => ⟨h, fun j h1 h2 => absurd h2 (by omega)⟩, fun h => h.1⟩
  | k + 1, i, l => by
    rw [leftFrom, leftF_xh k (i + 1)]
    unfold leftStep
    by_cases g : (i : Int) = but ∨ (saysS t i low high a now).some = false
    · have e : (if (i : Int) = but then l else if (saysS t i low high a now).some = false then l else (⟨max l.xl (saysS t i low high a now).xl, min l.xh (saysS t i low high a now).xh, max l.yl (saysS t i low high a now).yl, min l.yh (saysS t i low high a now).yh⟩ : Left)) = l := by
        split
        · rfl
        split
        · rfl
        · rename_i h1 h2
          rcases g with g | g
          · exact absurd g h1
          · exact absurd g h2
      rw [e]
      constructor
      · rintro ⟨h1, h2⟩
        refine ⟨h1, fun s g1 g2 g3 g4 => ?_⟩
        rcases Nat.eq_or_lt_of_le g1 with rfl | g5
        · rcases g with g | g
          · exact absurd g g3
          · rw [g] at g4; cases g4
        · exact h2 s g5 (by omega) g3 g4
      · rintro ⟨h1, h2⟩
        exact ⟨h1, fun s g1 g2 g3 g4 => h2 s (by omega) (by omega) g3 g4⟩
    · have n1 : ¬ (i : Int) = but := fun h => g (.inl h)
      have n2 : ¬ (saysS t i low high a now).some = false := fun h => g (.inr h)
      rw [if_neg n1, if_neg n2]
      constructor
      · rintro ⟨h1, h2⟩
        refine ⟨by simp only at h1; omega, fun s g1 g2 g3 g4 => ?_⟩
        rcases Nat.eq_or_lt_of_le g1 with rfl | g5
        · simp only at h1; omega
        · exact h2 s g5 (by omega) g3 g4
      · rintro ⟨h1, h2⟩
        have := h2 i (Nat.le_refl _) (by omega) n1 (by simpa using n2)
        exact ⟨by simp only; omega, fun s g1 g2 g3 g4 => h2 s (by omega) (by omega) g3 g4⟩
/-- What is left, by the soundings. -/
theorem left_xh {t : Task} (hok : t.ok) {but low high a now v : Int} : v ≤ (leftS t but low high a now).xh ↔ v ≤ 20000 ∧ ∀ j, j < t.nx → t.xa j 0 ≠ but → knownS t j now = true → v ≤ t.xa j 3 + dOf t low high a j := by
  unfold leftS
  rw [leftF_xh]
  constructor
  · rintro ⟨h1, h2⟩
    refine ⟨h1, fun j g1 g2 g3 => ?_⟩
    have hs := hok.src j g1
    have e : (((t.xa j 0).toNat : Nat) : Int) = t.xa j 0 := by omega
    have h3 := h2 (t.xa j 0).toNat (Nat.zero_le _) (by omega) (by rw [e]; exact g2) (by
      unfold saysS
      rw [says_some]
      exact .inr ⟨j, Nat.zero_le _, by omega, e.symm, g3⟩)
    unfold saysS at h3
    rw [says_xh] at h3
    exact h3.2 j (Nat.zero_le _) (by omega) ⟨e.symm, g3⟩
  · rintro ⟨h1, h2⟩
    refine ⟨h1, fun s g1 g2 g3 g4 => ?_⟩
    unfold saysS
    rw [says_xh]
    exact ⟨h1, fun j q1 q2 q3 => h2 j (by omega) (by rw [q3.1]; exact g3) q3.2⟩
theorem says_yl {t : Task} {s low high a now v : Int} : ∀ (k i : Nat) (w : Word), (saysFrom t s low high a now i w k).yl ≤ v ↔ w.yl ≤ v ∧ ∀ j, i ≤ j → j < i + k → Hears t s now j → t.xa j 4 - dOf t low high a j ≤ v
  | 0, i, w => ⟨fun h => ⟨h, fun j h1 h2 => absurd h2 (by omega)⟩, fun h => h.1⟩
  | k + 1, i, w => by
    rw [saysFrom, says_yl k (i + 1)]
    by_cases g : Hears t s now i
    · rw [sayStep_yes g]
      constructor
      · rintro ⟨h1, h2⟩
        refine ⟨by simp only at h1; omega, fun j g1 g2 g3 => ?_⟩
        rcases Nat.eq_or_lt_of_le g1 with rfl | g4
        · simp only at h1; omega
        · exact h2 j g4 (by omega) g3
      · rintro ⟨h1, h2⟩
        have := h2 i (Nat.le_refl _) (by omega) g
        exact ⟨by simp only; omega, fun j g1 g2 g3 => h2 j (by omega) (by omega) g3⟩
    · rw [sayStep_no g]
      constructor
      · rintro ⟨h1, h2⟩
        refine ⟨h1, fun j g1 g2 g3 => ?_⟩
        rcases Nat.eq_or_lt_of_le g1 with rfl | g4
        · exact absurd g3 g
        · exact h2 j g4 (by omega) g3
      · rintro ⟨h1, h2⟩
        exact ⟨h1, fun j g1 g2 g3 => h2 j (by omega) (by omega) g3⟩
theorem leftF_yl {t : Task} {but low high a now v : Int} : ∀ (k i : Nat) (l : Left), (leftFrom t but low high a now i l k).yl ≤ v ↔ l.yl ≤ v ∧ ∀ s : Nat, i ≤ s → s < i + k → (s : Int) ≠ but → (saysS t s low high a now).some = true → (saysS t s low high a now).yl ≤ v
  | 0, i, l => ⟨fun h => ⟨h, fun j h1 h2 => absurd h2 (by omega)⟩, fun h => h.1⟩
  | k + 1, i, l => by
    rw [leftFrom, leftF_yl k (i + 1)]
    unfold leftStep
    by_cases g : (i : Int) = but ∨ (saysS t i low high a now).some = false
    · have e : (if (i : Int) = but then l else if (saysS t i low high a now).some = false then l else (⟨max l.xl (saysS t i low high a now).xl, min l.xh (saysS t i low high a now).xh, max l.yl (saysS t i low high a now).yl, min l.yh (saysS t i low high a now).yh⟩ : Left)) = l := by
        split
        · rfl
        split
        · rfl
        · rename_i h1 h2
          rcases g with g | g
          · exact absurd g h1
          · exact absurd g h2
      rw [e]
      constructor
      · rintro ⟨h1, h2⟩
        refine ⟨h1, fun s g1 g2 g3 g4 => ?_⟩
        rcases Nat.eq_or_lt_of_le g1 with rfl | g5
        · rcases g with g | g
          · exact absurd g g3
          · rw [g] at g4; cases g4
        · exact h2 s g5 (by omega) g3 g4
      · rintro ⟨h1, h2⟩
        exact ⟨h1, fun s g1 g2 g3 g4 => h2 s (by omega) (by omega) g3 g4⟩
    · have n1 : ¬ (i : Int) = but := fun h => g (.inl h)
      have n2 : ¬ (saysS t i low high a now).some = false := fun h => g (.inr h)
      rw [if_neg n1, if_neg n2]
      constructor
      · rintro ⟨h1, h2⟩
        refine ⟨by simp only at h1; omega, fun s g1 g2 g3 g4 => ?_⟩
        rcases Nat.eq_or_lt_of_le g1 with rfl | g5
        · simp only at h1; omega
        · exact h2 s g5 (by omega) g3 g4
      · rintro ⟨h1, h2⟩
        have := h2 i (Nat.le_refl _) (by omega) n1 (by simpa using n2)
        exact ⟨by simp only; omega, fun s g1 g2 g3 g4 => h2 s (by omega) (by omega) g3 g4⟩
/-- What is left, by the soundings. -/
theorem left_yl {t : Task} (hok : t.ok) {but low high a now v : Int} : (leftS t but low high a now).yl ≤ v ↔ -20000 ≤ v ∧ ∀ j, j < t.nx → t.xa j 0 ≠ but → knownS t j now = true → t.xa j 4 - dOf t low high a j ≤ v := by
  unfold leftS
  rw [leftF_yl]
  constructor
  · rintro ⟨h1, h2⟩
    refine ⟨h1, fun j g1 g2 g3 => ?_⟩
    have hs := hok.src j g1
    have e : (((t.xa j 0).toNat : Nat) : Int) = t.xa j 0 := by omega
    have h3 := h2 (t.xa j 0).toNat (Nat.zero_le _) (by omega) (by rw [e]; exact g2) (by
      unfold saysS
      rw [says_some]
      exact .inr ⟨j, Nat.zero_le _, by omega, e.symm, g3⟩)
    unfold saysS at h3
    rw [says_yl] at h3
    exact h3.2 j (Nat.zero_le _) (by omega) ⟨e.symm, g3⟩
  · rintro ⟨h1, h2⟩
    refine ⟨h1, fun s g1 g2 g3 g4 => ?_⟩
    unfold saysS
    rw [says_yl]
    exact ⟨h1, fun j q1 q2 q3 => h2 j (by omega) (by rw [q3.1]; exact g3) q3.2⟩
theorem says_yh {t : Task} {s low high a now v : Int} : ∀ (k i : Nat) (w : Word), v ≤ (saysFrom t s low high a now i w k).yh ↔ v ≤ w.yh ∧ ∀ j, i ≤ j → j < i + k → Hears t s now j → v ≤ t.xa j 4 + dOf t low high a j
  | 0, i, w => ⟨fun h => ⟨h, fun j h1 h2 => absurd h2 (by omega)⟩, fun h => h.1⟩
  | k + 1, i, w => by
    rw [saysFrom, says_yh k (i + 1)]
    by_cases g : Hears t s now i
    · rw [sayStep_yes g]
      constructor
      · rintro ⟨h1, h2⟩
        refine ⟨by simp only at h1; omega, fun j g1 g2 g3 => ?_⟩
        rcases Nat.eq_or_lt_of_le g1 with rfl | g4
        · simp only at h1; omega
        · exact h2 j g4 (by omega) g3
      · rintro ⟨h1, h2⟩
        have := h2 i (Nat.le_refl _) (by omega) g
        exact ⟨by simp only; omega, fun j g1 g2 g3 => h2 j (by omega) (by omega) g3⟩
    · rw [sayStep_no g]
      constructor
      · rintro ⟨h1, h2⟩
        refine ⟨h1, fun j g1 g2 g3 => ?_⟩
        rcases Nat.eq_or_lt_of_le g1 with rfl | g4
        · exact absurd g3 g
        · exact h2 j g4 (by omega) g3
      · rintro ⟨h1, h2⟩
        exact ⟨h1, fun j g1 g2 g3 => h2 j (by omega) (by omega) g3⟩
theorem leftF_yh {t : Task} {but low high a now v : Int} : ∀ (k i : Nat) (l : Left), v ≤ (leftFrom t but low high a now i l k).yh ↔ v ≤ l.yh ∧ ∀ s : Nat, i ≤ s → s < i + k → (s : Int) ≠ but → (saysS t s low high a now).some = true → v ≤ (saysS t s low high a now).yh
  | 0, i, l => ⟨fun h => ⟨h, fun j h1 h2 => absurd h2 (by omega)⟩, fun h => h.1⟩
  | k + 1, i, l => by
    rw [leftFrom, leftF_yh k (i + 1)]
    unfold leftStep
    by_cases g : (i : Int) = but ∨ (saysS t i low high a now).some = false
    · have e : (if (i : Int) = but then l else if (saysS t i low high a now).some = false then l else (⟨max l.xl (saysS t i low high a now).xl, min l.xh (saysS t i low high a now).xh, max l.yl (saysS t i low high a now).yl, min l.yh (saysS t i low high a now).yh⟩ : Left)) = l := by
        split
        · rfl
        split
        · rfl
        · rename_i h1 h2
          rcases g with g | g
          · exact absurd g h1
          · exact absurd g h2
      rw [e]
      constructor
      · rintro ⟨h1, h2⟩
        refine ⟨h1, fun s g1 g2 g3 g4 => ?_⟩
        rcases Nat.eq_or_lt_of_le g1 with rfl | g5
        · rcases g with g | g
          · exact absurd g g3
          · rw [g] at g4; cases g4
        · exact h2 s g5 (by omega) g3 g4
      · rintro ⟨h1, h2⟩
        exact ⟨h1, fun s g1 g2 g3 g4 => h2 s (by omega) (by omega) g3 g4⟩
    · have n1 : ¬ (i : Int) = but := fun h => g (.inl h)
      have n2 : ¬ (saysS t i low high a now).some = false := fun h => g (.inr h)
      rw [if_neg n1, if_neg n2]
      constructor
      · rintro ⟨h1, h2⟩
        refine ⟨by simp only at h1; omega, fun s g1 g2 g3 g4 => ?_⟩
        rcases Nat.eq_or_lt_of_le g1 with rfl | g5
        · simp only at h1; omega
        · exact h2 s g5 (by omega) g3 g4
      · rintro ⟨h1, h2⟩
        have := h2 i (Nat.le_refl _) (by omega) n1 (by simpa using n2)
        exact ⟨by simp only; omega, fun s g1 g2 g3 g4 => h2 s (by omega) (by omega) g3 g4⟩
/-- What is left, by the soundings. -/
theorem left_yh {t : Task} (hok : t.ok) {but low high a now v : Int} : v ≤ (leftS t but low high a now).yh ↔ v ≤ 20000 ∧ ∀ j, j < t.nx → t.xa j 0 ≠ but → knownS t j now = true → v ≤ t.xa j 4 + dOf t low high a j := by
  unfold leftS
  rw [leftF_yh]
  constructor
  · rintro ⟨h1, h2⟩
    refine ⟨h1, fun j g1 g2 g3 => ?_⟩
    have hs := hok.src j g1
    have e : (((t.xa j 0).toNat : Nat) : Int) = t.xa j 0 := by omega
    have h3 := h2 (t.xa j 0).toNat (Nat.zero_le _) (by omega) (by rw [e]; exact g2) (by
      unfold saysS
      rw [says_some]
      exact .inr ⟨j, Nat.zero_le _, by omega, e.symm, g3⟩)
    unfold saysS at h3
    rw [says_yh] at h3
    exact h3.2 j (Nat.zero_le _) (by omega) ⟨e.symm, g3⟩
  · rintro ⟨h1, h2⟩
    refine ⟨h1, fun s g1 g2 g3 g4 => ?_⟩
    unfold saysS
    rw [says_yh]
    exact ⟨h1, fun j q1 q2 q3 => h2 j (by omega) (by rw [q3.1]; exact g3) q3.2⟩

/-- The spans of the one lie in those of the other. -/
def Left.le (l m : Left) : Prop := m.xl ≤ l.xl ∧ l.xh ≤ m.xh ∧ m.yl ≤ l.yl ∧ l.yh ≤ m.yh
theorem Left.agree_iff {l : Left} : l.agree = true ↔ l.xl ≤ l.xh ∧ l.yl ≤ l.yh := by
  simp [Left.agree]
theorem Left.le_agree {l m : Left} (h : l.le m) (hl : l.agree = true) : m.agree = true := by
  rw [Left.agree_iff] at *
  unfold Left.le at h
  omega
/-- If each sounding that the one hears stands in the other, and says no less there, then no span is narrower. -/
theorem left_le {t u : Task} (ht : t.ok) (hu : u.ok) {but but' low high low' high' a a' now now' : Int}
    (h : ∀ j, j < u.nx → u.xa j 0 ≠ but' → knownS u j now' = true → ∃ i, i < t.nx ∧ t.xa i 0 ≠ but ∧ knownS t i now = true ∧ u.xa j 3 = t.xa i 3 ∧ u.xa j 4 = t.xa i 4 ∧ dOf t low high a i ≤ dOf u low' high' a' j) :
    (leftS t but low high a now).le (leftS u but' low' high' a' now') := by
  have a1 := (left_xl ht (but := but) (low := low) (high := high) (a := a) (now := now)).1 (Int.le_refl _)
  have a2 := (left_xh ht (but := but) (low := low) (high := high) (a := a) (now := now)).1 (Int.le_refl _)
  have a3 := (left_yl ht (but := but) (low := low) (high := high) (a := a) (now := now)).1 (Int.le_refl _)
  have a4 := (left_yh ht (but := but) (low := low) (high := high) (a := a) (now := now)).1 (Int.le_refl _)
  refine ⟨(left_xl hu).2 ⟨a1.1, fun j g1 g2 g3 => ?_⟩, (left_xh hu).2 ⟨a2.1, fun j g1 g2 g3 => ?_⟩, (left_yl hu).2 ⟨a3.1, fun j g1 g2 g3 => ?_⟩, (left_yh hu).2 ⟨a4.1, fun j g1 g2 g3 => ?_⟩⟩
  all_goals obtain ⟨i, h1, h2, h3, h4, h5, h6⟩ := h j g1 g2 g3
  · have := a1.2 i h1 h2 h3; omega
  · have := a2.2 i h1 h2 h3; omega
  · have := a3.2 i h1 h2 h3; omega
  · have := a4.2 i h1 h2 h3; omega

/-- Doubts grow with distances. -/
theorem begun_mono {a b a' b' l : Int} (hl : 0 < l) (h : max (a - b) (b - a) ≤ max (a' - b') (b' - a')) : begun a b l ≤ begun a' b' l := by
  unfold begun
  have h0 : 0 ≤ max (a - b) (b - a) := by omega
  rw [Int.tdiv_eq_ediv_of_nonneg (by omega), Int.tdiv_eq_ediv_of_nonneg (by omega)]
  exact Int.ediv_le_ediv hl (by omega)
theorem doubt_mono {t : Task} (hok : t.ok) {i : Nat} {h h' a a' : Int} (h1 : max (t.xa i 1 - a) (a - t.xa i 1) ≤ max (t.xa i 1 - a') (a' - t.xa i 1)) (h2 : max (t.xa i 2 - h) (h - t.xa i 2) ≤ max (t.xa i 2 - h') (h' - t.xa i 2)) : doubtS t i h a ≤ doubtS t i h' a' := by
  unfold doubtS
  have m1 := Int.mul_le_mul_of_nonneg_left (begun_mono (l := 600) (by omega) h1) hok.age.1
  have m2 := Int.mul_le_mul_of_nonneg_left (begun_mono (l := 100000) (by omega) h2) hok.shear.1
  omega
/-- A wider band, a later tick: no less doubt. -/
theorem dOf_mono {t : Task} (hok : t.ok) {i : Nat} {low high low' high' a a' : Int} (h1 : max (t.xa i 1 - a) (a - t.xa i 1) ≤ max (t.xa i 1 - a') (a' - t.xa i 1)) (h2 : low' ≤ low) (h3 : low ≤ high) (h4 : high ≤ high') : dOf t low high a i ≤ dOf t low' high' a' i := by
  unfold dOf
  have key : ∀ h, low' ≤ h → h ≤ high' → doubtS t i h a ≤ max (doubtS t i low' a') (doubtS t i high' a') := fun h g1 g2 => by
    rcases Int.le_total (t.xa i 2) h with g | g
    · have := doubt_mono hok (i := i) (h := h) (h' := high') h1 (by omega)
      omega
    · have := doubt_mono hok (i := i) (h := h) (h' := low') h1 (by omega)
      omega
  have k1 := key low (by omega) (by omega)
  have k2 := key high (by omega) (by omega)
  omega
end Go.Proofs.Ytbkehkiflfhpfaa
end
