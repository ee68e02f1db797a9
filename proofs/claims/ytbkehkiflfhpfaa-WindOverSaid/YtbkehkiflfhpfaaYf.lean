/-
  Contracts of the wind: Over (both).
-/
import Derived.Test.YtbkehkiflfhpfaaYc
set_option linter.unusedVariables false
set_option linter.unusedSimpArgs false
set_option maxRecDepth 100000
set_option maxHeartbeats 4000000
namespace Go.Proofs.Ytbkehkiflfhpfaa
open Go.V
/-- What CheckBands has looked at. -/
structure BandsOK (n : Nat) (a : Nat → Nat → Int) : Prop where
  len : 1 ≤ n ∧ n ≤ 20
  from0 : ∀ i, i < n → a i 0 = fromOf a i
  up : ∀ i, i < n → a i 0 < a i 1 ∧ a i 1 ≤ 100000000
  x : ∀ i, i < n → (-20000 ≤ a i 2 ∧ a i 2 ≤ a i 3 ∧ a i 3 ≤ 20000)
  y : ∀ i, i < n → (-20000 ≤ a i 4 ∧ a i 4 ≤ a i 5 ∧ a i 5 ≤ 20000)
theorem winds_true {a b : Int} (h : winds a b = true) : -20000 ≤ a ∧ a ≤ b ∧ b ≤ 20000 := by
  simp only [winds, isin, Bool.and_eq_true, decide_eq_true_eq] at h
  omega
theorem bands_ok {n : Nat} {a : Nat → Nat → Int} (h : (checkBands n a).2 = 0) : BandsOK n a := by
  unfold checkBands at h
  split at h
  · rename_i h1
    have hz := fun j (hj : j < n) => fe_zero h j (Nat.zero_le j) (by omega : j < 0 + n)
    have hb : ∀ j, j < n → a j 0 = fromOf a j ∧ a j 0 < a j 1 ∧ a j 1 ≤ 100000000 ∧ winds (a j 2) (a j 3) = true ∧ winds (a j 4) (a j 5) = true := fun j hj => by
      have := hz j hj
      unfold bandErr at this
      split at this
      · cases this
      split at this
      · cases this
      split at this
      · cases this
      split at this
      · cases this
      split at this
      · cases this
      rename_i g1 g2 g3 g4 g5
      exact ⟨Classical.not_not.mp g1, by omega, by omega, by simpa using g4, by simpa using g5⟩
    simp only [isin, Bool.and_eq_true, decide_eq_true_eq] at h1
    exact ⟨by omega, fun i hi => (hb i hi).1, fun i hi => ⟨(hb i hi).2.1, (hb i hi).2.2.1⟩, fun i hi => winds_true (hb i hi).2.2.2.1, fun i hi => winds_true (hb i hi).2.2.2.2⟩
  · cases h
attribute [local irreducible] checkBands

theorem cellsD_int (k : IntKind) (n : Int) : cellsD (.int k n) = [.int k n] := rfl
theorem hide_int (H : HL) (k : IntKind) (n : Int) : hide H (.int k n) = .int k n := rfl
theorem toI_int (k : IntKind) (n : Int) : toI (.int k n) = n := rfl
/-- The wind at a height, by bands. -/
def belowTo (a : Nat → Nat → Int) (h : Int) (i : Nat) : Bool := decide (h < a i 1)
def overS (n : Nat) (a : Nat → Nat → Int) (h : Int) : Left × Int :=
  if firstFrom (belowTo a h) 0 n < 0 then (left00, 4) else (⟨a (firstFrom (belowTo a h) 0 n).toNat 2, a (firstFrom (belowTo a h) 0 n).toNat 3, a (firstFrom (belowTo a h) 0 n).toNat 4, a (firstFrom (belowTo a h) 0 n).toNat 5⟩, 0)
def overT (n : Nat) (a : Nat → Nat → Int) (h : Int) : Left × Int := if (checkBands n a).2 ≠ 0 then (left00, (checkBands n a).2) else if heightB h = false then (left00, 7) else overS n a h
def rOver : List V.D → Option (Prop × V.D) := fun ds => match ds with
  | [.rsl 6 n g, .int .i64 h] => some (IM n 6 g, spansD (overT n (im g) h).1 (overT n (im g) h).2)
  | _ => none

def rOver1 : List V.D → Option (Prop × V.D) := fun ds => match ds with
  | [.agg [.int .i64 b0, .int .i64 b1, .int .i64 b2, .int .i64 b3, .int .i64 b4, .int .i64 b5], .eptr 1 g] => some (g 0 = .int .i64 (toI (g 0)), .bool (decide (toI (g 0) < b1)))
  | _ => none
theorem over1_ok : PSound Go.Proofs.Try.prog 94 (mk rOver1) := by
  refine psound_mk Try.func94 (by kernel_rfl) rfl (ctx (.nil _)) ?_
  (intro ds p d h; unfold rOver1 at h; split at h <;> first | (cases h; done) | skip; cases h; refine ⟨Nat.le_of_ble_eq_true rfl, fun hp k hk => ?_⟩)
  rename_i b0 b1 b2 b3 b4 b5 g
  generalize toI (g 0) = h at *
  refine ⟨[.agg [.int .i64 b0, .int .i64 b1, .int .i64 b2, .int .i64 b3, .int .i64 b4, .int .i64 b5], .eptr 1 fun _ => .int .i64 h], rfl, rfl, rfl, rfl, rfl, rfl, rfl, fun j hj => ?_, ?_⟩
  · obtain rfl : j = 0 := by omega
    exact hp
  clear hp
  repeat' (first | with_reducible rfl | ((conv => whnf); first | (with_reducible exact trivial) | ((with_reducible refine and_ff ?_ ?_); · exact rfl) | ((with_reducible refine and_tt ?_ ?_); · exact rfl) | (with_reducible refine And.intro ?_ ?_) | intro _ | (with_reducible refine fin2 hk ?_) | ((with_reducible refine eq_leaf ?_); exact rfl) | exact trivial))
noncomputable def lib37 : Lib := (94, mk rOver1) :: lib36
theorem lib37_ok : LibOK Go.Proofs.Try.prog lib37 := .cons over1_ok lib36_ok
def rIndexBand : List V.D → Option (Prop × V.D) := fun ds => match ds with
  | [.rsl 6 n g, .fn 94 [] [.eptr 1 e]] => some (IM n 6 g ∧ n ≤ 1099511627776 ∧ e 0 = .int .i64 (toI (e 0)), .int .i64 (firstFrom (belowTo (im g) (toI (e 0))) 0 n))
  | _ => none
theorem indexBand_ok : PSound Go.Proofs.Try.prog 93 (mk rIndexBand) := by
  refine psound_mk Try.func93 (by kernel_rfl) rfl (ctx lib37_ok) ?_
  (intro ds p d h; unfold rIndexBand at h; split at h <;> first | (cases h; done) | skip; cases h; refine ⟨Nat.le_of_ble_eq_true rfl, fun hp k hk => ?_⟩)
  rename_i n g e
  obtain ⟨h1, h2, h3⟩ := hp
  have h4 : toI (e 0) = toI (e 0) := rfl
  generalize hH : toI (e 0) = h at *
  clear h4
  refine ⟨[.rsl 6 n (imD (im g)), .fn 94 [] [.eptr 1 e]], rfl, h1, ?_⟩
  clear h1
  generalize im g = a at *
  generalize hS : firstFrom (belowTo a h) 0 n = c at *
  repeat' (first | with_reducible rfl | ((conv => whnf); first | (with_reducible exact trivial) | ((with_reducible refine and_ff ?_ ?_); · exact rfl) | ((with_reducible refine and_tt ?_ ?_); · exact rfl) | (with_reducible refine And.intro ?_ ?_) | intro _ | (with_reducible refine fin2 hk ?_) | ((with_reducible refine eq_leaf ?_); exact rfl) | exact trivial))
  refine ⟨Nat, fun i => [(0, .rsl 6 n (imD a)), (1, .fn 94 [] [.eptr 1 e]), (7, .int .i64 n), (8, .int .i64 i)], fun _ => [], fun i => n - i, fun i => i ≤ n ∧ c = firstFrom (belowTo a h) i (n - i), [], 0, fun _ => ⟨rfl, rfl⟩, ?_, fun i hI => ?_⟩
  · clear hk
    repeat' (first | with_reducible rfl | ((conv => whnf); first | (with_reducible exact trivial) | ((with_reducible refine and_ff ?_ ?_); · exact rfl) | ((with_reducible refine and_tt ?_ ?_); · exact rfl) | (with_reducible refine And.intro ?_ ?_) | intro _ | (with_reducible refine fin2 hk ?_) | ((with_reducible refine eq_leaf ?_); exact rfl) | exact trivial))
    · omega
    · exact hS.symm
  obtain ⟨hi, hc⟩ := hI
  clear hS
  repeat' (first | with_reducible rfl | ((conv => whnf); first | (with_reducible exact trivial) | ((with_reducible refine and_ff ?_ ?_); · exact rfl) | ((with_reducible refine and_tt ?_ ?_); · exact rfl) | (with_reducible refine And.intro ?_ ?_) | intro _ | (with_reducible refine fin2 hk ?_) | ((with_reducible refine eq_leaf ?_); exact rfl) | exact trivial))
  all_goals try ((first | with_reducible refine (?_ : (_ : Int) ≤ _) | with_reducible refine (?_ : (_ : Int) < _)); clear hk hc h3 hH; simp only [taskOf_agg, ↓Bool.not_eq_true', ↓Bool.not_eq_false', ↓decT, ↓decF, out_true, out_false, isin_true, isin_false, Int.toNat_natCast, Int.ofNat_lt, Nat.zero_add, Nat.add_zero, Nat.reduceAdd] at *; omega)
  · exact h3.trans (congrArg _ hH.symm)
  · rename_i g1 g2
    clear hk
    simp only [taskOf_agg, ↓Bool.not_eq_true', ↓Bool.not_eq_false', ↓decT, ↓decF, out_true, out_false, isin_true, isin_false, Int.toNat_natCast, Int.ofNat_lt, Nat.zero_add, Nat.add_zero, Nat.reduceAdd] at g1 g2
    rw [hH] at g2
    rw [firstFrom_step g1, if_pos (by rw [belowTo]; exact decide_eq_true g2)] at hc
    exact hc.symm
  · rename_i g1 g2
    clear hk
    simp only [taskOf_agg, ↓Bool.not_eq_true', ↓Bool.not_eq_false', ↓decT, ↓decF, out_true, out_false, isin_true, isin_false, Int.toNat_natCast, Int.ofNat_lt, Nat.zero_add, Nat.add_zero, Nat.reduceAdd] at g1 g2
    rw [hH] at g2
    rw [firstFrom_step g1, if_neg (by rw [belowTo, decide_eq_false g2]; exact Bool.noConfusion)] at hc
    refine ⟨i + 1, ?_⟩
    repeat' (first | with_reducible rfl | ((conv => whnf); first | (with_reducible exact trivial) | ((with_reducible refine and_ff ?_ ?_); · exact rfl) | ((with_reducible refine and_tt ?_ ?_); · exact rfl) | (with_reducible refine And.intro ?_ ?_) | intro _ | (with_reducible refine fin2 hk ?_) | ((with_reducible refine eq_leaf ?_); exact rfl) | exact trivial))
    · exact g1
    · exact hc
    · simp only; omega
  · rename_i g1
    clear hk
    simp only [taskOf_agg, ↓Bool.not_eq_true', ↓Bool.not_eq_false', ↓decT, ↓decF, out_true, out_false, isin_true, isin_false, Int.toNat_natCast, Int.ofNat_lt, Nat.zero_add, Nat.add_zero, Nat.reduceAdd] at g1
    rw [firstFrom_end (by omega)] at hc
    exact hc.symm
noncomputable def lib38 : Lib := (93, mk rIndexBand) :: lib37
theorem lib38_ok : LibOK Go.Proofs.Try.prog lib38 := .cons indexBand_ok lib37_ok
theorem first_lt (p : Nat → Bool) (n : Nat) : firstFrom p 0 n = -1 ∨ (0 ≤ firstFrom p 0 n ∧ firstFrom p 0 n < n) := by
  rcases firstFrom_spec p n 0 with ⟨h, _⟩ | ⟨m, h, _, h2, _⟩
  · exact .inl h
  · right; omega
theorem first_is {p : Nat → Bool} {n i : Nat} (hi : i < n) (h : p i = true) (hq : ∀ j, j < i → p j = false) : firstFrom p 0 n = i := by
  rcases firstFrom_spec p n 0 with ⟨h1, h2⟩ | ⟨m, h1, _, h3, h4, h5⟩
  · rw [h2 i (by omega) (by omega)] at h; cases h
  · have : m = i := by
      rcases Nat.lt_trichotomy m i with g | g | g
      · rw [hq m g] at h4; cases h4
      · exact g
      · rw [h5 i (by omega) g] at h; cases h
    rw [h1, this]
theorem first_none {p : Nat → Bool} {n : Nat} (hq : ∀ j, j < n → p j = false) : firstFrom p 0 n = -1 := by
  rcases firstFrom_spec p n 0 with ⟨h1, h2⟩ | ⟨m, h1, _, h3, h4, h5⟩
  · exact h1
  · rw [hq m (by omega)] at h4; cases h4
theorem windOver_ok : PSound Go.Proofs.Try.prog 49 (mk rOver) := by
  refine psound_mk Try.func49 (by kernel_rfl) rfl (ctx lib38_ok) ?_
  (intro ds p d h; unfold rOver at h; split at h <;> first | (cases h; done) | skip; cases h; refine ⟨Nat.le_of_ble_eq_true rfl, fun hp k hk => ?_⟩)
  rename_i n g h
  refine ⟨[.rsl 6 n (imD (im g)), .int .i64 h], rfl, hp, rfl, ?_⟩
  clear hp
  generalize im g = a at *
  generalize hS : overT n a h = c at *
  have hn : (checkBands n a).2 = 0 → 1 ≤ n ∧ n ≤ 20 := fun h => (bands_ok h).len
  have hf := first_lt (belowTo a h) n
  repeat' (first | with_reducible rfl | ((conv => whnf); first | (with_reducible exact trivial) | ((with_reducible refine and_ff ?_ ?_); · exact rfl) | ((with_reducible refine and_tt ?_ ?_); · exact rfl) | (with_reducible refine And.intro ?_ ?_) | intro _ | (with_reducible refine fin2 hk ?_) | ((with_reducible refine eq_leaf ?_); exact rfl) | exact trivial))
  all_goals try simp only [taskOf_agg, ↓Bool.not_eq_true', ↓Bool.not_eq_false', ↓decT, ↓decF, out_true, out_false, isin_true, isin_false, Int.toNat_natCast, Int.ofNat_lt, Nat.zero_add, Nat.add_zero, Nat.reduceAdd, Int.toNat_zero, Int.reduceToNat, ↓reduceIte, reduceCtorEq, Bool.or_eq_true, Bool.or_eq_false_iff, Bool.and_eq_true, Bool.and_eq_false_iff, cellsD_int, hide_int, toI_int, List.getD_cons_zero, im_imD] at *
  all_goals try ((first | with_reducible refine (?_ : (_ : Int) ≤ _) | with_reducible refine (?_ : (_ : Int) < _) | with_reducible refine (?_ : (_ : Nat) ≤ _)); clear hk hS; first | omega | (have := hn (by assumption); omega))
  all_goals clear hk
  all_goals subst hS
  all_goals try simp only [overT, overS, left00, heightB, taskOf_agg, ↓Bool.not_eq_true', ↓Bool.not_eq_false', ↓decT, ↓decF, out_true, out_false, isin_true, isin_false, Int.toNat_natCast, Int.ofNat_lt, Nat.zero_add, Nat.add_zero, Nat.reduceAdd, Int.toNat_zero, Int.reduceToNat, ↓reduceIte, reduceCtorEq, Bool.or_eq_true, Bool.or_eq_false_iff, Bool.and_eq_true, Bool.and_eq_false_iff]
  all_goals repeat' split
  all_goals first | with_reducible rfl | omega | (simp_all only [reduceCtorEq]; done) | rfl
theorem refOver_ok : PSound Go.Proofs.Try.prog 52 (mk rOver) := by
  refine psound_mk Try.func52 (by kernel_rfl) rfl (ctx lib38_ok) ?_
  (intro ds p d h; unfold rOver at h; split at h <;> first | (cases h; done) | skip; cases h; refine ⟨Nat.le_of_ble_eq_true rfl, fun hp k hk => ?_⟩)
  rename_i n g h
  refine ⟨[.rsl 6 n (imD (im g)), .int .i64 h], rfl, hp, rfl, ?_⟩
  clear hp
  generalize im g = a at *
  generalize hS : overT n a h = c at *
  have hn : (checkBands n a).2 = 0 → 1 ≤ n ∧ n ≤ 20 := fun h => (bands_ok h).len
  repeat' (first | with_reducible rfl | ((conv => whnf); first | (with_reducible exact trivial) | ((with_reducible refine and_ff ?_ ?_); · exact rfl) | ((with_reducible refine and_tt ?_ ?_); · exact rfl) | (with_reducible refine And.intro ?_ ?_) | intro _ | (with_reducible refine fin2 hk ?_) | ((with_reducible refine eq_leaf ?_); exact rfl) | exact trivial))
  all_goals try (exfalso; clear hk hS hn; simp only [taskOf_agg, ↓Bool.not_eq_true', ↓Bool.not_eq_false', ↓decT, ↓decF, out_true, out_false, isin_true, isin_false, Int.toNat_natCast, Int.ofNat_lt, Nat.zero_add, Nat.add_zero, Nat.reduceAdd] at *; omega)
  rotate_left 5
  · rename_i g1 g2 g3
    have E : (checkBands n a).2 = 0 := by
      clear hk hS
      simp only [taskOf_agg, ↓Bool.not_eq_true', ↓Bool.not_eq_false', ↓decT, ↓decF, out_true, out_false, isin_true, isin_false, Int.toNat_natCast, Int.ofNat_lt, Nat.zero_add, Nat.add_zero, Nat.reduceAdd, im_imD] at *
      assumption
    have hh : 0 ≤ h ∧ h ≤ 99999999 := by
      clear hk hS
      simp only [taskOf_agg, ↓Bool.not_eq_true', ↓Bool.not_eq_false', ↓decT, ↓decF, out_true, out_false, isin_true, isin_false, Int.toNat_natCast, Int.ofNat_lt, Nat.zero_add, Nat.add_zero, Nat.reduceAdd, im_imD] at *
      assumption
    have hc : c = overS n a h := by
      rw [← hS, overT, if_neg (fun h => h E), if_neg]
      rw [show heightB h = true from by simp only [heightB, taskOf_agg, ↓Bool.not_eq_true', ↓Bool.not_eq_false', ↓decT, ↓decF, out_true, out_false, isin_true, isin_false, Int.toNat_natCast, Int.ofNat_lt, Nat.zero_add, Nat.add_zero, Nat.reduceAdd]; exact hh]
      exact Bool.noConfusion
    have hb := bands_ok E
    have hl := hb.len
    clear hS hn g1 g2 g3
    refine ⟨Nat, fun i => [(0, .rsl 6 n (imD a)), (1, .int .i64 h), (4, .ptr 0 0), (5, .ptr 1 0), (6, .int .i64 0), (9, .int .i64 i)], fun _ => [some (.row [.int .i64 0, .int .i64 0]), some (.row [.int .i64 0, .int .i64 0])],
      fun i => n - i, fun i => i ≤ n ∧ (∀ j, j < i → ¬ h < a j 1), [], 0, fun _ => ⟨?_, ?_⟩, ?_, fun i hi => ?_⟩
    · conv => lhs; whnf
    · conv => lhs; whnf
    · clear hk
      repeat' (first | with_reducible rfl | ((conv => whnf); first | (with_reducible exact trivial) | ((with_reducible refine and_ff ?_ ?_); · exact rfl) | ((with_reducible refine and_tt ?_ ?_); · exact rfl) | (with_reducible refine And.intro ?_ ?_) | intro _ | (with_reducible refine fin2 hk ?_) | ((with_reducible refine eq_leaf ?_); exact rfl) | exact trivial))
      all_goals first | exact Nat.zero_le _ | (exact absurd (by assumption) (Nat.not_lt_zero _))
    obtain ⟨hi, hq⟩ := hi
    have hfrom : i < n → a i 0 ≤ h := fun g => by
      rw [hb.from0 i g, fromOf]
      split
      · exact hh.1
      · have := hq (i - 1) (by omega); omega
    repeat' (first | with_reducible rfl | ((conv => whnf); first | (with_reducible exact trivial) | ((with_reducible refine and_ff ?_ ?_); · exact rfl) | ((with_reducible refine and_tt ?_ ?_); · exact rfl) | (with_reducible refine And.intro ?_ ?_) | intro _ | (with_reducible refine fin2 hk ?_) | ((with_reducible refine eq_leaf ?_); exact rfl) | exact trivial))
    all_goals try ((first | with_reducible refine (?_ : (_ : Int) ≤ _) | with_reducible refine (?_ : (_ : Int) < _)); clear hk; simp only [taskOf_agg, ↓Bool.not_eq_true', ↓Bool.not_eq_false', ↓decT, ↓decF, out_true, out_false, isin_true, isin_false, Int.toNat_natCast, Int.ofNat_lt, Nat.zero_add, Nat.add_zero, Nat.reduceAdd] at *; omega)
    all_goals try (exfalso; clear hk; simp only [taskOf_agg, ↓Bool.not_eq_true', ↓Bool.not_eq_false', ↓decT, ↓decF, out_true, out_false, isin_true, isin_false, Int.toNat_natCast, Int.ofNat_lt, Nat.zero_add, Nat.add_zero, Nat.reduceAdd] at *; have := hfrom (by omega); omega)
    all_goals try conv => whnf
    rotate_left 5
    · rename_i g1 g2 g3
      clear hk hc hfrom
      simp only [taskOf_agg, ↓Bool.not_eq_true', ↓Bool.not_eq_false', ↓decT, ↓decF, out_true, out_false, isin_true, isin_false, Int.toNat_natCast, Int.ofNat_lt, Nat.zero_add, Nat.add_zero, Nat.reduceAdd] at g1 g2 g3
      refine ⟨i + 1, ?_⟩
      repeat' (first | with_reducible rfl | ((conv => whnf); first | (with_reducible exact trivial) | ((with_reducible refine and_ff ?_ ?_); · exact rfl) | ((with_reducible refine and_tt ?_ ?_); · exact rfl) | (with_reducible refine And.intro ?_ ?_) | intro _ | (with_reducible refine fin2 hk ?_) | ((with_reducible refine eq_leaf ?_); exact rfl) | exact trivial))
      · exact g1
      · rename_i j hj hx
        rcases Nat.lt_or_eq_of_le (Nat.le_of_lt_succ hj) with g | g
        · exact hq j g hx
        · rw [g] at hx; exact g3 hx
      · simp only; omega
    rotate_left 5
    all_goals clear hk
    all_goals simp only [taskOf_agg, ↓Bool.not_eq_true', ↓Bool.not_eq_false', ↓decT, ↓decF, out_true, out_false, isin_true, isin_false, Int.toNat_natCast, Int.ofNat_lt, Nat.zero_add, Nat.add_zero, Nat.reduceAdd] at *
    all_goals first
      | (have e : firstFrom (belowTo a h) 0 n = i := first_is (by assumption) (decide_eq_true (by assumption)) (fun j hj => decide_eq_false (hq j hj))
         rw [hc, overS, e, if_neg (by omega), Int.toNat_natCast]; done)
      | (have e : firstFrom (belowTo a h) 0 n = -1 := first_none (fun j hj => decide_eq_false (hq j (by omega)))
         rw [hc, overS, e, if_pos (by omega)]
         try rfl)
  all_goals clear hk
  all_goals subst hS
  all_goals try simp only [taskOf_agg, ↓Bool.not_eq_true', ↓Bool.not_eq_false', ↓decT, ↓decF, out_true, out_false, isin_true, isin_false, Int.toNat_natCast, Int.ofNat_lt, Nat.zero_add, Nat.add_zero, Nat.reduceAdd, Int.toNat_zero, Int.reduceToNat, ↓reduceIte, reduceCtorEq, Bool.or_eq_true, Bool.or_eq_false_iff, Bool.and_eq_true, Bool.and_eq_false_iff, im_imD] at *
  all_goals try simp only [overT, overS, left00, heightB, taskOf_agg, ↓Bool.not_eq_true', ↓Bool.not_eq_false', ↓decT, ↓decF, out_true, out_false, isin_true, isin_false, Int.toNat_natCast, Int.ofNat_lt, Nat.zero_add, Nat.add_zero, Nat.reduceAdd, Int.toNat_zero, Int.reduceToNat, ↓reduceIte, reduceCtorEq, Bool.or_eq_true, Bool.or_eq_false_iff, Bool.and_eq_true, Bool.and_eq_false_iff]
  all_goals repeat' split
  all_goals first | with_reducible rfl | omega | (simp_all only [reduceCtorEq]; done) | rfl
end Go.Proofs.Ytbkehkiflfhpfaa
