/-
  Contracts of the wind: Over (both).
-/
import Derived.Test.YtlecbjbjgfpfeaaMj
import Derived.Test.YtlecbjbjgfpfeaaMp
section
set_option linter.unusedVariables false
set_option linter.unusedSimpArgs false
set_option maxRecDepth 100000
set_option maxHeartbeats 4000000
namespace Go.Proofs.Ytlecbjbjgfpfeaa
open Go.V
/-- What CheckBands has looked at. -/
structure BandsOK (n : Nat) (a : Nat → Nat → Int) : Prop where
  len : 1 ≤ n ∧ n ≤ 20
  from0 : ∀ i, i < n → a i 0 = fromOf a i
  up : ∀ i, i < n → a i 0 < a i 1 ∧ a i 1 ≤ 100000000
  x : ∀ i, i < n → (-20000 ≤ a i 2 ∧ a i 2 ≤ a i 3 ∧ a i 3 ≤ 20000)
  y : ∀ i, i < n → (-20000 ≤ a i 4 ∧ a i 4 ≤ a i 5 ∧ a i 5 ≤ 20000)
theorem winds_true {a b : Int} (h : winds a b = true) : -20000 ≤ a ∧ a ≤ b ∧ b ≤ 20000 := by
  simp only [winds, isin, Bool.and_eq_true, decide_eq_true_eq] at h
  omega
theorem bands_ok {n : Nat} {a : Nat → Nat → Int} (h : (checkBands n a).2 = 0) : BandsOK n a := by
  unfold checkBands at h
  split at h
  · rename_i h1
    have hz := fun j (hj : j < n) => fe_zero h j (Nat.zero_le j) (by omega : j < 0 + n)
    have hb : ∀ j, j < n → a j 0 = fromOf a j ∧ a j 0 < a j 1 ∧ a j 1 ≤ 100000000 ∧ winds (a j 2) (a j 3) = true ∧ winds (a j 4) (a j 5) = true := fun j hj => by
      have := hz j hj
      unfold bandErr at this
      split at this
      · cases this
      split at this
      · cases this
      split at this
      · cases this
      split at this
      · cases this
      split at this
      · cases this
      rename_i g1 g2 g3 g4 g5
      exact ⟨Classical.not_not.mp g1, by omega, by omega, by simpa using g4, by simpa using g5⟩
    simp only [isin, Bool.and_eq_true, decide_eq_true_eq] at h1
    exact ⟨by omega, fun i hi => (hb i hi).1, fun i hi => ⟨(hb i hi).2.1, (hb i hi).2.2.1⟩, fun i hi => winds_true (hb i hi).2.2.2.1, fun i hi => winds_true (hb i hi).2.2.2.2⟩
  · cases h
attribute [local irreducible] checkBands

theorem cellsD_int (k : IntKind) (n : Int) : cellsD (.int k n) = [.int k n] := rfl
theorem hide_int (H : HL) (k : IntKind) (n : Int) : hide H (.int k n) = .int k n := rfl
theorem toI_int (k : IntKind) (n : Int) : toI (.int k n) = n := rfl
/-- The wind at a height, by bands. -/
def belowTo (a : Nat → Nat → Int) (h : Int) (i : Nat) : Bool := decide (h < a i 1)
def overS (n : Nat) (a : Nat → Nat → Int) (h : Int) : Left × Int :=
  if firstFrom (belowTo a h) 0 n < 0 then (left00, 4) else (⟨a (firstFrom (belowTo a h) 0 n).toNat 2, a (firstFrom (belowTo a h) 0 n).toNat 3, a (firstFrom (belowTo a h) 0 n).toNat 4, a (firstFrom (belowTo a h) 0 n).toNat 5⟩, 0)
def overT (n : Nat) (a : Nat → Nat → Int) (h : Int) : Left × Int := if (checkBands n a).2 ≠ 0 then (left00, (checkBands n a).2) else if heightB h = false then (left00, 7) else overS n a h
def rOver : List V.D → Option (Prop × V.D) := fun ds => match ds with
  | [.rsl 6 n g, .int .i64 h] => some (IM n 6 g, spansD (overT n (im g) h).1 (overT n (im g) h).2)
  | _ => none

def rOver1 : List V.D → Option (Prop × V.D) := fun ds => match ds with
  | [.agg [.int .i64 b0, .int .i64 b1, .int .i64 b2, .int .i64 b3, .int .i64 b4, .int .i64 b5], .eptr 1 g] => some (g 0 = .int .i64 (toI (g 0)), .bool (decide (toI (g 0) < b1)))
  | _ => none
theorem over1_ok : PSound Go.Proofs.Try.prog 48 (mk rOver1) := by
  refine psound_mk Try.func48 (by kernel_rfl) rfl (ctx (.nil _)) ?_
  (intro ds p d h; unfold rOver1 at h; split at h <;> first | (cases h; done) | skip; cases h; refine ⟨Nat.le_of_ble_eq_true rfl, fun hp k hk => ?_⟩)
  rename_i b0 b1 b2 b3 b4 b5 g
  generalize toI (g 0) = h at *
  refine ⟨[.agg [.int .i64 b0, .int .i64 b1, .int .i64 b2, .int .i64 b3, .int .i64 b4, .int .i64 b5], .eptr 1 fun _ => .int .i64 h], rfl, rfl, rfl, rfl, rfl, rfl, rfl, fun j hj => ?_, ?_⟩
  · obtain rfl : j = 0 := by omega
    exact hp
  clear hp
  repeat' (first | ((with_reducible refine kok ?_); kernel_rfl) | ((with_reducible refine keq_mk ?_); kernel_rfl) | with_reducible rfl | ((conv => whnf); first | (with_reducible exact trivial) | ((with_reducible refine and_ff ?_ ?_); · exact rfl) | ((with_reducible refine and_tt ?_ ?_); · exact rfl) | (with_reducible refine And.intro ?_ ?_) | intro _ | (with_reducible refine fin2 hk ?_) | ((with_reducible refine eq_leaf ?_); exact rfl) | exact trivial))
noncomputable def lib37 : Lib := (48, mk rOver1) :: lib36
theorem lib37_ok : LibOK Go.Proofs.Try.prog lib37 := .cons over1_ok lib36_ok
def rIndexBand : List V.D → Option (Prop × V.D) := fun ds => match ds with
  | [.rsl 6 n g, .fn 48 [] [.eptr 1 e]] => some (IM n 6 g ∧ n ≤ 1099511627776 ∧ e 0 = .int .i64 (toI (e 0)), .int .i64 (firstFrom (belowTo (im g) (toI (e 0))) 0 n))
  | _ => none
theorem indexBand_ok : PSound Go.Proofs.Try.prog 47 (mk rIndexBand) := by
  refine psound_mk Try.func47 (by kernel_rfl) rfl (ctx lib37_ok) ?_
  (intro ds p d h; unfold rIndexBand at h; split at h <;> first | (cases h; done) | skip; cases h; refine ⟨Nat.le_of_ble_eq_true rfl, fun hp k hk => ?_⟩)
  rename_i n g e
  obtain ⟨h1, h2, h3⟩ := hp
  have h4 : toI (e 0) = toI (e 0) := rfl
  generalize hH : toI (e 0) = h at *
  clear h4
  refine ⟨[.rsl 6 n (imD (im g)), .fn 48 [] [.eptr 1 e]], rfl, h1, ?_⟩
  clear h1
  generalize im g = a at *
  generalize hS : firstFrom (belowTo a h) 0 n = c at *
  repeat' (first | ((with_reducible refine kok ?_); kernel_rfl) | ((with_reducible refine keq_mk ?_); kernel_rfl) | with_reducible rfl | ((conv => whnf); first | (with_reducible exact trivial) | ((with_reducible refine and_ff ?_ ?_); · exact rfl) | ((with_reducible refine and_tt ?_ ?_); · exact rfl) | (with_reducible refine And.intro ?_ ?_) | intro _ | (with_reducible refine fin2 hk ?_) | ((with_reducible refine eq_leaf ?_); exact rfl) | exact trivial))
  refine ⟨Nat, fun i => [(0, .rsl 6 n (imD a)), (1, .fn 48 [] [.eptr 1 e]), (7, .int .i64 n), (8, .int .i64 i)], fun _ => [], fun i => n - i, fun i => i ≤ n ∧ c = firstFrom (belowTo a h) i (n - i), [], 0, fun _ => ⟨rfl, rfl⟩, ?_, fun i hI => ?_⟩
  · clear hk
    repeat' (first | ((with_reducible refine kok ?_); kernel_rfl) | ((with_reducible refine keq_mk ?_); kernel_rfl) | with_reducible rfl | ((conv => whnf); first | (with_reducible exact trivial) | ((with_reducible refine and_ff ?_ ?_); · exact rfl) | ((with_reducible refine and_tt ?_ ?_); · exact rfl) | (with_reducible refine And.intro ?_ ?_) | intro _ | (with_reducible refine fin2 hk ?_) | ((with_reducible refine eq_leaf ?_); exact rfl) | exact trivial))
    · omega
    · exact hS.symm
  obtain ⟨hi, hc⟩ := hI
  clear hS
  repeat' (first | ((with_reducible refine kok ?_); kernel_rfl) | ((with_reducible refine keq_mk ?_); kernel_rfl) | with_reducible rfl | ((conv => whnf); first | (with_reducible exact trivial) | ((with_reducible refine and_ff ?_ ?_); · exact rfl) | ((with_reducible refine and_tt ?_ ?_); · exact rfl) | (with_reducible refine And.intro ?_ ?_) | intro _ | (with_reducible refine fin2 hk ?_) | ((with_reducible refine eq_leaf ?_); exact rfl) | exact trivial))
  all_goals try ((first | with_reducible refine (?_ : (_ : Int) ≤ _) | with_reducible refine (?_ : (_ : Int) < _)); clear hk hc h3 hH; simp only [taskOf_agg, ↓Bool.not_eq_true', ↓Bool.not_eq_false', ↓decT, ↓decF, out_true, out_false, isin_true, isin_false, Int.toNat_natCast, Int.ofNat_lt, Nat.zero_add, Nat.add_zero, Nat.reduceAdd] at *; omega)
  · exact h3.trans (congrArg _ hH.symm)
  · rename_i g1 g2
    clear hk
    simp only [taskOf_agg, ↓Bool.not_eq_true', ↓Bool.not_eq_false', ↓decT, ↓decF, out_true, out_false, isin_true, isin_false, Int.toNat_natCast, Int.ofNat_lt, Nat.zero_add, Nat.add_zero, Nat.reduceAdd] at g1 g2
    rw [hH] at g2
    rw [firstFrom_step g1, if_pos (by rw [belowTo]; exact decide_eq_true g2)] at hc
    exact hc.symm
  · rename_i g1 g2
    clear hk
    simp only [taskOf_agg, ↓Bool.not_eq_true', ↓Bool.not_eq_false', ↓decT, ↓decF, out_true, out_false, isin_true, isin_false, Int.toNat_natCast, Int.ofNat_lt, Nat.zero_add, Nat.add_zero, Nat.reduceAdd] at g1 g2
    rw [hH] at g2
    rw [firstFrom_step g1, if_neg (by rw [belowTo, decide_eq_false g2]; exact Bool.noConfusion)] at hc
    refine ⟨i + 1, ?_⟩
    repeat' (first | ((with_reducible refine kok ?_); kernel_rfl) | ((with_reducible refine keq_mk ?_); kernel_rfl) | with_reducible rfl | ((conv => whnf); first | (with_reducible exact trivial) | ((with_reducible refine and_ff ?_ ?_); · exact rfl) | ((with_reducible refine and_tt ?_ ?_); · exact rfl) | (with_reducible refine And.intro ?_ ?_) | intro _ | (with_reducible refine fin2 hk ?_) | ((with_reducible refine eq_leaf ?_); exact rfl) | exact trivial))
    · exact g1
    · exact hc
    · simp only; omega
  · rename_i g1
    clear hk
    simp only [taskOf_agg, ↓Bool.not_eq_true', ↓Bool.not_eq_false', ↓decT, ↓decF, out_true, out_false, isin_true, isin_false, Int.toNat_natCast, Int.ofNat_lt, Nat.zero_add, Nat.add_zero, Nat.reduceAdd] at g1
    rw [firstFrom_end (by omega)] at hc
    exact hc.symm
noncomputable def lib38 : Lib := (47, mk rIndexBand) :: lib37
theorem lib38_ok : LibOK Go.Proofs.Try.prog lib38 := .cons indexBand_ok lib37_ok
theorem first_lt (p : Nat → Bool) (n : Nat) : firstFrom p 0 n = -1 ∨ (0 ≤ firstFrom p 0 n ∧ firstFrom p 0 n < n) := by
  rcases firstFrom_spec p n 0 with ⟨h, _⟩ | ⟨m, h, _, h2, _⟩
  · exact .inl h
  · right; omega
theorem first_is {p : Nat → Bool} {n i : Nat} (hi : i < n) (h : p i = true) (hq : ∀ j, j < i → p j = false) : firstFrom p 0 n = i := by
  rcases firstFrom_spec p n 0 with ⟨h1, h2⟩ | ⟨m, h1, _, h3, h4, h5⟩
  · rw [h2 i (by omega) (by omega)] at h; cases h
  · have : m = i := by
      rcases Nat.lt_trichotomy m i with g | g | g
      · rw [hq m g] at h4; cases h4
      · exact g
      · rw [h5 i (by omega) g] at h; cases h
    rw [h1, this]
theorem first_none {p : Nat → Bool} {n : Nat} (hq : ∀ j, j < n → p j = false) : firstFrom p 0 n = -1 := by
  rcases firstFrom_spec p n 0 with ⟨h1, h2⟩ | ⟨m, h1, _, h3, h4, h5⟩
  · exact h1
  · rw [hq m (by omega)] at h4; cases h4
theorem windOver_ok : PSound Go.Proofs.Try.prog 23 (mk rOver) := by
  refine psound_mk Try.func23 (by kernel_rfl) rfl (ctx lib38_ok) ?_
  (intro ds p d h; unfold rOver at h; split at h <;> first | (cases h; done) | skip; cases h; refine ⟨Nat.le_of_ble_eq_true rfl, fun hp k hk => ?_⟩)
  rename_i n g h
  refine ⟨[.rsl 6 n (imD (im g)), .int .i64 h], rfl, hp, rfl, ?_⟩
  clear hp
  generalize im g = a at *
  generalize hS : overT n a h = c at *
  have hn : (checkBands n a).2 = 0 → 1 ≤ n ∧ n ≤ 20 := fun h => (bands_ok h).len
  have hf := first_lt (belowTo a h) n
  repeat' (first | ((with_reducible refine kok ?_); kernel_rfl) | ((with_reducible refine keq_mk ?_); kernel_rfl) | with_reducible rfl | ((conv => whnf); first | (with_reducible exact trivial) | ((with_reducible refine and_ff ?_ ?_); · exact rfl) | ((with_reducible refine and_tt ?_ ?_); · exact rfl) | (with_reducible refine And.intro ?_ ?_) | intro _ | (with_reducible refine fin2 hk ?_) | ((with_reducible refine eq_leaf ?_); exact rfl) | exact trivial))
  all_goals try simp only [taskOf_agg, ↓Bool.not_eq_true', ↓Bool.not_eq_false', ↓decT, ↓decF, out_true, out_false, isin_true, isin_false, Int.toNat_natCast, Int.ofNat_lt, Nat.zero_add, Nat.add_zero, Nat.reduceAdd, Int.toNat_zero, Int.reduceToNat, ↓reduceIte, reduceCtorEq, Bool.or_eq_true, Bool.or_eq_false_iff, Bool.and_eq_true, Bool.and_eq_false_iff, cellsD_int, hide_int, toI_int, List.getD_cons_zero, im_imD] at *
  all_goals try ((first | with_reducible refine (?_ : (_ : Int) ≤ _) | with_reducible refine (?_ : (_ : Int) < _) | with_reducible refine (?_ : (_ : Nat) ≤ _)); clear hk hS; first | omega | (have := hn (by assumption); omega))
  all_goals clear hk
  all_goals subst hS
  all_goals try simp only [overT, overS, left00, heightB, taskOf_agg, ↓Bool.not_eq_true', ↓Bool.not_eq_false', ↓decT, ↓decF, out_true, out_false, isin_true, isin_false, Int.toNat_natCast, Int.ofNat_lt, Nat.zero_add, Nat.add_zero, Nat.reduceAdd, Int.toNat_zero, Int.reduceToNat, ↓reduceIte, reduceCtorEq, Bool.or_eq_true, Bool.or_eq_false_iff, Bool.and_eq_true, Bool.and_eq_false_iff]
  all_goals repeat' split
  all_goals first | with_reducible rfl | omega | (simp_all only [reduceCtorEq]; done) | rfl
end Go.Proofs.Ytlecbjbjgfpfeaa
end
section
set_option linter.unusedVariables false
set_option linter.unusedSimpArgs false
set_option maxRecDepth 100000
set_option maxHeartbeats 4000000
namespace Go.Proofs.Ytlecbjbjgfpfeaa
open Go.V
attribute [local irreducible] checkBands
noncomputable def lib39 : Lib := (23, mk rOver) :: lib38
theorem lib39_ok : LibOK Go.Proofs.Try.prog lib39 := .cons windOver_ok lib38_ok

def inB (a b : Nat → Nat → Int) (i k : Nat) : Prop := a i 2 ≤ b k 2 ∧ b k 3 ≤ a i 3 ∧ a i 4 ≤ b k 4 ∧ b k 5 ≤ a i 5
def meetB (a b : Nat → Nat → Int) (i k : Nat) : Prop := max (a i 0) (b k 0) < min (a i 1) (b k 1)
/-- Bands cover other ones. -/
def Cov (n : Nat) (a : Nat → Nat → Int) (m : Nat) (b : Nat → Nat → Int) : Prop := b (m - 1) 1 ≤ a (n - 1) 1 ∧ ∀ i k, i < n → k < m → meetB a b i k → inB a b i k
open Classical in
noncomputable def covB (n : Nat) (a : Nat → Nat → Int) (m : Nat) (b : Nat → Nat → Int) : Bool := decide (Cov n a m b)
noncomputable def coversT (n : Nat) (a : Nat → Nat → Int) (m : Nat) (b : Nat → Nat → Int) : Bool × Int :=
  if (checkBands n a).2 ≠ 0 then (false, (checkBands n a).2) else if (checkBands m b).2 ≠ 0 then (false, (checkBands m b).2) else (covB n a m b, 0)
noncomputable def rCovers : List V.D → Option (Prop × V.D) := fun ds => match ds with
  | [.rsl 6 n g, .rsl 6 m h] => some (IM n 6 g ∧ IM m 6 h, .tup [.bool (coversT n (im g) m (im h)).1, .int .i64 (coversT n (im g) m (im h)).2])
  | _ => none
/-- What two places in the lists have left behind. -/
def CovTo (n : Nat) (a : Nat → Nat → Int) (m : Nat) (b : Nat → Nat → Int) (i k : Nat) : Prop := ∀ i' k', i' < n → k' < m → (i' < i ∨ k' < k) → meetB a b i' k' → inB a b i' k'
attribute [local irreducible] inB meetB CovTo
theorem covB_true {n m : Nat} {a b : Nat → Nat → Int} (h : Cov n a m b) : covB n a m b = true := by unfold covB; rw [decT]; exact h
theorem covB_false {n m : Nat} {a b : Nat → Nat → Int} (h : ¬ Cov n a m b) : covB n a m b = false := by unfold covB; rw [decF]; exact h
theorem cov_last {n m : Nat} {a b : Nat → Nat → Int} (hn : 1 ≤ n) (hm : 1 ≤ m) (g : a ((n : Int) - 1).toNat 1 < b ((m : Int) - 1).toNat 1) : covB n a m b = false := covB_false fun hC => by
  have := hC.1
  rw [show ((n : Int) - 1).toNat = n - 1 by omega, show ((m : Int) - 1).toNat = m - 1 by omega] at g
  omega
theorem BandsOK.step {n : Nat} {a : Nat → Nat → Int} (h : BandsOK n a) {i : Nat} (hi : i + 1 < n) : a (i + 1) 0 = a i 1 := by
  rw [h.from0 (i + 1) hi, fromOf, if_neg (by omega)]; rfl
theorem BandsOK.zero {n : Nat} {a : Nat → Nat → Int} (h : BandsOK n a) : a 0 0 = 0 := by
  rw [h.from0 0 (by have := h.len; omega)]; rfl
theorem BandsOK.mono {n : Nat} {a : Nat → Nat → Int} (h : BandsOK n a) {i : Nat} (j : Nat) (h1 : i ≤ j) (h2 : j < n) : a i 1 ≤ a j 1 := by
  induction j with
  | zero => rw [show i = 0 by omega]; exact Int.le_refl _
  | succ j ih =>
    rcases Nat.lt_or_eq_of_le h1 with g | rfl
    · have g1 := ih (by omega) (by omega)
      have g2 := h.step h2
      have g3 := (h.up (j + 1) h2).1
      omega
    · exact Int.le_refl _
theorem BandsOK.above {n : Nat} {a : Nat → Nat → Int} (h : BandsOK n a) {i j : Nat} (h1 : i < j) (h2 : j < n) : a i 1 ≤ a j 0 := by
  obtain ⟨j, rfl⟩ : ∃ k, j = k + 1 := ⟨j - 1, by omega⟩
  rw [h.step h2]
  exact h.mono j (by omega) (by omega)
theorem fromOf_last {n : Nat} {a : Nat → Nat → Int} (h : 1 ≤ n) : fromOf a n = a (n - 1) 1 := by rw [fromOf, if_neg (by omega)]
theorem fromOf_succ (a : Nat → Nat → Int) (i : Nat) : fromOf a (i + 1) = a i 1 := by rw [fromOf, if_neg (by omega)]; rfl
theorem cov_meet {n m : Nat} {a b : Nat → Nat → Int} (hA : BandsOK n a) (hB : BandsOK m b) {i l : Nat} (hi : i < n) (hl : l < m) (h1 : fromOf a i < b l 1) (h2 : fromOf b l < a i 1) : meetB a b i l := by
  have e1 := hA.from0 i hi
  have e2 := hB.from0 l hl
  have u1 := hA.up i hi
  have u2 := hB.up l hl
  unfold meetB
  omega
theorem cov_i {n m : Nat} {a b : Nat → Nat → Int} (hB : BandsOK m b) {i l : Nat} (h : CovTo n a m b i l) (hin : inB a b i l) (hle : a i 1 ≤ b l 1) : CovTo n a m b (i + 1) l := by
  unfold CovTo at *
  intro i' k' hi' hk' hor hm
  by_cases g : i' < i ∨ k' < l
  · exact h i' k' hi' hk' g hm
  · have e : i' = i := by omega
    subst e
    by_cases g2 : k' = l
    · subst g2; exact hin
    · exfalso
      have := hB.above (i := l) (j := k') (by omega) hk'
      unfold meetB at hm
      omega
theorem cov_l {n m : Nat} {a b : Nat → Nat → Int} (hA : BandsOK n a) {i l : Nat} (h : CovTo n a m b i l) (hin : inB a b i l) (hle : b l 1 ≤ a i 1) : CovTo n a m b i (l + 1) := by
  unfold CovTo at *
  intro i' k' hi' hk' hor hm
  by_cases g : i' < i ∨ k' < l
  · exact h i' k' hi' hk' g hm
  · have e : k' = l := by omega
    subst e
    by_cases g2 : i' = i
    · subst g2; exact hin
    · exfalso
      have := hA.above (i := i) (j := i') (by omega) hi'
      unfold meetB at hm
      omega
theorem cov_end {n m : Nat} {a b : Nat → Nat → Int} (hA : BandsOK n a) (hB : BandsOK m b) {i l : Nat} (hl : l = m) (h3 : fromOf b l ≤ a (n - 1) 1) (hq : CovTo n a m b i l) : covB n a m b = true := by
  subst hl
  refine covB_true ⟨?_, fun i' k' hi' hk' hm => ?_⟩
  · rw [fromOf_last hB.len.1] at h3; exact h3
  · unfold CovTo at hq
    exact hq i' k' hi' hk' (.inr hk') hm
theorem cov_not {n m : Nat} {a b : Nat → Nat → Int} (hA : BandsOK n a) (hB : BandsOK m b) {i l : Nat} (hi : i = n) (hl : l < m) (h1 : fromOf a i < b l 1) : covB n a m b = false := by
  subst hi
  refine covB_false fun hC => ?_
  have h2 := hC.1
  have h3 := hB.mono (i := l) (m - 1) (by omega) (by omega)
  rw [fromOf_last hA.len.1] at h1
  omega
theorem cov_bad {n m : Nat} {a b : Nat → Nat → Int} (hA : BandsOK n a) (hB : BandsOK m b) {i l : Nat} (hi : i < n) (hl : l < m) (h1 : fromOf a i < b l 1) (h2 : fromOf b l < a i 1) (hb : ¬ inB a b i l) : covB n a m b = false :=
  covB_false fun hC => hb (hC.2 i l hi hl (cov_meet hA hB hi hl h1 h2))
theorem cov_from {n : Nat} {a : Nat → Nat → Int} (hA : BandsOK n a) {i : Nat} (hi : i + 1 < n) : a i 1 < a (i + 1) 1 := by
  have h1 := hA.step hi
  have h2 := (hA.up (i + 1) hi).1
  omega
end Go.Proofs.Ytlecbjbjgfpfeaa
end
section
set_option linter.unusedVariables false
set_option linter.unusedSimpArgs false
set_option maxRecDepth 100000
set_option maxHeartbeats 4000000
namespace Go.Proofs.Ytlecbjbjgfpfeaa
open Go.V

noncomputable def lrf3 : Lib := (8, mk rBytes) :: (12, mk (rConst .tt)) :: (11, mk rSameT) :: lrf1
theorem lrf3_ok : LibOK Go.Proofs.Try.prog lrf3 := .cons bytes_ok (.cons awake_ok (.cons sameT_ok lrf1_ok))
noncomputable def Lby : Libs := ⟨lrf3, [(6, frameC rWriteC), (9, newC (mk rRead))], [], []⟩
theorem Lby_ok : LibsOK Go.Proofs.Try.prog Lby := ⟨lrf3_ok, asGet_cons (csound_frame fWrite_ok) (asGet_cons (csound_new fRead_ok) (fun g s h => by cases h)), fun f r h => (by cases h), fun f r h => (by cases h)⟩
theorem TEq.symm {t u : Task} (h : TEq t u) : TEq u t := ⟨h.ns.symm, h.nx.symm, h.nc.symm, fun i hi => (h.nm i (by rw [← h.ns]; exact hi)).symm, fun i j hi hj => (h.sa i j (by rw [← h.ns]; exact hi) hj).symm, fun i j hi hj => (h.xa i j (by rw [← h.nx]; exact hi) hj).symm, fun i hi => (h.ca i (by rw [← h.nc]; exact hi)).symm, h.age.symm, h.shear.symm⟩
theorem bytC_file (t : Task) : BytC (fileL t).length (byL (fileL t)) := ⟨fun i _ => rfl, (BL.file t).byt⟩
/-- Write of Read is the same bytes. -/
theorem write_read {n : Nat} {f : Nat → Int} (hb : Byt n f) (h : readE n f = 0) : strF (toF (byL (fileL (readT f)))) 0 (fileL (readT f)).length = strF (toF (bD f)) 0 n := by
  obtain ⟨_, h2, _⟩ := read_form h
  obtain ⟨e1, e2⟩ := file_of_read hb h2
  rw [e1]
  unfold strF
  congr 1
  refine List.map_congr_left fun i hi => ?_
  have hi := List.mem_range.1 hi
  have h3 := e2 i (by rw [e1]; exact hi)
  rw [Nat.zero_add] at h3 ⊢
  exact h3.symm
theorem readR_check {n : Nat} {f : Nat → Int} (h : readE n f = 0) : checkE (readR n f) = 0 := by
  rw [readR_0 h]
  exact (read_form h).2.2
theorem readR_fits {n : Nat} {f : Nat → Int} (h : readE n f = 0) : (readR n f).fits := by
  rw [readR_0 h]
  obtain ⟨h1, h2, _⟩ := read_form h
  exact fun i hi => read_fits (form_n h2).1 h1 hi
theorem read_write {t : Task} (h : checkE t = 0) : readE (fileL t).length (toF (byL (fileL t))) = 0 := (read_file h).1
theorem read_writeT {t : Task} (h : checkE t = 0) : TEq t (readR (fileL t).length (toF (byL (fileL t)))) := by
  rw [readR_0 (read_write h)]
  exact (read_file h).2.symm
theorem file_pos (t : Task) : 2 ≤ (fileL t).length := by
  have := file_len t
  omega
/-- One byte set. -/
def setB (l : List Int) (k : Nat) (b : Int) (i' j' : Nat) : V.D := if i' = k ∧ 0 ≤ j' ∧ j' < 0 + (cellsD (.int .u8 b)).length then ((cellsD (.int .u8 b)).map bl).getD (j' - 0) .top else byL l i' j'
theorem setB_eq (l : List Int) (k : Nat) (b : Int) (i : Nat) : setB l k b i 0 = .int .u8 (if i = k then b else l.getD i 0) := by
  unfold setB
  by_cases h : i = k
  · rw [if_pos h, if_pos ⟨h, Nat.zero_le _, Nat.zero_lt_succ _⟩]
    rfl
  · rw [if_neg h, if_neg fun g => h g.1]
    rfl
theorem setB_to (l : List Int) (k : Nat) (b : Int) (i : Nat) : toF (setB l k b) i = if i = k then b else l.getD i 0 := by
  unfold toF
  rw [setB_eq]
  rfl
theorem bytC_set {l : List Int} {k : Nat} {b : Int} (h : BytC l.length (byL l)) (hb : 0 ≤ b ∧ b ≤ 255) : BytC l.length (setB l k b) := by
  refine ⟨fun i hi => ?_, fun i hi => ?_⟩
  · rw [setB_to, setB_eq]
  · rw [setB_to]
    split
    · omega
    · exact h.2 i hi
theorem read_set {l : List Int} {k : Nat} {b : Int} (h : BytC l.length (byL l)) (hb : 0 ≤ b ∧ b ≤ 255) (hk : k < l.length) (hne : l.getD k 0 ≠ b) (hr : readE l.length (toF (byL l)) = 0) : readE l.length (toF (setB l k b)) = 6 := by
  refine readE_changed h.2 (bytC_set h hb).2 hk ?_ (fun i _ hi => ?_) hr
  · rw [setB_to, if_pos rfl]
    exact hne
  · rw [setB_to, if_neg hi]
    rfl
attribute [local irreducible] checkS fileL bodyL srcsL sndsL cutsL hdL srcL sndL cutL sumL numL strL putsL readE readR readT strF BytC
def rLBytes : List V.D → Option (Prop × V.D) := fun ds => match ds with
  | [d, .rsl 1 n g, .agg [.int .u16 p, .int .u8 b]] => some ((TaskIs d ∧ (taskOf d).fits) ∧ (BytC n g ∧ n ≤ 9223372036854775807) ∧ (0 ≤ p ∧ p ≤ 65535) ∧ 0 ≤ b ∧ b ≤ 255, .tt)
  | _ => none
theorem lawBytes_ok : PSound Go.Proofs.Try.prog 4 (mk rLBytes) := by
  refine psound_mk Try.func4 (by kernel_rfl) rfl (ctxA Lby_ok) ?_
  (intro ds p d h; unfold rLBytes at h; split at h <;> first | (cases h; done) | skip; cases h; refine ⟨Nat.le_of_ble_eq_true rfl, fun hp k hk => ?_⟩)
  rename_i d n g p b
  obtain ⟨⟨ht, hf⟩, ⟨hB, hn⟩, hp, hb⟩ := hp
  refine ⟨[(taskOf d).D, .rsl 1 n (bD (toF g)), .agg [.int .u16 p, .int .u8 b]], task_imp ht ⟨rfl, bytC_imp hB, rfl, rfl, ?_⟩⟩
  clear ht
  have hy := bytC_byt hB
  have hB : BytC n (bD (toF g)) := bytC_bD hy
  generalize toF g = f at *
  generalize taskOf d = t at *
  have f0 := file_pos t
  have c0 : checkE t = 0 → readE (fileL t).length (toF (byL (fileL t))) = 0 := read_write
  have c1 : checkE t = 0 → TEq t (readR (fileL t).length (toF (byL (fileL t)))) := read_writeT
  have m1 : p.tmod ((fileL t).length : Int) < (fileL t).length := Int.tmod_lt_of_pos _ (by omega)
  have m2 : (p.tmod ((fileL t).length : Int)).toNat < (fileL t).length := by
    have := Int.tmod_nonneg ((fileL t).length : Int) hp.1
    omega
  have r1 : ∀ n f, (readR n f).ns ≤ 1099511627776 := fun n f => Nat.le_trans (readR_small n f).1 (Nat.le_of_ble_eq_true rfl)
  have r2 : ∀ n f, (readR n f).nx ≤ 1099511627776 := fun n f => Nat.le_trans (readR_small n f).2.1 (Nat.le_of_ble_eq_true rfl)
  have r3 : ∀ n f, (readR n f).nc ≤ 1099511627776 := fun n f => Nat.le_trans (readR_small n f).2.2 (Nat.le_of_ble_eq_true rfl)
  repeat' (first | ((with_reducible refine kok ?_); kernel_rfl) | ((with_reducible refine keq_mk ?_); kernel_rfl) | with_reducible rfl | ((conv => whnf); first | (with_reducible exact trivial) | ((with_reducible refine and_ff ?_ ?_); · exact rfl) | ((with_reducible refine and_tt ?_ ?_); · exact rfl) | (with_reducible refine And.intro ?_ ?_) | intro _ | (with_reducible refine fin2 hk ?_) | ((with_reducible refine eq_leaf ?_); exact rfl) | exact trivial))
  · exact hB
  · exact hn
  rotate_left
  · conv => whnf
    refine ⟨t, rfl, rfl, hf, fun h => ?_, fun h => ?_⟩
    · repeat' (first | ((with_reducible refine kok ?_); kernel_rfl) | ((with_reducible refine keq_mk ?_); kernel_rfl) | with_reducible rfl | ((conv => whnf); first | (with_reducible exact trivial) | ((with_reducible refine and_ff ?_ ?_); · exact rfl) | ((with_reducible refine and_tt ?_ ?_); · exact rfl) | (with_reducible refine And.intro ?_ ?_) | intro _ | (with_reducible refine fin2 hk ?_) | ((with_reducible refine eq_leaf ?_); exact rfl) | exact trivial))
      all_goals (
        exfalso
        clear hk
        simp only [taskOf_agg, ↓Bool.not_eq_true', ↓Bool.not_eq_false', ↓decT, ↓decF, out_true, out_false, isin_true, isin_false, Int.toNat_natCast, Int.ofNat_lt, Nat.zero_add, Nat.add_zero, Nat.reduceAdd] at *
        contradiction)
    · have c0 := c0 h
      have c1 := c1 h
      have c2 := file_le h
      repeat' (first | ((with_reducible refine kok ?_); kernel_rfl) | ((with_reducible refine keq_mk ?_); kernel_rfl) | with_reducible rfl | ((conv => whnf); first | (with_reducible exact trivial) | ((with_reducible refine and_ff ?_ ?_); · exact rfl) | ((with_reducible refine and_tt ?_ ?_); · exact rfl) | (with_reducible refine And.intro ?_ ?_) | intro _ | (with_reducible refine fin2 hk ?_) | ((with_reducible refine eq_leaf ?_); exact rfl) | exact trivial))
      all_goals first
        | exact bytC_file t
        | exact bytC_set (bytC_file t) hb
        | exact Nat.le_trans c2 (Nat.le_of_ble_eq_true rfl)
        | exact c1
        | exact r1 _ _
        | exact r2 _ _
        | exact r3 _ _
        | exact Int.tmod_nonneg _ hp.1
        | exact m1
        | exact m2
        | (clear hk c0 c1; simp only [taskOf_agg, ↓Bool.not_eq_true', ↓Bool.not_eq_false', ↓decT, ↓decF, out_true, out_false, isin_true, isin_false, Int.toNat_natCast, Int.ofNat_lt, Nat.zero_add, Nat.add_zero, Nat.reduceAdd] at *; omega)
        | (exfalso
           clear hk
           rename_i q
           first
             | (rw [c0] at q; exact absurd q (by decide))
             | (have q := of_decide_eq_true q; omega)
             | (rename_i q0
                exact absurd (read_set (bytC_file t) hb m2 (of_decide_eq_false q0) c0) (of_decide_eq_false q)))
        | skip
  rename_i q
  have q : readE n f = 0 := of_decide_eq_true q
  have q2 : n ≤ 2000 := (read_form q).1
  have q3 : (fileL (readR n f)).length ≤ 2000 := file_le (readR_check q)
  have q4 : strF (toF (byL (fileL (readR n f)))) 0 (fileL (readR n f)).length = strF (toF (bD f)) 0 n := by
    rw [readR_0 q]
    exact write_read hy q
  conv => whnf
  refine ⟨readR n (toF (bD f)), rfl, rfl, readR_fits q, fun h => absurd (readR_check q) h, fun _ => ?_⟩
  repeat' (first | ((with_reducible refine kok ?_); kernel_rfl) | ((with_reducible refine keq_mk ?_); kernel_rfl) | with_reducible rfl | ((conv => whnf); first | (with_reducible exact trivial) | ((with_reducible refine and_ff ?_ ?_); · exact rfl) | ((with_reducible refine and_tt ?_ ?_); · exact rfl) | (with_reducible refine And.intro ?_ ?_) | intro _ | (with_reducible refine fin2 hk ?_) | ((with_reducible refine eq_leaf ?_); exact rfl) | exact trivial))
  · exact bytC_file _
  · exact hB
  · exact Nat.le_trans q3 (Nat.le_of_ble_eq_true rfl)
  · exact Nat.le_trans q2 (Nat.le_of_ble_eq_true rfl)
  · exfalso
    clear hk
    rename_i g
    have g : (!decide (strF (toF (byL (fileL (readR n f)))) 0 (fileL (readR n f)).length = strF (toF (bD f)) 0 n)) = true := g
    rw [q4] at g
    simp at g
  clear q q2 q3 q4
  conv => whnf
  refine ⟨t, rfl, rfl, hf, fun h => ?_, fun h => ?_⟩
  · repeat' (first | ((with_reducible refine kok ?_); kernel_rfl) | ((with_reducible refine keq_mk ?_); kernel_rfl) | with_reducible rfl | ((conv => whnf); first | (with_reducible exact trivial) | ((with_reducible refine and_ff ?_ ?_); · exact rfl) | ((with_reducible refine and_tt ?_ ?_); · exact rfl) | (with_reducible refine And.intro ?_ ?_) | intro _ | (with_reducible refine fin2 hk ?_) | ((with_reducible refine eq_leaf ?_); exact rfl) | exact trivial))
    all_goals (
      exfalso
      clear hk
      simp only [taskOf_agg, ↓Bool.not_eq_true', ↓Bool.not_eq_false', ↓decT, ↓decF, out_true, out_false, isin_true, isin_false, Int.toNat_natCast, Int.ofNat_lt, Nat.zero_add, Nat.add_zero, Nat.reduceAdd] at *
      contradiction)
  · have c0 := c0 h
    have c1 := c1 h
    have c2 := file_le h
    repeat' (first | ((with_reducible refine kok ?_); kernel_rfl) | ((with_reducible refine keq_mk ?_); kernel_rfl) | with_reducible rfl | ((conv => whnf); first | (with_reducible exact trivial) | ((with_reducible refine and_ff ?_ ?_); · exact rfl) | ((with_reducible refine and_tt ?_ ?_); · exact rfl) | (with_reducible refine And.intro ?_ ?_) | intro _ | (with_reducible refine fin2 hk ?_) | ((with_reducible refine eq_leaf ?_); exact rfl) | exact trivial))
    all_goals first
      | exact bytC_file t
      | exact bytC_set (bytC_file t) hb
      | exact Nat.le_trans c2 (Nat.le_of_ble_eq_true rfl)
      | exact c1
      | exact r1 _ _
      | exact r2 _ _
      | exact r3 _ _
      | exact Int.tmod_nonneg _ hp.1
      | exact m1
      | exact m2
      | (clear hk c0 c1; simp only [taskOf_agg, ↓Bool.not_eq_true', ↓Bool.not_eq_false', ↓decT, ↓decF, out_true, out_false, isin_true, isin_false, Int.toNat_natCast, Int.ofNat_lt, Nat.zero_add, Nat.add_zero, Nat.reduceAdd] at *; omega)
      | (exfalso
         clear hk
         rename_i q
         first
           | (rw [c0] at q; exact absurd q (by decide))
           | (have q := of_decide_eq_true q; omega)
           | (rename_i q0
              exact absurd (read_set (bytC_file t) hb m2 (of_decide_eq_false q0) c0) (of_decide_eq_false q)))
      | skip
end Go.Proofs.Ytlecbjbjgfpfeaa
end
section
set_option linter.unusedVariables false
set_option linter.unusedSimpArgs false
set_option maxRecDepth 100000
set_option maxHeartbeats 4000000
namespace Go.Proofs.Ytlecbjbjgfpfeaa
open Go.V

theorem k_known1 : knownT exT 1000 = ([0], 0) := by decide +kernel
theorem k_known2 : knownT exT 1600 = ([0, 1], 0) := by decide +kernel
theorem k_known3 : knownT exT 2200 = ([0, 1, 2, 3], 0) := by decide +kernel
theorem k_known4 : knownT exT 7001 = ([1, 2], 0) := by decide +kernel
theorem k_doubt1 : doubtT exT 0 100000 1000 = (50, 0) := by decide +kernel
theorem k_doubt2 : doubtT exT 0 100000 1001 = (80, 0) := by decide +kernel
theorem k_doubt3 : doubtT exT 0 250000 1600 = (120, 0) := by decide +kernel
theorem k_doubt4 : doubtT exT 2 0 1000 = (250, 0) := by decide +kernel
theorem k_says1 : saysT exT 0 0 2200 2200 = (⟨320, 580, -130, 130⟩, 0) := by kernel_rfl
theorem k_says2 : saysT exT 1 0 2200 2200 = (⟨600, 780, -150, 80⟩, 0) := by kernel_rfl
theorem k_says3 : saysT exT 1 1 2200 2200 = (⟨640, 940, -110, 240⟩, 0) := by kernel_rfl
theorem k_blame1 : blameT exT 0 2200 2200 = ([0], false, 0) := by decide +kernel
theorem k_blame2 : blameT exT 1 2200 2200 = ([], true, 0) := by decide +kernel
theorem k_at : atT exT 150000 2200 2200 = (⟨620, 780, -130, 80⟩, 0) := by kernel_rfl
theorem k_bands : bandsT exT 2200 2099 = (2, 0) := by decide +kernel
def k_list : List Int := [0, 200000, 420, 580, -130, 80, 200000, 1000000, 260, 740, -290, 240]
theorem k_band : ∀ i, i < 2 → ∀ j, j < 6 → bandA exT 2200 2099 i j = k_list.getD (i * 6 + j) 0 := by decide +kernel
theorem k_over1 : (overT 2 winA 199999).2 = 0 ∧ (overT 2 winA 199999).1.xl = 600 ∧ (overT 2 winA 199999).1.xh = 780 := by decide +kernel
theorem k_over2 : (overT 2 winA 200000).2 = 0 ∧ (overT 2 winA 200000).1.xl = 640 ∧ (overT 2 winA 200000).1.xh = 740 := by decide +kernel
theorem k_over3 : (overT 2 winA 1000000).2 = 4 := by decide +kernel
theorem k_check : checkE exT = 0 := by decide +kernel
theorem k_len : (fileL exT).length = 134 := by decide +kernel
/-- The small task. -/
def smT (g : Nat → Nat → V.D) : Task := taskOf (.agg [.rsl 7 0 (fun _ _ => .top), .rsl 5 0 (fun _ _ => .top), .rsl 1 1 g, .int .i64 30, .int .i64 20])
theorem psound_re {P : Program} {f : Nat} {c c' : PRule} (hs : PSound P f c) (hd : ∀ ds, Det (c' ds)) (h : ∀ ds k, c' ds k → c ds k ∨ ∃ ds', impAL noGh ds ds' (c ds' k)) : PSound P f c' :=
  ⟨hd, hs.enters, fun ds k hk S w vs hS hRL => by
    rcases h ds k hk with h1 | ⟨ds', hi⟩
    · exact hs.calls ds k h1 S w vs hS hRL
    · obtain ⟨g1, g2⟩ := impAL_sound (gs := noGh) (fun o ho => by cases ho) hRL hi
      exact hs.calls ds' k g2 S w vs hS g1⟩
noncomputable def rWriteN : List V.D → Option (Prop × V.D) := fun ds => match ds with
  | [.agg [.nilS, .nilS, .rsl 1 n g, .int .i64 a, .int .i64 s]] => rWrite [.agg [.rsl 7 0 (fun _ _ => .top), .rsl 5 0 (fun _ _ => .top), .rsl 1 n g, .int .i64 a, .int .i64 s]]
  | ds => rWrite ds
theorem writeN_ok : PSound Go.Proofs.Try.prog 6 (mk rWriteN) :=
  psound_re (psound_new fWriteN_ok (mk_det _)) (mk_det _) fun ds k hk => by
    unfold mk rWriteN at hk
    split at hk
    · rename_i x heq
      split at heq
      · exact .inr ⟨[.agg [.rsl 7 0 (fun _ _ => .top), .rsl 5 0 (fun _ _ => .top), .rsl 1 _ _, .int .i64 _, .int .i64 _]], rfl, rfl, rfl, fun _ _ _ _ => rfl, rfl, rfl, by unfold mk; rw [heq]; exact hk⟩
      · exact .inl (by unfold mk; rw [heq]; exact hk)
    · exact hk.elim
theorem readE_cut {n m : Nat} {f : Nat → Int} (h : readE n f = 0) (hm : m < n) : readE m f = 6 := by
  obtain ⟨h1, h2, _⟩ := read_form h
  refine readE_6 (by omega) ?_
  have h3 := (form_n h2).1
  unfold formF
  simp only [Bool.and_eq_false_iff, decide_eq_false_iff_not]
  exact .inr (.inl (by omega))
end Go.Proofs.Ytlecbjbjgfpfeaa
end
