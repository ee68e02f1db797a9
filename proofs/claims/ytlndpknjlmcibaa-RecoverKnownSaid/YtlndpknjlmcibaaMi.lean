/-
  Contracts of the wind's laws: equal lists of bands, the examples.
-/
import Derived.Test.YtlndpknjlmcibaaMh
import Derived.Test.YtlndpknjlmcibaaMg
section
set_option linter.unusedVariables false
set_option linter.unusedSimpArgs false
set_option maxRecDepth 100000
set_option maxHeartbeats 4000000
namespace Go.Proofs.Ytlndpknjlmcibaa
open Go.V
attribute [local irreducible] doubtS saysS leftS agreeS blameS answerS checkS begun nameS lowS answerN knownS
def lib32 : Lib := lib31
theorem lib32_ok : LibOK Go.Proofs.Try.prog lib32 := lib31_ok

noncomputable def rSame : List D → Option (Prop × D) := fun ds => match ds with
  | [.rsl 6 n g, .rsl 6 m h] => some (IM n 6 g ∧ IM m 6 h ∧ n ≤ 1099511627776, .bool (sameB 6 n m (im g) (im h)))
  | _ => none
theorem sameB_iff {s n m : Nat} {a b : Nat → Nat → Int} : sameB s n m a b = true ↔ n = m ∧ sameFrom s a b n 0 := by
  unfold sameB
  rw [decT]
theorem all6 {p : Nat → Prop} : (∀ j, j < 6 → p j) ↔ p 0 ∧ p 1 ∧ p 2 ∧ p 3 ∧ p 4 ∧ p 5 :=
  ⟨fun h => ⟨h 0 (by omega), h 1 (by omega), h 2 (by omega), h 3 (by omega), h 4 (by omega), h 5 (by omega)⟩, fun h j hj => by
    have hj' : j = 0 ∨ j = 1 ∨ j = 2 ∨ j = 3 ∨ j = 4 ∨ j = 5 := by omega
    rcases hj' with rfl | rfl | rfl | rfl | rfl | rfl
    · exact h.1
    · exact h.2.1
    · exact h.2.2.1
    · exact h.2.2.2.1
    · exact h.2.2.2.2.1
    · exact h.2.2.2.2.2⟩
/-- Numbers of a list of rows. -/
def tabI (l : List (List Int)) (i j : Nat) : Int := (l.getD i []).getD j 0
def exT : Task := ⟨3, 4, 2, fun i => [(⟨#[109, 97, 115, 116]⟩ : ByteArray), ⟨#[98, 108, 117, 101]⟩, ⟨#[98, 101, 97, 109]⟩].getD i ⟨#[]⟩,
  tabI [[1, 50, 0, 6000, 0, 300000], [2, 100, 600, 12000, 0, 30000000], [3, 80, 100, 3000, 50000, 2000000]],
  tabI [[0, 1000, 100000, 450, 0], [1, 1000, 100000, 600, -100], [1, 1600, 600000, 850, 100], [2, 2000, 300000, 760, 0]], tabI [[200000], [1000000]], 30, 20⟩
def rConst (d : V.D) : List V.D → Option (Prop × V.D) := fun ds => match ds with
  | [] => some (True, d)
  | _ => none
def winA : Nat → Nat → Int := tabI [[0, 200000, 600, 780, -150, 80], [200000, 1000000, 640, 740, -110, 240]]
theorem winds2_ok : PSound Go.Proofs.Try.prog 36 (mk (rConst (.rsl 6 2 (imD winA)))) := by
  refine psound_mk Try.func36 (by kernel_rfl) rfl (ctx (.nil _)) ?_
  (intro ds p d h; unfold rConst at h; split at h <;> first | (cases h; done) | skip; cases h; refine ⟨Nat.le_of_ble_eq_true rfl, fun hp k hk => ?_⟩)
  refine ⟨[], ?_⟩
  repeat' (first | ((with_reducible refine kok ?_); kernel_rfl) | ((with_reducible refine keq_mk ?_); kernel_rfl) | with_reducible rfl | ((conv => whnf); first | (with_reducible exact trivial) | ((with_reducible refine and_ff ?_ ?_); · exact rfl) | ((with_reducible refine and_tt ?_ ?_); · exact rfl) | (with_reducible refine And.intro ?_ ?_) | intro _ | (with_reducible refine fin2 hk ?_) | ((with_reducible refine eq_leaf ?_); exact rfl) | exact trivial))
  · rename_i i j hi hj
    have hi' : i = 0 ∨ i = 1 := by omega
    have hj' : j = 0 ∨ j = 1 ∨ j = 2 ∨ j = 3 ∨ j = 4 ∨ j = 5 := by omega
    rcases hi' with rfl | rfl <;> rcases hj' with rfl | rfl | rfl | rfl | rfl | rfl <;> rfl
end Go.Proofs.Ytlndpknjlmcibaa
end
section
set_option linter.unusedVariables false
set_option linter.unusedSimpArgs false
set_option maxRecDepth 100000
set_option maxHeartbeats 4000000
namespace Go.Proofs.Ytlndpknjlmcibaa
open Go.V
attribute [local irreducible] doubtS saysS leftS agreeS blameS answerS checkS begun nameS lowS answerN knownS
noncomputable def lib33 : Lib := (36, mk (rConst (.rsl 6 2 (imD winA)))) :: lib32
theorem lib33_ok : LibOK Go.Proofs.Try.prog lib33 := .cons winds2_ok lib32_ok

def taskTop (e : Int) : V.D := .tup [.agg [.nilS, .nilS, .nilS, .int .i64 0, .int .i64 0], .int .i64 e]
def rNil (e : Int) : List V.D → Option (Prop × V.D) := fun ds => match ds with
  | [.nilS] => some (True, taskTop e)
  | _ => none
noncomputable def lib34 : Lib := lib33
theorem lib34_ok : LibOK Go.Proofs.Try.prog lib34 := lib33_ok
noncomputable def lib35 : Lib := lib34
theorem lib35_ok : LibOK Go.Proofs.Try.prog lib35 := lib34_ok
theorem ex_fits : exT.fits := fun i hi => by
  have hi' : i = 0 ∨ i = 1 ∨ i = 2 := by have : exT.ns = 3 := rfl; omega
  rcases hi' with rfl | rfl | rfl <;> exact Nat.le_of_ble_eq_true rfl
theorem ex_bands : bandsT exT 2200 2200 = (2, 0) := by decide +kernel
theorem ex_doubt : doubtT exT 2 0 1000 = (250, 0) := by decide +kernel
theorem ex_at : (atT exT 700000 2200 2200).2 = 9 := by decide +kernel
theorem ex_same : ∀ i, i < 2 → ∀ j, j < 6 → bandA exT 2200 2200 i j = winA i j := by decide +kernel
theorem ex_same2 : sameB 6 2 2 (bandA exT 2200 2200) winA = true := sameB_iff.mpr ⟨rfl, fun x _ hx j hj => ex_same x hx j hj⟩
theorem ex_n1 : nameS ⟨#[109, 97, 115, 116]⟩ = true := by decide +kernel
theorem ex_n2 : nameS ⟨#[77, 97, 115, 116]⟩ = false := by decide +kernel
attribute [local irreducible] exT bandsT doubtT atT bandA winA sameB
end Go.Proofs.Ytlndpknjlmcibaa
end
section
set_option linter.unusedVariables false
set_option linter.unusedSimpArgs false
set_option maxRecDepth 100000
set_option maxHeartbeats 4000000
namespace Go.Proofs.Ytlndpknjlmcibaa
open Go.V
attribute [local irreducible] doubtS saysS leftS agreeS blameS answerS checkS begun nameS lowS answerN knownS exT bandsT doubtT atT bandA winA sameB saysT blameT knownT
noncomputable def lib36 : Lib := lib35
theorem lib36_ok : LibOK Go.Proofs.Try.prog lib36 := lib35_ok
theorem sameB_refl (s n : Nat) (a : Nat → Nat → Int) : sameB s n n a a = true := sameB_iff.mpr ⟨rfl, fun x _ _ j _ => rfl⟩

theorem blameFrom_length {t : Task} {low high a now : Int} : ∀ (k i : Nat) (l : List Int), (blameFrom t low high a now i l k).length ≤ l.length + k
  | 0, i, l => Nat.le_refl _
  | k + 1, i, l => by
    have h := blameFrom_length (t := t) (low := low) (high := high) (a := a) (now := now) k (i + 1) (blameStep t low high a now i l)
    have h2 : (blameStep t low high a now i l).length ≤ l.length + 1 := by
      unfold blameStep
      split
      · simp
      · omega
    show (blameFrom t low high a now (i + 1) (blameStep t low high a now i l) k).length ≤ _
    omega
theorem knownT_len (t : Task) (now : Int) : (knownT t now).1.length ≤ 60 := by
  unfold knownT
  split
  · exact Nat.zero_le _
  split
  · exact Nat.zero_le _
  rename_i h _
  have h1 := small_nx (t := t) (Classical.not_not.mp h)
  have h2 := knownUp_length t now t.nx
  show (knownUp t now t.nx).length ≤ 60
  omega
theorem blameT_len (t : Task) (b a now : Int) : (blameT t b a now).1.length ≤ 6 := by
  unfold blameT
  split
  · exact Nat.zero_le _
  split
  · exact Nat.zero_le _
  split
  · exact Nat.zero_le _
  rename_i h _ _
  have h1 := small_nx (t := t) (Classical.not_not.mp h)
  show (blameS t (lowS t b.toNat) (t.ca b.toNat 0 - 1) a now).length ≤ 6
  unfold blameS
  split
  · exact Nat.zero_le _
  · have := blameFrom_length (t := t) (low := lowS t b.toNat) (high := t.ca b.toNat 0 - 1) (a := a) (now := now) t.ns 0 []
    simp only [List.length_nil] at this
    omega
theorem bandsT_len (t : Task) (a now : Int) : (bandsT t a now).1 ≤ 20 := by
  unfold bandsT
  split
  · exact Nat.zero_le _
  split
  · exact Nat.zero_le _
  split
  · exact Nat.zero_le _
  rename_i h _ _
  have h1 := small_nx (t := t) (Classical.not_not.mp h)
  exact h1.2.2.2

def rLChecks : List V.D → Option (Prop × V.D) := fun ds => match ds with
  | [d, .str s] => some (TaskIs d ∧ (taskOf d).fits ∧ s.size ≤ 9223372036854775807, .tt)
  | _ => none
def rLKnows : List V.D → Option (Prop × V.D) := fun ds => match ds with
  | [d, .agg [.int .i64 x0, .int .i64 x1, .int .i64 x2, .int .i64 x3]] => some (TaskIs d ∧ (taskOf d).fits ∧ True, .tt)
  | _ => none
def rLBlames : List V.D → Option (Prop × V.D) := fun ds => match ds with
  | [d, .agg [.int .i64 x0, .int .i64 x1, .int .i64 x2]] => some (TaskIs d ∧ (taskOf d).fits ∧ True, .tt)
  | _ => none
end Go.Proofs.Ytlndpknjlmcibaa
end
section
set_option linter.unusedVariables false
set_option linter.unusedSimpArgs false
set_option maxRecDepth 100000
set_option maxHeartbeats 4000000
namespace Go.Proofs.Ytlndpknjlmcibaa
open Go.V
/-- What CheckBands has looked at. -/
structure BandsOK (n : Nat) (a : Nat → Nat → Int) : Prop where
  len : 1 ≤ n ∧ n ≤ 20
  from0 : ∀ i, i < n → a i 0 = fromOf a i
  up : ∀ i, i < n → a i 0 < a i 1 ∧ a i 1 ≤ 100000000
  x : ∀ i, i < n → (-20000 ≤ a i 2 ∧ a i 2 ≤ a i 3 ∧ a i 3 ≤ 20000)
  y : ∀ i, i < n → (-20000 ≤ a i 4 ∧ a i 4 ≤ a i 5 ∧ a i 5 ≤ 20000)
theorem winds_true {a b : Int} (h : winds a b = true) : -20000 ≤ a ∧ a ≤ b ∧ b ≤ 20000 := by
  simp only [winds, isin, Bool.and_eq_true, decide_eq_true_eq] at h
  omega
theorem bands_ok {n : Nat} {a : Nat → Nat → Int} (h : (checkBands n a).2 = 0) : BandsOK n a := by
  unfold checkBands at h
  split at h
  · rename_i h1
    have hz := fun j (hj : j < n) => fe_zero h j (Nat.zero_le j) (by omega : j < 0 + n)
    have hb : ∀ j, j < n → a j 0 = fromOf a j ∧ a j 0 < a j 1 ∧ a j 1 ≤ 100000000 ∧ winds (a j 2) (a j 3) = true ∧ winds (a j 4) (a j 5) = true := fun j hj => by
      have := hz j hj
      unfold bandErr at this
      split at this
      · cases this
      split at this
      · cases this
      split at this
      · cases this
      split at this
      · cases this
      split at this
      · cases this
      rename_i g1 g2 g3 g4 g5
      exact ⟨Classical.not_not.mp g1, by omega, by omega, by simpa using g4, by simpa using g5⟩
    simp only [isin, Bool.and_eq_true, decide_eq_true_eq] at h1
    exact ⟨by omega, fun i hi => (hb i hi).1, fun i hi => ⟨(hb i hi).2.1, (hb i hi).2.2.1⟩, fun i hi => winds_true (hb i hi).2.2.2.1, fun i hi => winds_true (hb i hi).2.2.2.2⟩
  · cases h
attribute [local irreducible] checkBands

theorem cellsD_int (k : IntKind) (n : Int) : cellsD (.int k n) = [.int k n] := rfl
theorem hide_int (H : HL) (k : IntKind) (n : Int) : hide H (.int k n) = .int k n := rfl
theorem toI_int (k : IntKind) (n : Int) : toI (.int k n) = n := rfl
/-- The wind at a height, by bands. -/
def belowTo (a : Nat → Nat → Int) (h : Int) (i : Nat) : Bool := decide (h < a i 1)
def overS (n : Nat) (a : Nat → Nat → Int) (h : Int) : Left × Int :=
  if firstFrom (belowTo a h) 0 n < 0 then (left00, 4) else (⟨a (firstFrom (belowTo a h) 0 n).toNat 2, a (firstFrom (belowTo a h) 0 n).toNat 3, a (firstFrom (belowTo a h) 0 n).toNat 4, a (firstFrom (belowTo a h) 0 n).toNat 5⟩, 0)
def overT (n : Nat) (a : Nat → Nat → Int) (h : Int) : Left × Int := if (checkBands n a).2 ≠ 0 then (left00, (checkBands n a).2) else if heightB h = false then (left00, 7) else overS n a h
def rOver : List V.D → Option (Prop × V.D) := fun ds => match ds with
  | [.rsl 6 n g, .int .i64 h] => some (IM n 6 g, spansD (overT n (im g) h).1 (overT n (im g) h).2)
  | _ => none

def rOver1 : List V.D → Option (Prop × V.D) := fun ds => match ds with
  | [.agg [.int .i64 b0, .int .i64 b1, .int .i64 b2, .int .i64 b3, .int .i64 b4, .int .i64 b5], .eptr 1 g] => some (g 0 = .int .i64 (toI (g 0)), .bool (decide (toI (g 0) < b1)))
  | _ => none
noncomputable def lib37 : Lib := lib36
theorem lib37_ok : LibOK Go.Proofs.Try.prog lib37 := lib36_ok
noncomputable def lib38 : Lib := lib37
theorem lib38_ok : LibOK Go.Proofs.Try.prog lib38 := lib37_ok
theorem first_lt (p : Nat → Bool) (n : Nat) : firstFrom p 0 n = -1 ∨ (0 ≤ firstFrom p 0 n ∧ firstFrom p 0 n < n) := by
  rcases firstFrom_spec p n 0 with ⟨h, _⟩ | ⟨m, h, _, h2, _⟩
  · exact .inl h
  · right; omega
theorem first_is {p : Nat → Bool} {n i : Nat} (hi : i < n) (h : p i = true) (hq : ∀ j, j < i → p j = false) : firstFrom p 0 n = i := by
  rcases firstFrom_spec p n 0 with ⟨h1, h2⟩ | ⟨m, h1, _, h3, h4, h5⟩
  · rw [h2 i (by omega) (by omega)] at h; cases h
  · have : m = i := by
      rcases Nat.lt_trichotomy m i with g | g | g
      · rw [hq m g] at h4; cases h4
      · exact g
      · rw [h5 i (by omega) g] at h; cases h
    rw [h1, this]
theorem first_none {p : Nat → Bool} {n : Nat} (hq : ∀ j, j < n → p j = false) : firstFrom p 0 n = -1 := by
  rcases firstFrom_spec p n 0 with ⟨h1, h2⟩ | ⟨m, h1, _, h3, h4, h5⟩
  · exact h1
  · rw [hq m (by omega)] at h4; cases h4
end Go.Proofs.Ytlndpknjlmcibaa
end
section
set_option linter.unusedVariables false
set_option linter.unusedSimpArgs false
set_option maxRecDepth 100000
set_option maxHeartbeats 4000000
namespace Go.Proofs.Ytlndpknjlmcibaa
open Go.V
attribute [local irreducible] checkBands
noncomputable def lib39 : Lib := lib38
theorem lib39_ok : LibOK Go.Proofs.Try.prog lib39 := lib38_ok

def inB (a b : Nat → Nat → Int) (i k : Nat) : Prop := a i 2 ≤ b k 2 ∧ b k 3 ≤ a i 3 ∧ a i 4 ≤ b k 4 ∧ b k 5 ≤ a i 5
def meetB (a b : Nat → Nat → Int) (i k : Nat) : Prop := max (a i 0) (b k 0) < min (a i 1) (b k 1)
/-- Bands cover other ones. -/
def Cov (n : Nat) (a : Nat → Nat → Int) (m : Nat) (b : Nat → Nat → Int) : Prop := b (m - 1) 1 ≤ a (n - 1) 1 ∧ ∀ i k, i < n → k < m → meetB a b i k → inB a b i k
open Classical in
noncomputable def covB (n : Nat) (a : Nat → Nat → Int) (m : Nat) (b : Nat → Nat → Int) : Bool := decide (Cov n a m b)
noncomputable def coversT (n : Nat) (a : Nat → Nat → Int) (m : Nat) (b : Nat → Nat → Int) : Bool × Int :=
  if (checkBands n a).2 ≠ 0 then (false, (checkBands n a).2) else if (checkBands m b).2 ≠ 0 then (false, (checkBands m b).2) else (covB n a m b, 0)
noncomputable def rCovers : List V.D → Option (Prop × V.D) := fun ds => match ds with
  | [.rsl 6 n g, .rsl 6 m h] => some (IM n 6 g ∧ IM m 6 h, .tup [.bool (coversT n (im g) m (im h)).1, .int .i64 (coversT n (im g) m (im h)).2])
  | _ => none
/-- What two places in the lists have left behind. -/
def CovTo (n : Nat) (a : Nat → Nat → Int) (m : Nat) (b : Nat → Nat → Int) (i k : Nat) : Prop := ∀ i' k', i' < n → k' < m → (i' < i ∨ k' < k) → meetB a b i' k' → inB a b i' k'
attribute [local irreducible] inB meetB CovTo
theorem covB_true {n m : Nat} {a b : Nat → Nat → Int} (h : Cov n a m b) : covB n a m b = true := by unfold covB; rw [decT]; exact h
theorem covB_false {n m : Nat} {a b : Nat → Nat → Int} (h : ¬ Cov n a m b) : covB n a m b = false := by unfold covB; rw [decF]; exact h
theorem cov_last {n m : Nat} {a b : Nat → Nat → Int} (hn : 1 ≤ n) (hm : 1 ≤ m) (g : a ((n : Int) - 1).toNat 1 < b ((m : Int) - 1).toNat 1) : covB n a m b = false := covB_false fun hC => by
  have := hC.1
  rw [show ((n : Int) - 1).toNat = n - 1 by omega, show ((m : Int) - 1).toNat = m - 1 by omega] at g
  omega
theorem BandsOK.step {n : Nat} {a : Nat → Nat → Int} (h : BandsOK n a) {i : Nat} (hi : i + 1 < n) : a (i + 1) 0 = a i 1 := by
  rw [h.from0 (i + 1) hi, fromOf, if_neg (by omega)]; rfl
theorem BandsOK.zero {n : Nat} {a : Nat → Nat → Int} (h : BandsOK n a) : a 0 0 = 0 := by
  rw [h.from0 0 (by have := h.len; omega)]; rfl
theorem BandsOK.mono {n : Nat} {a : Nat → Nat → Int} (h : BandsOK n a) {i : Nat} (j : Nat) (h1 : i ≤ j) (h2 : j < n) : a i 1 ≤ a j 1 := by
  induction j with
  | zero => rw [show i = 0 by omega]; exact Int.le_refl _
  | succ j ih =>
    rcases Nat.lt_or_eq_of_le h1 with g | rfl
    · have g1 := ih (by omega) (by omega)
      have g2 := h.step h2
      have g3 := (h.up (j + 1) h2).1
      omega
    · exact Int.le_refl _
theorem BandsOK.above {n : Nat} {a : Nat → Nat → Int} (h : BandsOK n a) {i j : Nat} (h1 : i < j) (h2 : j < n) : a i 1 ≤ a j 0 := by
  obtain ⟨j, rfl⟩ : ∃ k, j = k + 1 := ⟨j - 1, by omega⟩
  rw [h.step h2]
  exact h.mono j (by omega) (by omega)
theorem fromOf_last {n : Nat} {a : Nat → Nat → Int} (h : 1 ≤ n) : fromOf a n = a (n - 1) 1 := by rw [fromOf, if_neg (by omega)]
theorem fromOf_succ (a : Nat → Nat → Int) (i : Nat) : fromOf a (i + 1) = a i 1 := by rw [fromOf, if_neg (by omega)]; rfl
theorem cov_meet {n m : Nat} {a b : Nat → Nat → Int} (hA : BandsOK n a) (hB : BandsOK m b) {i l : Nat} (hi : i < n) (hl : l < m) (h1 : fromOf a i < b l 1) (h2 : fromOf b l < a i 1) : meetB a b i l := by
  have e1 := hA.from0 i hi
  have e2 := hB.from0 l hl
  have u1 := hA.up i hi
  have u2 := hB.up l hl
  unfold meetB
  omega
theorem cov_i {n m : Nat} {a b : Nat → Nat → Int} (hB : BandsOK m b) {i l : Nat} (h : CovTo n a m b i l) (hin : inB a b i l) (hle : a i 1 ≤ b l 1) : CovTo n a m b (i + 1) l := by
  unfold CovTo at *
  intro i' k' hi' hk' hor hm
  by_cases g : i' < i ∨ k' < l
  · exact h i' k' hi' hk' g hm
  · have e : i' = i := by omega
    subst e
    by_cases g2 : k' = l
    · subst g2; exact hin
    · exfalso
      have := hB.above (i := l) (j := k') (by omega) hk'
      unfold meetB at hm
      omega
theorem cov_l {n m : Nat} {a b : Nat → Nat → Int} (hA : BandsOK n a) {i l : Nat} (h : CovTo n a m b i l) (hin : inB a b i l) (hle : b l 1 ≤ a i 1) : CovTo n a m b i (l + 1) := by
  unfold CovTo at *
  intro i' k' hi' hk' hor hm
  by_cases g : i' < i ∨ k' < l
  · exact h i' k' hi' hk' g hm
  · have e : k' = l := by omega
    subst e
    by_cases g2 : i' = i
    · subst g2; exact hin
    · exfalso
      have := hA.above (i := i) (j := i') (by omega) hi'
      unfold meetB at hm
      omega
theorem cov_end {n m : Nat} {a b : Nat → Nat → Int} (hA : BandsOK n a) (hB : BandsOK m b) {i l : Nat} (hl : l = m) (h3 : fromOf b l ≤ a (n - 1) 1) (hq : CovTo n a m b i l) : covB n a m b = true := by
  subst hl
  refine covB_true ⟨?_, fun i' k' hi' hk' hm => ?_⟩
  · rw [fromOf_last hB.len.1] at h3; exact h3
  · unfold CovTo at hq
    exact hq i' k' hi' hk' (.inr hk') hm
theorem cov_not {n m : Nat} {a b : Nat → Nat → Int} (hA : BandsOK n a) (hB : BandsOK m b) {i l : Nat} (hi : i = n) (hl : l < m) (h1 : fromOf a i < b l 1) : covB n a m b = false := by
  subst hi
  refine covB_false fun hC => ?_
  have h2 := hC.1
  have h3 := hB.mono (i := l) (m - 1) (by omega) (by omega)
  rw [fromOf_last hA.len.1] at h1
  omega
theorem cov_bad {n m : Nat} {a b : Nat → Nat → Int} (hA : BandsOK n a) (hB : BandsOK m b) {i l : Nat} (hi : i < n) (hl : l < m) (h1 : fromOf a i < b l 1) (h2 : fromOf b l < a i 1) (hb : ¬ inB a b i l) : covB n a m b = false :=
  covB_false fun hC => hb (hC.2 i l hi hl (cov_meet hA hB hi hl h1 h2))
theorem cov_from {n : Nat} {a : Nat → Nat → Int} (hA : BandsOK n a) {i : Nat} (hi : i + 1 < n) : a i 1 < a (i + 1) 1 := by
  have h1 := hA.step hi
  have h2 := (hA.up (i + 1) hi).1
  omega
end Go.Proofs.Ytlndpknjlmcibaa
end
section
set_option linter.unusedVariables false
set_option linter.unusedSimpArgs false
namespace Go.Proofs.Ytlndpknjlmcibaa
open Go.V

theorem covT_ok {n m : Nat} {a b : Nat → Nat → Int} (h : (coversT n a m b).2 = 0) : BandsOK n a ∧ BandsOK m b ∧ (coversT n a m b).1 = covB n a m b := by
  unfold coversT at h ⊢
  split at h
  · rename_i g; exact absurd h g
  split at h
  · rename_i g; exact absurd h g
  rename_i g1 g2
  rw [if_neg g1, if_neg g2]
  exact ⟨bands_ok (Classical.not_not.mp g1), bands_ok (Classical.not_not.mp g2), rfl⟩
theorem covT_bad {n m : Nat} {a b : Nat → Nat → Int} (h : (coversT n a m b).2 ≠ 0) : (coversT n a m b).1 = false := by
  unfold coversT at h ⊢
  split
  · rfl
  split
  · rfl
  · rename_i g1 g2
    rw [if_neg g1, if_neg g2] at h
    exact absurd rfl h
theorem covT_mk {n m : Nat} {a b : Nat → Nat → Int} (h1 : (checkBands n a).2 = 0) (h2 : (checkBands m b).2 = 0) : coversT n a m b = (covB n a m b, 0) := by
  rw [coversT, if_neg (fun h => h h1), if_neg (fun h => h h2)]
theorem covT_chk {n m : Nat} {a b : Nat → Nat → Int} (h : (coversT n a m b).2 = 0) : (checkBands n a).2 = 0 ∧ (checkBands m b).2 = 0 := by
  unfold coversT at h
  split at h
  · rename_i g; exact absurd h g
  split at h
  · rename_i g; exact absurd h g
  rename_i g1 g2
  exact ⟨Classical.not_not.mp g1, Classical.not_not.mp g2⟩
theorem covB_iff {n m : Nat} {a b : Nat → Nat → Int} : covB n a m b = true ↔ Cov n a m b := by unfold covB; rw [decT]
theorem BandsOK.low {n : Nat} {a : Nat → Nat → Int} (h : BandsOK n a) {i : Nat} (hi : i < n) : 0 ≤ a i 0 := by
  rw [h.from0 i hi, fromOf]
  split
  · exact Int.le_refl _
  · have h1 := h.up (i - 1) (by omega)
    have h2 := h.mono (i := 0) (i - 1) (by omega) (by omega)
    have h3 := h.up 0 (by omega)
    have h4 := h.zero
    omega
theorem meet_one {n : Nat} {a : Nat → Nat → Int} (h : BandsOK n a) {i k : Nat} (hi : i < n) (hk : k < n) (hm : meetB a a i k) : i = k := by
  unfold meetB at hm
  rcases Nat.lt_trichotomy i k with g | g | g
  · have := h.above g hk; omega
  · exact g
  · have := h.above g hi; omega
theorem Cov.refl {n : Nat} {a : Nat → Nat → Int} (h : BandsOK n a) : Cov n a n a := ⟨Int.le_refl _, fun i k hi hk hm => by
  obtain rfl := meet_one h hi hk hm
  exact ⟨Int.le_refl _, Int.le_refl _, Int.le_refl _, Int.le_refl _⟩⟩
/-- The band that has a height. -/
theorem BandsOK.at {n : Nat} {a : Nat → Nat → Int} (h : BandsOK n a) {x : Int} (h0 : 0 ≤ x) (h1 : x < a (n - 1) 1) : ∃ i, i < n ∧ a i 0 ≤ x ∧ x < a i 1 := by
  have key : ∀ k, k < n → x < a k 1 → ∃ i, i < n ∧ a i 0 ≤ x ∧ x < a i 1 := by
    intro k
    induction k with
    | zero =>
      intro hk hx
      exact ⟨0, hk, by rw [h.zero]; exact h0, hx⟩
    | succ k ih =>
      intro hk hx
      by_cases g : x < a k 1
      · exact ih (by omega) g
      · exact ⟨k + 1, hk, by rw [h.step hk]; omega, hx⟩
  have := h.len
  exact key (n - 1) (by omega) h1
theorem BandsOK.one {n : Nat} {a : Nat → Nat → Int} (h : BandsOK n a) {x : Int} {i j : Nat} (hi : i < n) (hj : j < n) (h1 : a i 0 ≤ x) (h2 : x < a i 1) (h3 : a j 0 ≤ x) (h4 : x < a j 1) : i = j :=
  meet_one h hi hj (by unfold meetB; omega)
theorem Cov.trans {n m l : Nat} {a b c : Nat → Nat → Int} (hA : BandsOK n a) (hB : BandsOK m b) (hC : BandsOK l c) (h1 : Cov n a m b) (h2 : Cov m b l c) : Cov n a l c := by
  refine ⟨Int.le_trans h2.1 h1.1, fun i k hi hk hm => ?_⟩
  have hx := hC.mono (i := k) (l - 1) (by omega) (by have := hC.len; omega)
  have h20 := h2.1
  have lo := hA.low hi
  unfold meetB at hm
  obtain ⟨j, hj, g1, g2⟩ := hB.at (x := max (a i 0) (c k 0)) (by omega) (by omega)
  have q1 := h1.2 i j hi hj (by unfold meetB; omega)
  have q2 := h2.2 j k hj hk (by unfold meetB; omega)
  unfold inB at *
  omega

/-- What Over has found. -/
theorem over_ok {n : Nat} {a : Nat → Nat → Int} {x : Int} (h : (overT n a x).2 = 0) : BandsOK n a ∧ (0 ≤ x ∧ x ≤ 99999999) ∧ ∃ i, i < n ∧ a i 0 ≤ x ∧ x < a i 1 ∧ (overT n a x).1 = ⟨a i 2, a i 3, a i 4, a i 5⟩ := by
  unfold overT at h ⊢
  split at h
  · rename_i g; exact absurd h g
  split at h
  · cases h
  rename_i g1 g2
  rw [if_neg g1, if_neg g2]
  have hb := bands_ok (Classical.not_not.mp g1)
  have hx : 0 ≤ x ∧ x ≤ 99999999 := by simpa [heightB, isin] using g2
  refine ⟨hb, hx, ?_⟩
  unfold overS at h ⊢
  rcases firstFrom_spec (belowTo a x) n 0 with ⟨e, hn⟩ | ⟨m, e, _, hm, hp, hq⟩
  · rw [e, if_pos (by omega)] at h; cases h
  · rw [e, if_neg (by omega), Int.toNat_natCast]
    refine ⟨m, by omega, ?_, by simpa [belowTo] using hp, rfl⟩
    rw [hb.from0 m (by omega), fromOf]
    split
    · exact hx.1
    · have := hq (m - 1) (Nat.zero_le _) (by omega)
      simp only [belowTo, decide_eq_false_iff_not] at this
      omega
theorem over_mk {n : Nat} {a : Nat → Nat → Int} {x : Int} (hc : (checkBands n a).2 = 0) (hx : 0 ≤ x ∧ x ≤ 99999999) {i : Nat} (hi : i < n) (h1 : a i 0 ≤ x) (h2 : x < a i 1) : overT n a x = (⟨a i 2, a i 3, a i 4, a i 5⟩, 0) := by
  have hb := bands_ok hc
  have e : firstFrom (belowTo a x) 0 n = i := first_is hi (by simpa [belowTo] using h2) fun j hj => by
    have := hb.above hj hi
    simp only [belowTo, decide_eq_false_iff_not]
    omega
  rw [overT, if_neg (fun h => h hc), if_neg (by simp [heightB, isin]; omega), overS, e, if_neg (by omega), Int.toNat_natCast]
theorem over_none {n : Nat} {a : Nat → Nat → Int} {x : Int} (hc : (checkBands n a).2 = 0) (hx : 0 ≤ x ∧ x ≤ 99999999) (h : a (n - 1) 1 ≤ x) : overT n a x = (left00, 4) := by
  have hb := bands_ok hc
  have e : firstFrom (belowTo a x) 0 n = -1 := first_none fun j hj => by
    have := hb.mono (i := j) (n - 1) (by omega) (by omega)
    simp only [belowTo, decide_eq_false_iff_not]
    omega
  rw [overT, if_neg (fun h => h hc), if_neg (by simp [heightB, isin]; omega), overS, e, if_pos (by omega)]
/-- At each height the spans of bands that are covered lie in those of the others. -/
theorem over_cov {n m : Nat} {a b : Nat → Nat → Int} {x : Int} (hA : (checkBands n a).2 = 0) (hC : Cov n a m b) (hb : (overT m b x).2 = 0) :
    (overT n a x).2 = 0 ∧ (overT n a x).1.xl ≤ (overT m b x).1.xl ∧ (overT m b x).1.xh ≤ (overT n a x).1.xh ∧ (overT n a x).1.yl ≤ (overT m b x).1.yl ∧ (overT m b x).1.yh ≤ (overT n a x).1.yh := by
  obtain ⟨hB, hx, k, hk, g1, g2, e⟩ := over_ok hb
  have ha := bands_ok hA
  have hm := hB.mono (i := k) (m - 1) (by omega) (by omega)
  have h0 := hC.1
  obtain ⟨i, hi, g3, g4⟩ := ha.at hx.1 (by omega : x < a (n - 1) 1)
  have e2 := over_mk hA hx hi g3 g4
  have q := hC.2 i k hi hk (by unfold meetB; omega)
  unfold inB at q
  rw [e2, e]
  exact ⟨rfl, q.1, q.2.1, q.2.2.1, q.2.2.2⟩
end Go.Proofs.Ytlndpknjlmcibaa
end
section
set_option linter.unusedVariables false
set_option linter.unusedSimpArgs false
namespace Go.Proofs.Ytlndpknjlmcibaa
open Go.V

/-- Division that is rounded to zero, by what it leaves. -/
theorem tdiv_facts (a : Int) {b : Int} (hb : 0 < b) : (a < a.tdiv b * b → a.tdiv b - 1 = a / b) ∧ (¬ a < a.tdiv b * b → a.tdiv b = a / b) ∧ (0 ≤ a → 0 ≤ a.tdiv b ∧ a.tdiv b * b ≤ a ∧ a.tdiv b ≤ a ∧ 0 ≤ a.tdiv b * b) ∧ (a ≤ 0 → a ≤ a.tdiv b * b ∧ a.tdiv b * b ≤ 0 ∧ a ≤ a.tdiv b ∧ a.tdiv b ≤ 0) := by
  have h1 := Int.tmod_add_mul_tdiv a b
  have h2 : a.tmod b < b := Int.tmod_lt_of_pos a hb
  have h3 : -b < a.tmod b := by
    have := Int.tmod_lt_of_pos (-a) hb
    rw [Int.neg_tmod] at this
    omega
  have hc : b * a.tdiv b = a.tdiv b * b := Int.mul_comm _ _
  have hpos : 0 ≤ a → 0 ≤ a.tmod b := fun h => Int.tmod_nonneg b h
  have hneg : a ≤ 0 → a.tmod b ≤ 0 := fun h => by
    have := Int.tmod_nonneg b (show 0 ≤ -a by omega)
    rw [Int.neg_tmod] at this
    omega
  refine ⟨fun h => ?_, fun h => ?_, fun h => ?_, fun h => ?_⟩
  · have : a / b = a.tdiv b - 1 ∧ a % b = a.tmod b + b := (Int.ediv_emod_unique hb).2 ⟨by rw [Int.mul_sub, Int.mul_one]; omega, by omega, by omega⟩
    exact this.1.symm
  · have : a / b = a.tdiv b ∧ a % b = a.tmod b := (Int.ediv_emod_unique hb).2 ⟨h1, by omega, h2⟩
    exact this.1.symm
  · have h4 := hpos h
    have h5 : 0 ≤ a.tdiv b := Int.tdiv_nonneg h (by omega)
    have h6 : a.tdiv b * 1 ≤ a.tdiv b * b := Int.mul_le_mul_of_nonneg_left (by omega) h5
    omega
  · have h4 := hneg h
    have h5 : 0 ≤ (-a).tdiv b := Int.tdiv_nonneg (by omega) (by omega)
    rw [Int.neg_tdiv] at h5
    have h6 : -a.tdiv b * 1 ≤ -a.tdiv b * b := Int.mul_le_mul_of_nonneg_left (by omega) h5
    rw [Int.neg_mul, Int.neg_mul] at h6
    have h7 : 0 ≤ -a.tdiv b * b := Int.mul_nonneg h5 (by omega)
    rw [Int.neg_mul] at h7
    omega
theorem ediv_le_self {a b : Int} (hb : 0 < b) : (0 ≤ a → 0 ≤ a / b ∧ a / b ≤ a) ∧ (a ≤ 0 → a ≤ a / b ∧ a / b ≤ 0) := by
  obtain ⟨h1, h2, h3, h4⟩ := tdiv_facts a hb
  refine ⟨fun h => ?_, fun h => ?_⟩
  · have := h3 h
    have := h2 (by omega)
    omega
  · have h5 := Int.ediv_mul_le a (show b ≠ 0 by omega)
    have h6 : a / b ≤ 0 := by
      rcases Int.lt_or_le 0 (a / b) with g | g
      · have : 1 * b ≤ a / b * b := Int.mul_le_mul_of_nonneg_right (by omega) (by omega)
        omega
      · exact g
    have h7 : a < (a / b + 1) * b := Int.lt_ediv_add_one_mul_self a hb
    refine ⟨?_, h6⟩
    rw [Int.add_mul, Int.one_mul] at h7
    rcases Int.lt_or_le (a / b) a with g | g
    · have h8 : (a / b + 1) * b ≤ (a / b + 1) * 1 := by
        rcases Int.lt_or_le (a / b) 0 with g0 | g0
        · have := Int.mul_le_mul_of_nonneg_left (show (1 : Int) ≤ b by omega) (show 0 ≤ -(a / b + 1) by omega)
          rw [Int.neg_mul, Int.neg_mul] at this
          omega
        · omega
      rw [Int.add_mul, Int.one_mul] at h8
      omega
    · exact g
def rFloor : List D → Option (Prop × D) := fun ds => match ds with
  | [.int .i64 a, .int .i64 b] => some (0 < b ∧ -4611686018427387904 ≤ a ∧ a ≤ 4611686018427387904, .int .i64 (a / b))
  | _ => none
end Go.Proofs.Ytlndpknjlmcibaa
end
section
set_option linter.unusedVariables false
set_option linter.unusedSimpArgs false
namespace Go.Proofs.Ytlndpknjlmcibaa
open Go.V

/-- The search between two numbers: the first is too little, the second is enough. -/
def bs (p : Int → Bool) : Nat → Int → Int → Int
  | 0, _, hi => hi
  | f + 1, lo, hi => if hi - lo ≤ 1 then hi else if p ((lo + hi) / 2) = true then bs p f lo ((lo + hi) / 2) else bs p f ((lo + hi) / 2) hi
theorem bs_spec {p : Int → Bool} : ∀ {f : Nat} {lo hi : Int}, lo < hi → hi - lo ≤ 2 ^ f → p hi = true → (p lo = false ∨ lo = -1) → lo < bs p f lo hi ∧ bs p f lo hi ≤ hi ∧ p (bs p f lo hi) = true ∧ (p (bs p f lo hi - 1) = false ∨ bs p f lo hi = 0)
  | 0, lo, hi, h1, h2, h3, h4 => by
    rw [Int.pow_zero] at h2
    obtain rfl : lo = hi - 1 := by omega
    exact ⟨h1, Int.le_refl _, h3, h4.imp id fun h => by show hi = 0; omega⟩
  | f + 1, lo, hi, h1, h2, h3, h4 => by
    rw [Int.pow_succ] at h2
    unfold bs
    split
    · obtain rfl : lo = hi - 1 := by omega
      exact ⟨h1, Int.le_refl _, h3, h4.imp id fun h => by omega⟩
    · rename_i hd
      split
      · rename_i hp
        obtain ⟨a, b, c, d⟩ := bs_spec (f := f) (lo := lo) (hi := (lo + hi) / 2) (by omega) (by omega) hp h4
        exact ⟨a, by omega, c, d⟩
      · rename_i hp
        obtain ⟨a, b, c, d⟩ := bs_spec (f := f) (lo := (lo + hi) / 2) (hi := hi) (by omega) (by omega) h3 (.inl (by simpa using hp))
        exact ⟨by omega, b, c, d⟩

/-- Is this number of steps enough? -/
def enough (s d n : Int) : Bool := decide (d ≤ n * s * (n * s))
theorem enough_mono {s d m n : Int} (hs : 0 ≤ s) (h0 : 0 ≤ m) (h : m ≤ n) (hm : enough s d m = true) : enough s d n = true := by
  unfold enough at *
  rw [decide_eq_true_eq] at *
  have h1 : m * s ≤ n * s := Int.mul_le_mul_of_nonneg_right h hs
  have h2 : 0 ≤ m * s := Int.mul_nonneg h0 hs
  have h3 : m * s * (m * s) ≤ n * s * (n * s) := Int.mul_le_mul h1 h1 h2 (by omega)
  omega
/-- The least number of steps that is enough. -/
def flS (s d : Int) : Int := bs (enough s d) 80 (-1) (d + 1)
structure IsFl (s d n : Int) : Prop where
  zero : 0 ≤ n
  yes : enough s d n = true
  no : ∀ m, 0 ≤ m → m < n → enough s d m = false
theorem flS_is {s d : Int} (hs : 1 ≤ s) (hd : 0 ≤ d) (hm : d ≤ 1208925819614629174706000) : IsFl s d (flS s d) := by
  have hp : enough s d (d + 1) = true := by
    unfold enough
    rw [decide_eq_true_eq]
    have h1 : (d + 1) * 1 ≤ (d + 1) * s := Int.mul_le_mul_of_nonneg_left hs (by omega)
    have h2 : (d + 1) * s * 1 ≤ (d + 1) * s * ((d + 1) * s) := Int.mul_le_mul_of_nonneg_left (by omega) (by omega)
    omega
  obtain ⟨a, b, c, e⟩ := bs_spec (p := enough s d) (f := 80) (lo := -1) (hi := d + 1) (by omega) (by
    have : (2 : Int) ^ 80 = 1208925819614629174706176 := by decide
    omega) hp (.inr rfl)
  refine ⟨by unfold flS; omega, c, fun m h0 hlt => ?_⟩
  rcases e with e | e
  · by_cases g : enough s d m = true
    · have := enough_mono (by omega) h0 (show m ≤ flS s d - 1 by omega) g
      unfold flS at this
      rw [this] at e
      cases e
    · simpa using g
  · unfold flS at hlt
    omega
theorem IsFl.unique {s d m n : Int} (h : IsFl s d m) (k : IsFl s d n) : m = n := by
  rcases Int.lt_trichotomy m n with g | g | g
  · have := k.no m h.zero g
    rw [h.yes] at this
    cases this
  · exact g
  · have := h.no n k.zero g
    rw [k.yes] at this
    cases this
theorem IsFl.le {s d n m : Int} (h : IsFl s d n) (h0 : 0 ≤ m) (hm : enough s d m = true) : n ≤ m := by
  rcases Int.lt_or_le m n with g | g
  · have := h.no m h0 g
    rw [hm] at this
    cases this
  · exact g
/-- A square is not below 0; the product of two numbers is not above that of what their squares are not above. -/
theorem sq_nonneg (a : Int) : 0 ≤ a * a := by
  rcases Int.le_total 0 a with h | h
  · exact Int.mul_nonneg h h
  · have := Int.mul_nonneg (show 0 ≤ -a by omega) (show 0 ≤ -a by omega)
    rwa [Int.neg_mul_neg] at this
theorem le_of_sq {a b : Int} (hb : 0 ≤ b) (h : a * a ≤ b * b) : a ≤ b := by
  rcases Int.lt_or_le b a with g | g
  · have h1 : b * b < a * a := by
      have e1 := Int.mul_le_mul_of_nonneg_left (show b + 1 ≤ a by omega) hb
      have e2 := Int.mul_le_mul_of_nonneg_right (show b + 1 ≤ a by omega) (show 0 ≤ a by omega)
      have e3 : b * (b + 1) = b * b + b := by rw [Int.mul_add, Int.mul_one]
      have e4 : (b + 1) * a = b * a + a := by rw [Int.add_mul, Int.one_mul]
      omega
    omega
  · exact g
theorem cauchy (u1 u2 v1 v2 : Int) : (u1 * v1 + u2 * v2) * (u1 * v1 + u2 * v2) ≤ (u1 * u1 + u2 * u2) * (v1 * v1 + v2 * v2) := by
  have h := sq_nonneg (u1 * v2 - u2 * v1)
  have e : (u1 * u1 + u2 * u2) * (v1 * v1 + v2 * v2) = (u1 * v1 + u2 * v2) * (u1 * v1 + u2 * v2) + (u1 * v2 - u2 * v1) * (u1 * v2 - u2 * v1) := by grind
  omega
/-- The way over a third place is no shorter. -/
theorem tri {u1 u2 v1 v2 A B : Int} (hA : 0 ≤ A) (hB : 0 ≤ B) (h1 : u1 * u1 + u2 * u2 ≤ A * A) (h2 : v1 * v1 + v2 * v2 ≤ B * B) : (u1 + v1) * (u1 + v1) + (u2 + v2) * (u2 + v2) ≤ (A + B) * (A + B) := by
  have hv : 0 ≤ v1 * v1 + v2 * v2 := by have := sq_nonneg v1; have := sq_nonneg v2; omega
  have hu : 0 ≤ u1 * u1 + u2 * u2 := by have := sq_nonneg u1; have := sq_nonneg u2; omega
  have c := cauchy u1 u2 v1 v2
  have c2 : (u1 * u1 + u2 * u2) * (v1 * v1 + v2 * v2) ≤ A * A * (B * B) := Int.mul_le_mul h1 h2 hv (sq_nonneg A)
  have e1 : A * A * (B * B) = A * B * (A * B) := by grind
  have c3 : u1 * v1 + u2 * v2 ≤ A * B := le_of_sq (Int.mul_nonneg hA hB) (by omega)
  have e2 : (u1 + v1) * (u1 + v1) + (u2 + v2) * (u2 + v2) = u1 * u1 + u2 * u2 + (v1 * v1 + v2 * v2) + 2 * (u1 * v1 + u2 * v2) := by grind
  have e3 : (A + B) * (A + B) = A * A + B * B + 2 * (A * B) := by grind
  omega
/-- The square of how far two places are apart. -/
def farS (ax ay bx by' : Int) : Int := (ax - bx) * (ax - bx) + (ay - by') * (ay - by')
theorem far_nonneg (ax ay bx by' : Int) : 0 ≤ farS ax ay bx by' := by
  unfold farS
  have := sq_nonneg (ax - bx); have := sq_nonneg (ay - by'); omega
theorem far_comm (ax ay bx by' : Int) : farS ax ay bx by' = farS bx by' ax ay := by unfold farS; grind
theorem fl_tri {s ax ay bx by' cx cy l m n : Int} (hs : 0 ≤ s) (h1 : IsFl s (farS ax ay bx by') l) (h2 : IsFl s (farS bx by' cx cy) m) (h3 : IsFl s (farS ax ay cx cy) n) : n ≤ l + m := by
  refine h3.le (by have := h1.zero; have := h2.zero; omega) ?_
  have y1 := h1.yes
  have y2 := h2.yes
  unfold enough at *
  rw [decide_eq_true_eq] at *
  have t := tri (Int.mul_nonneg h1.zero hs) (Int.mul_nonneg h2.zero hs) y1 y2
  have e : farS ax ay cx cy = (ax - bx + (bx - cx)) * (ax - bx + (bx - cx)) + (ay - by' + (by' - cy)) * (ay - by' + (by' - cy)) := by
    unfold farS
    rw [show ax - bx + (bx - cx) = ax - cx by omega, show ay - by' + (by' - cy) = ay - cy by omega]
  have e2 : (l + m) * s * ((l + m) * s) = (l * s + m * s) * (l * s + m * s) := by grind
  rw [e, e2]
  exact t
end Go.Proofs.Ytlndpknjlmcibaa
end
