/-
  Contracts of the wind's laws: equal lists of bands, the examples.
-/
import Derived.Test.YtphcblofacfkaaaGreatMh
import Derived.Test.YtphcblofacfkaaaGreatMg
set_option linter.unusedVariables false
set_option linter.unusedSimpArgs false
set_option maxRecDepth 100000
set_option maxHeartbeats 4000000
section
namespace Go.Proofs.YtphcblofacfkaaaGreat
open Go.V
attribute [local irreducible] nameS
def lib32 : Lib := lib31
theorem lib32_ok : LibOK Go.Proofs.Tryz.prog lib32 := lib31_ok
theorem sameB_iff {s n m : Nat} {a b : Nat → Nat → Int} : sameB s n m a b = true ↔ n = m ∧ sameFrom s a b n 0 := by
  unfold sameB
  rw [decT]
def tabI (l : List (List Int)) (i j : Nat) : Int := (l.getD i []).getD j 0
def rConst (d : V.D) : List V.D → Option (Prop × V.D) := fun ds => match ds with
  | [] => some (True, d)
  | _ => none
def winA : Nat → Nat → Int := tabI [[0, 200000, 600, 780, -150, 80], [200000, 1000000, 640, 740, -110, 240]]
theorem winds2_ok : PSound Go.Proofs.Tryz.prog 20 (mk (rConst (.rsl 6 2 (imD winA)))) := by
  refine psound_mk Tryz.func20 (by kernel_rfl) rfl (ctx (.nil _)) ?_
  (intro ds p d h; unfold rConst at h; split at h <;> first | (cases h; done) | skip; cases h; refine ⟨Nat.le_of_ble_eq_true rfl, fun hp k hk => ?_⟩)
  refine ⟨[], ?_⟩
  repeat' (first | ((with_reducible refine kok ?_); kernel_rfl) | ((with_reducible refine keq_mk ?_); kernel_rfl) | with_reducible rfl | ((conv => whnf); first | (with_reducible exact trivial) | ((with_reducible refine and_ff ?_ ?_); · exact rfl) | ((with_reducible refine and_tt ?_ ?_); · exact rfl) | (with_reducible refine And.intro ?_ ?_) | intro _ | (with_reducible refine fin2 hk ?_) | ((with_reducible refine eq_leaf ?_); exact rfl) | exact trivial))
  · rename_i i j hi hj
    have hi' : i = 0 ∨ i = 1 := by omega
    have hj' : j = 0 ∨ j = 1 ∨ j = 2 ∨ j = 3 ∨ j = 4 ∨ j = 5 := by omega
    rcases hi' with rfl | rfl <;> rcases hj' with rfl | rfl | rfl | rfl | rfl | rfl <;> rfl
end Go.Proofs.YtphcblofacfkaaaGreat
end
section
namespace Go.Proofs.YtphcblofacfkaaaGreat
open Go.V
attribute [local irreducible] nameS
noncomputable def lib33 : Lib := (20, mk (rConst (.rsl 6 2 (imD winA)))) :: lib32
theorem lib33_ok : LibOK Go.Proofs.Tryz.prog lib33 := .cons winds2_ok lib32_ok
noncomputable def lib34 : Lib := lib33
theorem lib34_ok : LibOK Go.Proofs.Tryz.prog lib34 := lib33_ok
noncomputable def lib35 : Lib := lib34
theorem lib35_ok : LibOK Go.Proofs.Tryz.prog lib35 := lib34_ok
attribute [local irreducible] winA sameB
end Go.Proofs.YtphcblofacfkaaaGreat
end
section
namespace Go.Proofs.YtphcblofacfkaaaGreat
open Go.V
attribute [local irreducible] nameS winA sameB
noncomputable def lib36 : Lib := lib35
theorem lib36_ok : LibOK Go.Proofs.Tryz.prog lib36 := lib35_ok
end Go.Proofs.YtphcblofacfkaaaGreat
end
section
namespace Go.Proofs.YtphcblofacfkaaaGreat
open Go.V
structure BandsOK (n : Nat) (a : Nat → Nat → Int) : Prop where
  len : 1 ≤ n ∧ n ≤ 20
  from0 : ∀ i, i < n → a i 0 = fromOf a i
  up : ∀ i, i < n → a i 0 < a i 1 ∧ a i 1 ≤ 100000000
  x : ∀ i, i < n → (-20000 ≤ a i 2 ∧ a i 2 ≤ a i 3 ∧ a i 3 ≤ 20000)
  y : ∀ i, i < n → (-20000 ≤ a i 4 ∧ a i 4 ≤ a i 5 ∧ a i 5 ≤ 20000)
theorem winds_true {a b : Int} (h : winds a b = true) : -20000 ≤ a ∧ a ≤ b ∧ b ≤ 20000 := by
  simp only [winds, isin, Bool.and_eq_true, decide_eq_true_eq] at h
  omega
theorem bands_ok {n : Nat} {a : Nat → Nat → Int} (h : (checkBands n a).2 = 0) : BandsOK n a := by
  unfold checkBands at h
  split at h
  · rename_i h1
    have hz := fun j (hj : j < n) => fe_zero h j (Nat.zero_le j) (by omega : j < 0 + n)
    have hb : ∀ j, j < n → a j 0 = fromOf a j ∧ a j 0 < a j 1 ∧ a j 1 ≤ 100000000 ∧ winds (a j 2) (a j 3) = true ∧ winds (a j 4) (a j 5) = true := fun j hj => by
      have := hz j hj
      unfold bandErr at this
      split at this
      · cases this
      split at this
      · cases this
      split at this
      · cases this
      split at this
      · cases this
      split at this
      · cases this
      rename_i g1 g2 g3 g4 g5
      exact ⟨Classical.not_not.mp g1, by omega, by omega, by simpa using g4, by simpa using g5⟩
    simp only [isin, Bool.and_eq_true, decide_eq_true_eq] at h1
    exact ⟨by omega, fun i hi => (hb i hi).1, fun i hi => ⟨(hb i hi).2.1, (hb i hi).2.2.1⟩, fun i hi => winds_true (hb i hi).2.2.2.1, fun i hi => winds_true (hb i hi).2.2.2.2⟩
  · cases h
attribute [local irreducible] checkBands
theorem hide_int (H : HL) (k : IntKind) (n : Int) : hide H (.int k n) = .int k n := rfl
theorem toI_int (k : IntKind) (n : Int) : toI (.int k n) = n := rfl
noncomputable def lib37 : Lib := lib36
theorem lib37_ok : LibOK Go.Proofs.Tryz.prog lib37 := lib36_ok
noncomputable def lib38 : Lib := lib37
theorem lib38_ok : LibOK Go.Proofs.Tryz.prog lib38 := lib37_ok
end Go.Proofs.YtphcblofacfkaaaGreat
end
section
namespace Go.Proofs.YtphcblofacfkaaaGreat
open Go.V
attribute [local irreducible] checkBands
noncomputable def lib39 : Lib := lib38
theorem lib39_ok : LibOK Go.Proofs.Tryz.prog lib39 := lib38_ok
def inB (a b : Nat → Nat → Int) (i k : Nat) : Prop := a i 2 ≤ b k 2 ∧ b k 3 ≤ a i 3 ∧ a i 4 ≤ b k 4 ∧ b k 5 ≤ a i 5
def meetB (a b : Nat → Nat → Int) (i k : Nat) : Prop := max (a i 0) (b k 0) < min (a i 1) (b k 1)
def Cov (n : Nat) (a : Nat → Nat → Int) (m : Nat) (b : Nat → Nat → Int) : Prop := b (m - 1) 1 ≤ a (n - 1) 1 ∧ ∀ i k, i < n → k < m → meetB a b i k → inB a b i k
open Classical in
attribute [local irreducible] inB meetB
theorem BandsOK.step {n : Nat} {a : Nat → Nat → Int} (h : BandsOK n a) {i : Nat} (hi : i + 1 < n) : a (i + 1) 0 = a i 1 := by
  rw [h.from0 (i + 1) hi, fromOf, if_neg (by omega)]; rfl
theorem BandsOK.zero {n : Nat} {a : Nat → Nat → Int} (h : BandsOK n a) : a 0 0 = 0 := by
  rw [h.from0 0 (by have := h.len; omega)]; rfl
theorem BandsOK.mono {n : Nat} {a : Nat → Nat → Int} (h : BandsOK n a) {i : Nat} (j : Nat) (h1 : i ≤ j) (h2 : j < n) : a i 1 ≤ a j 1 := by
  induction j with
  | zero => rw [show i = 0 by omega]; exact Int.le_refl _
  | succ j ih =>
    rcases Nat.lt_or_eq_of_le h1 with g | rfl
    · have g1 := ih (by omega) (by omega)
      have g2 := h.step h2
      have g3 := (h.up (j + 1) h2).1
      omega
    · exact Int.le_refl _
theorem BandsOK.above {n : Nat} {a : Nat → Nat → Int} (h : BandsOK n a) {i j : Nat} (h1 : i < j) (h2 : j < n) : a i 1 ≤ a j 0 := by
  obtain ⟨j, rfl⟩ : ∃ k, j = k + 1 := ⟨j - 1, by omega⟩
  rw [h.step h2]
  exact h.mono j (by omega) (by omega)
end Go.Proofs.YtphcblofacfkaaaGreat
end
section
namespace Go.Proofs.YtphcblofacfkaaaGreat
open Go.V
theorem BandsOK.low {n : Nat} {a : Nat → Nat → Int} (h : BandsOK n a) {i : Nat} (hi : i < n) : 0 ≤ a i 0 := by
  rw [h.from0 i hi, fromOf]
  split
  · exact Int.le_refl _
  · have h1 := h.up (i - 1) (by omega)
    have h2 := h.mono (i := 0) (i - 1) (by omega) (by omega)
    have h3 := h.up 0 (by omega)
    have h4 := h.zero
    omega
theorem meet_one {n : Nat} {a : Nat → Nat → Int} (h : BandsOK n a) {i k : Nat} (hi : i < n) (hk : k < n) (hm : meetB a a i k) : i = k := by
  unfold meetB at hm
  rcases Nat.lt_trichotomy i k with g | g | g
  · have := h.above g hk; omega
  · exact g
  · have := h.above g hi; omega
theorem Cov.refl {n : Nat} {a : Nat → Nat → Int} (h : BandsOK n a) : Cov n a n a := ⟨Int.le_refl _, fun i k hi hk hm => by
  obtain rfl := meet_one h hi hk hm
  exact ⟨Int.le_refl _, Int.le_refl _, Int.le_refl _, Int.le_refl _⟩⟩
theorem BandsOK.at {n : Nat} {a : Nat → Nat → Int} (h : BandsOK n a) {x : Int} (h0 : 0 ≤ x) (h1 : x < a (n - 1) 1) : ∃ i, i < n ∧ a i 0 ≤ x ∧ x < a i 1 := by
  have key : ∀ k, k < n → x < a k 1 → ∃ i, i < n ∧ a i 0 ≤ x ∧ x < a i 1 := by
    intro k
    induction k with
    | zero =>
      intro hk hx
      exact ⟨0, hk, by rw [h.zero]; exact h0, hx⟩
    | succ k ih =>
      intro hk hx
      by_cases g : x < a k 1
      · exact ih (by omega) g
      · exact ⟨k + 1, hk, by rw [h.step hk]; omega, hx⟩
  have := h.len
  exact key (n - 1) (by omega) h1
theorem BandsOK.one {n : Nat} {a : Nat → Nat → Int} (h : BandsOK n a) {x : Int} {i j : Nat} (hi : i < n) (hj : j < n) (h1 : a i 0 ≤ x) (h2 : x < a i 1) (h3 : a j 0 ≤ x) (h4 : x < a j 1) : i = j :=
  meet_one h hi hj (by unfold meetB; omega)
theorem Cov.trans {n m l : Nat} {a b c : Nat → Nat → Int} (hA : BandsOK n a) (hB : BandsOK m b) (hC : BandsOK l c) (h1 : Cov n a m b) (h2 : Cov m b l c) : Cov n a l c := by
  refine ⟨Int.le_trans h2.1 h1.1, fun i k hi hk hm => ?_⟩
  have hx := hC.mono (i := k) (l - 1) (by omega) (by have := hC.len; omega)
  have h20 := h2.1
  have lo := hA.low hi
  unfold meetB at hm
  obtain ⟨j, hj, g1, g2⟩ := hB.at (x := max (a i 0) (c k 0)) (by omega) (by omega)
  have q1 := h1.2 i j hi hj (by unfold meetB; omega)
  have q2 := h2.2 j k hj hk (by unfold meetB; omega)
  unfold inB at *
  omega
end Go.Proofs.YtphcblofacfkaaaGreat
end
section
namespace Go.Proofs.YtphcblofacfkaaaGreat
open Go.V
theorem tdiv_facts (a : Int) {b : Int} (hb : 0 < b) : (a < a.tdiv b * b → a.tdiv b - 1 = a / b) ∧ (¬ a < a.tdiv b * b → a.tdiv b = a / b) ∧ (0 ≤ a → 0 ≤ a.tdiv b ∧ a.tdiv b * b ≤ a ∧ a.tdiv b ≤ a ∧ 0 ≤ a.tdiv b * b) ∧ (a ≤ 0 → a ≤ a.tdiv b * b ∧ a.tdiv b * b ≤ 0 ∧ a ≤ a.tdiv b ∧ a.tdiv b ≤ 0) := by
  have h1 := Int.tmod_add_mul_tdiv a b
  have h2 : a.tmod b < b := Int.tmod_lt_of_pos a hb
  have h3 : -b < a.tmod b := by
    have := Int.tmod_lt_of_pos (-a) hb
    rw [Int.neg_tmod] at this
    omega
  have hc : b * a.tdiv b = a.tdiv b * b := Int.mul_comm _ _
  have hpos : 0 ≤ a → 0 ≤ a.tmod b := fun h => Int.tmod_nonneg b h
  have hneg : a ≤ 0 → a.tmod b ≤ 0 := fun h => by
    have := Int.tmod_nonneg b (show 0 ≤ -a by omega)
    rw [Int.neg_tmod] at this
    omega
  refine ⟨fun h => ?_, fun h => ?_, fun h => ?_, fun h => ?_⟩
  · have : a / b = a.tdiv b - 1 ∧ a % b = a.tmod b + b := (Int.ediv_emod_unique hb).2 ⟨by rw [Int.mul_sub, Int.mul_one]; omega, by omega, by omega⟩
    exact this.1.symm
  · have : a / b = a.tdiv b ∧ a % b = a.tmod b := (Int.ediv_emod_unique hb).2 ⟨h1, by omega, h2⟩
    exact this.1.symm
  · have h4 := hpos h
    have h5 : 0 ≤ a.tdiv b := Int.tdiv_nonneg h (by omega)
    have h6 : a.tdiv b * 1 ≤ a.tdiv b * b := Int.mul_le_mul_of_nonneg_left (by omega) h5
    omega
  · have h4 := hneg h
    have h5 : 0 ≤ (-a).tdiv b := Int.tdiv_nonneg (by omega) (by omega)
    rw [Int.neg_tdiv] at h5
    have h6 : -a.tdiv b * 1 ≤ -a.tdiv b * b := Int.mul_le_mul_of_nonneg_left (by omega) h5
    rw [Int.neg_mul, Int.neg_mul] at h6
    have h7 : 0 ≤ -a.tdiv b * b := Int.mul_nonneg h5 (by omega)
    rw [Int.neg_mul] at h7
    omega
theorem ediv_le_self {a b : Int} (hb : 0 < b) : (0 ≤ a → 0 ≤ a / b ∧ a / b ≤ a) ∧ (a ≤ 0 → a ≤ a / b ∧ a / b ≤ 0) := by
  obtain ⟨h1, h2, h3, h4⟩ := tdiv_facts a hb
  refine ⟨fun h => ?_, fun h => ?_⟩
  · have := h3 h
    have := h2 (by omega)
    omega
  · have h5 := Int.ediv_mul_le a (show b ≠ 0 by omega)
    have h6 : a / b ≤ 0 := by
      rcases Int.lt_or_le 0 (a / b) with g | g
      · have : 1 * b ≤ a / b * b := Int.mul_le_mul_of_nonneg_right (by omega) (by omega)
        omega
      · exact g
    have h7 : a < (a / b + 1) * b := Int.lt_ediv_add_one_mul_self a hb
    refine ⟨?_, h6⟩
    rw [Int.add_mul, Int.one_mul] at h7
    rcases Int.lt_or_le (a / b) a with g | g
    · have h8 : (a / b + 1) * b ≤ (a / b + 1) * 1 := by
        rcases Int.lt_or_le (a / b) 0 with g0 | g0
        · have := Int.mul_le_mul_of_nonneg_left (show (1 : Int) ≤ b by omega) (show 0 ≤ -(a / b + 1) by omega)
          rw [Int.neg_mul, Int.neg_mul] at this
          omega
        · omega
      rw [Int.add_mul, Int.one_mul] at h8
      omega
    · exact g
def rFloor : List D → Option (Prop × D) := fun ds => match ds with
  | [.int .i64 a, .int .i64 b] => some (0 < b ∧ -4611686018427387904 ≤ a ∧ a ≤ 4611686018427387904, .int .i64 (a / b))
  | _ => none
end Go.Proofs.YtphcblofacfkaaaGreat
end
section
namespace Go.Proofs.YtphcblofacfkaaaGreat
open Go.V
def bs (p : Int → Bool) : Nat → Int → Int → Int
  | 0, _, hi => hi
  | f + 1, lo, hi => if hi - lo ≤ 1 then hi else if p ((lo + hi) / 2) = true then bs p f lo ((lo + hi) / 2) else bs p f ((lo + hi) / 2) hi
theorem bs_spec {p : Int → Bool} : ∀ {f : Nat} {lo hi : Int}, lo < hi → hi - lo ≤ 2 ^ f → p hi = true → (p lo = false ∨ lo = -1) → lo < bs p f lo hi ∧ bs p f lo hi ≤ hi ∧ p (bs p f lo hi) = true ∧ (p (bs p f lo hi - 1) = false ∨ bs p f lo hi = 0)
  | 0, lo, hi, h1, h2, h3, h4 => by
    rw [Int.pow_zero] at h2
    obtain rfl : lo = hi - 1 := by omega
    exact ⟨h1, Int.le_refl _, h3, h4.imp id fun h => by show hi = 0; omega⟩
  | f + 1, lo, hi, h1, h2, h3, h4 => by
    rw [Int.pow_succ] at h2
    unfold bs
    split
    · obtain rfl : lo = hi - 1 := by omega
      exact ⟨h1, Int.le_refl _, h3, h4.imp id fun h => by omega⟩
    · rename_i hd
      split
      · rename_i hp
        obtain ⟨a, b, c, d⟩ := bs_spec (f := f) (lo := lo) (hi := (lo + hi) / 2) (by omega) (by omega) hp h4
        exact ⟨a, by omega, c, d⟩
      · rename_i hp
        obtain ⟨a, b, c, d⟩ := bs_spec (f := f) (lo := (lo + hi) / 2) (hi := hi) (by omega) (by omega) h3 (.inl (by simpa using hp))
        exact ⟨by omega, b, c, d⟩
def enough (s d n : Int) : Bool := decide (d ≤ n * s * (n * s))
theorem enough_mono {s d m n : Int} (hs : 0 ≤ s) (h0 : 0 ≤ m) (h : m ≤ n) (hm : enough s d m = true) : enough s d n = true := by
  unfold enough at *
  rw [decide_eq_true_eq] at *
  have h1 : m * s ≤ n * s := Int.mul_le_mul_of_nonneg_right h hs
  have h2 : 0 ≤ m * s := Int.mul_nonneg h0 hs
  have h3 : m * s * (m * s) ≤ n * s * (n * s) := Int.mul_le_mul h1 h1 h2 (by omega)
  omega
def flS (s d : Int) : Int := bs (enough s d) 80 (-1) (d + 1)
structure IsFl (s d n : Int) : Prop where
  zero : 0 ≤ n
  yes : enough s d n = true
  no : ∀ m, 0 ≤ m → m < n → enough s d m = false
theorem flS_is {s d : Int} (hs : 1 ≤ s) (hd : 0 ≤ d) (hm : d ≤ 1208925819614629174706000) : IsFl s d (flS s d) := by
  have hp : enough s d (d + 1) = true := by
    unfold enough
    rw [decide_eq_true_eq]
    have h1 : (d + 1) * 1 ≤ (d + 1) * s := Int.mul_le_mul_of_nonneg_left hs (by omega)
    have h2 : (d + 1) * s * 1 ≤ (d + 1) * s * ((d + 1) * s) := Int.mul_le_mul_of_nonneg_left (by omega) (by omega)
    omega
  obtain ⟨a, b, c, e⟩ := bs_spec (p := enough s d) (f := 80) (lo := -1) (hi := d + 1) (by omega) (by
    have : (2 : Int) ^ 80 = 1208925819614629174706176 := by decide
    omega) hp (.inr rfl)
  refine ⟨by unfold flS; omega, c, fun m h0 hlt => ?_⟩
  rcases e with e | e
  · by_cases g : enough s d m = true
    · have := enough_mono (by omega) h0 (show m ≤ flS s d - 1 by omega) g
      unfold flS at this
      rw [this] at e
      cases e
    · simpa using g
  · unfold flS at hlt
    omega
theorem IsFl.unique {s d m n : Int} (h : IsFl s d m) (k : IsFl s d n) : m = n := by
  rcases Int.lt_trichotomy m n with g | g | g
  · have := k.no m h.zero g
    rw [h.yes] at this
    cases this
  · exact g
  · have := h.no n k.zero g
    rw [k.yes] at this
    cases this
theorem IsFl.le {s d n m : Int} (h : IsFl s d n) (h0 : 0 ≤ m) (hm : enough s d m = true) : n ≤ m := by
  rcases Int.lt_or_le m n with g | g
  · have := h.no m h0 g
    rw [hm] at this
    cases this
  · exact g
theorem sq_nonneg (a : Int) : 0 ≤ a * a := by
  rcases Int.le_total 0 a with h | h
  · exact Int.mul_nonneg h h
  · have := Int.mul_nonneg (show 0 ≤ -a by omega) (show 0 ≤ -a by omega)
    rwa [Int.neg_mul_neg] at this
theorem le_of_sq {a b : Int} (hb : 0 ≤ b) (h : a * a ≤ b * b) : a ≤ b := by
  rcases Int.lt_or_le b a with g | g
  · have h1 : b * b < a * a := by
      have e1 := Int.mul_le_mul_of_nonneg_left (show b + 1 ≤ a by omega) hb
      have e2 := Int.mul_le_mul_of_nonneg_right (show b + 1 ≤ a by omega) (show 0 ≤ a by omega)
      have e3 : b * (b + 1) = b * b + b := by rw [Int.mul_add, Int.mul_one]
      have e4 : (b + 1) * a = b * a + a := by rw [Int.add_mul, Int.one_mul]
      omega
    omega
  · exact g
theorem cauchy (u1 u2 v1 v2 : Int) : (u1 * v1 + u2 * v2) * (u1 * v1 + u2 * v2) ≤ (u1 * u1 + u2 * u2) * (v1 * v1 + v2 * v2) := by
  have h := sq_nonneg (u1 * v2 - u2 * v1)
  have e : (u1 * u1 + u2 * u2) * (v1 * v1 + v2 * v2) = (u1 * v1 + u2 * v2) * (u1 * v1 + u2 * v2) + (u1 * v2 - u2 * v1) * (u1 * v2 - u2 * v1) := by grind
  omega
theorem tri {u1 u2 v1 v2 A B : Int} (hA : 0 ≤ A) (hB : 0 ≤ B) (h1 : u1 * u1 + u2 * u2 ≤ A * A) (h2 : v1 * v1 + v2 * v2 ≤ B * B) : (u1 + v1) * (u1 + v1) + (u2 + v2) * (u2 + v2) ≤ (A + B) * (A + B) := by
  have hv : 0 ≤ v1 * v1 + v2 * v2 := by have := sq_nonneg v1; have := sq_nonneg v2; omega
  have hu : 0 ≤ u1 * u1 + u2 * u2 := by have := sq_nonneg u1; have := sq_nonneg u2; omega
  have c := cauchy u1 u2 v1 v2
  have c2 : (u1 * u1 + u2 * u2) * (v1 * v1 + v2 * v2) ≤ A * A * (B * B) := Int.mul_le_mul h1 h2 hv (sq_nonneg A)
  have e1 : A * A * (B * B) = A * B * (A * B) := by grind
  have c3 : u1 * v1 + u2 * v2 ≤ A * B := le_of_sq (Int.mul_nonneg hA hB) (by omega)
  have e2 : (u1 + v1) * (u1 + v1) + (u2 + v2) * (u2 + v2) = u1 * u1 + u2 * u2 + (v1 * v1 + v2 * v2) + 2 * (u1 * v1 + u2 * v2) := by grind
  have e3 : (A + B) * (A + B) = A * A + B * B + 2 * (A * B) := by grind
  omega
def farS (ax ay bx by' : Int) : Int := (ax - bx) * (ax - bx) + (ay - by') * (ay - by')
theorem far_nonneg (ax ay bx by' : Int) : 0 ≤ farS ax ay bx by' := by
  unfold farS
  have := sq_nonneg (ax - bx); have := sq_nonneg (ay - by'); omega
theorem far_comm (ax ay bx by' : Int) : farS ax ay bx by' = farS bx by' ax ay := by unfold farS; grind
theorem fl_tri {s ax ay bx by' cx cy l m n : Int} (hs : 0 ≤ s) (h1 : IsFl s (farS ax ay bx by') l) (h2 : IsFl s (farS bx by' cx cy) m) (h3 : IsFl s (farS ax ay cx cy) n) : n ≤ l + m := by
  refine h3.le (by have := h1.zero; have := h2.zero; omega) ?_
  have y1 := h1.yes
  have y2 := h2.yes
  unfold enough at *
  rw [decide_eq_true_eq] at *
  have t := tri (Int.mul_nonneg h1.zero hs) (Int.mul_nonneg h2.zero hs) y1 y2
  have e : farS ax ay cx cy = (ax - bx + (bx - cx)) * (ax - bx + (bx - cx)) + (ay - by' + (by' - cy)) * (ay - by' + (by' - cy)) := by
    unfold farS
    rw [show ax - bx + (bx - cx) = ax - cx by omega, show ay - by' + (by' - cy) = ay - cy by omega]
  have e2 : (l + m) * s * ((l + m) * s) = (l * s + m * s) * (l * s + m * s) := by grind
  rw [e, e2]
  exact t
end Go.Proofs.YtphcblofacfkaaaGreat
end
