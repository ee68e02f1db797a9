/-
  The law RecoverDrift is proved: what comes down from a place and a tick of an impact, with a speed of the parachute, through winds within the bands, lands in the area and the span of ticks that Land returns, for any impact, parachute, bands and drift. No condition.
-/
import Derived.Test.YtcnecjkcmjgakaaMs
section
set_option linter.unusedVariables false
set_option linter.unusedSimpArgs false
set_option maxRecDepth 100000
set_option maxHeartbeats 4000000
namespace Go.Proofs.Ytcnecjkcmjgakaa
open Go.V
def partS (lo hi n : Int) : Int := lo + ((hi - lo) * n).tdiv 255
theorem partS_in {lo hi n : Int} (h : lo ≤ hi) (hn : 0 ≤ n ∧ n ≤ 255) : lo ≤ partS lo hi n ∧ partS lo hi n ≤ hi := by
  unfold partS
  have h1 : 0 ≤ (hi - lo) * n := Int.mul_nonneg (by omega) hn.1
  have h2 : (hi - lo) * n ≤ (hi - lo) * 255 := Int.mul_le_mul_of_nonneg_left hn.2 (by omega)
  rw [Int.tdiv_eq_ediv_of_nonneg h1]
  omega
/-- A sum, divided by a speed and rounded down, times a speed between. -/
theorem dLo_mul {p f g v : Int} (hf : 1 ≤ f) (h1 : f ≤ v) (h2 : v ≤ g) : dLo p f g * v ≤ p := by
  unfold dLo
  have key : ∀ {q : Int}, q ≤ p / v → q * v ≤ p := fun {q} h => by
    have := Int.mul_le_mul_of_nonneg_right (c := v) h (by omega)
    have := Int.ediv_mul_le p (b := v) (by omega)
    omega
  apply key
  rcases Int.le_total 0 p with h | h
  · have : p / g ≤ p / v := by
      apply Int.le_ediv_of_mul_le (by omega)
      have h3 := Int.ediv_mul_le p (b := g) (by omega)
      have h4 : 0 ≤ p / g := Int.ediv_nonneg h (by omega)
      have := Int.mul_le_mul_of_nonneg_left (c := p / g) h2 h4
      omega
    omega
  · have : p / f ≤ p / v := by
      apply Int.le_ediv_of_mul_le (by omega)
      have h3 := Int.ediv_mul_le p (b := f) (by omega)
      have h4 : p / f ≤ 0 := by
        have := Int.ediv_le_ediv (a := p) (b := 0) (c := f) (by omega) h
        rwa [Int.zero_ediv] at this
      have := Int.mul_le_mul_of_nonpos_left h4 h1
      omega
    omega
theorem dHi_mul {p f g v : Int} (hf : 1 ≤ f) (h1 : f ≤ v) (h2 : v ≤ g) : p ≤ dHi p f g * v := by
  have h := dLo_mul (p := 0 - p) hf h1 h2
  have e : dHi p f g = 0 - dLo (0 - p) f g := by unfold dHi dLo; omega
  rw [e, Int.sub_mul, Int.zero_mul]
  omega
/-- The wind of a drift. -/
def windS (m : Nat) (w : Nat → Int) (lo hi : Int) (i : Nat) : Int := if m = 0 then hi else partS lo hi (w (i % m))
theorem windS_in {m : Nat} {w : Nat → Int} {lo hi : Int} (h : lo ≤ hi) (hw : ∀ j, j < m → 0 ≤ w j ∧ w j ≤ 255) (i : Nat) : lo ≤ windS m w lo hi i ∧ windS m w lo hi i ≤ hi := by
  unfold windS
  split
  · exact ⟨h, Int.le_refl _⟩
  · exact partS_in h (hw _ (Nat.mod_lt _ (by omega)))
/-- The sum of the winds of a drift. -/
def sumD (a : Nat → Nat → Int) (h : Int) (m : Nat) (w : Nat → Int) (j o : Nat) : Nat → Int
  | 0 => 0
  | k + 1 => if 0 < min (a k 1) h - a k 0 then sumD a h m w j o k + windS m w (a k j) (a k (j + 1)) (2 * k + o) * (min (a k 1) h - a k 0) else sumD a h m w j o k
theorem sumD_in {a : Nat → Nat → Int} {h : Int} {m : Nat} {w : Nat → Int} {j o : Nat} (hw : ∀ j, j < m → 0 ≤ w j ∧ w j ≤ 255) : ∀ {n : Nat}, (∀ i, i < n → a i j ≤ a i (j + 1)) → sumW a h j n ≤ sumD a h m w j o n ∧ sumD a h m w j o n ≤ sumW a h (j + 1) n
  | 0, _ => ⟨Int.le_refl 0, Int.le_refl 0⟩
  | k + 1, ha => by
    have ih := sumD_in (h := h) (o := o) hw (n := k) fun i hi => ha i (by omega)
    have hk := windS_in (m := m) (w := w) (ha k (by omega)) hw (2 * k + o)
    unfold sumD sumW mmB
    split
    · rename_i g
      rw [Int.max_eq_right (by omega)]
      have h1 := Int.mul_le_mul_of_nonneg_right (c := min (a k 1) h - a k 0) hk.1 (by omega)
      have h2 := Int.mul_le_mul_of_nonneg_right (c := min (a k 1) h - a k 0) hk.2 (by omega)
      omega
    · rw [Int.max_eq_left (by omega), Int.mul_zero, Int.mul_zero]
      omega
def rPart : List V.D → Option (Prop × V.D) := fun ds => match ds with
  | [.agg [.int .i64 lo, .int .i64 hi], .int .u8 n] => some ((-4000000000 ≤ lo ∧ lo ≤ hi ∧ hi ≤ 4000000000) ∧ 0 ≤ n ∧ n ≤ 255, .int .i64 (partS lo hi n))
  | _ => none
theorem part_ok : PSound Go.Proofs.Try.prog 25 (mk rPart) := by
  refine psound_mk Try.func25 (by kernel_rfl) rfl (ctx (.nil _)) ?_
  (intro ds p d h; unfold rPart at h; split at h <;> first | (cases h; done) | skip; cases h; refine ⟨Nat.le_of_ble_eq_true rfl, fun hp k hk => ?_⟩)
  rename_i lo hi n
  obtain ⟨hs, hn⟩ := hp
  refine ⟨[.agg [.int .i64 lo, .int .i64 hi], .int .u8 n], rfl, rfl, rfl, ?_⟩
  have B := mul_in (x := hi - lo) (y := n) (A := 8000000000) (B := 255) (by omega) hn (by decide)
  have I := partS_in hs.2.1 hn
  have e : partS lo hi n = lo + ((hi - lo) * n).tdiv 255 := rfl
  generalize partS lo hi n = c at *
  have T : -2040000000000 ≤ ((hi - lo) * n).tdiv 255 ∧ ((hi - lo) * n).tdiv 255 ≤ 2040000000000 := by omega
  repeat' (first | ((with_reducible refine kok ?_); kernel_rfl) | ((with_reducible refine keq_mk ?_); kernel_rfl) | with_reducible rfl | ((conv => whnf); first | (with_reducible exact trivial) | ((with_reducible refine and_ff ?_ ?_); · exact rfl) | ((with_reducible refine and_tt ?_ ?_); · exact rfl) | (with_reducible refine And.intro ?_ ?_) | intro _ | (with_reducible refine fin2 hk ?_) | ((with_reducible refine eq_leaf ?_); exact rfl) | exact trivial))
  all_goals omega
noncomputable def lr44 : Lib := (25, mk rPart) :: lr42
theorem lr44_ok : LibOK Go.Proofs.Try.prog lr44 := .cons part_ok lr42_ok
def u8D (w : Nat → Int) (i _ : Nat) : V.D := .int .u8 (w i)
def U8 (n : Nat) (g : Nat → Nat → V.D) : Prop := ∀ i j, i < n → j < 1 → g i j = u8D (fun i => toI (g i 0)) i j
def driftD (x y at' fall : Int) (m : Nat) (w : Nat → Int) : V.D := .agg [.int .u8 x, .int .u8 y, .int .u8 at', .int .u8 fall, .rsl 1 m (u8D w)]
def rWind255 : List V.D → Option (Prop × V.D) := fun ds => match ds with
  | [.agg [.int .u8 x, .int .u8 y, .int .u8 at', .int .u8 fall, .rsl 1 m g], .agg [.int .i64 lo, .int .i64 hi], .int .i64 i] => some ((U8 m g ∧ (∀ j, j < m → 0 ≤ toI (g j 0) ∧ toI (g j 0) ≤ 255)) ∧ (m ≤ 9223372036854775807 ∧ 0 ≤ i ∧ i ≤ 1000000) ∧ (-4000000000 ≤ lo ∧ lo ≤ hi ∧ hi ≤ 4000000000), .int .i64 (windS m (fun i => toI (g i 0)) lo hi i.toNat))
  | _ => none
theorem wind255_ok : PSound Go.Proofs.Try.prog 26 (mk rWind255) := by
  refine psound_mk Try.func26 (by kernel_rfl) rfl (ctx lr44_ok) ?_
  (intro ds p d h; unfold rWind255 at h; split at h <;> first | (cases h; done) | skip; cases h; refine ⟨Nat.le_of_ble_eq_true rfl, fun hp k hk => ?_⟩)
  rename_i x y at' fall m g lo hi i
  obtain ⟨⟨h1, h2⟩, ⟨h3, h4⟩, h5⟩ := hp
  refine ⟨[driftD x y at' fall m (fun i => toI (g i 0)), .agg [.int .i64 lo, .int .i64 hi], .int .i64 i], rfl, rfl, rfl, rfl, rfl, h1, rfl, rfl, rfl, ?_⟩
  clear h1
  have h2' : ∀ j, j < m → 0 ≤ (fun i => toI (g i 0)) j ∧ (fun i => toI (g i 0)) j ≤ 255 := h2
  clear h2
  generalize (fun i => toI (g i 0)) = w at *
  obtain ⟨k, rfl⟩ := Int.eq_ofNat_of_zero_le h4.1
  rw [Int.toNat_natCast] at hk
  have e : ((k : Int)).tmod (m : Int) = ((k % m : Nat) : Int) := rfl
  have W0 : m = 0 → hi = windS m w lo hi k := fun h => (if_pos h).symm
  have W1 : m ≠ 0 → partS lo hi (w (k % m)) = windS m w lo hi k := fun h => (if_neg h).symm
  have hm : m ≠ 0 → k % m < m := fun h => Nat.mod_lt _ (by omega)
  have hw := h2' (k % m)
  generalize windS m w lo hi k = c at *
  generalize k % m = q at *
  repeat' (first | ((with_reducible refine kok ?_); kernel_rfl) | ((with_reducible refine keq_mk ?_); kernel_rfl) | with_reducible rfl | ((conv => whnf); first | (with_reducible exact trivial) | ((with_reducible refine and_ff ?_ ?_); · exact rfl) | ((with_reducible refine and_tt ?_ ?_); · exact rfl) | (with_reducible refine And.intro ?_ ?_) | intro _ | (with_reducible refine fin2 hk ?_) | ((with_reducible refine eq_leaf ?_); exact rfl) | exact trivial))
  all_goals (clear hk; simp only [taskOf_agg, ↓Bool.not_eq_true', ↓Bool.not_eq_false', ↓decT, ↓decF, out_true, out_false, isin_true, isin_false, Int.toNat_natCast, Int.ofNat_lt, Nat.zero_add, Nat.add_zero, Nat.reduceAdd, e] at *)
  all_goals first
    | omega
    | exact W0 (by omega)
    | exact W1 (by omega)
    | (have := hm (by omega); have := hw this; omega)
noncomputable def lr46 : Lib := (26, mk rWind255) :: lr44
theorem lr46_ok : LibOK Go.Proofs.Try.prog lr46 := .cons wind255_ok lr44_ok
end Go.Proofs.Ytcnecjkcmjgakaa
end
section
set_option linter.unusedVariables false
set_option linter.unusedSimpArgs false
namespace Go.Proofs.Ytcnecjkcmjgakaa
open Go.V
/-- A sum by the mm. -/
def sumZ (v : Int → Int) : Nat → Int
  | 0 => 0
  | n + 1 => sumZ v n + v n
theorem sumZ_le {v u : Int → Int} : ∀ {n : Nat}, (∀ z : Int, 0 ≤ z → z < n → v z ≤ u z) → sumZ v n ≤ sumZ u n
  | 0, _ => Int.le_refl 0
  | n + 1, h => by
    have := sumZ_le (n := n) fun z h1 h2 => h z h1 (by omega)
    have := h n (by omega) (by omega)
    simp only [sumZ]
    omega
theorem sumZ_const {v : Int → Int} {c : Int} {n : Nat} : ∀ {m : Nat}, (∀ z : Int, (n : Int) ≤ z → z < n + m → v z = c) → sumZ v (n + m) = sumZ v n + m * c
  | 0, _ => by simp
  | m + 1, h => by
    have ih := sumZ_const (v := v) (c := c) (n := n) (m := m) fun z h1 h2 => h z h1 (by omega)
    have e := h (n + m : Nat) (by omega) (by omega)
    rw [← Nat.add_assoc]
    simp only [sumZ]
    rw [ih, e, Int.natCast_succ, Int.add_mul, Int.one_mul]
    omega
/-- The index of the band that has a height. -/
def bandAt (n : Nat) (a : Nat → Nat → Int) (z : Int) : Nat := (firstFrom (fun i => decide (z < a i 1)) 0 n).toNat
theorem bands_up {n : Nat} {a : Nat → Nat → Int} (h : BandsOK n a) : ∀ {i k : Nat}, i < k → k < n → a i 1 ≤ a k 0
  | i, 0, hi, _ => absurd hi (Nat.not_lt_zero _)
  | i, k + 1, hi, hk => by
    have e := h.from0 (k + 1) hk
    rw [fromOf, if_neg (by omega)] at e
    have e : a (k + 1) 0 = a k 1 := e
    rcases Nat.lt_or_eq_of_le (Nat.le_of_lt_succ hi) with g | rfl
    · have := bands_up h g (by omega)
      have := (h.up k (by omega)).1
      omega
    · omega
theorem bandAt_is {n : Nat} {a : Nat → Nat → Int} (h : BandsOK n a) {i : Nat} (hi : i < n) {z : Int} (h1 : a i 0 ≤ z) (h2 : z < a i 1) : bandAt n a z = i := by
  unfold bandAt
  rcases firstFrom_spec (fun i => decide (z < a i 1)) n 0 with ⟨_, g⟩ | ⟨m, g1, _, g3, g4, g5⟩
  · have := of_decide_eq_false (g i (Nat.zero_le i) (by omega))
    exact absurd h2 this
  · rw [g1, Int.toNat_natCast]
    have g4 : z < a m 1 := of_decide_eq_true g4
    rcases Nat.lt_trichotomy m i with q | q | q
    · have := bands_up h q hi
      omega
    · exact q
    · have := of_decide_eq_false (g5 i (Nat.zero_le i) q)
      exact absurd h2 this
theorem band_some {n : Nat} {a : Nat → Nat → Int} (h : BandsOK n a) {z : Int} (h0 : 0 ≤ z) (h1 : z < a (n - 1) 1) : ∃ i, i < n ∧ a i 0 ≤ z ∧ z < a i 1 := by
  have hl := h.len
  have key : ∀ k, k < n → z < a k 1 → ∃ i, i < n ∧ a i 0 ≤ z ∧ z < a i 1 := fun k => by
    induction k with
    | zero =>
      intro hk hz
      refine ⟨0, hk, ?_, hz⟩
      rw [h.from0 0 hk, fromOf, if_pos rfl]
      exact h0
    | succ k ih =>
      intro hk hz
      by_cases g : z < a k 1
      · exact ih (by omega) g
      · refine ⟨k + 1, hk, ?_, hz⟩
        rw [h.from0 (k + 1) hk, fromOf, if_neg (by omega)]
        show a k 1 ≤ z
        omega
  exact key (n - 1) (by omega) h1
theorem fromOf_0 {n : Nat} {a : Nat → Nat → Int} (h : BandsOK n a) {k : Nat} (hk : k ≤ n) : 0 ≤ fromOf a k := by
  unfold fromOf
  split
  · exact Int.le_refl 0
  · have h1 := h.up (k - 1) (by omega)
    have h2 : 0 ≤ a (k - 1) 0 := by
      rw [h.from0 (k - 1) (by omega)]
      have : ∀ j, j < n → 0 ≤ fromOf a j := fun j => by
        induction j with
        | zero => intro _; rw [fromOf, if_pos rfl]; exact Int.le_refl 0
        | succ j ih =>
          intro hj
          have e := h.from0 j (by omega)
          have := ih (by omega)
          have := (h.up j (by omega)).1
          rw [fromOf, if_neg (by omega)]
          show 0 ≤ a j 1
          omega
      exact this _ (by omega)
    omega
/-- The sum over the bands is the one by the mm. -/
theorem sumW_Z {n : Nat} {a : Nat → Nat → Int} (hb : BandsOK n a) {h : Int} (hh : 0 ≤ h) (j : Nat) : ∀ {k : Nat}, k ≤ n → sumW a h j k = sumZ (fun z => a (bandAt n a z) j) (min h (fromOf a k)).toNat
  | 0, _ => by
    have e : (min h (fromOf a 0)).toNat = 0 := by
      have : fromOf a 0 = 0 := if_pos rfl
      omega
    rw [e]; rfl
  | k + 1, hk => by
    have ih := sumW_Z hb hh j (k := k) (by omega)
    have e0 := hb.from0 k (by omega)
    have e1 : fromOf a (k + 1) = a k 1 := by rw [fromOf, if_neg (by omega)]; rfl
    have f0 := fromOf_0 hb (k := k) (by omega)
    have hu := hb.up k (by omega)
    have en : (min h (fromOf a (k + 1))).toNat = (min h (fromOf a k)).toNat + (mmB a h k).toNat := by
      unfold mmB
      omega
    have em : ((mmB a h k).toNat : Int) = mmB a h k := Int.toNat_of_nonneg (by unfold mmB; omega)
    rw [en, sumZ_const (c := a k j) (fun z h1 h2 => by
      have hm : mmB a h k = max 0 (min (a k 1) h - a k 0) := rfl
      show a (bandAt n a z) j = a k j
      rw [bandAt_is hb (i := k) (by omega) (by omega) (by omega)]), ← ih, em, sumW, Int.mul_comm]
theorem sumW_all {n : Nat} {a : Nat → Nat → Int} (hb : BandsOK n a) {h : Int} (hh : 0 ≤ h) (hl : h ≤ a (n - 1) 1) (j : Nat) : sumW a h j n = sumZ (fun z => a (bandAt n a z) j) h.toNat := by
  have e := sumW_Z hb hh j (Nat.le_refl n)
  have : fromOf a n = a (n - 1) 1 := by rw [fromOf, if_neg (by have := hb.len; omega)]
  rw [e, this, Int.min_eq_left hl]
/-- Bands that cover others have wider sums. -/
theorem sum_wider {n m : Nat} {a b : Nat → Nat → Int} (hA : BandsOK n a) (hB : BandsOK m b) (hc : Cov n a m b) {h : Int} (hh : 0 ≤ h) (hl : h ≤ b (m - 1) 1) :
    sumW a h 2 n ≤ sumW b h 2 m ∧ sumW b h 3 m ≤ sumW a h 3 n ∧ sumW a h 4 n ≤ sumW b h 4 m ∧ sumW b h 5 m ≤ sumW a h 5 n := by
  have hl2 : h ≤ a (n - 1) 1 := by have := hc.1; omega
  have at' : ∀ z : Int, 0 ≤ z → z < h.toNat → inB a b (bandAt n a z) (bandAt m b z) := fun z h0 h1 => by
    obtain ⟨i, i1, i2, i3⟩ := band_some hA h0 (by omega)
    obtain ⟨k, k1, k2, k3⟩ := band_some hB h0 (by omega)
    rw [bandAt_is hA i1 i2 i3, bandAt_is hB k1 k2 k3]
    exact hc.2 i k i1 k1 (by unfold meetB; omega)
  rw [sumW_all hA hh hl2, sumW_all hA hh hl2, sumW_all hA hh hl2, sumW_all hA hh hl2, sumW_all hB hh hl, sumW_all hB hh hl, sumW_all hB hh hl, sumW_all hB hh hl]
  exact ⟨sumZ_le fun z h0 h1 => (at' z h0 h1).1, sumZ_le fun z h0 h1 => (at' z h0 h1).2.1, sumZ_le fun z h0 h1 => (at' z h0 h1).2.2.1, sumZ_le fun z h0 h1 => (at' z h0 h1).2.2.2⟩
theorem dLo_mono {p q f g : Int} (hf : 1 ≤ f) (hg : 1 ≤ g) (h : p ≤ q) : dLo p f g ≤ dLo q f g := by
  unfold dLo
  have h1 := Int.ediv_le_ediv (c := f) (by omega) h
  have h2 := Int.ediv_le_ediv (c := g) (by omega) h
  omega
theorem dHi_eq (p f g : Int) : dHi p f g = 0 - dLo (0 - p) f g := by unfold dHi dLo; omega
theorem dHi_mono {p q f g : Int} (hf : 1 ≤ f) (hg : 1 ≤ g) (h : p ≤ q) : dHi p f g ≤ dHi q f g := by
  have := dLo_mono (p := 0 - q) (q := 0 - p) hf hg (by omega)
  rw [dHi_eq, dHi_eq]
  omega
theorem dLo_wide {p f g f' g' : Int} (h0 : 1 ≤ f') (h1 : f' ≤ f) (h2 : f ≤ g) (h3 : g ≤ g') : dLo p f' g' ≤ dLo p f g := by
  have a1 : dLo p f' g' ≤ p / f := Int.le_ediv_of_mul_le (by omega) (dLo_mul h0 h1 (by omega))
  have a2 : dLo p f' g' ≤ p / g := Int.le_ediv_of_mul_le (by omega) (dLo_mul h0 (by omega) h3)
  have : dLo p f g = min (p / f) (p / g) := rfl
  omega
theorem dHi_wide {p f g f' g' : Int} (h0 : 1 ≤ f') (h1 : f' ≤ f) (h2 : f ≤ g) (h3 : g ≤ g') : dHi p f g ≤ dHi p f' g' := by
  have := dLo_wide (p := 0 - p) h0 h1 h2 h3
  rw [dHi_eq, dHi_eq]
  omega
theorem div_less {h f g : Int} (h0 : 0 ≤ h) (hf : 1 ≤ f) (hg : f ≤ g) : h / g ≤ h / f := by
  apply Int.le_ediv_of_mul_le (by omega)
  have h3 := Int.ediv_mul_le h (b := g) (by omega)
  have h4 : 0 ≤ h / g := Int.ediv_nonneg h0 (by omega)
  have := Int.mul_le_mul_of_nonneg_left (c := h / g) hg h4
  omega
theorem div_less' {h f g : Int} (h0 : h ≤ 0) (hf : 1 ≤ f) (hg : f ≤ g) : h / f ≤ h / g := by
  apply Int.le_ediv_of_mul_le (by omega)
  have h3 := Int.ediv_mul_le h (b := f) (by omega)
  have h4 : h / f ≤ 0 := by
    have := Int.ediv_le_ediv (a := h) (b := 0) (c := f) (by omega) h0
    rwa [Int.zero_ediv] at this
  have := Int.mul_le_mul_of_nonpos_left h4 hg
  omega
end Go.Proofs.Ytcnecjkcmjgakaa
end
section
set_option linter.unusedVariables false
set_option linter.unusedSimpArgs false
set_option maxRecDepth 100000
set_option maxHeartbeats 4000000
namespace Go.Proofs.Ytcnecjkcmjgakaa
open Go.V
def HoldsP (a b : Impt) : Prop := b.xl ≤ a.xl ∧ a.xh ≤ b.xh ∧ b.yl ≤ a.yl ∧ a.yh ≤ b.yh ∧ b.t0 ≤ a.t0 ∧ a.t1 ≤ b.t1
instance (a b : Impt) : Decidable (HoldsP a b) := by unfold HoldsP; infer_instance
theorem landT_all {x : Impt} {h f g : Int} {n : Nat} {a : Nat → Nat → Int} (e : (landT x h f g n a).2 = 0) : chuteB h f g = true ∧ (checkBands n a).2 = 0 ∧ imptB x = true ∧ h ≤ a (n - 1) 1 ∧ landT x h f g n a = (landI x h f g n a, 0) := by
  by_cases h1 : chuteB h f g = true
  · by_cases h2 : (checkBands n a).2 = 0
    · by_cases h3 : imptB x = true
      · by_cases h4 : a (n - 1) 1 < h
        · rw [landT_top h1 h2 h3 h4] at e; exact absurd e (by decide)
        · exact ⟨h1, h2, h3, by omega, landT_ok h1 h2 h3 h4⟩
      · rw [landT_imp h1 h2 (by simpa using h3)] at e; exact absurd e (by decide)
    · rw [landT_bands h1 h2] at e; exact absurd e h2
  · rw [landT_chute h1] at e; exact absurd e (by decide)
theorem coversT_true {n m : Nat} {a b : Nat → Nat → Int} (h1 : (coversT n a m b).1 = true) (h2 : (coversT n a m b).2 = 0) : (checkBands n a).2 = 0 ∧ (checkBands m b).2 = 0 ∧ Cov n a m b := by
  unfold coversT at h1 h2
  by_cases g1 : (checkBands n a).2 = 0
  · by_cases g2 : (checkBands m b).2 = 0
    · rw [if_neg (fun h => h g1), if_neg (fun h => h g2)] at h1
      refine ⟨g1, g2, ?_⟩
      by_cases g3 : Cov n a m b
      · exact g3
      · have h1 : covB n a m b = true := h1
        rw [covB_false g3] at h1
        cases h1
    · rw [if_neg (fun h => h g1), if_pos g2] at h1
      cases h1
  · rw [if_pos g1] at h1
    cases h1
theorem wider_all {x : Impt} {h f g : Int} {n m : Nat} {a b : Nat → Nat → Int} (c1 : (coversT m b n a).1 = true) (c2 : (coversT m b n a).2 = 0) (e : (landT x h f g n a).2 = 0) :
    ((landT x h f g m b).2 = 0 ∧ (landT x h (max 1 (f - 3)) (min 10000 (g + 3)) m b).2 = 0) ∧ HoldsP (landT x h f g n a).1 (landT x h f g m b).1 ∧ HoldsP (landT x h f g m b).1 (landT x h (max 1 (f - 3)) (min 10000 (g + 3)) m b).1 ∧ (1 ≤ f ∧ f ≤ g ∧ g ≤ 10000) := by
  obtain ⟨q1, q2, q3⟩ := coversT_true c1 c2
  obtain ⟨p1, p2, p3, p4, p5⟩ := landT_all e
  have hq := q3.1
  have hch := p1
  rw [chute_true] at hch
  have hch2 : chuteB h (max 1 (f - 3)) (min 10000 (g + 3)) = true := by rw [chute_true]; omega
  have l1 := landT_ok (x := x) (h := h) (f := f) (g := g) (n := m) (a := b) p1 q1 p3 (by omega)
  have l2 := landT_ok (x := x) (h := h) (f := max 1 (f - 3)) (g := min 10000 (g + 3)) (n := m) (a := b) hch2 q1 p3 (by omega)
  rw [p5, l1, l2]
  refine ⟨⟨rfl, rfl⟩, ?_, ?_, hch.2.2⟩
  · obtain ⟨s1, s2, s3, s4⟩ := sum_wider (bands_ok q1) (bands_ok q2) q3 (h := h) (by omega) p4
    have a1 := dLo_mono (f := f) (g := g) (by omega) (by omega) s1
    have a2 := dHi_mono (f := f) (g := g) (by omega) (by omega) s2
    have a3 := dLo_mono (f := f) (g := g) (by omega) (by omega) s3
    have a4 := dHi_mono (f := f) (g := g) (by omega) (by omega) s4
    unfold HoldsP landI
    simp only
    omega
  · have w := fun p => dLo_wide (p := p) (f := f) (g := g) (f' := max 1 (f - 3)) (g' := min 10000 (g + 3)) (by omega) (by omega) (by omega) (by omega)
    have u := fun p => dHi_wide (p := p) (f := f) (g := g) (f' := max 1 (f - 3)) (g' := min 10000 (g + 3)) (by omega) (by omega) (by omega) (by omega)
    have a1 := w (sumW b h 2 m)
    have a2 := u (sumW b h 3 m)
    have a3 := w (sumW b h 4 m)
    have a4 := u (sumW b h 5 m)
    have t1 := div_less (h := h) (f := g) (g := min 10000 (g + 3)) (by omega) (by omega) (by omega)
    have t2 := div_less' (h := 0 - h) (f := max 1 (f - 3)) (g := f) (by omega) (by omega) (by omega)
    have e1 : h.tdiv g = h / g := Int.tdiv_eq_ediv_of_nonneg (by omega)
    have e2 : h.tdiv (min 10000 (g + 3)) = h / min 10000 (g + 3) := Int.tdiv_eq_ediv_of_nonneg (by omega)
    unfold HoldsP landI
    simp only
    rw [e1, e2]
    omega
def rHolds : List V.D → Option (Prop × V.D) := fun ds => match ds with
  | [.agg [.int .i64 p, .int .i64 a, .int .i64 b, .int .i64 c, .int .i64 d, .int .i64 e, .int .i64 f], .agg [.int .i64 p', .int .i64 a', .int .i64 b', .int .i64 c', .int .i64 d', .int .i64 e', .int .i64 f']] => some (True, .bool (decide (HoldsP ⟨p, a, b, c, d, e, f⟩ ⟨p', a', b', c', d', e', f'⟩)))
  | _ => none
theorem holds_ok : PSound Go.Proofs.Try.prog 38 (mk rHolds) := by
  refine psound_mk Try.func38 (by kernel_rfl) rfl (ctx (.nil _)) ?_
  (intro ds p d h; unfold rHolds at h; split at h <;> first | (cases h; done) | skip; cases h; refine ⟨Nat.le_of_ble_eq_true rfl, fun hp k hk => ?_⟩)
  rename_i p a b c d e f p' a' b' c' d' e' f'
  refine ⟨[.agg [.int .i64 p, .int .i64 a, .int .i64 b, .int .i64 c, .int .i64 d, .int .i64 e, .int .i64 f], .agg [.int .i64 p', .int .i64 a', .int .i64 b', .int .i64 c', .int .i64 d', .int .i64 e', .int .i64 f']], rfl, rfl, rfl, rfl, rfl, rfl, rfl, rfl, rfl, rfl, rfl, rfl, rfl, rfl, ?_⟩
  generalize hS : decide (HoldsP ⟨p, a, b, c, d, e, f⟩ ⟨p', a', b', c', d', e', f'⟩) = s at *
  have hT : s = true ↔ a' ≤ a ∧ b ≤ b' ∧ c' ≤ c ∧ d ≤ d' ∧ e' ≤ e ∧ f ≤ f' := by rw [← hS, decide_eq_true_eq]; rfl
  clear hS
  repeat' (first | ((with_reducible refine kok ?_); kernel_rfl) | ((with_reducible refine keq_mk ?_); kernel_rfl) | with_reducible rfl | ((conv => whnf); first | (with_reducible exact trivial) | ((with_reducible refine and_ff ?_ ?_); · exact rfl) | ((with_reducible refine and_tt ?_ ?_); · exact rfl) | (with_reducible refine And.intro ?_ ?_) | intro _ | (with_reducible refine fin2 hk ?_) | ((with_reducible refine eq_leaf ?_); exact rfl) | exact trivial))
  all_goals (clear hk; simp only [taskOf_agg, ↓Bool.not_eq_true', ↓Bool.not_eq_false', ↓decT, ↓decF, out_true, out_false, isin_true, isin_false, Int.toNat_natCast, Int.ofNat_lt, Nat.zero_add, Nat.add_zero, Nat.reduceAdd] at *)
  all_goals first
    | (symm; rw [Bool.eq_false_iff, Ne, hT]; omega)
    | (rw [Bool.eq_iff_iff, hT]; simp only [decide_eq_true_eq]; omega)
noncomputable def lr45 : Lib := (38, mk rHolds) :: (36, mk rCovers) :: lr42
theorem lr45_ok : LibOK Go.Proofs.Try.prog lr45 := .cons holds_ok (.cons windCovers_ok lr42_ok)
def rLWider : List V.D → Option (Prop × V.D) := fun ds => match ds with
  | [.agg [.int .i64 a0, .int .i64 a1, .int .i64 a2, .int .i64 a3, .int .i64 a4, .int .i64 a5, .int .i64 a6, .int .i64 a7, .int .i64 a8, .int .i64 a9], .rsl 6 n g, .rsl 6 m h] => some (IM n 6 g ∧ IM m 6 h, .tt)
  | _ => none
attribute [local irreducible] landT coversT HoldsP
theorem lawWider_ok : PSound Go.Proofs.Try.prog 11 (mk rLWider) := by
  refine psound_mk Try.func11 (by kernel_rfl) rfl (ctx lr45_ok) ?_
  (intro ds p d h; unfold rLWider at h; split at h <;> first | (cases h; done) | skip; cases h; refine ⟨Nat.le_of_ble_eq_true rfl, fun hp k hk => ?_⟩)
  rename_i a0 a1 a2 a3 a4 a5 a6 a7 a8 a9 n g m h
  obtain ⟨h1, h2⟩ := hp
  refine ⟨[.agg [.int .i64 a0, .int .i64 a1, .int .i64 a2, .int .i64 a3, .int .i64 a4, .int .i64 a5, .int .i64 a6, .int .i64 a7, .int .i64 a8, .int .i64 a9], .rsl 6 n (imD (im g)), .rsl 6 m (imD (im h))], rfl, rfl, rfl, rfl, rfl, rfl, rfl, rfl, rfl, rfl, rfl, h1, rfl, h2, ?_⟩
  clear h1 h2
  generalize im g = a at *
  generalize im h = b at *
  have W := wider_all (x := ⟨a0, a1, a2, a3, a4, a5, a6⟩) (h := a7) (f := a8) (g := a9) (n := n) (m := m) (a := a) (b := b)
  repeat' (first | ((with_reducible refine kok ?_); kernel_rfl) | ((with_reducible refine keq_mk ?_); kernel_rfl) | with_reducible rfl | ((conv => whnf); first | (with_reducible exact trivial) | ((with_reducible refine and_ff ?_ ?_); · exact rfl) | ((with_reducible refine and_tt ?_ ?_); · exact rfl) | (with_reducible refine And.intro ?_ ?_) | intro _ | (with_reducible refine fin2 hk ?_) | ((with_reducible refine eq_leaf ?_); exact rfl) | exact trivial))
  all_goals (clear hk; try simp only [taskOf_agg, ↓Bool.not_eq_true', ↓Bool.not_eq_false', ↓decT, ↓decF, out_true, out_false, isin_true, isin_false, Int.toNat_natCast, Int.ofNat_lt, Nat.zero_add, Nat.add_zero, Nat.reduceAdd] at *)
  all_goals (simp only [im_imD] at *; obtain ⟨⟨w1, w2⟩, w3, w4, w5⟩ := W (by assumption) (by assumption) (by assumption))
  all_goals first
    | omega
    | (exfalso; exact absurd w3 (by assumption))
    | (exfalso; exact absurd w4 (by assumption))
    | (exfalso; exact absurd w1 (by assumption))
    | (exfalso; exact absurd w2 (by assumption))
end Go.Proofs.Ytcnecjkcmjgakaa
end
section
set_option linter.unusedVariables false
set_option linter.unusedSimpArgs false
set_option maxRecDepth 100000
set_option maxHeartbeats 4000000
namespace Go.Proofs.Ytcnecjkcmjgakaa
open Go.V
/-- Where a drift comes down, times its speed. -/
def atD (a : Nat → Nat → Int) (h : Int) (m : Nat) (w : Nat → Int) (j o : Nat) (lo hi p v : Int) (n : Nat) : Int := partS lo hi p * v + sumD a h m w j o n
theorem drift_all {x : Impt} {h f g : Int} {n : Nat} {a : Nat → Nat → Int} (e : (landT x h f g n a).2 = 0) {m : Nat} {w : Nat → Int} (hw : ∀ j, j < m → 0 ≤ w j ∧ w j ≤ 255)
    {px py pt pf : Int} (hx : 0 ≤ px ∧ px ≤ 255) (hy : 0 ≤ py ∧ py ≤ 255) (ht : 0 ≤ pt ∧ pt ≤ 255) (hf : 0 ≤ pf ∧ pf ≤ 255) {v at' : Int} (hv : partS f g pf = v) (ha : partS x.t0 x.t1 pt = at') :
    ((landT x h f g n a).1.xl * v ≤ atD a h m w 2 0 x.xl x.xh px v n ∧ atD a h m w 2 0 x.xl x.xh px v n ≤ (landT x h f g n a).1.xh * v) ∧
    ((landT x h f g n a).1.yl * v ≤ atD a h m w 4 1 x.yl x.yh py v n ∧ atD a h m w 4 1 x.yl x.yh py v n ≤ (landT x h f g n a).1.yh * v) ∧
    ((landT x h f g n a).1.t0 - at') * v ≤ h ∧ h ≤ ((landT x h f g n a).1.t1 - at') * v ∧ (landT x h f g n a).1.pc = x.pc := by
  obtain ⟨p1, p2, p3, p4, p5⟩ := landT_all e
  rw [p5]
  rw [chute_true] at p1
  rw [imp_true, side_true, side_true] at p3
  have hb := bands_ok p2
  have V := partS_in (lo := f) (hi := g) (by omega) hf
  rw [hv] at V
  have PX := partS_in (lo := x.xl) (hi := x.xh) (by omega) hx
  have PY := partS_in (lo := x.yl) (hi := x.yh) (by omega) hy
  have PT := partS_in (lo := x.t0) (hi := x.t1) (by omega) ht
  rw [ha] at PT
  have SX := sumD_in (a := a) (h := h) (o := 0) (j := 2) hw (n := n) fun i hi => (hb.x i hi).2.1
  have SY := sumD_in (a := a) (h := h) (o := 1) (j := 4) hw (n := n) fun i hi => (hb.y i hi).2.1
  have D1 := dLo_mul (p := sumW a h 2 n) p1.2.2.1 V.1 V.2
  have D2 := dHi_mul (p := sumW a h 3 n) p1.2.2.1 V.1 V.2
  have D3 := dLo_mul (p := sumW a h 4 n) p1.2.2.1 V.1 V.2
  have D4 := dHi_mul (p := sumW a h 5 n) p1.2.2.1 V.1 V.2
  have M1 := Int.mul_le_mul_of_nonneg_right (c := v) PX.1 (by omega)
  have M2 := Int.mul_le_mul_of_nonneg_right (c := v) PX.2 (by omega)
  have M3 := Int.mul_le_mul_of_nonneg_right (c := v) PY.1 (by omega)
  have M4 := Int.mul_le_mul_of_nonneg_right (c := v) PY.2 (by omega)
  unfold landI atD
  simp only [Int.add_mul, Int.sub_mul]
  have e1 : h.tdiv g = h / g := Int.tdiv_eq_ediv_of_nonneg (by omega)
  have T1 : (x.t0 + h / g - at') * v ≤ h := by
    have h1 := Int.mul_le_mul_of_nonneg_right (c := v) (show x.t0 + h / g - at' ≤ h / g by omega) (by omega)
    have h2 := Int.mul_le_mul_of_nonneg_left (c := h / g) V.2 (Int.ediv_nonneg (by omega) (by omega))
    have h3 := Int.ediv_mul_le h (b := g) (by omega)
    omega
  have T2 : h ≤ (x.t1 - (0 - h) / f - at') * v := by
    have h1 := Int.mul_le_mul_of_nonneg_right (c := v) (show 0 - (0 - h) / f ≤ x.t1 - (0 - h) / f - at' by omega) (by omega)
    have h0 : 0 ≤ 0 - (0 - h) / f := by
      have := Int.ediv_le_ediv (a := 0 - h) (b := 0) (c := f) (by omega) (by omega)
      rw [Int.zero_ediv] at this
      omega
    have h2 := Int.mul_le_mul_of_nonneg_left (c := 0 - (0 - h) / f) V.1 h0
    have h3 := Int.ediv_mul_le (0 - h) (b := f) (by omega)
    have h4 : (0 - (0 - h) / f) * f = 0 - (0 - h) / f * f := by rw [Int.sub_mul, Int.zero_mul]
    omega
  rw [e1]
  simp only [Int.add_mul, Int.sub_mul] at T1 T2
  have c1 : sumW a h (2 + 1) n = sumW a h 3 n := rfl
  have c2 : sumW a h (4 + 1) n = sumW a h 5 n := rfl
  rw [c1] at SX
  rw [c2] at SY
  exact ⟨⟨by omega, by omega⟩, ⟨by omega, by omega⟩, T1, T2, trivial⟩
/-- The landing's numbers are small. -/
theorem land_in {x : Impt} {h f g : Int} {n : Nat} {a : Nat → Nat → Int} (e : (landT x h f g n a).2 = 0) :
    (-200000000000000 ≤ (landT x h f g n a).1.xl ∧ (landT x h f g n a).1.xl ≤ 200000000000000) ∧ (-200000000000000 ≤ (landT x h f g n a).1.xh ∧ (landT x h f g n a).1.xh ≤ 200000000000000) ∧
    (-200000000000000 ≤ (landT x h f g n a).1.yl ∧ (landT x h f g n a).1.yl ≤ 200000000000000) ∧ (-200000000000000 ≤ (landT x h f g n a).1.yh ∧ (landT x h f g n a).1.yh ≤ 200000000000000) ∧
    (0 ≤ (landT x h f g n a).1.t0 ∧ (landT x h f g n a).1.t0 ≤ 1000000000) ∧ (0 ≤ (landT x h f g n a).1.t1 ∧ (landT x h f g n a).1.t1 ≤ 1000000000) := by
  obtain ⟨p1, p2, p3, p4, p5⟩ := landT_all e
  rw [p5]
  rw [chute_true] at p1
  rw [imp_true, side_true, side_true] at p3
  have hb := bands_ok p2
  have S := fun (j : Nat) hj => sumW_big (j := j) hb ⟨p1.1, p1.2.1⟩ hj (i := n) (Nat.le_refl n)
  have B : ∀ j, (j = 2 ∨ j = 3 ∨ j = 4 ∨ j = 5) → big (sumW a h j n) := fun j hj => by have := S j hj; unfold big; omega
  have b2 := dLo_big (f := f) (g := g) (B 2 (by omega)) (by omega) (by omega)
  have b3 := dHi_big (f := f) (g := g) (B 3 (by omega)) (by omega) (by omega)
  have b4 := dLo_big (f := f) (g := g) (B 4 (by omega)) (by omega) (by omega)
  have b5 := dHi_big (f := f) (g := g) (B 5 (by omega)) (by omega) (by omega)
  have e1 : h.tdiv g = h / g := Int.tdiv_eq_ediv_of_nonneg (by omega)
  have t1 : 0 ≤ h / g := Int.ediv_nonneg (by omega) (by omega)
  have t2 := ediv_le_self (a := h) (b := g) (by omega)
  have t3 := ediv_le_self (a := 0 - h) (b := f) (by omega)
  unfold landI
  simp only
  rw [e1]
  omega
theorem landT_err {x : Impt} {h f g : Int} {n : Nat} {a : Nat → Nat → Int} (e : ¬ (landT x h f g n a).2 = 0) : (landT x h f g n a).1 = imp0 := by
  unfold landT at *
  split
  · rfl
  · rename_i q
    rw [if_neg q] at e
    exact absurd rfl e
theorem sumD_pos {a : Nat → Nat → Int} {h : Int} {m : Nat} {w : Nat → Int} {j o k : Nat} (q : 0 < min (a k 1) h - a k 0) : sumD a h m w j o (k + 1) = sumD a h m w j o k + windS m w (a k j) (a k (j + 1)) (2 * k + o) * (min (a k 1) h - a k 0) := if_pos q
theorem sumD_neg {a : Nat → Nat → Int} {h : Int} {m : Nat} {w : Nat → Int} {j o k : Nat} (q : ¬ 0 < min (a k 1) h - a k 0) : sumD a h m w j o (k + 1) = sumD a h m w j o k := if_neg q
def rLDrift : List V.D → Option (Prop × V.D) := fun ds => match ds with
  | [.agg [.int .i64 a0, .int .i64 a1, .int .i64 a2, .int .i64 a3, .int .i64 a4, .int .i64 a5, .int .i64 a6, .int .i64 a7, .int .i64 a8, .int .i64 a9], .rsl 6 n g, .agg [.int .u8 x, .int .u8 y, .int .u8 at', .int .u8 fall, .rsl 1 m w]] =>
    some (IM n 6 g ∧ (U8 m w ∧ (∀ j, j < m → 0 ≤ toI (w j 0) ∧ toI (w j 0) ≤ 255)) ∧ m ≤ 9223372036854775807 ∧ (0 ≤ x ∧ x ≤ 255) ∧ (0 ≤ y ∧ y ≤ 255) ∧ (0 ≤ at' ∧ at' ≤ 255) ∧ 0 ≤ fall ∧ fall ≤ 255, .tt)
  | _ => none
attribute [local irreducible] landT partS windS sumD
theorem lawDrift_ok : PSound Go.Proofs.Try.prog 6 (mk rLDrift) := by
  refine psound_mk Try.func6 (by kernel_rfl) rfl (ctx lr46_ok) ?_
  (intro ds p d h; unfold rLDrift at h; split at h <;> first | (cases h; done) | skip; cases h; refine ⟨Nat.le_of_ble_eq_true rfl, fun hp k hk => ?_⟩)
  rename_i a0 a1 a2 a3 a4 a5 a6 a7 a8 a9 n g px py pt pf m w'
  obtain ⟨h1, ⟨h2, h3⟩, hm, hx, hy, ht, hf⟩ := hp
  refine ⟨[.agg [.int .i64 a0, .int .i64 a1, .int .i64 a2, .int .i64 a3, .int .i64 a4, .int .i64 a5, .int .i64 a6, .int .i64 a7, .int .i64 a8, .int .i64 a9], .rsl 6 n (imD (im g)), driftD px py pt pf m (fun i => toI (w' i 0))], rfl, rfl, rfl, rfl, rfl, rfl, rfl, rfl, rfl, rfl, rfl, h1, rfl, rfl, rfl, rfl, rfl, h2, ?_⟩
  clear h1 h2
  have hw : ∀ j, j < m → 0 ≤ (fun i => toI (w' i 0)) j ∧ (fun i => toI (w' i 0)) j ≤ 255 := h3
  clear h3
  generalize im g = a at *
  generalize (fun i => toI (w' i 0)) = w at *
  repeat' (first | ((with_reducible refine kok ?_); kernel_rfl) | ((with_reducible refine keq_mk ?_); kernel_rfl) | with_reducible rfl | ((conv => whnf); first | (with_reducible exact trivial) | ((with_reducible refine and_ff ?_ ?_); · exact rfl) | ((with_reducible refine and_tt ?_ ?_); · exact rfl) | (with_reducible refine And.intro ?_ ?_) | intro _ | (with_reducible refine fin2 hk ?_) | ((with_reducible refine eq_leaf ?_); exact rfl) | exact trivial))
  · rename_i g1 g2
    clear hk
    simp only [im_imD, taskOf_agg, ↓Bool.not_eq_true', ↓Bool.not_eq_false', ↓decT, ↓decF, out_true, out_false, isin_true, isin_false, Int.toNat_natCast, Int.ofNat_lt, Nat.zero_add, Nat.add_zero, Nat.reduceAdd] at g1 g2
    have q := landT_err g1
    exfalso
    simp [q, imp0] at g2
  all_goals (rename_i g1; simp only [im_imD, taskOf_agg, ↓Bool.not_eq_true', ↓Bool.not_eq_false', ↓decT, ↓decF, out_true, out_false, isin_true, isin_false, Int.toNat_natCast, Int.ofNat_lt, Nat.zero_add, Nat.add_zero, Nat.reduceAdd, Decidable.not_not] at g1)
  all_goals (
    obtain ⟨p1, p2, p3, p4, p5⟩ := landT_all g1
    rw [chute_true] at p1
    rw [imp_true, side_true, side_true] at p3
    simp only at p3
    clear p5
    have hb := bands_ok p2
    clear p2
    have V := partS_in (lo := a8) (hi := a9) (by omega) hf
    have PX := partS_in (lo := a1) (hi := a2) (by omega) hx
    have PY := partS_in (lo := a3) (hi := a4) (by omega) hy
    have PT := partS_in (lo := a5) (hi := a6) (by omega) ht
    have MX := mul_in (x := partS a1 a2 px) (y := partS a8 a9 pf) (A := 2000000000) (B := 10000) (by omega) (by omega) (by decide)
    have MY := mul_in (x := partS a3 a4 py) (y := partS a8 a9 pf) (A := 2000000000) (B := 10000) (by omega) (by omega) (by decide))
  all_goals try (clear hk; omega)
  have LI := land_in g1
  have DA := drift_all g1 hw hx hy ht hf (v := partS a8 a9 pf) rfl rfl
  have S2 := fun (j : Nat) hj (i : Nat) hi => sumW_big (j := j) hb ⟨p1.1, p1.2.1⟩ hj (i := i) hi
  have SX := fun (i : Nat) (hi : i ≤ n) => sumD_in (a := a) (h := a7) (o := 0) (j := 2) hw (n := i) fun k hk => (hb.x k (by omega)).2.1
  have SY := fun (i : Nat) (hi : i ≤ n) => sumD_in (a := a) (h := a7) (o := 1) (j := 4) hw (n := i) fun k hk => (hb.y k (by omega)).2.1
  conv => whnf
  refine ⟨Nat, fun i => [(3, .ptr 0 0), (1, .rsl 6 n (imD a)), (5, .ptr 1 0), (7, .ptr 2 0), (9, .int .i64 (partS a8 a9 pf)), (10, .int .i64 (partS a1 a2 px * partS a8 a9 pf + sumD a a7 m w 2 0 i)), (11, .int .i64 (partS a3 a4 py * partS a8 a9 pf + sumD a a7 m w 4 1 i)), (12, .int .i64 i)],
    fun i => [some (.row [.int .i64 a0, .int .i64 a1, .int .i64 a2, .int .i64 a3, .int .i64 a4, .int .i64 a5, .int .i64 a6, .int .i64 a7, .int .i64 a8, .int .i64 a9]), some (.row [.int .u8 px, .int .u8 py, .int .u8 pt, .int .u8 pf, .rsl 1 m (u8D w)]), some (.row [.int .i64 (landT ⟨a0, a1, a2, a3, a4, a5, a6⟩ a7 a8 a9 n (im (imD a))).1.pc, .int .i64 (landT ⟨a0, a1, a2, a3, a4, a5, a6⟩ a7 a8 a9 n (im (imD a))).1.xl, .int .i64 (landT ⟨a0, a1, a2, a3, a4, a5, a6⟩ a7 a8 a9 n (im (imD a))).1.xh, .int .i64 (landT ⟨a0, a1, a2, a3, a4, a5, a6⟩ a7 a8 a9 n (im (imD a))).1.yl, .int .i64 (landT ⟨a0, a1, a2, a3, a4, a5, a6⟩ a7 a8 a9 n (im (imD a))).1.yh, .int .i64 (landT ⟨a0, a1, a2, a3, a4, a5, a6⟩ a7 a8 a9 n (im (imD a))).1.t0, .int .i64 (landT ⟨a0, a1, a2, a3, a4, a5, a6⟩ a7 a8 a9 n (im (imD a))).1.t1])],
    fun i => n - i, fun i => i ≤ n, [], 0, fun _ => ⟨rfl, rfl⟩, ?_, fun i hI => ?_⟩
  · repeat' (first | ((with_reducible refine kok ?_); kernel_rfl) | ((with_reducible refine keq_mk ?_); kernel_rfl) | with_reducible rfl | ((conv => whnf); first | (with_reducible exact trivial) | ((with_reducible refine and_ff ?_ ?_); · exact rfl) | ((with_reducible refine and_tt ?_ ?_); · exact rfl) | (with_reducible refine And.intro ?_ ?_) | intro _ | (with_reducible refine fin2 hk ?_) | ((with_reducible refine eq_leaf ?_); exact rfl) | exact trivial))
    all_goals first | exact Nat.zero_le n | (show (_ : Int) = _ + sumD _ _ _ _ _ _ 0; delta sumD; exact (Int.add_zero _).symm)
  have hi : i ≤ n := hI
  have A2 := S2 2 (by omega) i hi
  have A3 := S2 (2 + 1) (by omega) i hi
  have A4 := S2 4 (by omega) i hi
  have A5 := S2 (4 + 1) (by omega) i hi
  have AX := SX i hi
  have AY := SY i hi
  have t1 : (2 * (i : Int)).toNat = 2 * i := by omega
  have t2 : (2 * (i : Int) + 1).toNat = 2 * i + 1 := by omega
  have eu : (fun i => toI (u8D w i 0)) = w := rfl
  have U := fun h : i < n => And.intro (hb.up i h) (And.intro (hb.x i h) (hb.y i h))
  have WX := fun h : i < n => windS_in (m := m) (w := w) (lo := a i 2) (hi := a i 3) (hb.x i h).2.1 hw (2 * i)
  have WY := fun h : i < n => windS_in (m := m) (w := w) (lo := a i 4) (hi := a i 5) (hb.y i h).2.1 hw (2 * i + 1)
  have MM := fun h : i < n => (mm_in hb ⟨p1.1, p1.2.1⟩ h).2.2
  have TX := fun (h : i < n) (q : 0 < min (a i 1) a7 - a i 0) => mul_in (x := windS m w (a i 2) (a i 3) (2 * i)) (y := min (a i 1) a7 - a i 0) (A := 20000) (B := 100000000) (by have := WX h; have := U h; omega) (by have := MM h; omega) (by decide)
  have TY := fun (h : i < n) (q : 0 < min (a i 1) a7 - a i 0) => mul_in (x := windS m w (a i 4) (a i 5) (2 * i + 1)) (y := min (a i 1) a7 - a i 0) (A := 20000) (B := 100000000) (by have := WY h; have := U h; omega) (by have := MM h; omega) (by decide)
  have L1 := mul_in (x := (landT ⟨a0, a1, a2, a3, a4, a5, a6⟩ a7 a8 a9 n a).1.xl) (y := partS a8 a9 pf) (A := 200000000000000) (B := 10000) (by omega) (by omega) (by decide)
  have L2 := mul_in (x := (landT ⟨a0, a1, a2, a3, a4, a5, a6⟩ a7 a8 a9 n a).1.xh) (y := partS a8 a9 pf) (A := 200000000000000) (B := 10000) (by omega) (by omega) (by decide)
  have L3 := mul_in (x := (landT ⟨a0, a1, a2, a3, a4, a5, a6⟩ a7 a8 a9 n a).1.yl) (y := partS a8 a9 pf) (A := 200000000000000) (B := 10000) (by omega) (by omega) (by decide)
  have L4 := mul_in (x := (landT ⟨a0, a1, a2, a3, a4, a5, a6⟩ a7 a8 a9 n a).1.yh) (y := partS a8 a9 pf) (A := 200000000000000) (B := 10000) (by omega) (by omega) (by decide)
  have L5 := mul_in (x := (landT ⟨a0, a1, a2, a3, a4, a5, a6⟩ a7 a8 a9 n a).1.t0 - partS a5 a6 pt) (y := partS a8 a9 pf) (A := 2000000000) (B := 10000) (by omega) (by omega) (by decide)
  have L6 := mul_in (x := (landT ⟨a0, a1, a2, a3, a4, a5, a6⟩ a7 a8 a9 n a).1.t1 - partS a5 a6 pt) (y := partS a8 a9 pf) (A := 2000000000) (B := 10000) (by omega) (by omega) (by decide)
  unfold atD at DA
  have hn := hb.len
  repeat' (first | ((with_reducible refine kok ?_); kernel_rfl) | ((with_reducible refine keq_mk ?_); kernel_rfl) | with_reducible rfl | ((conv => whnf); first | (with_reducible exact trivial) | ((with_reducible refine and_ff ?_ ?_); · exact rfl) | ((with_reducible refine and_tt ?_ ?_); · exact rfl) | (with_reducible refine And.intro ?_ ?_) | intro _ | (with_reducible refine fin2 hk ?_) | ((with_reducible refine eq_leaf ?_); exact rfl) | exact trivial))
  all_goals try (with_reducible exact hm)
  all_goals try ((with_reducible refine (?_ : (0 : Int) ≤ toI (u8D w _ 0))); exact (hw _ (by assumption)).1)
  all_goals try ((with_reducible refine (?_ : toI (u8D w _ 0) ≤ (255 : Int))); exact (hw _ (by assumption)).2)
  all_goals try ((first | with_reducible refine (?_ : (_ : Int) ≤ _) | with_reducible refine (?_ : (_ : Int) < _) | (with_reducible refine (?_ : impA noGh .ff .tt True); exfalso)); clear hk SX SY S2 hw hb; simp only [im_imD, taskOf_agg, ↓Bool.not_eq_true', ↓Bool.not_eq_false', ↓decT, ↓decF, out_true, out_false, isin_true, isin_false, Int.toNat_natCast, Int.ofNat_lt, Nat.zero_add, Nat.add_zero, Nat.reduceAdd, t1, t2, eu] at *; first | omega | (have := U (by omega); have := WX (by omega); have := WY (by omega); have := MM (by omega); first | omega | (have := TX (by omega) (by omega); have := TY (by omega) (by omega); omega)) | (obtain rfl : i = n := (by omega); omega))
  · rename_i g2 g3
    clear hk SX SY S2 TX TY WX WY MM U L1 L2 L3 L4 L5 L6 hb DA LI
    have g4 : (i : Int) < n := of_decide_eq_true g2
    have g5 : 0 < min (a i 1) a7 - a i 0 := of_decide_eq_true g3
    conv => whnf
    refine ⟨i + 1, ?_⟩
    repeat' (first | ((with_reducible refine kok ?_); kernel_rfl) | ((with_reducible refine keq_mk ?_); kernel_rfl) | with_reducible rfl | ((conv => whnf); first | (with_reducible exact trivial) | ((with_reducible refine and_ff ?_ ?_); · exact rfl) | ((with_reducible refine and_tt ?_ ?_); · exact rfl) | (with_reducible refine And.intro ?_ ?_) | intro _ | (with_reducible refine fin2 hk ?_) | ((with_reducible refine eq_leaf ?_); exact rfl) | exact trivial))
    all_goals first
      | (rw [sumD_pos g5]; simp only [taskOf_agg, ↓Bool.not_eq_true', ↓Bool.not_eq_false', ↓decT, ↓decF, out_true, out_false, isin_true, isin_false, Int.toNat_natCast, Int.ofNat_lt, Nat.zero_add, Nat.add_zero, Nat.reduceAdd, t1, t2, eu]; first | done | omega)
      | (show i + 1 ≤ n; omega)
      | (show n - (i + 1) < n - i; omega)
      | omega
  · rename_i g2 g3
    clear hk SX SY S2 TX TY WX WY MM U L1 L2 L3 L4 L5 L6 hb DA LI
    have g4 : (i : Int) < n := of_decide_eq_true g2
    have g5 : ¬ 0 < min (a i 1) a7 - a i 0 := of_decide_eq_false g3
    conv => whnf
    refine ⟨i + 1, ?_⟩
    repeat' (first | ((with_reducible refine kok ?_); kernel_rfl) | ((with_reducible refine keq_mk ?_); kernel_rfl) | with_reducible rfl | ((conv => whnf); first | (with_reducible exact trivial) | ((with_reducible refine and_ff ?_ ?_); · exact rfl) | ((with_reducible refine and_tt ?_ ?_); · exact rfl) | (with_reducible refine And.intro ?_ ?_) | intro _ | (with_reducible refine fin2 hk ?_) | ((with_reducible refine eq_leaf ?_); exact rfl) | exact trivial))
    all_goals first
      | (rw [sumD_neg g5]; done)
      | (rw [sumD_neg g5]; simp only [taskOf_agg, ↓Bool.not_eq_true', ↓Bool.not_eq_false', ↓decT, ↓decF, out_true, out_false, isin_true, isin_false, Int.toNat_natCast, Int.ofNat_lt, Nat.zero_add, Nat.add_zero, Nat.reduceAdd, t1, t2, eu]; first | done | omega)
      | (show i + 1 ≤ n; omega)
      | (show n - (i + 1) < n - i; omega)
      | omega
end Go.Proofs.Ytcnecjkcmjgakaa
end
section
set_option linter.unusedVariables false
set_option linter.unusedSimpArgs false
set_option maxRecDepth 100000
namespace Go.Proofs.Ytcnecjkcmjgakaa
open Go.V

def driftK : AK := .agg [.int .u8, .int .u8, .int .u8, .int .u8, .sl [.int .u8]]
/-- What is read of a drift is one. -/
theorem drift_of_kinds {d : V.D} (h : IsA driftK d) : ∃ x y at' fall m w, d = .agg [.int .u8 x, .int .u8 y, .int .u8 at', .int .u8 fall, .rsl 1 m w] ∧ (U8 m w ∧ (∀ j, j < m → 0 ≤ toI (w j 0) ∧ toI (w j 0) ≤ 255)) ∧ m ≤ 9223372036854775807 ∧ (0 ≤ x ∧ x ≤ 255) ∧ (0 ≤ y ∧ y ≤ 255) ∧ (0 ≤ at' ∧ at' ≤ 255) ∧ 0 ≤ fall ∧ fall ≤ 255 := by
  obtain ⟨ds, rfl, hl, h⟩ := h
  match ds, hl with
  | [d0, d1, d2, d3, d4], _ =>
    obtain ⟨n0, rfl, a0, b0⟩ := h 0 _ _ rfl rfl
    obtain ⟨n1, rfl, a1, b1⟩ := h 1 _ _ rfl rfl
    obtain ⟨n2, rfl, a2, b2⟩ := h 2 _ _ rfl rfl
    obtain ⟨n3, rfl, a3, b3⟩ := h 3 _ _ rfl rfl
    obtain ⟨m, g, rfl, hm, hg⟩ := h 4 _ _ rfl rfl
    refine ⟨n0, n1, n2, n3, m, g, rfl, ⟨fun i j hi hj => ?_, fun j hj => ?_⟩, hm, ⟨a0, b0⟩, ⟨a1, b1⟩, ⟨a2, b2⟩, a3, b3⟩
    · obtain rfl : j = 0 := by omega
      obtain ⟨v, e, _⟩ := hg i 0 _ hi rfl
      show g i 0 = V.D.int .u8 (toI (g i 0))
      rw [e]; rfl
    · obtain ⟨v, e, e1, e2⟩ := hg j 0 _ hj rfl
      rw [e]
      exact ⟨e1, e2⟩
theorem recoverDrift_lifted (os : Os) (started : os.Started) (H : Type) (enc : TypeId × Value → H) :
    ReturnsInHanded {} Try.checked os 6 .any (Rows.recoverDriftSpec.pre6 enc Go.Proofs.Try.prog Try.f6 Rows.recoverDriftRow.domain false) (Rows.recoverDriftSpec.post enc Go.Proofs.Try.prog Try.f6 false Rows.recoverDriftRow.fresh Rows.recoverDriftRow.handsOn Rows.recoverDriftRow.again) := by
  refine returnsInHanded_of_change (C := Try.checked) own started (by kernel_rfl) Try.func6
    (ChangeSpec.witness6 (enc := enc) (C := Try.checked) false ⟨#[], #[.agg #[.int .i64 0, .int .i64 0, .int .i64 0, .int .i64 0, .int .i64 0, .int .i64 0, .int .i64 0, .int .i64 0, .int .i64 0, .int .i64 0], .slice none 0 0, .agg #[.int .u8 0, .int .u8 0, .int .u8 0, .int .u8 0, .slice none 0 0]], []⟩ 8 (by kernel_rfl) (by kernel_rfl) (by kernel_rfl) (by kernel_rfl)) ?_
  intro W base args ds gs before hok hW _ _
  refine law_contract (l := [.agg (ints 10), .one bandsK, driftK]) (tb := 4) laid_ok lawDrift_ok (by kernel_rfl) (by kernel_rfl) rfl tbool (fun ds h => ?_) rfl (fun ds hd => ?_) W base args ds gs before hok hW
  · obtain ⟨d, e, q, rfl, h1, h2, h3⟩ := isAL3 h
    obtain ⟨a0, a1, a2, a3, a4, a5, a6, a7, a8, a9, rfl⟩ := ints10 h1
    obtain ⟨n, g, rfl, hg⟩ := bands_of_kinds (f := 6) h2
    obtain ⟨x, y, at', fall, m, w, rfl, hu, hm, hx, hy, ht, hf⟩ := drift_of_kinds h3
    exact ⟨_, _, rfl, ⟨hg, hu, hm, hx, hy, ht, hf⟩, .inl rfl⟩
  · match ds, hd with
    | [a, b, c], _ => exact ⟨rfl, rfl, rfl⟩
theorem recoverDrift_holds : Rows.RecoverDriftSaid :=
  OpenClaim.holds_of_wide 6 Try.f6 rfl rfl rfl rfl rfl rfl rfl ⟨rfl, rfl, rfl, rfl, rfl⟩ rfl rfl rfl rfl rfl (by kernel_rfl) Try.func6 (by kernel_rfl)
    (of_decide_eq_true (by kernel_rfl)) (by unfold Func.isWrapper; first | (rw [if_pos (by decide +kernel)]; kernel_rfl) | (rw [if_neg (by decide +kernel)]; exact ⟨rfl, rfl⟩))
    (fun os started H enc _ => recoverDrift_lifted os started H enc)
#print axioms recoverDrift_holds
end Go.Proofs.Ytcnecjkcmjgakaa
end
