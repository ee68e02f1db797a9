/-
  The recovery's law Drift: plain numbers; parts of spans.
-/
import Derived.Test.YtphcblofacfkaaaGreatMs
set_option linter.unusedVariables false
set_option linter.unusedSimpArgs false
set_option maxRecDepth 100000
set_option maxHeartbeats 4000000
section
namespace Go.Proofs.YtphcblofacfkaaaGreat
open Go.V
def partS (lo hi n : Int) : Int := lo + ((hi - lo) * n).tdiv 255
theorem partS_in {lo hi n : Int} (h : lo ≤ hi) (hn : 0 ≤ n ∧ n ≤ 255) : lo ≤ partS lo hi n ∧ partS lo hi n ≤ hi := by
  unfold partS
  have h1 : 0 ≤ (hi - lo) * n := Int.mul_nonneg (by omega) hn.1
  have h2 : (hi - lo) * n ≤ (hi - lo) * 255 := Int.mul_le_mul_of_nonneg_left hn.2 (by omega)
  rw [Int.tdiv_eq_ediv_of_nonneg h1]
  omega
theorem dLo_mul {p f g v : Int} (hf : 1 ≤ f) (h1 : f ≤ v) (h2 : v ≤ g) : dLo p f g * v ≤ p := by
  unfold dLo
  have key : ∀ {q : Int}, q ≤ p / v → q * v ≤ p := fun {q} h => by
    have := Int.mul_le_mul_of_nonneg_right (c := v) h (by omega)
    have := Int.ediv_mul_le p (b := v) (by omega)
    omega
  apply key
  rcases Int.le_total 0 p with h | h
  · have : p / g ≤ p / v := by
      apply Int.le_ediv_of_mul_le (by omega)
      have h3 := Int.ediv_mul_le p (b := g) (by omega)
      have h4 : 0 ≤ p / g := Int.ediv_nonneg h (by omega)
      have := Int.mul_le_mul_of_nonneg_left (c := p / g) h2 h4
      omega
    omega
  · have : p / f ≤ p / v := by
      apply Int.le_ediv_of_mul_le (by omega)
      have h3 := Int.ediv_mul_le p (b := f) (by omega)
      have h4 : p / f ≤ 0 := by
        have := Int.ediv_le_ediv (a := p) (b := 0) (c := f) (by omega) h
        rwa [Int.zero_ediv] at this
      have := Int.mul_le_mul_of_nonpos_left h4 h1
      omega
    omega
theorem dHi_mul {p f g v : Int} (hf : 1 ≤ f) (h1 : f ≤ v) (h2 : v ≤ g) : p ≤ dHi p f g * v := by
  have h := dLo_mul (p := 0 - p) hf h1 h2
  have e : dHi p f g = 0 - dLo (0 - p) f g := by unfold dHi dLo; omega
  rw [e, Int.sub_mul, Int.zero_mul]
  omega
def windS (m : Nat) (w : Nat → Int) (lo hi : Int) (i : Nat) : Int := if m = 0 then hi else partS lo hi (w (i % m))
theorem windS_in {m : Nat} {w : Nat → Int} {lo hi : Int} (h : lo ≤ hi) (hw : ∀ j, j < m → 0 ≤ w j ∧ w j ≤ 255) (i : Nat) : lo ≤ windS m w lo hi i ∧ windS m w lo hi i ≤ hi := by
  unfold windS
  split
  · exact ⟨h, Int.le_refl _⟩
  · exact partS_in h (hw _ (Nat.mod_lt _ (by omega)))
def sumD (a : Nat → Nat → Int) (h : Int) (m : Nat) (w : Nat → Int) (j o : Nat) : Nat → Int
  | 0 => 0
  | k + 1 => if 0 < min (a k 1) h - a k 0 then sumD a h m w j o k + windS m w (a k j) (a k (j + 1)) (2 * k + o) * (min (a k 1) h - a k 0) else sumD a h m w j o k
theorem sumD_in {a : Nat → Nat → Int} {h : Int} {m : Nat} {w : Nat → Int} {j o : Nat} (hw : ∀ j, j < m → 0 ≤ w j ∧ w j ≤ 255) : ∀ {n : Nat}, (∀ i, i < n → a i j ≤ a i (j + 1)) → sumW a h j n ≤ sumD a h m w j o n ∧ sumD a h m w j o n ≤ sumW a h (j + 1) n
  | 0, _ => ⟨Int.le_refl 0, Int.le_refl 0⟩
  | k + 1, ha => by
    have ih := sumD_in (h := h) (o := o) hw (n := k) fun i hi => ha i (by omega)
    have hk := windS_in (m := m) (w := w) (ha k (by omega)) hw (2 * k + o)
    unfold sumD sumW mmB
    split
    · rename_i g
      rw [Int.max_eq_right (by omega)]
      have h1 := Int.mul_le_mul_of_nonneg_right (c := min (a k 1) h - a k 0) hk.1 (by omega)
      have h2 := Int.mul_le_mul_of_nonneg_right (c := min (a k 1) h - a k 0) hk.2 (by omega)
      omega
    · rw [Int.max_eq_left (by omega), Int.mul_zero, Int.mul_zero]
      omega
def u8D (w : Nat → Int) (i _ : Nat) : V.D := .int .u8 (w i)
def U8 (n : Nat) (g : Nat → Nat → V.D) : Prop := ∀ i j, i < n → j < 1 → g i j = u8D (fun i => toI (g i 0)) i j
def driftD (x y at' fall : Int) (m : Nat) (w : Nat → Int) : V.D := .agg [.int .u8 x, .int .u8 y, .int .u8 at', .int .u8 fall, .rsl 1 m (u8D w)]
end Go.Proofs.YtphcblofacfkaaaGreat
end
section
namespace Go.Proofs.YtphcblofacfkaaaGreat
open Go.V
end Go.Proofs.YtphcblofacfkaaaGreat
end
section
namespace Go.Proofs.YtphcblofacfkaaaGreat
open Go.V
def HoldsP (a b : Impt) : Prop := b.xl ≤ a.xl ∧ a.xh ≤ b.xh ∧ b.yl ≤ a.yl ∧ a.yh ≤ b.yh ∧ b.t0 ≤ a.t0 ∧ a.t1 ≤ b.t1
instance (a b : Impt) : Decidable (HoldsP a b) := by unfold HoldsP; infer_instance
theorem landT_all {x : Impt} {h f g : Int} {n : Nat} {a : Nat → Nat → Int} (e : (landT x h f g n a).2 = 0) : chuteB h f g = true ∧ (checkBands n a).2 = 0 ∧ imptB x = true ∧ h ≤ a (n - 1) 1 ∧ landT x h f g n a = (landI x h f g n a, 0) := by
  by_cases h1 : chuteB h f g = true
  · by_cases h2 : (checkBands n a).2 = 0
    · by_cases h3 : imptB x = true
      · by_cases h4 : a (n - 1) 1 < h
        · rw [landT_top h1 h2 h3 h4] at e; exact absurd e (by decide)
        · exact ⟨h1, h2, h3, by omega, landT_ok h1 h2 h3 h4⟩
      · rw [landT_imp h1 h2 (by simpa using h3)] at e; exact absurd e (by decide)
    · rw [landT_bands h1 h2] at e; exact absurd e h2
  · rw [landT_chute h1] at e; exact absurd e (by decide)
attribute [local irreducible] landT HoldsP
end Go.Proofs.YtphcblofacfkaaaGreat
end
section
namespace Go.Proofs.YtphcblofacfkaaaGreat
open Go.V
def atD (a : Nat → Nat → Int) (h : Int) (m : Nat) (w : Nat → Int) (j o : Nat) (lo hi p v : Int) (n : Nat) : Int := partS lo hi p * v + sumD a h m w j o n
theorem drift_all {x : Impt} {h f g : Int} {n : Nat} {a : Nat → Nat → Int} (e : (landT x h f g n a).2 = 0) {m : Nat} {w : Nat → Int} (hw : ∀ j, j < m → 0 ≤ w j ∧ w j ≤ 255)
    {px py pt pf : Int} (hx : 0 ≤ px ∧ px ≤ 255) (hy : 0 ≤ py ∧ py ≤ 255) (ht : 0 ≤ pt ∧ pt ≤ 255) (hf : 0 ≤ pf ∧ pf ≤ 255) {v at' : Int} (hv : partS f g pf = v) (ha : partS x.t0 x.t1 pt = at') :
    ((landT x h f g n a).1.xl * v ≤ atD a h m w 2 0 x.xl x.xh px v n ∧ atD a h m w 2 0 x.xl x.xh px v n ≤ (landT x h f g n a).1.xh * v) ∧
    ((landT x h f g n a).1.yl * v ≤ atD a h m w 4 1 x.yl x.yh py v n ∧ atD a h m w 4 1 x.yl x.yh py v n ≤ (landT x h f g n a).1.yh * v) ∧
    ((landT x h f g n a).1.t0 - at') * v ≤ h ∧ h ≤ ((landT x h f g n a).1.t1 - at') * v ∧ (landT x h f g n a).1.pc = x.pc := by
  obtain ⟨p1, p2, p3, p4, p5⟩ := landT_all e
  rw [p5]
  rw [chute_true] at p1
  rw [imp_true, side_true, side_true] at p3
  have hb := bands_ok p2
  have V := partS_in (lo := f) (hi := g) (by omega) hf
  rw [hv] at V
  have PX := partS_in (lo := x.xl) (hi := x.xh) (by omega) hx
  have PY := partS_in (lo := x.yl) (hi := x.yh) (by omega) hy
  have PT := partS_in (lo := x.t0) (hi := x.t1) (by omega) ht
  rw [ha] at PT
  have SX := sumD_in (a := a) (h := h) (o := 0) (j := 2) hw (n := n) fun i hi => (hb.x i hi).2.1
  have SY := sumD_in (a := a) (h := h) (o := 1) (j := 4) hw (n := n) fun i hi => (hb.y i hi).2.1
  have D1 := dLo_mul (p := sumW a h 2 n) p1.2.2.1 V.1 V.2
  have D2 := dHi_mul (p := sumW a h 3 n) p1.2.2.1 V.1 V.2
  have D3 := dLo_mul (p := sumW a h 4 n) p1.2.2.1 V.1 V.2
  have D4 := dHi_mul (p := sumW a h 5 n) p1.2.2.1 V.1 V.2
  have M1 := Int.mul_le_mul_of_nonneg_right (c := v) PX.1 (by omega)
  have M2 := Int.mul_le_mul_of_nonneg_right (c := v) PX.2 (by omega)
  have M3 := Int.mul_le_mul_of_nonneg_right (c := v) PY.1 (by omega)
  have M4 := Int.mul_le_mul_of_nonneg_right (c := v) PY.2 (by omega)
  unfold landI atD
  simp only [Int.add_mul, Int.sub_mul]
  have e1 : h.tdiv g = h / g := Int.tdiv_eq_ediv_of_nonneg (by omega)
  have T1 : (x.t0 + h / g - at') * v ≤ h := by
    have h1 := Int.mul_le_mul_of_nonneg_right (c := v) (show x.t0 + h / g - at' ≤ h / g by omega) (by omega)
    have h2 := Int.mul_le_mul_of_nonneg_left (c := h / g) V.2 (Int.ediv_nonneg (by omega) (by omega))
    have h3 := Int.ediv_mul_le h (b := g) (by omega)
    omega
  have T2 : h ≤ (x.t1 - (0 - h) / f - at') * v := by
    have h1 := Int.mul_le_mul_of_nonneg_right (c := v) (show 0 - (0 - h) / f ≤ x.t1 - (0 - h) / f - at' by omega) (by omega)
    have h0 : 0 ≤ 0 - (0 - h) / f := by
      have := Int.ediv_le_ediv (a := 0 - h) (b := 0) (c := f) (by omega) (by omega)
      rw [Int.zero_ediv] at this
      omega
    have h2 := Int.mul_le_mul_of_nonneg_left (c := 0 - (0 - h) / f) V.1 h0
    have h3 := Int.ediv_mul_le (0 - h) (b := f) (by omega)
    have h4 : (0 - (0 - h) / f) * f = 0 - (0 - h) / f * f := by rw [Int.sub_mul, Int.zero_mul]
    omega
  rw [e1]
  simp only [Int.add_mul, Int.sub_mul] at T1 T2
  have c1 : sumW a h (2 + 1) n = sumW a h 3 n := rfl
  have c2 : sumW a h (4 + 1) n = sumW a h 5 n := rfl
  rw [c1] at SX
  rw [c2] at SY
  exact ⟨⟨by omega, by omega⟩, ⟨by omega, by omega⟩, T1, T2, trivial⟩
theorem land_in {x : Impt} {h f g : Int} {n : Nat} {a : Nat → Nat → Int} (e : (landT x h f g n a).2 = 0) :
    (-200000000000000 ≤ (landT x h f g n a).1.xl ∧ (landT x h f g n a).1.xl ≤ 200000000000000) ∧ (-200000000000000 ≤ (landT x h f g n a).1.xh ∧ (landT x h f g n a).1.xh ≤ 200000000000000) ∧
    (-200000000000000 ≤ (landT x h f g n a).1.yl ∧ (landT x h f g n a).1.yl ≤ 200000000000000) ∧ (-200000000000000 ≤ (landT x h f g n a).1.yh ∧ (landT x h f g n a).1.yh ≤ 200000000000000) ∧
    (0 ≤ (landT x h f g n a).1.t0 ∧ (landT x h f g n a).1.t0 ≤ 1000000000) ∧ (0 ≤ (landT x h f g n a).1.t1 ∧ (landT x h f g n a).1.t1 ≤ 1000000000) := by
  obtain ⟨p1, p2, p3, p4, p5⟩ := landT_all e
  rw [p5]
  rw [chute_true] at p1
  rw [imp_true, side_true, side_true] at p3
  have hb := bands_ok p2
  have S := fun (j : Nat) hj => sumW_big (j := j) hb ⟨p1.1, p1.2.1⟩ hj (i := n) (Nat.le_refl n)
  have B : ∀ j, (j = 2 ∨ j = 3 ∨ j = 4 ∨ j = 5) → big (sumW a h j n) := fun j hj => by have := S j hj; unfold big; omega
  have b2 := dLo_big (f := f) (g := g) (B 2 (by omega)) (by omega) (by omega)
  have b3 := dHi_big (f := f) (g := g) (B 3 (by omega)) (by omega) (by omega)
  have b4 := dLo_big (f := f) (g := g) (B 4 (by omega)) (by omega) (by omega)
  have b5 := dHi_big (f := f) (g := g) (B 5 (by omega)) (by omega) (by omega)
  have e1 : h.tdiv g = h / g := Int.tdiv_eq_ediv_of_nonneg (by omega)
  have t1 : 0 ≤ h / g := Int.ediv_nonneg (by omega) (by omega)
  have t2 := ediv_le_self (a := h) (b := g) (by omega)
  have t3 := ediv_le_self (a := 0 - h) (b := f) (by omega)
  unfold landI
  simp only
  rw [e1]
  omega
theorem sumD_pos {a : Nat → Nat → Int} {h : Int} {m : Nat} {w : Nat → Int} {j o k : Nat} (q : 0 < min (a k 1) h - a k 0) : sumD a h m w j o (k + 1) = sumD a h m w j o k + windS m w (a k j) (a k (j + 1)) (2 * k + o) * (min (a k 1) h - a k 0) := if_pos q
theorem sumD_neg {a : Nat → Nat → Int} {h : Int} {m : Nat} {w : Nat → Int} {j o k : Nat} (q : ¬ 0 < min (a k 1) h - a k 0) : sumD a h m w j o (k + 1) = sumD a h m w j o k := if_neg q
attribute [local irreducible] landT partS windS sumD
end Go.Proofs.YtphcblofacfkaaaGreat
end
