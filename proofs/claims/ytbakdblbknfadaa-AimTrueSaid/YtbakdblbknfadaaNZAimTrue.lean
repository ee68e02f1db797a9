/-
  The law AimTrue is proved: for any mean winds, weights, and place without wind within what is told of them, the vehicle comes down in the impact area, and with a miss that is at most that of the setting; with one that is allowed it comes down in Allowed, for any task, bands, setting and numbers. No condition.
-/
import Derived.Test.YtbakdblbknfadaaMo
import Derived.Test.YtbakdblbknfadaaMn
section
set_option linter.unusedVariables false
set_option linter.unusedSimpArgs false
set_option maxRecDepth 100000
set_option maxHeartbeats 4000000
namespace Go.Proofs.Ytbakdblbknfadaa
open Go.V
theorem mean_min_le {c : Nat} {lo hi : Int} {a : Nat → Nat → Int} : ∀ n i, i < n → skipB lo hi a i = false → anyM lo hi a n = true ∧ meanV min c lo hi a n ≤ a i c
  | 0, i, h, _ => absurd h (Nat.not_lt_zero _)
  | n + 1, i, h, hs => by
    by_cases q : skipB lo hi a n = true
    · rw [any_skip q, mean_skip q]
      exact mean_min_le n i (by rcases Nat.lt_succ_iff_lt_or_eq.1 h with r | r; exact r; rw [r, q] at hs; exact absurd hs (by decide)) hs
    · have q : skipB lo hi a n = false := by simpa using q
      refine ⟨any_more q, ?_⟩
      by_cases g : anyM lo hi a n = true
      · rw [mean_more q g]
        rcases Nat.lt_succ_iff_lt_or_eq.1 h with r | r
        · have := (mean_min_le (c := c) n i r hs).2
          omega
        · rw [r]; omega
      · rw [mean_first q (by simpa using g)]
        rcases Nat.lt_succ_iff_lt_or_eq.1 h with r | r
        · exact absurd (mean_min_le (c := c) n i r hs).1 g
        · rw [r]; exact Int.le_refl _
theorem mean_max_le {c : Nat} {lo hi : Int} {a : Nat → Nat → Int} : ∀ n i, i < n → skipB lo hi a i = false → anyM lo hi a n = true ∧ a i c ≤ meanV max c lo hi a n
  | 0, i, h, _ => absurd h (Nat.not_lt_zero _)
  | n + 1, i, h, hs => by
    by_cases q : skipB lo hi a n = true
    · rw [any_skip q, mean_skip q]
      exact mean_max_le n i (by rcases Nat.lt_succ_iff_lt_or_eq.1 h with r | r; exact r; rw [r, q] at hs; exact absurd hs (by decide)) hs
    · have q : skipB lo hi a n = false := by simpa using q
      refine ⟨any_more q, ?_⟩
      by_cases g : anyM lo hi a n = true
      · rw [mean_more q g]
        rcases Nat.lt_succ_iff_lt_or_eq.1 h with r | r
        · have := (mean_max_le (c := c) n i r hs).2
          omega
        · rw [r]; omega
      · rw [mean_first q (by simpa using g)]
        rcases Nat.lt_succ_iff_lt_or_eq.1 h with r | r
        · exact absurd (mean_max_le (c := c) n i r hs).1 g
        · rw [r]; exact Int.le_refl _
theorem mean_at {f : Int → Int → Int} (hf : ∀ x y, (f x y = x ∨ f x y = y)) {c : Nat} {lo hi : Int} {a : Nat → Nat → Int} : ∀ n, anyM lo hi a n = true → ∃ i, i < n ∧ skipB lo hi a i = false ∧ meanV f c lo hi a n = a i c
  | 0, h => absurd h (by simp [anyM])
  | n + 1, h => by
    by_cases q : skipB lo hi a n = true
    · rw [any_skip q] at h
      rw [mean_skip q]
      obtain ⟨i, h1, h2, h3⟩ := mean_at hf (c := c) n h
      exact ⟨i, by omega, h2, h3⟩
    · have q : skipB lo hi a n = false := by simpa using q
      by_cases g : anyM lo hi a n = true
      · rw [mean_more q g]
        obtain ⟨i, h1, h2, h3⟩ := mean_at hf (c := c) n g
        rcases hf (meanV f c lo hi a n) (a n c) with e | e
        · exact ⟨i, by omega, h2, e.trans h3⟩
        · exact ⟨n, by omega, q, e⟩
      · rw [mean_first q (by simpa using g)]
        exact ⟨n, by omega, q, rfl⟩
/-- A height below the last band's end is in a band. -/
theorem band_at {n : Nat} {a : Nat → Nat → Int} (h : BandsOK n a) {p : Int} (hp : 0 ≤ p) : ∀ j, j < n → p < a j 1 → ∃ i, i < n ∧ a i 0 ≤ p ∧ p < a i 1
  | 0, hj, hlt => ⟨0, hj, by rw [h.zero]; exact hp, hlt⟩
  | j + 1, hj, hlt => by
    by_cases q : p < a j 1
    · exact band_at h hp j (by omega) q
    · exact ⟨j + 1, hj, by rw [h.step hj]; omega, hlt⟩
theorem skip_iff {lo hi : Int} {a : Nat → Nat → Int} {k : Nat} : skipB lo hi a k = false ↔ lo < a k 1 ∧ a k 0 < hi := by
  unfold skipB
  simp
theorem any_ok {lo hi : Int} {n : Nat} {a : Nat → Nat → Int} (h : BandsOK n a) (h0 : 0 ≤ lo) (h1 : lo < hi) (h2 : hi ≤ a (n - 1) 1) : anyM lo hi a n = true := by
  have := h.len
  obtain ⟨i, p1, p2, p3⟩ := band_at h h0 (n - 1) (by omega) (by omega)
  exact (mean_min_le (c := 0) n i p1 (skip_iff.2 ⟨by omega, by omega⟩)).1
attribute [local irreducible] inB meetB
theorem meetB_iff {a b : Nat → Nat → Int} {i k : Nat} : meetB a b i k ↔ max (a i 0) (b k 0) < min (a i 1) (b k 1) := by delta meetB; rfl
theorem inB_iff {a b : Nat → Nat → Int} {i k : Nat} : inB a b i k ↔ a i 2 ≤ b k 2 ∧ b k 3 ≤ a i 3 ∧ a i 4 ≤ b k 4 ∧ b k 5 ≤ a i 5 := by delta inB; rfl
/-- The mean wind by wider bands has that by bands they cover. -/
theorem mean_cov {n m : Nat} {a b : Nat → Nat → Int} (ha : BandsOK n a) (hb : BandsOK m b) (hC : Cov n a m b) {lo hi : Int} (h0 : 0 ≤ lo) (h1 : lo < hi) (h2 : hi ≤ b (m - 1) 1) {c : Nat} (hc : c = 2 ∨ c = 4) :
    (meanV min c lo hi a n ≤ meanV min c lo hi b m ∧ meanV max (c + 1) lo hi b m ≤ meanV max (c + 1) lo hi a n) ∧ meanV min c lo hi b m ≤ meanV max (c + 1) lo hi b m := by
  have hany := any_ok hb h0 h1 h2
  have hla := ha.len
  have hlb := hb.len
  have key : ∀ k, k < m → skipB lo hi b k = false → ∃ i, i < n ∧ skipB lo hi a i = false ∧ inB a b i k := fun k hk hs => by
    have hs := skip_iff.1 hs
    have hup := hb.mono (m - 1) (i := k) (by omega) (by omega)
    have hbk := (hb.up k hk).1
    have h00 : 0 ≤ b k 0 := by
      rcases Nat.eq_zero_or_pos k with e | e
      · rw [e, hb.zero]; exact Int.le_refl _
      · have q := hb.above (i := 0) e hk
        have q2 := (hb.up 0 (by omega)).1
        rw [hb.zero] at q2
        omega
    have hC1 := hC.1
    obtain ⟨i, p1, p2, p3⟩ := band_at ha (p := max lo (b k 0)) (by omega) (n - 1) (by omega) (by omega)
    exact ⟨i, p1, skip_iff.2 ⟨by omega, by omega⟩, hC.2 i k p1 hk (meetB_iff.2 (by omega))⟩
  obtain ⟨k1, p1, p2, p3⟩ := mean_at min_or (c := c) m hany
  obtain ⟨k2, q1, q2, q3⟩ := mean_at max_or (c := c + 1) m hany
  obtain ⟨i1, r1, r2, r3⟩ := key k1 p1 p2
  obtain ⟨i2, s1, s2, s3⟩ := key k2 q1 q2
  have r3 := inB_iff.1 r3
  have s3 := inB_iff.1 s3
  have u1 := (mean_min_le (c := c) n i1 r1 r2).2
  have u2 := (mean_max_le (c := c + 1) n i2 s1 s2).2
  have u3 := (mean_max_le (c := c + 1) m k1 p1 p2).2
  have u4 := hb.x k1 p1
  have u5 := hb.y k1 p1
  rw [p3, q3]
  rw [q3] at u3
  rcases hc with rfl | rfl
  · refine ⟨⟨by omega, ?_⟩, ?_⟩
    · show b k2 3 ≤ _; exact Int.le_trans s3.2.1 u2
    · exact Int.le_trans (by omega : b k1 2 ≤ b k1 3) u3
  · refine ⟨⟨by omega, ?_⟩, ?_⟩
    · show b k2 5 ≤ _; exact Int.le_trans s3.2.2.2 u2
    · exact Int.le_trans (by omega : b k1 4 ≤ b k1 5) u3
theorem mul_btw {a c d x : Int} (h1 : c ≤ x) (h2 : x ≤ d) : min (a * c) (a * d) ≤ a * x ∧ a * x ≤ max (a * c) (a * d) := by
  by_cases h : 0 ≤ a
  · have p1 := Int.mul_le_mul_of_nonneg_left h1 h
    have p2 := Int.mul_le_mul_of_nonneg_left h2 h
    omega
  · have p1 := Int.mul_le_mul_of_nonpos_left (a := a) (by omega) h1
    have p2 := Int.mul_le_mul_of_nonpos_left (a := a) (by omega) h2
    omega
theorem p_mono {a b c d c' d' : Int} (h1 : c' ≤ c) (h2 : c ≤ d) (h3 : d ≤ d') : pLo a b c' d' ≤ pLo a b c d ∧ pHi a b c d ≤ pHi a b c' d' := by
  have p1 := mul_btw (a := a) (c := c') (d := d') (x := c) h1 (by omega)
  have p2 := mul_btw (a := a) (c := c') (d := d') (x := d) (by omega) h3
  have p3 := mul_btw (a := b) (c := c') (d := d') (x := c) h1 (by omega)
  have p4 := mul_btw (a := b) (c := c') (d := d') (x := d) (by omega) h3
  unfold pLo pHi
  generalize a * c = x1 at *
  generalize a * d = x2 at *
  generalize b * c = x3 at *
  generalize b * d = x4 at *
  generalize a * c' = y1 at *
  generalize a * d' = y2 at *
  generalize b * c' = y3 at *
  generalize b * d' = y4 at *
  omega
theorem p_le (a b c d : Int) : pLo a b c d ≤ pHi a b c d := by
  unfold pLo pHi
  generalize a * c = x1 at *
  generalize a * d = x2 at *
  generalize b * c = x3 at *
  generalize b * d = x4 at *
  omega
theorem wS_mono {t : ATask} (ht : AmOK t) {n m : Nat} {a b : Nat → Nat → Int} (ha : BandsOK n a) (hb : BandsOK m b) (hC : Cov n a m b) (hl : lowB t m b = false) {c : Nat} (hc : c = 2 ∨ c = 4) :
    ∀ i, i ≤ t.nr → (wS pLo c t n a i ≤ wS pLo c t m b i ∧ wS pHi c t m b i ≤ wS pHi c t n a i) ∧ wS pLo c t m b i ≤ wS pHi c t m b i
  | 0, _ => ⟨⟨Int.le_refl _, Int.le_refl _⟩, Int.le_refl _⟩
  | i + 1, hi => by
    have ih := wS_mono ht ha hb hC hl hc i (by omega)
    have hu := ht.up i (by omega)
    have hlast : t.ra i 1 ≤ t.ra (t.nr - 1) 1 := by
      have : ∀ j, i ≤ j → j < t.nr → t.ra i 1 ≤ t.ra j 1 := fun j => by
        induction j with
        | zero => intro h1 _; rw [show i = 0 by omega]; exact Int.le_refl _
        | succ j ihj =>
          intro h1 h2
          rcases Nat.lt_or_eq_of_le h1 with g | g
          · have q1 := ihj (by omega) (by omega)
            have q2 := ht.from' (j + 1) h2
            rw [from_next] at q2
            have q3 := ht.up (j + 1) h2
            omega
          · rw [g]; exact Int.le_refl _
      exact this (t.nr - 1) (by omega) (by omega)
    have hlow : t.ra (t.nr - 1) 1 ≤ b (m - 1) 1 := by
      unfold lowB at hl
      have := of_decide_eq_false hl
      omega
    have hm := mean_cov ha hb hC (lo := t.ra i 0) (hi := t.ra i 1) hu.1 hu.2.1 (by omega) hc
    have hp := p_mono (a := t.ra i 2) (b := t.ra i 3) hm.1.1 hm.2 hm.1.2
    have hq := p_le (t.ra i 2) (t.ra i 3) (meanV min c (t.ra i 0) (t.ra i 1) b m) (meanV max (c + 1) (t.ra i 0) (t.ra i 1) b m)
    simp only [wS]
    omega
theorem dnV_mono {w w' sc : Int} (h : w ≤ w') (hs : 0 ≤ sc) : dnV w sc ≤ dnV w' sc ∧ upV w sc ≤ upV w' sc ∧ dnV w sc ≤ upV w' sc := by
  have p := Int.mul_le_mul_of_nonneg_right h hs
  unfold dnV upV
  have e1 : (0 - w) * sc = -(w * sc) := by rw [Int.sub_mul, Int.zero_mul]; omega
  have e2 : (0 - w') * sc = -(w' * sc) := by rw [Int.sub_mul, Int.zero_mul]; omega
  rw [e1, e2]
  omega
/-- A scene within another one. -/
def ScLe (s u : Scn) : Prop := s.t = u.t ∧ ((u.xl ≤ s.xl ∧ s.xh ≤ u.xh) ∧ u.yl ≤ s.yl ∧ s.yh ≤ u.yh) ∧ s.xl ≤ s.xh ∧ s.yl ≤ s.yh
theorem weigh_mono {t : ATask} (ht : AmOK t) {n m : Nat} {a b : Nat → Nat → Int} (ha : BandsOK n a) (hb : BandsOK m b) (hC : Cov n a m b) (hl : lowB t m b = false) : ScLe (weighS t m b) (weighS t n a) := by
  have h2 := wS_mono ht ha hb hC hl (c := 2) (.inl rfl) t.nr (Nat.le_refl _)
  have h4 := wS_mono ht ha hb hC hl (c := 4) (.inr rfl) t.nr (Nat.le_refl _)
  exact ⟨rfl, ⟨⟨h2.1.1, h2.1.2⟩, h4.1.1, h4.1.2⟩, h2.2, h4.2⟩
theorem imp_mono {s u : Scn} (h : ScLe s u) (hs : ScOK s) {i : Nat} (hi : i < s.t.ns) : ((imp u i 0 ≤ imp s i 0 ∧ imp s i 1 ≤ imp u i 1) ∧ imp u i 2 ≤ imp s i 2 ∧ imp s i 3 ≤ imp u i 3) ∧ imp s i 0 ≤ imp s i 1 ∧ imp s i 2 ≤ imp s i 3 := by
  obtain ⟨e, ⟨⟨h1, h2⟩, h3, h4⟩, h5, h6⟩ := h
  have r := hs.am.sets i hi
  unfold SetOK at r
  have hsc : 0 ≤ s.t.sa i 4 := by omega
  have a1 := (dnV_mono h1 hsc).1
  have a2 := (dnV_mono h2 hsc).2.1
  have a3 := (dnV_mono h3 hsc).1
  have a4 := (dnV_mono h4 hsc).2.1
  have a5 := (dnV_mono h5 hsc).2.2
  have a6 := (dnV_mono h6 hsc).2.2
  simp only [imp]
  rw [← e]
  omega
end Go.Proofs.Ytbakdblbknfadaa
end
section
set_option linter.unusedVariables false
set_option linter.unusedSimpArgs false
set_option maxRecDepth 100000
set_option maxHeartbeats 4000000
namespace Go.Proofs.Ytbakdblbknfadaa
open Go.V
theorem sq_le {x y : Int} (h0 : 0 ≤ x) (h : x ≤ y) : x * x ≤ y * y := Int.mul_le_mul h h h0 (by omega)
/-- A number between two others is no farther than one of them. -/
theorem sqM_btw {p x q : Int} (h1 : p ≤ x) (h2 : x ≤ q) : sqM x ≤ max (sqM p) (sqM q) := by
  unfold sqM
  have hx : 0 ≤ (max x (-x) + 999) / 1000 := by omega
  by_cases h : max x (-x) ≤ max p (-p)
  · have := sq_le hx (y := (max p (-p) + 999) / 1000) (by omega)
    omega
  · have := sq_le hx (y := (max q (-q) + 999) / 1000) (by omega)
    omega
theorem crn_all (s : Scn) (i : Nat) : crn s i 0 = sqM (imp s i 0 - s.t.tx) + sqM (imp s i 2 - s.t.ty) ∧ crn s i 1 = sqM (imp s i 1 - s.t.tx) + sqM (imp s i 2 - s.t.ty) ∧ crn s i 2 = sqM (imp s i 0 - s.t.tx) + sqM (imp s i 3 - s.t.ty) ∧ crn s i 3 = sqM (imp s i 1 - s.t.tx) + sqM (imp s i 3 - s.t.ty) := ⟨rfl, rfl, rfl, rfl⟩
/-- Any place in an impact area is no farther than its miss. -/
theorem miss_btw {u : Scn} {i : Nat} {x y : Int} (hx : imp u i 0 ≤ x ∧ x ≤ imp u i 1) (hy : imp u i 2 ≤ y ∧ y ≤ imp u i 3) : sqM (x - u.t.tx) + sqM (y - u.t.ty) ≤ missS u i := by
  have a := sqM_btw (p := imp u i 0 - u.t.tx) (x := x - u.t.tx) (q := imp u i 1 - u.t.tx) (by omega) (by omega)
  have b := sqM_btw (p := imp u i 2 - u.t.ty) (x := y - u.t.ty) (q := imp u i 3 - u.t.ty) (by omega) (by omega)
  obtain ⟨c0, c1, c2, c3⟩ := crn_all u i
  unfold missS
  rw [c0, c1, c2, c3]
  omega
theorem miss_mono {s u : Scn} (h : ScLe s u) (hs : ScOK s) {i : Nat} (hi : i < s.t.ns) : missS s i ≤ missS u i := by
  have hm := imp_mono h hs hi
  have q0 := miss_btw (u := u) (i := i) (x := imp s i 0) (y := imp s i 2) (by omega) (by omega)
  have q1 := miss_btw (u := u) (i := i) (x := imp s i 1) (y := imp s i 2) (by omega) (by omega)
  have q2 := miss_btw (u := u) (i := i) (x := imp s i 0) (y := imp s i 3) (by omega) (by omega)
  have q3 := miss_btw (u := u) (i := i) (x := imp s i 1) (y := imp s i 3) (by omega) (by omega)
  rw [← h.1] at q0 q1 q2 q3
  obtain ⟨c0, c1, c2, c3⟩ := crn_all s i
  have : missS s i = max (max (max (crn s i 0) (crn s i 1)) (crn s i 2)) (crn s i 3) := rfl
  rw [this, c0, c1, c2, c3]
  omega
theorem alw_iff {s : Scn} {i : Nat} : alwB s i = true ↔ s.t.al ≤ imp s i 0 ∧ imp s i 1 ≤ s.t.ah ∧ s.t.bl ≤ imp s i 2 ∧ imp s i 3 ≤ s.t.bh := by
  have e0 : sdB s i 0 = decide (imp s i 0 < s.t.al) := rfl
  have e1 : sdB s i 1 = decide (s.t.ah < imp s i 1) := rfl
  have e2 : sdB s i 2 = decide (imp s i 2 < s.t.bl) := rfl
  have e3 : sdB s i 3 = decide (s.t.bh < imp s i 3) := rfl
  unfold alwB
  rw [e0, e1, e2, e3]
  simp only [Bool.and_eq_true, Bool.not_eq_true', decide_eq_false_iff_not]
  omega
theorem alw_mono {s u : Scn} (h : ScLe s u) (hs : ScOK s) {i : Nat} (hi : i < s.t.ns) (ha : alwB u i = true) : alwB s i = true := by
  have hm := imp_mono h hs hi
  have ha := alw_iff.1 ha
  rw [← h.1] at ha
  exact alw_iff.2 (by omega)
theorem best_mono {s u : Scn} (h : ScLe s u) (hs : ScOK s) (hb : 0 ≤ bestTo u u.t.ns) : 0 ≤ bestTo s s.t.ns ∧ missS s (bestTo s s.t.ns).toNat ≤ missS u (bestTo u u.t.ns).toNat := by
  have hin := best_in u u.t.ns
  have ha := best_alw u u.t.ns hb
  have e : s.t.ns = u.t.ns := by rw [h.1]
  have hi : (bestTo u u.t.ns).toNat < s.t.ns := by omega
  have hl := best_le s s.t.ns (bestTo u u.t.ns).toNat hi (alw_mono h hs hi ha)
  have hm := miss_mono h hs hi
  omega
theorem alw_sort (s : Scn) : ∀ k i j, i < j → j < (alwTo s k).length → listM (alwTo s k) i 0 < listM (alwTo s k) j 0
  | 0, i, j, _, h => absurd h (Nat.not_lt_zero _)
  | k + 1, i, j, hij, h => by
    by_cases q : alwB s k = true
    · rw [alw_yes q] at h ⊢
      rw [List.length_append] at h
      by_cases hj : j < (alwTo s k).length
      · rw [listM_app _ _ hj, listM_app _ _ (Nat.lt_trans hij hj)]
        exact alw_sort s k i j hij hj
      · have e : j = (alwTo s k).length := by simp at h; omega
        rw [e, listM_last, listM_app _ _ (by omega)]
        exact (alw_in s k i (by omega)).2
    · rw [alw_no (by simpa using q)] at h ⊢
      exact alw_sort s k i j hij h
end Go.Proofs.Ytbakdblbknfadaa
end
section
set_option linter.unusedVariables false
set_option linter.unusedSimpArgs false
set_option maxRecDepth 100000
set_option maxHeartbeats 4000000
namespace Go.Proofs.Ytbakdblbknfadaa
open Go.V
/-- The square of a distance of millionths of a mm, in metres. -/
def sqL (n : Int) : Int := (max n (-n) + 999999999) / 1000000000 * ((max n (-n) + 999999999) / 1000000000)
def rMetL : List V.D → Option (Prop × V.D) := fun ds => match ds with
  | [.int .i64 n] => some (-40000000000000000 ≤ n ∧ n ≤ 40000000000000000, .int .i64 (sqL n))
  | _ => none
theorem lMetres_ok : PSound Go.Proofs.Try.prog 39 (mk rMetL) := by
  refine psound_mk Try.func39 (by kernel_rfl) rfl (ctx la28_ok) ?_
  (intro ds p d h; unfold rMetL at h; split at h <;> first | (cases h; done) | skip; cases h; refine ⟨Nat.le_of_ble_eq_true rfl, fun hp k hk => ?_⟩)
  rename_i n
  refine ⟨[.int .i64 n], rfl, ?_⟩
  have E : sqL n = (max n (-n) + 999999999).tdiv 1000000000 * (max n (-n) + 999999999).tdiv 1000000000 := by
    unfold sqL
    rw [tdiv_pos (by omega)]
  have h1 : 0 ≤ (max n (-n) + 999999999).tdiv 1000000000 ∧ (max n (-n) + 999999999).tdiv 1000000000 ≤ 50000000 := by
    rw [tdiv_pos (by omega)]
    omega
  rw [E] at hk
  have h2 := sq_nn (x := (max n (-n) + 999999999).tdiv 1000000000) (by omega)
  have e : (0 : Int) - n = -n := by omega
  repeat' (first | ((with_reducible refine kok ?_); kernel_rfl) | ((with_reducible refine keq_mk ?_); kernel_rfl) | with_reducible rfl | ((conv => whnf); first | (with_reducible exact trivial) | ((with_reducible refine and_ff ?_ ?_); · exact rfl) | ((with_reducible refine and_tt ?_ ?_); · exact rfl) | (with_reducible refine And.intro ?_ ?_) | intro _ | (with_reducible refine fin2 hk ?_) | ((with_reducible refine eq_leaf ?_); exact rfl) | exact trivial))
  all_goals clear hk
  all_goals try (first | omega | (simp only [e]; omega) | (exact absurd (by assumption : (1000000000 : Int) = 0) (by decide)) | (rw [e]))
attribute [local irreducible] meanV anyM skipB
theorem lMean_ok : PSound Go.Proofs.Try.prog 38 (mk rMean) := by
  refine psound_mk Try.func38 (by kernel_rfl) rfl (ctx la28_ok) ?_
  (intro ds p d h; unfold rMean at h; split at h <;> first | (cases h; done) | skip; cases h; refine ⟨Nat.le_of_ble_eq_true rfl, fun hp k hk => ?_⟩)
  rename_i lo hi k1 k2 n g
  obtain ⟨hg, hb, hlh⟩ := hp
  refine ⟨[.agg [.int .i64 lo, .int .i64 hi, .int .i64 k1, .int .i64 k2], .rsl 6 n (imD (im g))], rfl, rfl, rfl, rfl, rfl, hg, ?_⟩
  clear hg
  generalize im g = a at *
  have hlen := hb.len
  repeat' (first | ((with_reducible refine kok ?_); kernel_rfl) | ((with_reducible refine keq_mk ?_); kernel_rfl) | with_reducible rfl | ((conv => whnf); first | (with_reducible exact trivial) | ((with_reducible refine and_ff ?_ ?_); · exact rfl) | ((with_reducible refine and_tt ?_ ?_); · exact rfl) | (with_reducible refine And.intro ?_ ?_) | intro _ | (with_reducible refine fin2 hk ?_) | ((with_reducible refine eq_leaf ?_); exact rfl) | exact trivial))
  conv => whnf
  refine ⟨Nat, fun k => [(1, .rsl 6 n (imD a)), (2, .ptr 0 0), (4, .ptr 1 0), (5, .ptr 2 0), (6, .bool (anyM lo hi a k)), (7, .int .i64 k)],
    fun k => [some (.row [.int .i64 lo, .int .i64 hi, .int .i64 k1, .int .i64 k2]), some (.row [.int .i64 (meanV min 2 lo hi a k), .int .i64 (meanV max 3 lo hi a k)]), some (.row [.int .i64 (meanV min 4 lo hi a k), .int .i64 (meanV max 5 lo hi a k)])],
    fun k => n - k, fun k => k ≤ n, [], 0, fun _ => ⟨rfl, rfl⟩, ?_, fun k hi' => ?_⟩
  · clear hk
    repeat' (first | ((with_reducible refine kok ?_); kernel_rfl) | ((with_reducible refine keq_mk ?_); kernel_rfl) | with_reducible rfl | ((conv => whnf); first | (with_reducible exact trivial) | ((with_reducible refine and_ff ?_ ?_); · exact rfl) | ((with_reducible refine and_tt ?_ ?_); · exact rfl) | (with_reducible refine And.intro ?_ ?_) | intro _ | (with_reducible refine fin2 hk ?_) | ((with_reducible refine eq_leaf ?_); exact rfl) | exact trivial))
    all_goals first | exact Nat.zero_le _ | (delta meanV; rfl) | (delta anyM; rfl) | skip
  have hi' : k ≤ n := hi'
  have U := fun h => hb.up k h
  conv => whnf
  refine ⟨fun g1 => ?_, fun g1 => ?_⟩
  rotate_left
  · have e : k = n := by have := of_decide_eq_false g1; omega
    subst e
    repeat' (first | ((with_reducible refine kok ?_); kernel_rfl) | ((with_reducible refine keq_mk ?_); kernel_rfl) | with_reducible rfl | ((conv => whnf); first | (with_reducible exact trivial) | ((with_reducible refine and_ff ?_ ?_); · exact rfl) | ((with_reducible refine and_tt ?_ ?_); · exact rfl) | (with_reducible refine And.intro ?_ ?_) | intro _ | (with_reducible refine fin2 hk ?_) | ((with_reducible refine eq_leaf ?_); exact rfl) | exact trivial))
  have hlt : k < n := by have := of_decide_eq_true g1; omega
  have Uk := U hlt
  repeat' (first | ((with_reducible refine kok ?_); kernel_rfl) | ((with_reducible refine keq_mk ?_); kernel_rfl) | with_reducible rfl | ((conv => whnf); first | (with_reducible exact trivial) | ((with_reducible refine and_ff ?_ ?_); · exact rfl) | ((with_reducible refine and_tt ?_ ?_); · exact rfl) | (with_reducible refine And.intro ?_ ?_) | intro _ | (with_reducible refine fin2 hk ?_) | ((with_reducible refine eq_leaf ?_); exact rfl) | exact trivial))
  all_goals try ((first | with_reducible refine (?_ : (_ : Int) ≤ _) | with_reducible refine (?_ : (_ : Int) < _)); clear hk; first | omega | (simp only [taskOf_agg, ↓Bool.not_eq_true', ↓Bool.not_eq_false', ↓decT, ↓decF, out_true, out_false, isin_true, isin_false, Int.toNat_natCast, Int.ofNat_lt, Nat.zero_add, Nat.add_zero, Nat.reduceAdd] at *; omega))
  all_goals clear hk
  · rename_i q1
    have q1 : a k 1 ≤ lo := of_decide_eq_true q1
    have s := skip_t (lo := lo) (hi := hi) (a := a) (k := k) (.inl q1)
    conv => whnf
    refine ⟨k + 1, ?_⟩
    repeat' (first | ((with_reducible refine kok ?_); kernel_rfl) | ((with_reducible refine keq_mk ?_); kernel_rfl) | with_reducible rfl | ((conv => whnf); first | (with_reducible exact trivial) | ((with_reducible refine and_ff ?_ ?_); · exact rfl) | ((with_reducible refine and_tt ?_ ?_); · exact rfl) | (with_reducible refine And.intro ?_ ?_) | intro _ | (with_reducible refine fin2 hk ?_) | ((with_reducible refine eq_leaf ?_); exact rfl) | exact trivial))
    all_goals first
      | exact (any_skip s).symm
      | exact (mean_skip s).symm
      | exact hlt
      | (simp only; omega)
  · rename_i q1 q2
    have q2 : hi ≤ a k 0 := of_decide_eq_true q2
    have s := skip_t (lo := lo) (hi := hi) (a := a) (k := k) (.inr q2)
    conv => whnf
    refine ⟨k + 1, ?_⟩
    repeat' (first | ((with_reducible refine kok ?_); kernel_rfl) | ((with_reducible refine keq_mk ?_); kernel_rfl) | with_reducible rfl | ((conv => whnf); first | (with_reducible exact trivial) | ((with_reducible refine and_ff ?_ ?_); · exact rfl) | ((with_reducible refine and_tt ?_ ?_); · exact rfl) | (with_reducible refine And.intro ?_ ?_) | intro _ | (with_reducible refine fin2 hk ?_) | ((with_reducible refine eq_leaf ?_); exact rfl) | exact trivial))
    all_goals first
      | exact (any_skip s).symm
      | exact (mean_skip s).symm
      | exact hlt
      | (simp only; omega)
  · rename_i q1 q2 q3
    have q1 : ¬ a k 1 ≤ lo := of_decide_eq_false q1
    have q2 : ¬ hi ≤ a k 0 := of_decide_eq_false q2
    have q3 : anyM lo hi a k = false := by simpa using q3
    have s := skip_f (lo := lo) (hi := hi) (a := a) (k := k) (by omega)
    conv => whnf
    refine ⟨k + 1, ?_⟩
    repeat' (first | ((with_reducible refine kok ?_); kernel_rfl) | ((with_reducible refine keq_mk ?_); kernel_rfl) | with_reducible rfl | ((conv => whnf); first | (with_reducible exact trivial) | ((with_reducible refine and_ff ?_ ?_); · exact rfl) | ((with_reducible refine and_tt ?_ ?_); · exact rfl) | (with_reducible refine And.intro ?_ ?_) | intro _ | (with_reducible refine fin2 hk ?_) | ((with_reducible refine eq_leaf ?_); exact rfl) | exact trivial))
    all_goals first
      | exact (any_more s).symm
      | (refine Eq.trans ?_ (mean_first s q3).symm; first | exact Int.min_self _ | exact Int.max_self _)
      | exact hlt
      | (simp only; omega)
  · rename_i q1 q2 q3
    have q1 : ¬ a k 1 ≤ lo := of_decide_eq_false q1
    have q2 : ¬ hi ≤ a k 0 := of_decide_eq_false q2
    have q3 : anyM lo hi a k = true := by simpa using q3
    have s := skip_f (lo := lo) (hi := hi) (a := a) (k := k) (by omega)
    conv => whnf
    refine ⟨k + 1, ?_⟩
    repeat' (first | ((with_reducible refine kok ?_); kernel_rfl) | ((with_reducible refine keq_mk ?_); kernel_rfl) | with_reducible rfl | ((conv => whnf); first | (with_reducible exact trivial) | ((with_reducible refine and_ff ?_ ?_); · exact rfl) | ((with_reducible refine and_tt ?_ ?_); · exact rfl) | (with_reducible refine And.intro ?_ ?_) | intro _ | (with_reducible refine fin2 hk ?_) | ((with_reducible refine eq_leaf ?_); exact rfl) | exact trivial))
    all_goals first
      | (rw [any_more s, q3]; done)
      | exact (mean_more s q3).symm
      | exact hlt
      | (simp only; omega)
end Go.Proofs.Ytbakdblbknfadaa
end
section
set_option linter.unusedVariables false
set_option linter.unusedSimpArgs false
set_option maxRecDepth 100000
set_option maxHeartbeats 4000000
namespace Go.Proofs.Ytbakdblbknfadaa
open Go.V
def u8D (u : Nat → Int) (i j : Nat) : V.D := .int .u8 (u i)
def U8 (n : Nat) (g : Nat → Nat → V.D) : Prop := ∀ i j, i < n → j < 1 → g i j = u8D (fun i => toI (g i 0)) i j
def U8r (n : Nat) (g : Nat → Nat → V.D) : Prop := ∀ i, i < n → 0 ≤ toI (g i 0) ∧ toI (g i 0) ≤ 255
def atV (lo hi : Int) (n : Nat) (u : Nat → Int) (i : Nat) : Int := if n = 0 then lo else lo + ((hi - lo) * u (i % n)).tdiv 255
def rAtL : List V.D → Option (Prop × V.D) := fun ds => match ds with
  | [.agg [.int .i64 lo, .int .i64 hi], .rsl 1 n g, .int .i64 i] => some (U8 n g ∧ U8r n g ∧ n ≤ 9223372036854775807 ∧ 0 ≤ i ∧ -1000000000 ≤ lo ∧ lo ≤ hi ∧ hi ≤ 1000000000, .int .i64 (atV lo hi n (fun i => toI (g i 0)) i.toNat))
  | _ => none
theorem mul255 {d x : Int} (hd : 0 ≤ d) (hx : 0 ≤ x ∧ x ≤ 255) : (0 ≤ d * x ∧ d * x ≤ 255 * d) ∧ (d * x).tdiv 255 = d * x / 255 ∧ 0 ≤ d * x / 255 ∧ d * x / 255 ≤ d := by
  have h1 := Int.mul_nonneg hd hx.1
  have h2 := Int.mul_le_mul_of_nonneg_left hx.2 hd
  generalize d * x = p at *
  rw [tdiv_pos h1]
  omega
theorem atV_in {lo hi : Int} {n : Nat} {u : Nat → Int} {i : Nat} (h : lo ≤ hi) (hu : ∀ i, i < n → 0 ≤ u i ∧ u i ≤ 255) : lo ≤ atV lo hi n u i ∧ atV lo hi n u i ≤ hi := by
  unfold atV
  by_cases q : n = 0
  · rw [if_pos q]; omega
  · rw [if_neg q]
    have := mul255 (d := hi - lo) (by omega) (hu (i % n) (Nat.mod_lt _ (by omega)))
    rw [this.2.1]
    omega
theorem lAt_ok : PSound Go.Proofs.Try.prog 37 (mk rAtL) := by
  refine psound_mk Try.func37 (by kernel_rfl) rfl (ctx la28_ok) ?_
  (intro ds p d h; unfold rAtL at h; split at h <;> first | (cases h; done) | skip; cases h; refine ⟨Nat.le_of_ble_eq_true rfl, fun hp k hk => ?_⟩)
  rename_i lo hi n g i
  obtain ⟨hu, hr, hn, hi0, h1, h2, h3⟩ := hp
  refine ⟨[.agg [.int .i64 lo, .int .i64 hi], .rsl 1 n (u8D fun i => toI (g i 0)), .int .i64 i], rfl, rfl, rfl, hu, rfl, ?_⟩
  clear hu
  have hr : ∀ i, i < n → 0 ≤ toI (g i 0) ∧ toI (g i 0) ≤ 255 := hr
  generalize hU : (fun i => toI (g i 0)) = u at *
  have hr : ∀ i, i < n → 0 ≤ u i ∧ u i ≤ 255 := fun i hi => by rw [← hU]; exact hr i hi
  clear hU
  obtain ⟨i', rfl⟩ : ∃ j : Nat, i = (j : Int) := ⟨i.toNat, by omega⟩
  have em : ((i' : Int)).tmod (n : Int) = ((i' % n : Nat) : Int) := rfl
  by_cases q : n = 0
  · have E : atV lo hi n u ((i' : Int)).toNat = lo := if_pos q
    rw [E] at hk
    repeat' (first | ((with_reducible refine kok ?_); kernel_rfl) | ((with_reducible refine keq_mk ?_); kernel_rfl) | with_reducible rfl | ((conv => whnf); first | (with_reducible exact trivial) | ((with_reducible refine and_ff ?_ ?_); · exact rfl) | ((with_reducible refine and_tt ?_ ?_); · exact rfl) | (with_reducible refine And.intro ?_ ?_) | intro _ | (with_reducible refine fin2 hk ?_) | ((with_reducible refine eq_leaf ?_); exact rfl) | exact trivial))
    all_goals (clear hk; exfalso; rename_i z; first | exact absurd q (of_decide_eq_false z) | (have z := of_decide_eq_false (by assumption : decide ((n : Int) = 0) = false); omega))
  · have E : atV lo hi n u ((i' : Int)).toNat = lo + ((hi - lo) * u (i' % n)).tdiv 255 := if_neg q
    rw [E] at hk
    have hm := Nat.mod_lt i' (show 0 < n by omega)
    have hx := hr (i' % n) hm
    have M := mul255 (d := hi - lo) (by omega) hx
    generalize hj : i' % n = j at *
    repeat' (first | ((with_reducible refine kok ?_); kernel_rfl) | ((with_reducible refine keq_mk ?_); kernel_rfl) | with_reducible rfl | ((conv => whnf); first | (with_reducible exact trivial) | ((with_reducible refine and_ff ?_ ?_); · exact rfl) | ((with_reducible refine and_tt ?_ ?_); · exact rfl) | (with_reducible refine And.intro ?_ ?_) | intro _ | (with_reducible refine fin2 hk ?_) | ((with_reducible refine eq_leaf ?_); exact rfl) | exact trivial))
    all_goals clear hk
    all_goals try (exfalso; have z := of_decide_eq_true (by assumption : decide ((n : Int) = 0) = true); omega)
    all_goals try simp only [em, Int.toNat_natCast] at *
    all_goals try (rw [M.2.1])
    all_goals first | omega | exact absurd (by assumption : (255 : Int) = 0) (by decide) | skip
  skip
end Go.Proofs.Ytbakdblbknfadaa
end
section
set_option linter.unusedVariables false
set_option linter.unusedSimpArgs false
set_option maxRecDepth 100000
set_option maxHeartbeats 4000000
namespace Go.Proofs.Ytbakdblbknfadaa
open Go.V
/-- A product of numbers of two spans lies in the spans' product. -/
theorem p_btw {a b c d w u : Int} (hw : a ≤ w ∧ w ≤ b) (hu : c ≤ u ∧ u ≤ d) : pLo a b c d ≤ w * u ∧ w * u ≤ pHi a b c d := by
  have p1 := mul_btw (a := w) (c := c) (d := d) (x := u) hu.1 hu.2
  have p2 := mul_btw (a := c) (c := a) (d := b) (x := w) hw.1 hw.2
  have p3 := mul_btw (a := d) (c := a) (d := b) (x := w) hw.1 hw.2
  rw [Int.mul_comm c a, Int.mul_comm c b, Int.mul_comm c w] at p2
  rw [Int.mul_comm d a, Int.mul_comm d b, Int.mul_comm d w] at p3
  unfold pLo pHi
  generalize w * u = z at *
  generalize w * c = y1 at *
  generalize w * d = y2 at *
  generalize a * c = x1 at *
  generalize a * d = x2 at *
  generalize b * c = x3 at *
  generalize b * d = x4 at *
  omega
/-- Where a flight comes down, in millionths of a mm: the first weights. -/
def flyTo (t : ATask) (p0 sc : Int) (w u : Nat → Int) : Nat → Int
  | 0 => p0
  | i + 1 => flyTo t p0 sc w u i + w i * u i * sc
theorem fly_in {t : ATask} {n : Nat} {a : Nat → Nat → Int} {p0 lo hi sc : Int} {w u : Nat → Int} {c : Nat} (h0 : 1000000 * lo ≤ p0 ∧ p0 ≤ 1000000 * hi) (hs : 0 ≤ sc)
    (hw : ∀ i, i < t.nr → t.ra i 2 ≤ w i ∧ w i ≤ t.ra i 3) (hu : ∀ i, i < t.nr → meanV min c (t.ra i 0) (t.ra i 1) a n ≤ u i ∧ u i ≤ meanV max (c + 1) (t.ra i 0) (t.ra i 1) a n) :
    ∀ i, i ≤ t.nr → 1000000 * lo + wS pLo c t n a i * sc ≤ flyTo t p0 sc w u i ∧ flyTo t p0 sc w u i ≤ 1000000 * hi + wS pHi c t n a i * sc
  | 0, _ => by simp only [flyTo, wS, Int.zero_mul]; omega
  | i + 1, hi' => by
    have ih := fly_in (t := t) (n := n) (a := a) (c := c) h0 hs hw hu i (by omega)
    have hp := p_btw (hw i (by omega)) (hu i (by omega))
    have q1 := Int.mul_le_mul_of_nonneg_right hp.1 hs
    have q2 := Int.mul_le_mul_of_nonneg_right hp.2 hs
    simp only [flyTo, wS, Int.add_mul]
    omega
theorem land_in {xl xh sc lo hi p : Int} (h : 1000000 * lo + xl * sc ≤ p ∧ p ≤ 1000000 * hi + xh * sc) : 1000000 * (lo + dnV xl sc) ≤ p ∧ p ≤ 1000000 * (hi + upV xh sc) := by
  unfold dnV upV
  have e1 : (0 - xh) * sc = -(xh * sc) := by rw [Int.sub_mul, Int.zero_mul]; omega
  rw [e1]
  generalize xl * sc = y1 at *
  generalize xh * sc = y2 at *
  omega
theorem sqL_btw {p a b : Int} (h1 : 1000000 * a ≤ p) (h2 : p ≤ 1000000 * b) : sqL p ≤ max (sqM a) (sqM b) := by
  unfold sqL sqM
  have hx : 0 ≤ (max p (-p) + 999999999) / 1000000000 := by omega
  by_cases h : max p (-p) ≤ 1000000 * max a (-a)
  · have := sq_le hx (y := (max a (-a) + 999) / 1000) (by omega)
    omega
  · have := sq_le hx (y := (max b (-b) + 999) / 1000) (by omega)
    omega
/-- The miss of a place in an impact area. -/
theorem miss_fly {s : Scn} {i : Nat} {p q : Int} (hp : 1000000 * imp s i 0 ≤ p ∧ p ≤ 1000000 * imp s i 1) (hq : 1000000 * imp s i 2 ≤ q ∧ q ≤ 1000000 * imp s i 3) : sqL (p - 1000000 * s.t.tx) + sqL (q - 1000000 * s.t.ty) ≤ missS s i := by
  have a := sqL_btw (p := p - 1000000 * s.t.tx) (a := imp s i 0 - s.t.tx) (b := imp s i 1 - s.t.tx) (by omega) (by omega)
  have b := sqL_btw (p := q - 1000000 * s.t.ty) (a := imp s i 2 - s.t.ty) (b := imp s i 3 - s.t.ty) (by omega) (by omega)
  obtain ⟨c0, c1, c2, c3⟩ := crn_all s i
  unfold missS
  rw [c0, c1, c2, c3]
  omega
end Go.Proofs.Ytbakdblbknfadaa
end
section
set_option linter.unusedVariables false
set_option linter.unusedSimpArgs false
set_option maxRecDepth 100000
set_option maxHeartbeats 4000000
namespace Go.Proofs.Ytbakdblbknfadaa
open Go.V
noncomputable def la30 : Lib := (37, mk rAtL) :: (38, mk rMean) :: (39, mk rMetL) :: la28
theorem la30_ok : LibOK Go.Proofs.Try.prog la30 := .cons lAt_ok (.cons lMean_ok (.cons lMetres_ok la28_ok))
def rLTrue : List V.D → Option (Prop × V.D) := fun ds => match ds with
  | [d, .rsl 6 n g, .agg [.int .u8 sg, .rsl 1 nk gk, .rsl 1 nu gu, .int .u8 p0, .int .u8 p1]] => some (AtIs d ∧ IM n 6 g ∧ (0 ≤ sg ∧ sg ≤ 255) ∧ (U8 nk gk ∧ U8r nk gk ∧ nk ≤ 9223372036854775807) ∧ (U8 nu gu ∧ U8r nu gu ∧ nu ≤ 9223372036854775807) ∧ (0 ≤ p0 ∧ p0 ≤ 255) ∧ 0 ≤ p1 ∧ p1 ≤ 255, .tt)
  | _ => none
theorem mean_le {n : Nat} {a : Nat → Nat → Int} (hb : BandsOK n a) {lo hi : Int} {c : Nat} (hc : c = 2 ∨ c = 4) : ∀ k, k ≤ n → meanV min c lo hi a k ≤ meanV max (c + 1) lo hi a k
  | 0, _ => Int.le_refl 0
  | k + 1, hk => by
    have ih := mean_le (lo := lo) (hi := hi) hb hc k (by omega)
    have x := hb.x k (by omega)
    have y := hb.y k (by omega)
    have ha : a k c ≤ a k (c + 1) := by
      rcases hc with rfl | rfl
      · exact x.2.1
      · exact y.2.1
    cases h : skipB lo hi a k with
    | true => rw [mean_skip h, mean_skip h]; exact ih
    | false =>
      cases h2 : anyM lo hi a k with
      | false => rw [mean_first h h2, mean_first h h2]; exact ha
      | true => rw [mean_more h h2, mean_more h h2]; omega
theorem sqL_in {n : Int} (h : -10000000000000000 ≤ n ∧ n ≤ 10000000000000000) : 0 ≤ sqL n ∧ sqL n ≤ 10000000200000001 := by
  unfold sqL
  exact sq_nn (x := (max n (-n) + 999999999) / 1000000000) (by omega)
theorem wsc_s {x sc : Int} (hx : -4000000000000 ≤ x ∧ x ≤ 4000000000000) (hs : 0 ≤ sc ∧ sc ≤ 2000) : -8000000000000000 ≤ x * sc ∧ x * sc ≤ 8000000000000000 := wsc_in hx hs
theorem fly_bd {t : ATask} {n : Nat} {a : Nat → Nat → Int} (h : AmOK t) (hb : BandsOK n a) {c : Nat} (hc : c = 2 ∨ c = 4) {i : Nat} (hi : i ≤ t.nr) {lo hi' sc z : Int} (hl : -500000000 ≤ lo ∧ hi' ≤ 500000000) (hs : 0 ≤ sc ∧ sc ≤ 2000)
    (hz : 1000000 * lo + wS pLo c t n a i * sc ≤ z ∧ z ≤ 1000000 * hi' + wS pHi c t n a i * sc) : -8500000000000000 ≤ z ∧ z ≤ 8500000000000000 := by
  have hn := h.nr
  have w1 := wS_in h hb (f := pLo) (.inl rfl) hc i hi
  have w2 := wS_in h hb (f := pHi) (.inr rfl) hc i hi
  have p1 := wsc_s (x := wS pLo c t n a i) (sc := sc) (by omega) hs
  have p2 := wsc_s (x := wS pHi c t n a i) (sc := sc) (by omega) hs
  omega
theorem fly_imp {t : ATask} {n : Nat} {a : Nat → Nat → Int} {k : Nat} {z v : Int}
    (hz : 1000000 * t.sa k 0 + wS pLo 2 t n a t.nr * t.sa k 4 ≤ z ∧ z ≤ 1000000 * t.sa k 1 + wS pHi 2 t n a t.nr * t.sa k 4)
    (hv : 1000000 * t.sa k 2 + wS pLo 4 t n a t.nr * t.sa k 4 ≤ v ∧ v ≤ 1000000 * t.sa k 3 + wS pHi 4 t n a t.nr * t.sa k 4) :
    (1000000 * imp (weighS t n a) k 0 ≤ z ∧ z ≤ 1000000 * imp (weighS t n a) k 1) ∧ 1000000 * imp (weighS t n a) k 2 ≤ v ∧ v ≤ 1000000 * imp (weighS t n a) k 3 := ⟨land_in hz, land_in hv⟩
theorem fly_alw {s : Scn} {k : Nat} (h : alwB s k = true) : s.t.al ≤ imp s k 0 ∧ imp s k 1 ≤ s.t.ah ∧ s.t.bl ≤ imp s k 2 ∧ imp s k 3 ≤ s.t.bh := by
  unfold alwB at h
  simp only [Bool.and_eq_true, Bool.not_eq_true', sdB, lvB] at h
  simp at h
  omega
/-- A term of the flight. -/
theorem term_bd {w u sc : Int} (hw : -10000000 ≤ w ∧ w ≤ 10000000) (hu : -20000 ≤ u ∧ u ≤ 20000) (hs : 0 ≤ sc ∧ sc ≤ 2000) : (-200000000000 ≤ w * u ∧ w * u ≤ 200000000000) ∧ -400000000000000 ≤ w * u * sc ∧ w * u * sc ≤ 400000000000000 := by
  have h1 := mul_abs (A := 10000000) (B := 20000) hw hu (by decide) (by decide)
  have h2 := mul_abs (A := 200000000000) (B := 2000) h1 (x := w * u) (y := sc) ⟨by omega, hs.2⟩ (by decide) (by decide)
  exact ⟨h1, h2⟩
attribute [local irreducible] weighS chkA checkBands lowB ScOK askE askI imp missS alwB sdB farB bestTo whyM ScIs soB accS accE badI bB bM bE foundB listM alwN alwTo atV meanV
theorem atV_m {lo hi p : Int} {m : Nat} {f : Nat → Int} {j : Nat} (hm : m = 1) (hf : f 0 = p) (hj : j = 0) : atV lo hi m f j = atV lo hi 1 (fun _ => p) 0 := by
  subst hm hf hj
  delta atV
  rfl
theorem atV_one {lo hi p : Int} {m : Nat} {f : Nat → Int} {j : Nat} (h : -500000000 ≤ lo ∧ lo ≤ hi ∧ hi ≤ 500000000) (hp : 0 ≤ p ∧ p ≤ 255) (hm : m = 1) (hf : f 0 = p) (hj : j = 0) :
    -9223372036854775808 ≤ 1000000 * atV lo hi m f j ∧ 1000000 * atV lo hi m f j ≤ 9223372036854775807 := by
  rw [atV_m hm hf hj]
  have := atV_in (n := 1) (u := fun _ => p) (i := 0) h.2.1 (fun _ _ => hp)
  omega
theorem lawATrue_ok : PSound Go.Proofs.Try.prog 12 (mk rLTrue) := by
  refine psound_mk Try.func12 (by kernel_rfl) rfl (ctx la30_ok) ?_
  (intro ds p d h; unfold rLTrue at h; split at h <;> first | (cases h; done) | skip; cases h; refine ⟨Nat.le_of_ble_eq_true rfl, fun hp k hk => ?_⟩)
  rename_i d n g sg nk gk nu gu p0 p1
  obtain ⟨ht, hg, hsg, ⟨hk1, hk2, hk3⟩, ⟨hu1, hu2, hu3⟩, hp0, hp1⟩ := hp
  have hf := at_fits ht
  refine ⟨[(atOf d).D, .rsl 6 n (imD (im g)), .agg [.int .u8 sg, .rsl 1 nk (u8D fun i => toI (gk i 0)), .rsl 1 nu (u8D fun i => toI (gu i 0)), .int .u8 p0, .int .u8 p1]], at_imp ht ⟨rfl, hg, rfl, rfl, hk1, rfl, hu1, rfl, rfl, ?_⟩⟩
  clear ht hg hk1 hu1
  generalize atOf d = t at *
  generalize im g = a at *
  by_cases e0 : askE t n a = 0
  rotate_left
  · repeat' (first | ((with_reducible refine kok ?_); kernel_rfl) | ((with_reducible refine keq_mk ?_); kernel_rfl) | with_reducible rfl | ((conv => whnf); first | (with_reducible exact trivial) | ((with_reducible refine and_ff ?_ ?_); · exact rfl) | ((with_reducible refine and_tt ?_ ?_); · exact rfl) | (with_reducible refine And.intro ?_ ?_) | intro _ | (with_reducible refine fin2 hk ?_) | ((with_reducible refine eq_leaf ?_); exact rfl) | exact trivial))
    all_goals (clear hk; try first | exact hf.1 | exact hf.2)
    all_goals (exfalso; simp only [atOf_agg, im_imD, taskOf_agg, ↓Bool.not_eq_true', ↓Bool.not_eq_false', ↓decT, ↓decF, out_true, out_false, isin_true, isin_false, Int.toNat_natCast, Int.ofNat_lt, Nat.zero_add, Nat.add_zero, Nat.reduceAdd] at *; first | exact absurd (by assumption : askE t n a = 0) e0 | (simp_all; done))
  have o := ask_ok e0
  have R := o.1.rest
  unfold RestOK at R
  have hns := o.1.ns
  have hnr := o.1.nr
  obtain ⟨k', hkm, hkn⟩ : ∃ k' : Nat, sg.tmod (t.ns : Int) = (k' : Int) ∧ k' < t.ns := by
    refine ⟨(sg.tmod (t.ns : Int)).toNat, ?_, ?_⟩
    · have := Int.tmod_nonneg (t.ns : Int) hsg.1; omega
    · have := Int.tmod_nonneg (t.ns : Int) hsg.1
      have := Int.tmod_lt_of_pos sg (show (0 : Int) < t.ns by omega)
      omega
  have r := o.1.sets k' hkn
  unfold SetOK at r
  repeat' (first | ((with_reducible refine kok ?_); kernel_rfl) | ((with_reducible refine keq_mk ?_); kernel_rfl) | with_reducible rfl | ((conv => whnf); first | (with_reducible exact trivial) | ((with_reducible refine and_ff ?_ ?_); · exact rfl) | ((with_reducible refine and_tt ?_ ?_); · exact rfl) | (with_reducible refine And.intro ?_ ?_) | intro _ | (with_reducible refine fin2 hk ?_) | ((with_reducible refine eq_leaf ?_); exact rfl) | exact trivial))
  all_goals try (clear hk; first | exact hf.1 | exact hf.2)
  all_goals try (exfalso; exact absurd (by assumption : t.ns = 0) (by omega))
  all_goals try (exfalso; exact absurd (by assumption : ((t.ns : Nat) : Int) = 0) (by omega))
  all_goals try ((first | with_reducible refine (?_ : (_ : Int) ≤ _) | with_reducible refine (?_ : (_ : Int) < _) | with_reducible refine (?_ : (_ : Nat) ≤ _) | with_reducible refine (?_ : (_ : Nat) < _)); clear hk; first | omega | (simp only [hkm, Int.toNat_natCast]; omega) | (simp only [hkm, Int.toNat_natCast]; rename_i i' hi'; have e : i' = 0 := (by have hi' : i' < 1 := hi'; omega); subst e; first | exact hp0.1 | exact hp0.2 | exact hp1.1 | exact hp1.2) | (simp only [hkm, Int.toNat_natCast]; first | exact (atV_one r.1.1 hp0 rfl rfl rfl).1 | exact (atV_one r.1.1 hp0 rfl rfl rfl).2 | exact (atV_one r.1.2 hp1 rfl rfl rfl).1 | exact (atV_one r.1.2 hp1 rfl rfl rfl).2))
  all_goals try (rename_i i' j' hi' hj'; have e : i' = 0 := (by have hi' : i' < 1 := hi'; omega); have e2 : j' = 0 := (by omega); subst e e2; exact rfl)
  have hb := o.2.1
  have hU : (fun i => toI (gu i 0)) = (fun i => toI (gu i 0)) := rfl
  have hk2 : ∀ i, i < nk → 0 ≤ (fun i => toI (gk i 0)) i ∧ (fun i => toI (gk i 0)) i ≤ 255 := hk2
  have hu2 : ∀ i, i < nu → 0 ≤ (fun i => toI (gu i 0)) i ∧ (fun i => toI (gu i 0)) i ≤ 255 := hu2
  generalize (fun i => toI (gk i 0)) = fk at *
  generalize (fun i => toI (gu i 0)) = fu at *
  clear hU
  have M := fun i => mean_in (t := t) hb (t.ra i 0) (t.ra i 1)
  have MX : ∀ i, meanV min 2 (t.ra i 0) (t.ra i 1) a n ≤ meanV max 3 (t.ra i 0) (t.ra i 1) a n := fun i => mean_le (lo := t.ra i 0) (hi := t.ra i 1) hb (c := 2) (.inl rfl) n (Nat.le_refl n)
  have MY : ∀ i, meanV min 4 (t.ra i 0) (t.ra i 1) a n ≤ meanV max 5 (t.ra i 0) (t.ra i 1) a n := fun i => mean_le (lo := t.ra i 0) (hi := t.ra i 1) hb (c := 4) (.inr rfl) n (Nat.le_refl n)
  have W := fun i (hi : i < t.nr) => atV_in (n := nk) (u := fk) (i := i) (show t.ra i 2 ≤ t.ra i 3 by have z := o.1.resp i hi; unfold RespOK at z; omega) hk2
  have UX := fun i => atV_in (n := nu) (u := fu) (i := 2 * i) (MX i) hu2
  have UY := fun i => atV_in (n := nu) (u := fu) (i := 2 * i + 1) (MY i) hu2
  have A1 := atV_in (n := 1) (u := fun _ => p0) (i := 0) (show t.sa k' 0 ≤ t.sa k' 1 by omega) (fun _ _ => hp0)
  have A2 := atV_in (n := 1) (u := fun _ => p1) (i := 0) (show t.sa k' 2 ≤ t.sa k' 3 by omega) (fun _ _ => hp1)
  have FX := fly_in (t := t) (n := n) (a := a) (p0 := 1000000 * atV (t.sa k' 0) (t.sa k' 1) 1 (fun _ => p0) 0) (lo := t.sa k' 0) (hi := t.sa k' 1) (sc := t.sa k' 4) (c := 2) (w := fun i => atV (t.ra i 2) (t.ra i 3) nk fk i) (u := fun i => atV (meanV min 2 (t.ra i 0) (t.ra i 1) a n) (meanV max 3 (t.ra i 0) (t.ra i 1) a n) nu fu (2 * i)) (by omega) r.2.1 W (fun i _ => UX i)
  have FY := fly_in (t := t) (n := n) (a := a) (p0 := 1000000 * atV (t.sa k' 2) (t.sa k' 3) 1 (fun _ => p1) 0) (lo := t.sa k' 2) (hi := t.sa k' 3) (sc := t.sa k' 4) (c := 4) (w := fun i => atV (t.ra i 2) (t.ra i 3) nk fk i) (u := fun i => atV (meanV min 4 (t.ra i 0) (t.ra i 1) a n) (meanV max 5 (t.ra i 0) (t.ra i 1) a n) nu fu (2 * i + 1)) (by omega) r.2.1 W (fun i _ => UY i)
  have BX := fun i hi => fly_bd o.1 hb (c := 2) (.inl rfl) hi ⟨show -500000000 ≤ t.sa k' 0 by omega, show t.sa k' 1 ≤ 500000000 by omega⟩ r.2 (FX i hi)
  have BY := fun i hi => fly_bd o.1 hb (c := 4) (.inr rfl) hi ⟨show -500000000 ≤ t.sa k' 2 by omega, show t.sa k' 3 ≤ 500000000 by omega⟩ r.2 (FY i hi)
  conv => whnf
  refine ⟨Nat, fun i => [(1, .rsl 6 n (imD a)), (3, .ptr 0 0), (5, .ptr 1 0), (10, .int .i64 k'), (11, .ptr 4 0),
      (12, .int .i64 (flyTo t (1000000 * atV (t.sa k' 0) (t.sa k' 1) 1 (fun _ => p0) 0) (t.sa k' 4) (fun i => atV (t.ra i 2) (t.ra i 3) nk fk i) (fun i => atV (meanV min 2 (t.ra i 0) (t.ra i 1) a n) (meanV max 3 (t.ra i 0) (t.ra i 1) a n) nu fu (2 * i)) i)),
      (13, .int .i64 (flyTo t (1000000 * atV (t.sa k' 2) (t.sa k' 3) 1 (fun _ => p1) 0) (t.sa k' 4) (fun i => atV (t.ra i 2) (t.ra i 3) nk fk i) (fun i => atV (meanV min 4 (t.ra i 0) (t.ra i 1) a n) (meanV max 5 (t.ra i 0) (t.ra i 1) a n) nu fu (2 * i + 1)) i)),
      (14, .int .i64 i)],
    fun i => [some (.row t.cells), some (.row [.int .u8 sg, .rsl 1 nk (u8D fk), .rsl 1 nu (u8D fu), .int .u8 p0, .int .u8 p1]), some (.row [.top, .top]), some (.row [.top, .top]),
      some (.row [.int .i64 (t.sa k' 0), .int .i64 (t.sa k' 1), .int .i64 (t.sa k' 2), .int .i64 (t.sa k' 3), .int .i64 (t.sa k' 4)])],
    fun i => t.nr - i, fun i => i ≤ t.nr, [], 0, fun _ => ⟨rfl, rfl⟩, ?_, fun i hi => ?_⟩
  · clear hk
    repeat' (first | ((with_reducible refine kok ?_); kernel_rfl) | ((with_reducible refine keq_mk ?_); kernel_rfl) | with_reducible rfl | ((conv => whnf); first | (with_reducible exact trivial) | ((with_reducible refine and_ff ?_ ?_); · exact rfl) | ((with_reducible refine and_tt ?_ ?_); · exact rfl) | (with_reducible refine And.intro ?_ ?_) | intro _ | (with_reducible refine fin2 hk ?_) | ((with_reducible refine eq_leaf ?_); exact rfl) | exact trivial))
    all_goals first
      | exact Nat.zero_le _
      | (show (1000000 : Int) * _ = 1000000 * _; rw [hkm]; exact congrArg (fun z : Int => 1000000 * z) (atV_m rfl rfl rfl))
      | exact hkm
      | (rw [hkm, Int.toNat_natCast]; done)
      | (simp only [hkm, Int.toNat_natCast]; done)
      | skip
  have hi : i ≤ t.nr := hi
  conv => whnf
  refine ⟨fun g1 => ?_, fun g1 => ?_⟩
  · have hlt : i < t.nr := by have := of_decide_eq_true g1; omega
    have hup := o.1.up i hlt
    have w0 := W i hlt
    have ux := UX i
    have uy := UY i
    have Mi := M i
    have tr := term_x o.1 hb hlt
    have rs := o.1.resp i hlt
    unfold RespOK at rs
    have bx := BX i hi
    have by' := BY i hi
    have tx := term_bd (w := atV (t.ra i 2) (t.ra i 3) nk fk i) (u := atV (meanV min 2 (t.ra i 0) (t.ra i 1) a n) (meanV max 3 (t.ra i 0) (t.ra i 1) a n) nu fu (2 * i)) (sc := t.sa k' 4) (by omega) (by omega) r.2
    have ty := term_bd (w := atV (t.ra i 2) (t.ra i 3) nk fk i) (u := atV (meanV min 4 (t.ra i 0) (t.ra i 1) a n) (meanV max 5 (t.ra i 0) (t.ra i 1) a n) nu fu (2 * i + 1)) (sc := t.sa k' 4) (by omega) (by omega) r.2
    clear FX FY BX BY W UX UY M MX MY
    have eK : (fun i => toI (u8D fk i 0)) = fk := rfl
    have eU : (fun i => toI (u8D fu i 0)) = fu := rfl
    have e2 : (2 * (i : Int)).toNat = 2 * i := by omega
    have e3 : (2 * (i : Int) + 1).toNat = 2 * i + 1 := by omega
    repeat' (first | ((with_reducible refine kok ?_); kernel_rfl) | ((with_reducible refine keq_mk ?_); kernel_rfl) | with_reducible rfl | ((conv => whnf); first | (with_reducible exact trivial) | ((with_reducible refine and_ff ?_ ?_); · exact rfl) | ((with_reducible refine and_tt ?_ ?_); · exact rfl) | (with_reducible refine And.intro ?_ ?_) | intro _ | (with_reducible refine fin2 hk ?_) | ((with_reducible refine eq_leaf ?_); exact rfl) | exact trivial))
    all_goals try ((first | with_reducible refine (?_ : (_ : Int) ≤ _) | with_reducible refine (?_ : (_ : Int) < _) | with_reducible refine (?_ : (_ : Nat) ≤ _)); clear hk; first | omega | (simp only [Nat.reduceAdd, Nat.zero_add, Nat.add_zero, Int.toNat_natCast, eK, eU, e2, e3, im_imD]; omega))
    all_goals try (with_reducible refine (?_ : BandsOK _ _); exact hb)
    all_goals try ((with_reducible refine (?_ : BandsOK _ _)); exact hb)
    all_goals try (clear hk; rename_i i' hi'; first | ((with_reducible refine (?_ : (0 : Int) ≤ _)); first | exact (hk2 i' hi').1 | exact (hu2 i' hi').1) | ((with_reducible refine (?_ : (_ : Int) ≤ 255)); first | exact (hk2 i' hi').2 | exact (hu2 i' hi').2))
    clear hk
    conv => whnf
    refine ⟨i + 1, ?_⟩
    repeat' (first | ((with_reducible refine kok ?_); kernel_rfl) | ((with_reducible refine keq_mk ?_); kernel_rfl) | with_reducible rfl | ((conv => whnf); first | (with_reducible exact trivial) | ((with_reducible refine and_ff ?_ ?_); · exact rfl) | ((with_reducible refine and_tt ?_ ?_); · exact rfl) | (with_reducible refine And.intro ?_ ?_) | intro _ | (with_reducible refine fin2 hk ?_) | ((with_reducible refine eq_leaf ?_); exact rfl) | exact trivial))
    all_goals first
      | exact hlt
      | (simp only; omega)
  obtain rfl : i = t.nr := by have := of_decide_eq_false g1; omega
  have IX := fly_imp (k := k') (FX t.nr (Nat.le_refl _)) (FY t.nr (Nat.le_refl _))
  have BX := BX t.nr (Nat.le_refl _)
  have BY := BY t.nr (Nat.le_refl _)
  clear FX FY W UX UY M MX MY
  have A0 : askI t n a k' = 0 := askI_0 e0 (by omega)
  have hsc := weighS_ok o.1 hb
  have ML := miss_fly IX.1 IX.2
  have MI := miss_in hsc (i := k') (by rw [weighS_t]; exact hkn)
  have II := imp_in hsc (i := k') (by rw [weighS_t]; exact hkn)
  have AL := fun h => fly_alw (s := weighS t n a) (k := k') h
  have AI := alw_is (weighS t n a) t.ns
  have hN : alwN t n a = (alwTo (weighS t n a) t.ns).length := by delta alwN; rw [e0]; rfl
  have hle := alwN_le t n a
  rw [weighS_t] at ML AL
  rw [← hN] at AI
  have SQ1 := sqL_in (n := (flyTo t (1000000 * atV (t.sa k' 0) (t.sa k' 1) 1 (fun _ => p0) 0) (t.sa k' 4) (fun i => atV (t.ra i 2) (t.ra i 3) nk fk i) (fun i => atV (meanV min 2 (t.ra i 0) (t.ra i 1) a n) (meanV max 3 (t.ra i 0) (t.ra i 1) a n) nu fu (2 * i)) t.nr) - 1000000 * t.tx) (by omega)
  have SQ2 := sqL_in (n := (flyTo t (1000000 * atV (t.sa k' 2) (t.sa k' 3) 1 (fun _ => p1) 0) (t.sa k' 4) (fun i => atV (t.ra i 2) (t.ra i 3) nk fk i) (fun i => atV (meanV min 4 (t.ra i 0) (t.ra i 1) a n) (meanV max 5 (t.ra i 0) (t.ra i 1) a n) nu fu (2 * i + 1)) t.nr) - 1000000 * t.ty) (by omega)
  repeat' (first | ((with_reducible refine kok ?_); kernel_rfl) | ((with_reducible refine keq_mk ?_); kernel_rfl) | with_reducible rfl | ((conv => whnf); first | (with_reducible exact trivial) | ((with_reducible refine and_ff ?_ ?_); · exact rfl) | ((with_reducible refine and_tt ?_ ?_); · exact rfl) | (with_reducible refine And.intro ?_ ?_) | intro _ | (with_reducible refine fin2 hk ?_) | ((with_reducible refine eq_leaf ?_); exact rfl) | exact trivial))
  all_goals try (clear hk; first | exact hf.1 | exact hf.2)
  all_goals try ((first | with_reducible refine (?_ : (_ : Int) ≤ _) | with_reducible refine (?_ : (_ : Int) < _)); clear hk; first | omega | (simp only [atOf_agg, im_imD, Int.toNat_natCast, A0, ifz_0]; omega))
  all_goals try (
    clear hk
    exfalso
    clear AI AL hsc hk2 hu2
    simp only [atOf_agg, im_imD, Int.toNat_natCast, A0, e0, ifz_0, taskOf_agg, ↓Bool.not_eq_true', ↓Bool.not_eq_false', ↓decT, ↓decF, out_true, out_false, isin_true, isin_false, Int.toNat_natCast, Int.ofNat_lt, Nat.zero_add, Nat.add_zero, Nat.reduceAdd] at *
    first
      | omega
      | (exact absurd rfl (by assumption))
      | (exact absurd trivial (by assumption)))
  clear SQ1 SQ2 ML MI II
  conv => whnf
  refine ⟨Nat, fun i => [(10, .int .i64 k'), (12, .int .i64 (flyTo t (1000000 * atV (t.sa k' 0) (t.sa k' 1) 1 (fun _ => p0) 0) (t.sa k' 4) (fun i => atV (t.ra i 2) (t.ra i 3) nk fk i) (fun i => atV (meanV min 2 (t.ra i 0) (t.ra i 1) a n) (meanV max 3 (t.ra i 0) (t.ra i 1) a n) nu fu (2 * i)) t.nr)), (13, .int .i64 (flyTo t (1000000 * atV (t.sa k' 2) (t.sa k' 3) 1 (fun _ => p1) 0) (t.sa k' 4) (fun i => atV (t.ra i 2) (t.ra i 3) nk fk i) (fun i => atV (meanV min 4 (t.ra i 0) (t.ra i 1) a n) (meanV max 5 (t.ra i 0) (t.ra i 1) a n) nu fu (2 * i + 1)) t.nr)), (21, .rsl 1 (alwN t n a) (imD (listM (alwTo (weighS t n a) t.ns)))), (23, .ptr 6 0), (24, .int .i64 i)],
    fun i => [some (.row t.cells), some (.row [.int .u8 sg, .rsl 1 nk (u8D fk), .rsl 1 nu (u8D fu), .int .u8 p0, .int .u8 p1]), some (.row [.top, .top]), some (.row [.top, .top]),
      some (.row [.int .i64 (t.sa k' 0), .int .i64 (t.sa k' 1), .int .i64 (t.sa k' 2), .int .i64 (t.sa k' 3), .int .i64 (t.sa k' 4)]), some (.row [.top, .top, .top, .top]), some (.row [.int .i64 t.al, .int .i64 t.ah, .int .i64 t.bl, .int .i64 t.bh])],
    fun i => alwN t n a - i, fun i => i ≤ alwN t n a, [], 0, fun _ => ⟨rfl, rfl⟩, ?_, fun i hi => ?_⟩
  · clear hk
    repeat' (first | ((with_reducible refine kok ?_); kernel_rfl) | ((with_reducible refine keq_mk ?_); kernel_rfl) | with_reducible rfl | ((conv => whnf); first | (with_reducible exact trivial) | ((with_reducible refine and_ff ?_ ?_); · exact rfl) | ((with_reducible refine and_tt ?_ ?_); · exact rfl) | (with_reducible refine And.intro ?_ ?_) | intro _ | (with_reducible refine fin2 hk ?_) | ((with_reducible refine eq_leaf ?_); exact rfl) | exact trivial))
    all_goals first
      | exact Nat.zero_le _
      | rfl
      | skip
  have hi : i ≤ alwN t n a := hi
  have AI := AI i
  conv => whnf
  refine ⟨fun g1 => ?_, fun g1 => ?_⟩
  rotate_left
  · repeat' (first | ((with_reducible refine kok ?_); kernel_rfl) | ((with_reducible refine keq_mk ?_); kernel_rfl) | with_reducible rfl | ((conv => whnf); first | (with_reducible exact trivial) | ((with_reducible refine and_ff ?_ ?_); · exact rfl) | ((with_reducible refine and_tt ?_ ?_); · exact rfl) | (with_reducible refine And.intro ?_ ?_) | intro _ | (with_reducible refine fin2 hk ?_) | ((with_reducible refine eq_leaf ?_); exact rfl) | exact trivial))
    skip
  have hlt : i < alwN t n a := by have := of_decide_eq_true g1; omega
  have AI := AI hlt
  repeat' (first | ((with_reducible refine kok ?_); kernel_rfl) | ((with_reducible refine keq_mk ?_); kernel_rfl) | with_reducible rfl | ((conv => whnf); first | (with_reducible exact trivial) | ((with_reducible refine and_ff ?_ ?_); · exact rfl) | ((with_reducible refine and_tt ?_ ?_); · exact rfl) | (with_reducible refine And.intro ?_ ?_) | intro _ | (with_reducible refine fin2 hk ?_) | ((with_reducible refine eq_leaf ?_); exact rfl) | exact trivial))
  all_goals try ((first | with_reducible refine (?_ : (_ : Int) ≤ _) | with_reducible refine (?_ : (_ : Int) < _)); clear hk; first | omega)
  all_goals clear hk
  all_goals try (
    exfalso
    have z := of_decide_eq_true (by assumption : decide (listM (alwTo (weighS t n a) t.ns) ((i : Int)).toNat 0 = (k' : Int)) = true)
    rw [Int.toNat_natCast] at z
    rw [z, Int.toNat_natCast] at AI
    have AL := AL AI
    clear AI hk2 hu2 A0 e0 hN hle hsc
    simp only [taskOf_agg, ↓Bool.not_eq_true', ↓Bool.not_eq_false', ↓decT, ↓decF, out_true, out_false, isin_true, isin_false, Int.toNat_natCast, Int.ofNat_lt, Nat.zero_add, Nat.add_zero, Nat.reduceAdd] at *
    omega)
  all_goals (
    conv => whnf
    refine ⟨i + 1, ?_⟩
    repeat' (first | ((with_reducible refine kok ?_); kernel_rfl) | ((with_reducible refine keq_mk ?_); kernel_rfl) | with_reducible rfl | ((conv => whnf); first | (with_reducible exact trivial) | ((with_reducible refine and_ff ?_ ?_); · exact rfl) | ((with_reducible refine and_tt ?_ ?_); · exact rfl) | (with_reducible refine And.intro ?_ ?_) | intro _ | (with_reducible refine fin2 hk ?_) | ((with_reducible refine eq_leaf ?_); exact rfl) | exact trivial)))
  all_goals first
    | exact hlt
    | (simp only; omega)
end Go.Proofs.Ytbakdblbknfadaa
end
section
set_option linter.unusedVariables false
set_option linter.unusedSimpArgs false
set_option maxRecDepth 100000
namespace Go.Proofs.Ytbakdblbknfadaa
open Go.V

theorem aimTrue_lifted (os : Os) (started : os.Started) (H : Type) (enc : TypeId × Value → H) :
    ReturnsInHanded {} Try.checked os 12 .any (Rows.aimTrueSpec.pre6 enc Go.Proofs.Try.prog Try.f12 Rows.aimTrueRow.domain false) (Rows.aimTrueSpec.post enc Go.Proofs.Try.prog Try.f12 false Rows.aimTrueRow.fresh Rows.aimTrueRow.handsOn Rows.aimTrueRow.again) := by
  refine returnsInHanded_of_change (C := Try.checked) own started (by kernel_rfl) Try.func12
    (ChangeSpec.witness6 (enc := enc) (C := Try.checked) false ⟨#[], #[.agg #[.slice none 0 0, .slice none 0 0, .int .i64 0, .int .i64 0, .int .i64 0, .int .i64 0, .int .i64 0, .int .i64 0, .int .i64 0, .int .i64 0, .int .i64 0], .slice none 0 0, .agg #[.int .u8 0, .slice none 0 0, .slice none 0 0, .int .u8 0, .int .u8 0]], []⟩ 8 (by kernel_rfl) (by kernel_rfl) (by kernel_rfl) (by kernel_rfl)) ?_
  intro W base args ds gs before hok hW _ _
  refine law_contract (l := [atK, .one bandsK, .agg [.int .u8, .sl [.int .u8], .sl [.int .u8], .int .u8, .int .u8]]) (tb := 4) laid_ok lawATrue_ok (by kernel_rfl) (by kernel_rfl) rfl tbool (fun ds h => ?_) rfl (fun ds hd => ?_) W base args ds gs before hok hW
  · obtain ⟨d, e, f, rfl, h1, h2, h3⟩ := isAL3 h
    obtain ⟨n, g, rfl, hg⟩ := bands_of_kinds (f := 6) h2
    obtain ⟨ds, rfl, hl, h3⟩ := h3
    match ds, hl with
    | [d0, d1, d2, d3, d4], _ =>
      obtain ⟨n0, rfl, m0, m0'⟩ := h3 0 _ _ rfl rfl
      obtain ⟨n1, g1, rfl, l1, m1⟩ := h3 1 _ _ rfl rfl
      obtain ⟨n2, g2, rfl, l2, m2⟩ := h3 2 _ _ rfl rfl
      obtain ⟨n3, rfl, m3, m3'⟩ := h3 3 _ _ rfl rfl
      obtain ⟨n4, rfl, m4, m4'⟩ := h3 4 _ _ rfl rfl
      have key : ∀ {n : Nat} {g : Nat → Nat → V.D}, (∀ i j c, i < n → ([CK.int .u8] : List CK)[j]? = some c → Is 7 c (g i j)) → U8 n g ∧ U8r n g := fun {n g} m => by
        have z : ∀ i, i < n → ∃ v, g i 0 = .int .u8 v ∧ 0 ≤ v ∧ v ≤ 255 := fun i hi => m i 0 _ hi rfl
        refine ⟨fun i j hi hj => ?_, fun i hi => ?_⟩
        · obtain rfl : j = 0 := by omega
          obtain ⟨v, e, _⟩ := z i hi
          show g i 0 = .int .u8 (toI (g i 0))
          rw [e]
          rfl
        · obtain ⟨v, e, h1, h2⟩ := z i hi
          rw [e]
          exact ⟨h1, h2⟩
      have k1 := key m1
      have k2 := key m2
      exact ⟨_, _, rfl, ⟨at_of_kinds h1, hg, ⟨m0, m0'⟩, ⟨k1.1, k1.2, l1⟩, ⟨k2.1, k2.2, l2⟩, ⟨m3, m3'⟩, m4, m4'⟩, .inl rfl⟩
  · match ds, hd with
    | [a, b, c], _ => exact ⟨rfl, rfl, rfl⟩
theorem aimTrue_holds : Rows.AimTrueSaid :=
  OpenClaim.holds_of_wide 12 Try.f12 rfl rfl rfl rfl rfl rfl rfl ⟨rfl, rfl, rfl, rfl, rfl⟩ rfl rfl rfl rfl rfl (by kernel_rfl) Try.func12 (by kernel_rfl)
    (of_decide_eq_true (by kernel_rfl)) (by unfold Func.isWrapper; first | (rw [if_pos (by decide +kernel)]; kernel_rfl) | (rw [if_neg (by decide +kernel)]; exact ⟨rfl, rfl⟩))
    (fun os started H enc _ => aimTrue_lifted os started H enc)
#print axioms aimTrue_holds
end Go.Proofs.Ytbakdblbknfadaa
end
