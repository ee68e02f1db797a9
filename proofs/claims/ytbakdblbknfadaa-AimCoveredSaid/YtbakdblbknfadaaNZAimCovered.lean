/-
  The law AimCovered is proved: if bands are covered by others, no impact area is greater by them, each setting that was allowed still is, no miss is greater, nor that of the best one, for any task, bands and others. No condition.
-/
import Derived.Test.YtbakdblbknfadaaMo
import Derived.Test.YtbakdblbknfadaaMn
section
set_option linter.unusedVariables false
set_option linter.unusedSimpArgs false
set_option maxRecDepth 100000
set_option maxHeartbeats 4000000
namespace Go.Proofs.Ytbakdblbknfadaa
open Go.V
theorem mean_min_le {c : Nat} {lo hi : Int} {a : Nat → Nat → Int} : ∀ n i, i < n → skipB lo hi a i = false → anyM lo hi a n = true ∧ meanV min c lo hi a n ≤ a i c
  | 0, i, h, _ => absurd h (Nat.not_lt_zero _)
  | n + 1, i, h, hs => by
    by_cases q : skipB lo hi a n = true
    · rw [any_skip q, mean_skip q]
      exact mean_min_le n i (by rcases Nat.lt_succ_iff_lt_or_eq.1 h with r | r; exact r; rw [r, q] at hs; exact absurd hs (by decide)) hs
    · have q : skipB lo hi a n = false := by simpa using q
      refine ⟨any_more q, ?_⟩
      by_cases g : anyM lo hi a n = true
      · rw [mean_more q g]
        rcases Nat.lt_succ_iff_lt_or_eq.1 h with r | r
        · have := (mean_min_le (c := c) n i r hs).2
          omega
        · rw [r]; omega
      · rw [mean_first q (by simpa using g)]
        rcases Nat.lt_succ_iff_lt_or_eq.1 h with r | r
        · exact absurd (mean_min_le (c := c) n i r hs).1 g
        · rw [r]; exact Int.le_refl _
theorem mean_max_le {c : Nat} {lo hi : Int} {a : Nat → Nat → Int} : ∀ n i, i < n → skipB lo hi a i = false → anyM lo hi a n = true ∧ a i c ≤ meanV max c lo hi a n
  | 0, i, h, _ => absurd h (Nat.not_lt_zero _)
  | n + 1, i, h, hs => by
    by_cases q : skipB lo hi a n = true
    · rw [any_skip q, mean_skip q]
      exact mean_max_le n i (by rcases Nat.lt_succ_iff_lt_or_eq.1 h with r | r; exact r; rw [r, q] at hs; exact absurd hs (by decide)) hs
    · have q : skipB lo hi a n = false := by simpa using q
      refine ⟨any_more q, ?_⟩
      by_cases g : anyM lo hi a n = true
      · rw [mean_more q g]
        rcases Nat.lt_succ_iff_lt_or_eq.1 h with r | r
        · have := (mean_max_le (c := c) n i r hs).2
          omega
        · rw [r]; omega
      · rw [mean_first q (by simpa using g)]
        rcases Nat.lt_succ_iff_lt_or_eq.1 h with r | r
        · exact absurd (mean_max_le (c := c) n i r hs).1 g
        · rw [r]; exact Int.le_refl _
theorem mean_at {f : Int → Int → Int} (hf : ∀ x y, (f x y = x ∨ f x y = y)) {c : Nat} {lo hi : Int} {a : Nat → Nat → Int} : ∀ n, anyM lo hi a n = true → ∃ i, i < n ∧ skipB lo hi a i = false ∧ meanV f c lo hi a n = a i c
  | 0, h => absurd h (by simp [anyM])
  | n + 1, h => by
    by_cases q : skipB lo hi a n = true
    · rw [any_skip q] at h
      rw [mean_skip q]
      obtain ⟨i, h1, h2, h3⟩ := mean_at hf (c := c) n h
      exact ⟨i, by omega, h2, h3⟩
    · have q : skipB lo hi a n = false := by simpa using q
      by_cases g : anyM lo hi a n = true
      · rw [mean_more q g]
        obtain ⟨i, h1, h2, h3⟩ := mean_at hf (c := c) n g
        rcases hf (meanV f c lo hi a n) (a n c) with e | e
        · exact ⟨i, by omega, h2, e.trans h3⟩
        · exact ⟨n, by omega, q, e⟩
      · rw [mean_first q (by simpa using g)]
        exact ⟨n, by omega, q, rfl⟩
/-- A height below the last band's end is in a band. -/
theorem band_at {n : Nat} {a : Nat → Nat → Int} (h : BandsOK n a) {p : Int} (hp : 0 ≤ p) : ∀ j, j < n → p < a j 1 → ∃ i, i < n ∧ a i 0 ≤ p ∧ p < a i 1
  | 0, hj, hlt => ⟨0, hj, by rw [h.zero]; exact hp, hlt⟩
  | j + 1, hj, hlt => by
    by_cases q : p < a j 1
    · exact band_at h hp j (by omega) q
    · exact ⟨j + 1, hj, by rw [h.step hj]; omega, hlt⟩
theorem skip_iff {lo hi : Int} {a : Nat → Nat → Int} {k : Nat} : skipB lo hi a k = false ↔ lo < a k 1 ∧ a k 0 < hi := by
  unfold skipB
  simp
theorem any_ok {lo hi : Int} {n : Nat} {a : Nat → Nat → Int} (h : BandsOK n a) (h0 : 0 ≤ lo) (h1 : lo < hi) (h2 : hi ≤ a (n - 1) 1) : anyM lo hi a n = true := by
  have := h.len
  obtain ⟨i, p1, p2, p3⟩ := band_at h h0 (n - 1) (by omega) (by omega)
  exact (mean_min_le (c := 0) n i p1 (skip_iff.2 ⟨by omega, by omega⟩)).1
attribute [local irreducible] inB meetB
theorem meetB_iff {a b : Nat → Nat → Int} {i k : Nat} : meetB a b i k ↔ max (a i 0) (b k 0) < min (a i 1) (b k 1) := by delta meetB; rfl
theorem inB_iff {a b : Nat → Nat → Int} {i k : Nat} : inB a b i k ↔ a i 2 ≤ b k 2 ∧ b k 3 ≤ a i 3 ∧ a i 4 ≤ b k 4 ∧ b k 5 ≤ a i 5 := by delta inB; rfl
/-- The mean wind by wider bands has that by bands they cover. -/
theorem mean_cov {n m : Nat} {a b : Nat → Nat → Int} (ha : BandsOK n a) (hb : BandsOK m b) (hC : Cov n a m b) {lo hi : Int} (h0 : 0 ≤ lo) (h1 : lo < hi) (h2 : hi ≤ b (m - 1) 1) {c : Nat} (hc : c = 2 ∨ c = 4) :
    (meanV min c lo hi a n ≤ meanV min c lo hi b m ∧ meanV max (c + 1) lo hi b m ≤ meanV max (c + 1) lo hi a n) ∧ meanV min c lo hi b m ≤ meanV max (c + 1) lo hi b m := by
  have hany := any_ok hb h0 h1 h2
  have hla := ha.len
  have hlb := hb.len
  have key : ∀ k, k < m → skipB lo hi b k = false → ∃ i, i < n ∧ skipB lo hi a i = false ∧ inB a b i k := fun k hk hs => by
    have hs := skip_iff.1 hs
    have hup := hb.mono (m - 1) (i := k) (by omega) (by omega)
    have hbk := (hb.up k hk).1
    have h00 : 0 ≤ b k 0 := by
      rcases Nat.eq_zero_or_pos k with e | e
      · rw [e, hb.zero]; exact Int.le_refl _
      · have q := hb.above (i := 0) e hk
        have q2 := (hb.up 0 (by omega)).1
        rw [hb.zero] at q2
        omega
    have hC1 := hC.1
    obtain ⟨i, p1, p2, p3⟩ := band_at ha (p := max lo (b k 0)) (by omega) (n - 1) (by omega) (by omega)
    exact ⟨i, p1, skip_iff.2 ⟨by omega, by omega⟩, hC.2 i k p1 hk (meetB_iff.2 (by omega))⟩
  obtain ⟨k1, p1, p2, p3⟩ := mean_at min_or (c := c) m hany
  obtain ⟨k2, q1, q2, q3⟩ := mean_at max_or (c := c + 1) m hany
  obtain ⟨i1, r1, r2, r3⟩ := key k1 p1 p2
  obtain ⟨i2, s1, s2, s3⟩ := key k2 q1 q2
  have r3 := inB_iff.1 r3
  have s3 := inB_iff.1 s3
  have u1 := (mean_min_le (c := c) n i1 r1 r2).2
  have u2 := (mean_max_le (c := c + 1) n i2 s1 s2).2
  have u3 := (mean_max_le (c := c + 1) m k1 p1 p2).2
  have u4 := hb.x k1 p1
  have u5 := hb.y k1 p1
  rw [p3, q3]
  rw [q3] at u3
  rcases hc with rfl | rfl
  · refine ⟨⟨by omega, ?_⟩, ?_⟩
    · show b k2 3 ≤ _; exact Int.le_trans s3.2.1 u2
    · exact Int.le_trans (by omega : b k1 2 ≤ b k1 3) u3
  · refine ⟨⟨by omega, ?_⟩, ?_⟩
    · show b k2 5 ≤ _; exact Int.le_trans s3.2.2.2 u2
    · exact Int.le_trans (by omega : b k1 4 ≤ b k1 5) u3
theorem mul_btw {a c d x : Int} (h1 : c ≤ x) (h2 : x ≤ d) : min (a * c) (a * d) ≤ a * x ∧ a * x ≤ max (a * c) (a * d) := by
  by_cases h : 0 ≤ a
  · have p1 := Int.mul_le_mul_of_nonneg_left h1 h
    have p2 := Int.mul_le_mul_of_nonneg_left h2 h
    omega
  · have p1 := Int.mul_le_mul_of_nonpos_left (a := a) (by omega) h1
    have p2 := Int.mul_le_mul_of_nonpos_left (a := a) (by omega) h2
    omega
theorem p_mono {a b c d c' d' : Int} (h1 : c' ≤ c) (h2 : c ≤ d) (h3 : d ≤ d') : pLo a b c' d' ≤ pLo a b c d ∧ pHi a b c d ≤ pHi a b c' d' := by
  have p1 := mul_btw (a := a) (c := c') (d := d') (x := c) h1 (by omega)
  have p2 := mul_btw (a := a) (c := c') (d := d') (x := d) (by omega) h3
  have p3 := mul_btw (a := b) (c := c') (d := d') (x := c) h1 (by omega)
  have p4 := mul_btw (a := b) (c := c') (d := d') (x := d) (by omega) h3
  unfold pLo pHi
  generalize a * c = x1 at *
  generalize a * d = x2 at *
  generalize b * c = x3 at *
  generalize b * d = x4 at *
  generalize a * c' = y1 at *
  generalize a * d' = y2 at *
  generalize b * c' = y3 at *
  generalize b * d' = y4 at *
  omega
theorem p_le (a b c d : Int) : pLo a b c d ≤ pHi a b c d := by
  unfold pLo pHi
  generalize a * c = x1 at *
  generalize a * d = x2 at *
  generalize b * c = x3 at *
  generalize b * d = x4 at *
  omega
theorem wS_mono {t : ATask} (ht : AmOK t) {n m : Nat} {a b : Nat → Nat → Int} (ha : BandsOK n a) (hb : BandsOK m b) (hC : Cov n a m b) (hl : lowB t m b = false) {c : Nat} (hc : c = 2 ∨ c = 4) :
    ∀ i, i ≤ t.nr → (wS pLo c t n a i ≤ wS pLo c t m b i ∧ wS pHi c t m b i ≤ wS pHi c t n a i) ∧ wS pLo c t m b i ≤ wS pHi c t m b i
  | 0, _ => ⟨⟨Int.le_refl _, Int.le_refl _⟩, Int.le_refl _⟩
  | i + 1, hi => by
    have ih := wS_mono ht ha hb hC hl hc i (by omega)
    have hu := ht.up i (by omega)
    have hlast : t.ra i 1 ≤ t.ra (t.nr - 1) 1 := by
      have : ∀ j, i ≤ j → j < t.nr → t.ra i 1 ≤ t.ra j 1 := fun j => by
        induction j with
        | zero => intro h1 _; rw [show i = 0 by omega]; exact Int.le_refl _
        | succ j ihj =>
          intro h1 h2
          rcases Nat.lt_or_eq_of_le h1 with g | g
          · have q1 := ihj (by omega) (by omega)
            have q2 := ht.from' (j + 1) h2
            rw [from_next] at q2
            have q3 := ht.up (j + 1) h2
            omega
          · rw [g]; exact Int.le_refl _
      exact this (t.nr - 1) (by omega) (by omega)
    have hlow : t.ra (t.nr - 1) 1 ≤ b (m - 1) 1 := by
      unfold lowB at hl
      have := of_decide_eq_false hl
      omega
    have hm := mean_cov ha hb hC (lo := t.ra i 0) (hi := t.ra i 1) hu.1 hu.2.1 (by omega) hc
    have hp := p_mono (a := t.ra i 2) (b := t.ra i 3) hm.1.1 hm.2 hm.1.2
    have hq := p_le (t.ra i 2) (t.ra i 3) (meanV min c (t.ra i 0) (t.ra i 1) b m) (meanV max (c + 1) (t.ra i 0) (t.ra i 1) b m)
    simp only [wS]
    omega
theorem dnV_mono {w w' sc : Int} (h : w ≤ w') (hs : 0 ≤ sc) : dnV w sc ≤ dnV w' sc ∧ upV w sc ≤ upV w' sc ∧ dnV w sc ≤ upV w' sc := by
  have p := Int.mul_le_mul_of_nonneg_right h hs
  unfold dnV upV
  have e1 : (0 - w) * sc = -(w * sc) := by rw [Int.sub_mul, Int.zero_mul]; omega
  have e2 : (0 - w') * sc = -(w' * sc) := by rw [Int.sub_mul, Int.zero_mul]; omega
  rw [e1, e2]
  omega
/-- A scene within another one. -/
def ScLe (s u : Scn) : Prop := s.t = u.t ∧ ((u.xl ≤ s.xl ∧ s.xh ≤ u.xh) ∧ u.yl ≤ s.yl ∧ s.yh ≤ u.yh) ∧ s.xl ≤ s.xh ∧ s.yl ≤ s.yh
theorem weigh_mono {t : ATask} (ht : AmOK t) {n m : Nat} {a b : Nat → Nat → Int} (ha : BandsOK n a) (hb : BandsOK m b) (hC : Cov n a m b) (hl : lowB t m b = false) : ScLe (weighS t m b) (weighS t n a) := by
  have h2 := wS_mono ht ha hb hC hl (c := 2) (.inl rfl) t.nr (Nat.le_refl _)
  have h4 := wS_mono ht ha hb hC hl (c := 4) (.inr rfl) t.nr (Nat.le_refl _)
  exact ⟨rfl, ⟨⟨h2.1.1, h2.1.2⟩, h4.1.1, h4.1.2⟩, h2.2, h4.2⟩
theorem imp_mono {s u : Scn} (h : ScLe s u) (hs : ScOK s) {i : Nat} (hi : i < s.t.ns) : ((imp u i 0 ≤ imp s i 0 ∧ imp s i 1 ≤ imp u i 1) ∧ imp u i 2 ≤ imp s i 2 ∧ imp s i 3 ≤ imp u i 3) ∧ imp s i 0 ≤ imp s i 1 ∧ imp s i 2 ≤ imp s i 3 := by
  obtain ⟨e, ⟨⟨h1, h2⟩, h3, h4⟩, h5, h6⟩ := h
  have r := hs.am.sets i hi
  unfold SetOK at r
  have hsc : 0 ≤ s.t.sa i 4 := by omega
  have a1 := (dnV_mono h1 hsc).1
  have a2 := (dnV_mono h2 hsc).2.1
  have a3 := (dnV_mono h3 hsc).1
  have a4 := (dnV_mono h4 hsc).2.1
  have a5 := (dnV_mono h5 hsc).2.2
  have a6 := (dnV_mono h6 hsc).2.2
  simp only [imp]
  rw [← e]
  omega
end Go.Proofs.Ytbakdblbknfadaa
end
section
set_option linter.unusedVariables false
set_option linter.unusedSimpArgs false
set_option maxRecDepth 100000
set_option maxHeartbeats 4000000
namespace Go.Proofs.Ytbakdblbknfadaa
open Go.V
theorem sq_le {x y : Int} (h0 : 0 ≤ x) (h : x ≤ y) : x * x ≤ y * y := Int.mul_le_mul h h h0 (by omega)
/-- A number between two others is no farther than one of them. -/
theorem sqM_btw {p x q : Int} (h1 : p ≤ x) (h2 : x ≤ q) : sqM x ≤ max (sqM p) (sqM q) := by
  unfold sqM
  have hx : 0 ≤ (max x (-x) + 999) / 1000 := by omega
  by_cases h : max x (-x) ≤ max p (-p)
  · have := sq_le hx (y := (max p (-p) + 999) / 1000) (by omega)
    omega
  · have := sq_le hx (y := (max q (-q) + 999) / 1000) (by omega)
    omega
theorem crn_all (s : Scn) (i : Nat) : crn s i 0 = sqM (imp s i 0 - s.t.tx) + sqM (imp s i 2 - s.t.ty) ∧ crn s i 1 = sqM (imp s i 1 - s.t.tx) + sqM (imp s i 2 - s.t.ty) ∧ crn s i 2 = sqM (imp s i 0 - s.t.tx) + sqM (imp s i 3 - s.t.ty) ∧ crn s i 3 = sqM (imp s i 1 - s.t.tx) + sqM (imp s i 3 - s.t.ty) := ⟨rfl, rfl, rfl, rfl⟩
/-- Any place in an impact area is no farther than its miss. -/
theorem miss_btw {u : Scn} {i : Nat} {x y : Int} (hx : imp u i 0 ≤ x ∧ x ≤ imp u i 1) (hy : imp u i 2 ≤ y ∧ y ≤ imp u i 3) : sqM (x - u.t.tx) + sqM (y - u.t.ty) ≤ missS u i := by
  have a := sqM_btw (p := imp u i 0 - u.t.tx) (x := x - u.t.tx) (q := imp u i 1 - u.t.tx) (by omega) (by omega)
  have b := sqM_btw (p := imp u i 2 - u.t.ty) (x := y - u.t.ty) (q := imp u i 3 - u.t.ty) (by omega) (by omega)
  obtain ⟨c0, c1, c2, c3⟩ := crn_all u i
  unfold missS
  rw [c0, c1, c2, c3]
  omega
theorem miss_mono {s u : Scn} (h : ScLe s u) (hs : ScOK s) {i : Nat} (hi : i < s.t.ns) : missS s i ≤ missS u i := by
  have hm := imp_mono h hs hi
  have q0 := miss_btw (u := u) (i := i) (x := imp s i 0) (y := imp s i 2) (by omega) (by omega)
  have q1 := miss_btw (u := u) (i := i) (x := imp s i 1) (y := imp s i 2) (by omega) (by omega)
  have q2 := miss_btw (u := u) (i := i) (x := imp s i 0) (y := imp s i 3) (by omega) (by omega)
  have q3 := miss_btw (u := u) (i := i) (x := imp s i 1) (y := imp s i 3) (by omega) (by omega)
  rw [← h.1] at q0 q1 q2 q3
  obtain ⟨c0, c1, c2, c3⟩ := crn_all s i
  have : missS s i = max (max (max (crn s i 0) (crn s i 1)) (crn s i 2)) (crn s i 3) := rfl
  rw [this, c0, c1, c2, c3]
  omega
theorem alw_iff {s : Scn} {i : Nat} : alwB s i = true ↔ s.t.al ≤ imp s i 0 ∧ imp s i 1 ≤ s.t.ah ∧ s.t.bl ≤ imp s i 2 ∧ imp s i 3 ≤ s.t.bh := by
  have e0 : sdB s i 0 = decide (imp s i 0 < s.t.al) := rfl
  have e1 : sdB s i 1 = decide (s.t.ah < imp s i 1) := rfl
  have e2 : sdB s i 2 = decide (imp s i 2 < s.t.bl) := rfl
  have e3 : sdB s i 3 = decide (s.t.bh < imp s i 3) := rfl
  unfold alwB
  rw [e0, e1, e2, e3]
  simp only [Bool.and_eq_true, Bool.not_eq_true', decide_eq_false_iff_not]
  omega
theorem alw_mono {s u : Scn} (h : ScLe s u) (hs : ScOK s) {i : Nat} (hi : i < s.t.ns) (ha : alwB u i = true) : alwB s i = true := by
  have hm := imp_mono h hs hi
  have ha := alw_iff.1 ha
  rw [← h.1] at ha
  exact alw_iff.2 (by omega)
theorem best_mono {s u : Scn} (h : ScLe s u) (hs : ScOK s) (hb : 0 ≤ bestTo u u.t.ns) : 0 ≤ bestTo s s.t.ns ∧ missS s (bestTo s s.t.ns).toNat ≤ missS u (bestTo u u.t.ns).toNat := by
  have hin := best_in u u.t.ns
  have ha := best_alw u u.t.ns hb
  have e : s.t.ns = u.t.ns := by rw [h.1]
  have hi : (bestTo u u.t.ns).toNat < s.t.ns := by omega
  have hl := best_le s s.t.ns (bestTo u u.t.ns).toNat hi (alw_mono h hs hi ha)
  have hm := miss_mono h hs hi
  omega
theorem alw_sort (s : Scn) : ∀ k i j, i < j → j < (alwTo s k).length → listM (alwTo s k) i 0 < listM (alwTo s k) j 0
  | 0, i, j, _, h => absurd h (Nat.not_lt_zero _)
  | k + 1, i, j, hij, h => by
    by_cases q : alwB s k = true
    · rw [alw_yes q] at h ⊢
      rw [List.length_append] at h
      by_cases hj : j < (alwTo s k).length
      · rw [listM_app _ _ hj, listM_app _ _ (Nat.lt_trans hij hj)]
        exact alw_sort s k i j hij hj
      · have e : j = (alwTo s k).length := by simp at h; omega
        rw [e, listM_last, listM_app _ _ (by omega)]
        exact (alw_in s k i (by omega)).2
    · rw [alw_no (by simpa using q)] at h ⊢
      exact alw_sort s k i j hij h
end Go.Proofs.Ytbakdblbknfadaa
end
section
set_option linter.unusedVariables false
set_option linter.unusedSimpArgs false
set_option maxRecDepth 100000
set_option maxHeartbeats 4000000
namespace Go.Proofs.Ytbakdblbknfadaa
open Go.V
attribute [local irreducible] weighS chkA checkBands lowB ScOK askE askI imp missS alwB sdB farB bestTo whyM ScIs soB accS accE badI bB bM bE foundB listM alwN covB alwTo coversT ScLe
def rLA22 : List V.D → Option (Prop × V.D) := fun ds => match ds with
  | [d, .rsl 6 n g, .rsl 6 m h] => some (AtIs d ∧ IM n 6 g ∧ IM m 6 h, .tt)
  | _ => none
theorem covers_tells {n m : Nat} {a b : Nat → Nat → Int} (h : (coversT n a m b).1 = true) : Cov n a m b := by
  delta coversT at h
  split at h
  · exact Bool.noConfusion h
  split at h
  · exact Bool.noConfusion h
  have h : covB n a m b = true := h
  by_cases q : Cov n a m b
  · exact q
  · rw [covB_false q] at h; exact absurd h (by decide)
theorem lawACovered_ok : PSound Go.Proofs.Try.prog 14 (mk rLA22) := by
  refine psound_mk Try.func14 (by kernel_rfl) rfl (ctx la28_ok) ?_
  (intro ds p d h; unfold rLA22 at h; split at h <;> first | (cases h; done) | skip; cases h; refine ⟨Nat.le_of_ble_eq_true rfl, fun hp k hk => ?_⟩)
  rename_i d n g m h
  obtain ⟨ht, hg, hh⟩ := hp
  have hf := at_fits ht
  refine ⟨[(atOf d).D, .rsl 6 n (imD (im g)), .rsl 6 m (imD (im h))], at_imp ht ⟨rfl, hg, rfl, hh, ?_⟩⟩
  clear ht hg hh
  generalize atOf d = t at *
  generalize im g = a at *
  generalize im h = b at *
  repeat' (first | ((with_reducible refine kok ?_); kernel_rfl) | ((with_reducible refine keq_mk ?_); kernel_rfl) | with_reducible rfl | ((conv => whnf); first | (with_reducible exact trivial) | ((with_reducible refine and_ff ?_ ?_); · exact rfl) | ((with_reducible refine and_tt ?_ ?_); · exact rfl) | (with_reducible refine And.intro ?_ ?_) | intro _ | (with_reducible refine fin2 hk ?_) | ((with_reducible refine eq_leaf ?_); exact rfl) | exact trivial))
  all_goals try (clear hk; first | exact hf.1 | exact hf.2)
  all_goals try (clear hk; first | (with_reducible refine (?_ : (_ : Int) ≤ _)) | (with_reducible refine (?_ : (_ : Int) < _)); omega)
  rename_i g1 g2 g3 g4
  have e1 : askE t n a = 0 := by simpa only [atOf_agg, im_imD, taskOf_agg, ↓Bool.not_eq_true', ↓Bool.not_eq_false', ↓decT, ↓decF, out_true, out_false, isin_true, isin_false, Int.toNat_natCast, Int.ofNat_lt, Nat.zero_add, Nat.add_zero, Nat.reduceAdd] using g2
  have e2 : askE t m b = 0 := by simpa only [atOf_agg, im_imD, taskOf_agg, ↓Bool.not_eq_true', ↓Bool.not_eq_false', ↓decT, ↓decF, out_true, out_false, isin_true, isin_false, Int.toNat_natCast, Int.ofNat_lt, Nat.zero_add, Nat.add_zero, Nat.reduceAdd] using g3
  have e3 : (coversT m b n a).1 = true := by simpa only [atOf_agg, im_imD, taskOf_agg, ↓Bool.not_eq_true', ↓Bool.not_eq_false', ↓decT, ↓decF, out_true, out_false, isin_true, isin_false, Int.toNat_natCast, Int.ofNat_lt, Nat.zero_add, Nat.add_zero, Nat.reduceAdd] using g4
  have hC := covers_tells e3
  have oa := ask_ok e1
  have ob := ask_ok e2
  have hns := oa.1.ns
  have SL := weigh_mono oa.1 ob.2.1 oa.2.1 hC oa.2.2.1
  have hsc := weighS_ok oa.1 oa.2.1
  have hN : alwN t n a = (alwTo (weighS t n a) t.ns).length := by unfold alwN; rw [e1, ifn_0]
  have hM : alwN t m b = (alwTo (weighS t m b) t.ns).length := by unfold alwN; rw [e2, ifn_0]
  conv => whnf
  refine ⟨Nat, fun i => [(1, .rsl 6 n (imD a)), (2, .rsl 6 m (imD b)), (3, .ptr 0 0), (9, .rsl 1 (alwN t n a) (imD (listM (alwTo (weighS t n a) t.ns)))), (11, .rsl 1 (alwN t m b) (imD (listM (alwTo (weighS t m b) t.ns)))), (13, .int .i64 i)],
    fun i => [some (.row t.cells)],
    fun i => t.ns - i, fun i => i ≤ t.ns, [], 0, fun _ => ⟨?_, ?_⟩, ?_, fun i hi => ?_⟩
  · conv => lhs; whnf
  · conv => lhs; whnf
  · clear hk
    repeat' (first | ((with_reducible refine kok ?_); kernel_rfl) | ((with_reducible refine keq_mk ?_); kernel_rfl) | with_reducible rfl | ((conv => whnf); first | (with_reducible exact trivial) | ((with_reducible refine and_ff ?_ ?_); · exact rfl) | ((with_reducible refine and_tt ?_ ?_); · exact rfl) | (with_reducible refine And.intro ?_ ?_) | intro _ | (with_reducible refine fin2 hk ?_) | ((with_reducible refine eq_leaf ?_); exact rfl) | exact trivial))
    all_goals first
      | exact Nat.zero_le _
      | rfl
  have hi : i ≤ t.ns := hi
  conv => whnf
  refine ⟨fun g1 => ?_, fun g1 => ?_⟩
  · have hlt : i < t.ns := by have := of_decide_eq_true g1; omega
    have A1 : askI t n a i = 0 := askI_0 e1 (by omega)
    have A2 : askI t m b i = 0 := askI_0 e2 (by omega)
    have hm := imp_mono SL hsc (i := i) (by rw [weighS_t]; exact hlt)
    have hmi := miss_mono SL hsc (i := i) (by rw [weighS_t]; exact hlt)
    repeat' (first | ((with_reducible refine kok ?_); kernel_rfl) | ((with_reducible refine keq_mk ?_); kernel_rfl) | with_reducible rfl | ((conv => whnf); first | (with_reducible exact trivial) | ((with_reducible refine and_ff ?_ ?_); · exact rfl) | ((with_reducible refine and_tt ?_ ?_); · exact rfl) | (with_reducible refine And.intro ?_ ?_) | intro _ | (with_reducible refine fin2 hk ?_) | ((with_reducible refine eq_leaf ?_); exact rfl) | exact trivial))
    all_goals try (clear hk; first | exact hf.1 | exact hf.2)
    all_goals try (clear hk; (first | with_reducible refine (?_ : (_ : Int) ≤ _) | with_reducible refine (?_ : (_ : Int) < _)); omega)
    all_goals clear hk
    all_goals try (exfalso; simp only [atOf_agg, im_imD, Int.toNat_natCast, A1, A2, ifz_0, taskOf_agg, ↓Bool.not_eq_true', ↓Bool.not_eq_false', ↓decT, ↓decF, out_true, out_false, isin_true, isin_false, Int.toNat_natCast, Int.ofNat_lt, Nat.zero_add, Nat.add_zero, Nat.reduceAdd] at *; first | omega | exact absurd trivial (by assumption))
    all_goals (
      conv => whnf
      refine ⟨i + 1, ?_⟩
      repeat' (first | ((with_reducible refine kok ?_); kernel_rfl) | ((with_reducible refine keq_mk ?_); kernel_rfl) | with_reducible rfl | ((conv => whnf); first | (with_reducible exact trivial) | ((with_reducible refine and_ff ?_ ?_); · exact rfl) | ((with_reducible refine and_tt ?_ ?_); · exact rfl) | (with_reducible refine And.intro ?_ ?_) | intro _ | (with_reducible refine fin2 hk ?_) | ((with_reducible refine eq_leaf ?_); exact rfl) | exact trivial)))
    all_goals first | exact hlt | (simp only; omega)
  clear hi
  have hE : bE t m b = 0 → bE t n a = 0 ∧ bM t n a ≤ bM t m b := fun q => by
    have hb : 0 ≤ bestTo (weighS t m b) (weighS t m b).t.ns := by
      rw [weighS_t]
      by_cases z : bestTo (weighS t m b) t.ns < 0
      · rw [bE_2 e2 z] at q; exact absurd q (by decide)
      · omega
    have r := best_mono SL hsc hb
    rw [weighS_t, weighS_t] at r
    exact ⟨bE_3 e1 (by omega), by rw [bM_eq, bM_eq, bB_eq, bB_eq]; exact r.2⟩
  have key : ∀ i, i < alwN t m b → ∃ q, q < alwN t n a ∧ listM (alwTo (weighS t n a) t.ns) q 0 = listM (alwTo (weighS t m b) t.ns) i 0 := fun i hi => by
    have h1 := alw_is (weighS t m b) t.ns i (by omega)
    have h2 := alw_in (weighS t m b) t.ns i (by omega)
    have h3 := alw_mono SL hsc (i := (listM (alwTo (weighS t m b) t.ns) i 0).toNat) (by rw [weighS_t]; omega) h1
    obtain ⟨q, q1, q2⟩ := alw_at (weighS t n a) h3 t.ns (by omega)
    exact ⟨q, by omega, by rw [q2]; omega⟩
  have sortA := alw_sort (weighS t n a) t.ns
  have sortB := alw_sort (weighS t m b) t.ns
  have leA := alwN_le t n a
  have leB := alwN_le t m b
  rw [← hN] at sortA
  rw [← hM] at sortB
  generalize hla : listM (alwTo (weighS t n a) t.ns) = la at *
  generalize hlb : listM (alwTo (weighS t m b) t.ns) = lb at *
  generalize alwN t n a = mN at *
  generalize alwN t m b = pN at *
  repeat' (first | ((with_reducible refine kok ?_); kernel_rfl) | ((with_reducible refine keq_mk ?_); kernel_rfl) | with_reducible rfl | ((conv => whnf); first | (with_reducible exact trivial) | ((with_reducible refine and_ff ?_ ?_); · exact rfl) | ((with_reducible refine and_tt ?_ ?_); · exact rfl) | (with_reducible refine And.intro ?_ ?_) | intro _ | (with_reducible refine fin2 hk ?_) | ((with_reducible refine eq_leaf ?_); exact rfl) | exact trivial))
  conv => whnf
  refine ⟨Nat × Nat, fun g => [(1, .rsl 6 n (imD a)), (2, .rsl 6 m (imD b)), (3, .ptr 0 0), (9, .rsl 1 mN (imD la)), (11, .rsl 1 pN (imD lb)), (22, .int .i64 g.2), (23, .int .i64 g.1)],
    fun g => [some (.row t.cells)],
    fun g => pN - g.1, fun g => g.1 ≤ pN ∧ g.2 ≤ mN ∧ ∀ j, j < g.2 → g.1 < pN → la j 0 < lb g.1 0, [], (0, 0), fun _ => ⟨?_, ?_⟩, ?_, fun g hI => ?_⟩
  · conv => lhs; whnf
  · conv => lhs; whnf
  · clear hk
    repeat' (first | ((with_reducible refine kok ?_); kernel_rfl) | ((with_reducible refine keq_mk ?_); kernel_rfl) | with_reducible rfl | ((conv => whnf); first | (with_reducible exact trivial) | ((with_reducible refine and_ff ?_ ?_); · exact rfl) | ((with_reducible refine and_tt ?_ ?_); · exact rfl) | (with_reducible refine And.intro ?_ ?_) | intro _ | (with_reducible refine fin2 hk ?_) | ((with_reducible refine eq_leaf ?_); exact rfl) | exact trivial))
    all_goals first
      | exact Nat.zero_le _
      | (exact absurd (by assumption) (Nat.not_lt_zero _))
      | rfl
  obtain ⟨i, k0⟩ := g
  obtain ⟨hi, hk0, hkl⟩ := hI
  have hi : i ≤ pN := hi
  have hk0 : k0 ≤ mN := hk0
  have hkl : ∀ j, j < k0 → i < pN → la j 0 < lb i 0 := hkl
  conv => whnf
  refine ⟨fun g1 => ?_, fun g1 => ?_⟩
  rotate_left
  · repeat' (first | ((with_reducible refine kok ?_); kernel_rfl) | ((with_reducible refine keq_mk ?_); kernel_rfl) | with_reducible rfl | ((conv => whnf); first | (with_reducible exact trivial) | ((with_reducible refine and_ff ?_ ?_); · exact rfl) | ((with_reducible refine and_tt ?_ ?_); · exact rfl) | (with_reducible refine And.intro ?_ ?_) | intro _ | (with_reducible refine fin2 hk ?_) | ((with_reducible refine eq_leaf ?_); exact rfl) | exact trivial))
    all_goals try (clear hk; first | exact hf.1 | exact hf.2)
    all_goals (
      clear hk
      exfalso
      have hE' := hE
      simp only [atOf_agg, im_imD, taskOf_agg, ↓Bool.not_eq_true', ↓Bool.not_eq_false', ↓decT, ↓decF, out_true, out_false, isin_true, isin_false, Int.toNat_natCast, Int.ofNat_lt, Nat.zero_add, Nat.add_zero, Nat.reduceAdd] at *
      have r := hE' (by assumption)
      first
        | exact absurd r.1 (by assumption)
        | (have z : ¬ ifz (bE t n a) (bM t n a) ≤ ifz (bE t m b) (bM t m b) := by assumption
           rw [r.1, show bE t m b = 0 from by assumption, ifz_0, ifz_0] at z
           exact absurd r.2 z))
  have hlt : i < pN := by have := of_decide_eq_true g1; omega
  obtain ⟨q, hq, hql⟩ := key i hlt
  conv => whnf
  refine ⟨Nat, fun k => [(1, .rsl 6 n (imD a)), (2, .rsl 6 m (imD b)), (3, .ptr 0 0), (9, .rsl 1 mN (imD la)), (11, .rsl 1 pN (imD lb)), (22, .int .i64 k), (23, .int .i64 i)],
    fun k => [some (.row t.cells)],
    fun k => mN - k, fun k => k ≤ mN ∧ ∀ j, j < k → la j 0 < lb i 0, [], k0, fun _ => ⟨?_, ?_⟩, ?_, fun k hkk => ?_⟩
  · conv => lhs; whnf
  · conv => lhs; whnf
  · clear hk
    repeat' (first | ((with_reducible refine kok ?_); kernel_rfl) | ((with_reducible refine keq_mk ?_); kernel_rfl) | with_reducible rfl | ((conv => whnf); first | (with_reducible exact trivial) | ((with_reducible refine and_ff ?_ ?_); · exact rfl) | ((with_reducible refine and_tt ?_ ?_); · exact rfl) | (with_reducible refine And.intro ?_ ?_) | intro _ | (with_reducible refine fin2 hk ?_) | ((with_reducible refine eq_leaf ?_); exact rfl) | exact trivial))
    all_goals first
      | exact hk0
      | exact hkl _ (by assumption) hlt
      | rfl
  obtain ⟨hk1, hkf⟩ := hkk
  have hk1 : k ≤ mN := hk1
  have hkq : k ≤ q := by
    by_cases z : q < k
    · have := hkf q z; omega
    · omega
  have hnum : ∀ x : Nat, x ≤ 40 → -9223372036854775808 ≤ (x : Int) + 1 ∧ (x : Int) + 1 ≤ 9223372036854775807 := fun x hx => by omega
  have hge : k < mN → ¬ la k 0 < lb i 0 → k = q := fun _ h2 => by
    by_cases z : k = q
    · exact z
    · have := sortA k q (by omega) hq
      omega
  repeat' (first | ((with_reducible refine kok ?_); kernel_rfl) | ((with_reducible refine keq_mk ?_); kernel_rfl) | with_reducible rfl | ((conv => whnf); first | (with_reducible exact trivial) | ((with_reducible refine and_ff ?_ ?_); · exact rfl) | ((with_reducible refine and_tt ?_ ?_); · exact rfl) | (with_reducible refine And.intro ?_ ?_) | intro _ | (with_reducible refine fin2 hk ?_) | ((with_reducible refine eq_leaf ?_); exact rfl) | exact trivial))
  all_goals try (clear hk; (first | with_reducible refine (?_ : (_ : Int) ≤ _) | with_reducible refine (?_ : (_ : Int) < _)); first | omega | (have := of_decide_eq_true (by assumption : decide ((k : Int) < (mN : Int)) = true); omega))
  all_goals clear hk
  all_goals try (
    exfalso
    simp only [Int.toNat_natCast, taskOf_agg, ↓Bool.not_eq_true', ↓Bool.not_eq_false', ↓decT, ↓decF, out_true, out_false, isin_true, isin_false, Int.toNat_natCast, Int.ofNat_lt, Nat.zero_add, Nat.add_zero, Nat.reduceAdd] at *
    first
      | omega
      | (have z := hge (by omega) (by assumption); rw [z] at *; omega))
  · rename_i z1 z2
    have z1 := of_decide_eq_true z1
    have z2 : la k 0 < lb i 0 := of_decide_eq_true z2
    conv => whnf
    refine ⟨k + 1, ?_⟩
    repeat' (first | ((with_reducible refine kok ?_); kernel_rfl) | ((with_reducible refine keq_mk ?_); kernel_rfl) | with_reducible rfl | ((conv => whnf); first | (with_reducible exact trivial) | ((with_reducible refine and_ff ?_ ?_); · exact rfl) | ((with_reducible refine and_tt ?_ ?_); · exact rfl) | (with_reducible refine And.intro ?_ ?_) | intro _ | (with_reducible refine fin2 hk ?_) | ((with_reducible refine eq_leaf ?_); exact rfl) | exact trivial))
    all_goals first
      | (show k < mN; omega)
      | (rename_i j hj
         by_cases z : j = k
         · rw [z]; exact z2
         · exact hkf j (by omega))
      | (show mN - (k + 1) < mN - k; omega)
  · rename_i z1 z2 z3 z4
    exfalso
    have z1 := of_decide_eq_true z1
    have z2 : ¬ la k 0 < lb i 0 := of_decide_eq_false z2
    have z4 : ¬ la k 0 = lb i 0 := by simpa using z4
    have z := hge (by omega) z2
    rw [z] at z4
    exact z4 hql
  · rename_i z1 z2 z3 z4
    have z1 := of_decide_eq_true z1
    have z2 : ¬ la k 0 < lb i 0 := of_decide_eq_false z2
    have z := hge (by omega) z2
    conv => whnf
    refine ⟨(i + 1, k), ?_⟩
    repeat' (first | ((with_reducible refine kok ?_); kernel_rfl) | ((with_reducible refine keq_mk ?_); kernel_rfl) | with_reducible rfl | ((conv => whnf); first | (with_reducible exact trivial) | ((with_reducible refine and_ff ?_ ?_); · exact rfl) | ((with_reducible refine and_tt ?_ ?_); · exact rfl) | (with_reducible refine And.intro ?_ ?_) | intro _ | (with_reducible refine fin2 hk ?_) | ((with_reducible refine eq_leaf ?_); exact rfl) | exact trivial))
    all_goals first
      | exact hlt
      | exact hk1
      | (show pN - (i + 1) < pN - i; omega)
      | (rename_i j hj hp
         have y1 := hkf j hj
         have y2 := sortB i (i + 1) (by omega) hp
         exact Int.lt_trans y1 y2)
end Go.Proofs.Ytbakdblbknfadaa
end
section
set_option linter.unusedVariables false
set_option linter.unusedSimpArgs false
set_option maxRecDepth 100000
namespace Go.Proofs.Ytbakdblbknfadaa
open Go.V

theorem aimCovered_lifted (os : Os) (started : os.Started) (H : Type) (enc : TypeId × Value → H) :
    ReturnsInHanded {} Try.checked os 14 .any (Rows.aimCoveredSpec.pre6 enc Go.Proofs.Try.prog Try.f14 Rows.aimCoveredRow.domain false) (Rows.aimCoveredSpec.post enc Go.Proofs.Try.prog Try.f14 false Rows.aimCoveredRow.fresh Rows.aimCoveredRow.handsOn Rows.aimCoveredRow.again) := by
  refine returnsInHanded_of_change (C := Try.checked) own started (by kernel_rfl) Try.func14
    (ChangeSpec.witness6 (enc := enc) (C := Try.checked) false ⟨#[], #[.agg #[.slice none 0 0, .slice none 0 0, .int .i64 0, .int .i64 0, .int .i64 0, .int .i64 0, .int .i64 0, .int .i64 0, .int .i64 0, .int .i64 0, .int .i64 0], .slice none 0 0, .slice none 0 0], []⟩ 8 (by kernel_rfl) (by kernel_rfl) (by kernel_rfl) (by kernel_rfl)) ?_
  intro W base args ds gs before hok hW _ _
  refine law_contract (l := [atK, .one bandsK, .one bandsK]) (tb := 4) laid_ok lawACovered_ok (by kernel_rfl) (by kernel_rfl) rfl tbool (fun ds h => ?_) rfl (fun ds hd => ?_) W base args ds gs before hok hW
  · obtain ⟨d, e, f, rfl, h1, h2, h3⟩ := isAL3 h
    obtain ⟨n, g, rfl, hg⟩ := bands_of_kinds (f := 6) h2
    obtain ⟨n', g', rfl, hg'⟩ := bands_of_kinds (f := 6) h3
    exact ⟨_, _, rfl, ⟨at_of_kinds h1, hg, hg'⟩, .inl rfl⟩
  · match ds, hd with
    | [a, b, c], _ => exact ⟨rfl, rfl, rfl⟩
theorem aimCovered_holds : Rows.AimCoveredSaid :=
  OpenClaim.holds_of_wide 14 Try.f14 rfl rfl rfl rfl rfl rfl rfl ⟨rfl, rfl, rfl, rfl, rfl⟩ rfl rfl rfl rfl rfl (by kernel_rfl) Try.func14 (by kernel_rfl)
    (of_decide_eq_true (by kernel_rfl)) (by unfold Func.isWrapper; first | (rw [if_pos (by decide +kernel)]; kernel_rfl) | (rw [if_neg (by decide +kernel)]; exact ⟨rfl, rfl⟩))
    (fun os started H enc _ => aimCovered_lifted os started H enc)
#print axioms aimCovered_holds
end Go.Proofs.Ytbakdblbknfadaa
end
