/-
  The law AimMoved is proved: if Target, Allowed and all Areas are moved by the same distances, the best setting, its miss, and the reasons are the same; with a greater Allowed no setting stops to be allowed, for any task, bands and distances. No condition.
-/
import Derived.Test.YtbakdblbknfadaaMo
import Derived.Test.YtbakdblbknfadaaMf
import Derived.Test.YtbakdblbknfadaaMn
section
set_option linter.unusedVariables false
set_option linter.unusedSimpArgs false
set_option maxRecDepth 100000
set_option maxHeartbeats 4000000
namespace Go.Proofs.Ytbakdblbknfadaa
open Go.V
theorem mean_min_le {c : Nat} {lo hi : Int} {a : Nat → Nat → Int} : ∀ n i, i < n → skipB lo hi a i = false → anyM lo hi a n = true ∧ meanV min c lo hi a n ≤ a i c
  | 0, i, h, _ => absurd h (Nat.not_lt_zero _)
  | n + 1, i, h, hs => by
    by_cases q : skipB lo hi a n = true
    · rw [any_skip q, mean_skip q]
      exact mean_min_le n i (by rcases Nat.lt_succ_iff_lt_or_eq.1 h with r | r; exact r; rw [r, q] at hs; exact absurd hs (by decide)) hs
    · have q : skipB lo hi a n = false := by simpa using q
      refine ⟨any_more q, ?_⟩
      by_cases g : anyM lo hi a n = true
      · rw [mean_more q g]
        rcases Nat.lt_succ_iff_lt_or_eq.1 h with r | r
        · have := (mean_min_le (c := c) n i r hs).2
          omega
        · rw [r]; omega
      · rw [mean_first q (by simpa using g)]
        rcases Nat.lt_succ_iff_lt_or_eq.1 h with r | r
        · exact absurd (mean_min_le (c := c) n i r hs).1 g
        · rw [r]; exact Int.le_refl _
theorem mean_max_le {c : Nat} {lo hi : Int} {a : Nat → Nat → Int} : ∀ n i, i < n → skipB lo hi a i = false → anyM lo hi a n = true ∧ a i c ≤ meanV max c lo hi a n
  | 0, i, h, _ => absurd h (Nat.not_lt_zero _)
  | n + 1, i, h, hs => by
    by_cases q : skipB lo hi a n = true
    · rw [any_skip q, mean_skip q]
      exact mean_max_le n i (by rcases Nat.lt_succ_iff_lt_or_eq.1 h with r | r; exact r; rw [r, q] at hs; exact absurd hs (by decide)) hs
    · have q : skipB lo hi a n = false := by simpa using q
      refine ⟨any_more q, ?_⟩
      by_cases g : anyM lo hi a n = true
      · rw [mean_more q g]
        rcases Nat.lt_succ_iff_lt_or_eq.1 h with r | r
        · have := (mean_max_le (c := c) n i r hs).2
          omega
        · rw [r]; omega
      · rw [mean_first q (by simpa using g)]
        rcases Nat.lt_succ_iff_lt_or_eq.1 h with r | r
        · exact absurd (mean_max_le (c := c) n i r hs).1 g
        · rw [r]; exact Int.le_refl _
theorem mean_at {f : Int → Int → Int} (hf : ∀ x y, (f x y = x ∨ f x y = y)) {c : Nat} {lo hi : Int} {a : Nat → Nat → Int} : ∀ n, anyM lo hi a n = true → ∃ i, i < n ∧ skipB lo hi a i = false ∧ meanV f c lo hi a n = a i c
  | 0, h => absurd h (by simp [anyM])
  | n + 1, h => by
    by_cases q : skipB lo hi a n = true
    · rw [any_skip q] at h
      rw [mean_skip q]
      obtain ⟨i, h1, h2, h3⟩ := mean_at hf (c := c) n h
      exact ⟨i, by omega, h2, h3⟩
    · have q : skipB lo hi a n = false := by simpa using q
      by_cases g : anyM lo hi a n = true
      · rw [mean_more q g]
        obtain ⟨i, h1, h2, h3⟩ := mean_at hf (c := c) n g
        rcases hf (meanV f c lo hi a n) (a n c) with e | e
        · exact ⟨i, by omega, h2, e.trans h3⟩
        · exact ⟨n, by omega, q, e⟩
      · rw [mean_first q (by simpa using g)]
        exact ⟨n, by omega, q, rfl⟩
/-- A height below the last band's end is in a band. -/
theorem band_at {n : Nat} {a : Nat → Nat → Int} (h : BandsOK n a) {p : Int} (hp : 0 ≤ p) : ∀ j, j < n → p < a j 1 → ∃ i, i < n ∧ a i 0 ≤ p ∧ p < a i 1
  | 0, hj, hlt => ⟨0, hj, by rw [h.zero]; exact hp, hlt⟩
  | j + 1, hj, hlt => by
    by_cases q : p < a j 1
    · exact band_at h hp j (by omega) q
    · exact ⟨j + 1, hj, by rw [h.step hj]; omega, hlt⟩
theorem skip_iff {lo hi : Int} {a : Nat → Nat → Int} {k : Nat} : skipB lo hi a k = false ↔ lo < a k 1 ∧ a k 0 < hi := by
  unfold skipB
  simp
theorem any_ok {lo hi : Int} {n : Nat} {a : Nat → Nat → Int} (h : BandsOK n a) (h0 : 0 ≤ lo) (h1 : lo < hi) (h2 : hi ≤ a (n - 1) 1) : anyM lo hi a n = true := by
  have := h.len
  obtain ⟨i, p1, p2, p3⟩ := band_at h h0 (n - 1) (by omega) (by omega)
  exact (mean_min_le (c := 0) n i p1 (skip_iff.2 ⟨by omega, by omega⟩)).1
attribute [local irreducible] inB meetB
theorem meetB_iff {a b : Nat → Nat → Int} {i k : Nat} : meetB a b i k ↔ max (a i 0) (b k 0) < min (a i 1) (b k 1) := by delta meetB; rfl
theorem inB_iff {a b : Nat → Nat → Int} {i k : Nat} : inB a b i k ↔ a i 2 ≤ b k 2 ∧ b k 3 ≤ a i 3 ∧ a i 4 ≤ b k 4 ∧ b k 5 ≤ a i 5 := by delta inB; rfl
/-- The mean wind by wider bands has that by bands they cover. -/
theorem mean_cov {n m : Nat} {a b : Nat → Nat → Int} (ha : BandsOK n a) (hb : BandsOK m b) (hC : Cov n a m b) {lo hi : Int} (h0 : 0 ≤ lo) (h1 : lo < hi) (h2 : hi ≤ b (m - 1) 1) {c : Nat} (hc : c = 2 ∨ c = 4) :
    (meanV min c lo hi a n ≤ meanV min c lo hi b m ∧ meanV max (c + 1) lo hi b m ≤ meanV max (c + 1) lo hi a n) ∧ meanV min c lo hi b m ≤ meanV max (c + 1) lo hi b m := by
  have hany := any_ok hb h0 h1 h2
  have hla := ha.len
  have hlb := hb.len
  have key : ∀ k, k < m → skipB lo hi b k = false → ∃ i, i < n ∧ skipB lo hi a i = false ∧ inB a b i k := fun k hk hs => by
    have hs := skip_iff.1 hs
    have hup := hb.mono (m - 1) (i := k) (by omega) (by omega)
    have hbk := (hb.up k hk).1
    have h00 : 0 ≤ b k 0 := by
      rcases Nat.eq_zero_or_pos k with e | e
      · rw [e, hb.zero]; exact Int.le_refl _
      · have q := hb.above (i := 0) e hk
        have q2 := (hb.up 0 (by omega)).1
        rw [hb.zero] at q2
        omega
    have hC1 := hC.1
    obtain ⟨i, p1, p2, p3⟩ := band_at ha (p := max lo (b k 0)) (by omega) (n - 1) (by omega) (by omega)
    exact ⟨i, p1, skip_iff.2 ⟨by omega, by omega⟩, hC.2 i k p1 hk (meetB_iff.2 (by omega))⟩
  obtain ⟨k1, p1, p2, p3⟩ := mean_at min_or (c := c) m hany
  obtain ⟨k2, q1, q2, q3⟩ := mean_at max_or (c := c + 1) m hany
  obtain ⟨i1, r1, r2, r3⟩ := key k1 p1 p2
  obtain ⟨i2, s1, s2, s3⟩ := key k2 q1 q2
  have r3 := inB_iff.1 r3
  have s3 := inB_iff.1 s3
  have u1 := (mean_min_le (c := c) n i1 r1 r2).2
  have u2 := (mean_max_le (c := c + 1) n i2 s1 s2).2
  have u3 := (mean_max_le (c := c + 1) m k1 p1 p2).2
  have u4 := hb.x k1 p1
  have u5 := hb.y k1 p1
  rw [p3, q3]
  rw [q3] at u3
  rcases hc with rfl | rfl
  · refine ⟨⟨by omega, ?_⟩, ?_⟩
    · show b k2 3 ≤ _; exact Int.le_trans s3.2.1 u2
    · exact Int.le_trans (by omega : b k1 2 ≤ b k1 3) u3
  · refine ⟨⟨by omega, ?_⟩, ?_⟩
    · show b k2 5 ≤ _; exact Int.le_trans s3.2.2.2 u2
    · exact Int.le_trans (by omega : b k1 4 ≤ b k1 5) u3
theorem mul_btw {a c d x : Int} (h1 : c ≤ x) (h2 : x ≤ d) : min (a * c) (a * d) ≤ a * x ∧ a * x ≤ max (a * c) (a * d) := by
  by_cases h : 0 ≤ a
  · have p1 := Int.mul_le_mul_of_nonneg_left h1 h
    have p2 := Int.mul_le_mul_of_nonneg_left h2 h
    omega
  · have p1 := Int.mul_le_mul_of_nonpos_left (a := a) (by omega) h1
    have p2 := Int.mul_le_mul_of_nonpos_left (a := a) (by omega) h2
    omega
theorem p_mono {a b c d c' d' : Int} (h1 : c' ≤ c) (h2 : c ≤ d) (h3 : d ≤ d') : pLo a b c' d' ≤ pLo a b c d ∧ pHi a b c d ≤ pHi a b c' d' := by
  have p1 := mul_btw (a := a) (c := c') (d := d') (x := c) h1 (by omega)
  have p2 := mul_btw (a := a) (c := c') (d := d') (x := d) (by omega) h3
  have p3 := mul_btw (a := b) (c := c') (d := d') (x := c) h1 (by omega)
  have p4 := mul_btw (a := b) (c := c') (d := d') (x := d) (by omega) h3
  unfold pLo pHi
  generalize a * c = x1 at *
  generalize a * d = x2 at *
  generalize b * c = x3 at *
  generalize b * d = x4 at *
  generalize a * c' = y1 at *
  generalize a * d' = y2 at *
  generalize b * c' = y3 at *
  generalize b * d' = y4 at *
  omega
theorem p_le (a b c d : Int) : pLo a b c d ≤ pHi a b c d := by
  unfold pLo pHi
  generalize a * c = x1 at *
  generalize a * d = x2 at *
  generalize b * c = x3 at *
  generalize b * d = x4 at *
  omega
theorem wS_mono {t : ATask} (ht : AmOK t) {n m : Nat} {a b : Nat → Nat → Int} (ha : BandsOK n a) (hb : BandsOK m b) (hC : Cov n a m b) (hl : lowB t m b = false) {c : Nat} (hc : c = 2 ∨ c = 4) :
    ∀ i, i ≤ t.nr → (wS pLo c t n a i ≤ wS pLo c t m b i ∧ wS pHi c t m b i ≤ wS pHi c t n a i) ∧ wS pLo c t m b i ≤ wS pHi c t m b i
  | 0, _ => ⟨⟨Int.le_refl _, Int.le_refl _⟩, Int.le_refl _⟩
  | i + 1, hi => by
    have ih := wS_mono ht ha hb hC hl hc i (by omega)
    have hu := ht.up i (by omega)
    have hlast : t.ra i 1 ≤ t.ra (t.nr - 1) 1 := by
      have : ∀ j, i ≤ j → j < t.nr → t.ra i 1 ≤ t.ra j 1 := fun j => by
        induction j with
        | zero => intro h1 _; rw [show i = 0 by omega]; exact Int.le_refl _
        | succ j ihj =>
          intro h1 h2
          rcases Nat.lt_or_eq_of_le h1 with g | g
          · have q1 := ihj (by omega) (by omega)
            have q2 := ht.from' (j + 1) h2
            rw [from_next] at q2
            have q3 := ht.up (j + 1) h2
            omega
          · rw [g]; exact Int.le_refl _
      exact this (t.nr - 1) (by omega) (by omega)
    have hlow : t.ra (t.nr - 1) 1 ≤ b (m - 1) 1 := by
      unfold lowB at hl
      have := of_decide_eq_false hl
      omega
    have hm := mean_cov ha hb hC (lo := t.ra i 0) (hi := t.ra i 1) hu.1 hu.2.1 (by omega) hc
    have hp := p_mono (a := t.ra i 2) (b := t.ra i 3) hm.1.1 hm.2 hm.1.2
    have hq := p_le (t.ra i 2) (t.ra i 3) (meanV min c (t.ra i 0) (t.ra i 1) b m) (meanV max (c + 1) (t.ra i 0) (t.ra i 1) b m)
    simp only [wS]
    omega
theorem dnV_mono {w w' sc : Int} (h : w ≤ w') (hs : 0 ≤ sc) : dnV w sc ≤ dnV w' sc ∧ upV w sc ≤ upV w' sc ∧ dnV w sc ≤ upV w' sc := by
  have p := Int.mul_le_mul_of_nonneg_right h hs
  unfold dnV upV
  have e1 : (0 - w) * sc = -(w * sc) := by rw [Int.sub_mul, Int.zero_mul]; omega
  have e2 : (0 - w') * sc = -(w' * sc) := by rw [Int.sub_mul, Int.zero_mul]; omega
  rw [e1, e2]
  omega
/-- A scene within another one. -/
def ScLe (s u : Scn) : Prop := s.t = u.t ∧ ((u.xl ≤ s.xl ∧ s.xh ≤ u.xh) ∧ u.yl ≤ s.yl ∧ s.yh ≤ u.yh) ∧ s.xl ≤ s.xh ∧ s.yl ≤ s.yh
theorem weigh_mono {t : ATask} (ht : AmOK t) {n m : Nat} {a b : Nat → Nat → Int} (ha : BandsOK n a) (hb : BandsOK m b) (hC : Cov n a m b) (hl : lowB t m b = false) : ScLe (weighS t m b) (weighS t n a) := by
  have h2 := wS_mono ht ha hb hC hl (c := 2) (.inl rfl) t.nr (Nat.le_refl _)
  have h4 := wS_mono ht ha hb hC hl (c := 4) (.inr rfl) t.nr (Nat.le_refl _)
  exact ⟨rfl, ⟨⟨h2.1.1, h2.1.2⟩, h4.1.1, h4.1.2⟩, h2.2, h4.2⟩
theorem imp_mono {s u : Scn} (h : ScLe s u) (hs : ScOK s) {i : Nat} (hi : i < s.t.ns) : ((imp u i 0 ≤ imp s i 0 ∧ imp s i 1 ≤ imp u i 1) ∧ imp u i 2 ≤ imp s i 2 ∧ imp s i 3 ≤ imp u i 3) ∧ imp s i 0 ≤ imp s i 1 ∧ imp s i 2 ≤ imp s i 3 := by
  obtain ⟨e, ⟨⟨h1, h2⟩, h3, h4⟩, h5, h6⟩ := h
  have r := hs.am.sets i hi
  unfold SetOK at r
  have hsc : 0 ≤ s.t.sa i 4 := by omega
  have a1 := (dnV_mono h1 hsc).1
  have a2 := (dnV_mono h2 hsc).2.1
  have a3 := (dnV_mono h3 hsc).1
  have a4 := (dnV_mono h4 hsc).2.1
  have a5 := (dnV_mono h5 hsc).2.2
  have a6 := (dnV_mono h6 hsc).2.2
  simp only [imp]
  rw [← e]
  omega
end Go.Proofs.Ytbakdblbknfadaa
end
section
set_option linter.unusedVariables false
set_option linter.unusedSimpArgs false
set_option maxRecDepth 100000
set_option maxHeartbeats 4000000
namespace Go.Proofs.Ytbakdblbknfadaa
open Go.V
theorem sq_le {x y : Int} (h0 : 0 ≤ x) (h : x ≤ y) : x * x ≤ y * y := Int.mul_le_mul h h h0 (by omega)
/-- A number between two others is no farther than one of them. -/
theorem sqM_btw {p x q : Int} (h1 : p ≤ x) (h2 : x ≤ q) : sqM x ≤ max (sqM p) (sqM q) := by
  unfold sqM
  have hx : 0 ≤ (max x (-x) + 999) / 1000 := by omega
  by_cases h : max x (-x) ≤ max p (-p)
  · have := sq_le hx (y := (max p (-p) + 999) / 1000) (by omega)
    omega
  · have := sq_le hx (y := (max q (-q) + 999) / 1000) (by omega)
    omega
theorem crn_all (s : Scn) (i : Nat) : crn s i 0 = sqM (imp s i 0 - s.t.tx) + sqM (imp s i 2 - s.t.ty) ∧ crn s i 1 = sqM (imp s i 1 - s.t.tx) + sqM (imp s i 2 - s.t.ty) ∧ crn s i 2 = sqM (imp s i 0 - s.t.tx) + sqM (imp s i 3 - s.t.ty) ∧ crn s i 3 = sqM (imp s i 1 - s.t.tx) + sqM (imp s i 3 - s.t.ty) := ⟨rfl, rfl, rfl, rfl⟩
/-- Any place in an impact area is no farther than its miss. -/
theorem miss_btw {u : Scn} {i : Nat} {x y : Int} (hx : imp u i 0 ≤ x ∧ x ≤ imp u i 1) (hy : imp u i 2 ≤ y ∧ y ≤ imp u i 3) : sqM (x - u.t.tx) + sqM (y - u.t.ty) ≤ missS u i := by
  have a := sqM_btw (p := imp u i 0 - u.t.tx) (x := x - u.t.tx) (q := imp u i 1 - u.t.tx) (by omega) (by omega)
  have b := sqM_btw (p := imp u i 2 - u.t.ty) (x := y - u.t.ty) (q := imp u i 3 - u.t.ty) (by omega) (by omega)
  obtain ⟨c0, c1, c2, c3⟩ := crn_all u i
  unfold missS
  rw [c0, c1, c2, c3]
  omega
theorem miss_mono {s u : Scn} (h : ScLe s u) (hs : ScOK s) {i : Nat} (hi : i < s.t.ns) : missS s i ≤ missS u i := by
  have hm := imp_mono h hs hi
  have q0 := miss_btw (u := u) (i := i) (x := imp s i 0) (y := imp s i 2) (by omega) (by omega)
  have q1 := miss_btw (u := u) (i := i) (x := imp s i 1) (y := imp s i 2) (by omega) (by omega)
  have q2 := miss_btw (u := u) (i := i) (x := imp s i 0) (y := imp s i 3) (by omega) (by omega)
  have q3 := miss_btw (u := u) (i := i) (x := imp s i 1) (y := imp s i 3) (by omega) (by omega)
  rw [← h.1] at q0 q1 q2 q3
  obtain ⟨c0, c1, c2, c3⟩ := crn_all s i
  have : missS s i = max (max (max (crn s i 0) (crn s i 1)) (crn s i 2)) (crn s i 3) := rfl
  rw [this, c0, c1, c2, c3]
  omega
theorem alw_iff {s : Scn} {i : Nat} : alwB s i = true ↔ s.t.al ≤ imp s i 0 ∧ imp s i 1 ≤ s.t.ah ∧ s.t.bl ≤ imp s i 2 ∧ imp s i 3 ≤ s.t.bh := by
  have e0 : sdB s i 0 = decide (imp s i 0 < s.t.al) := rfl
  have e1 : sdB s i 1 = decide (s.t.ah < imp s i 1) := rfl
  have e2 : sdB s i 2 = decide (imp s i 2 < s.t.bl) := rfl
  have e3 : sdB s i 3 = decide (s.t.bh < imp s i 3) := rfl
  unfold alwB
  rw [e0, e1, e2, e3]
  simp only [Bool.and_eq_true, Bool.not_eq_true', decide_eq_false_iff_not]
  omega
theorem alw_mono {s u : Scn} (h : ScLe s u) (hs : ScOK s) {i : Nat} (hi : i < s.t.ns) (ha : alwB u i = true) : alwB s i = true := by
  have hm := imp_mono h hs hi
  have ha := alw_iff.1 ha
  rw [← h.1] at ha
  exact alw_iff.2 (by omega)
theorem best_mono {s u : Scn} (h : ScLe s u) (hs : ScOK s) (hb : 0 ≤ bestTo u u.t.ns) : 0 ≤ bestTo s s.t.ns ∧ missS s (bestTo s s.t.ns).toNat ≤ missS u (bestTo u u.t.ns).toNat := by
  have hin := best_in u u.t.ns
  have ha := best_alw u u.t.ns hb
  have e : s.t.ns = u.t.ns := by rw [h.1]
  have hi : (bestTo u u.t.ns).toNat < s.t.ns := by omega
  have hl := best_le s s.t.ns (bestTo u u.t.ns).toNat hi (alw_mono h hs hi ha)
  have hm := miss_mono h hs hi
  omega
theorem alw_sort (s : Scn) : ∀ k i j, i < j → j < (alwTo s k).length → listM (alwTo s k) i 0 < listM (alwTo s k) j 0
  | 0, i, j, _, h => absurd h (Nat.not_lt_zero _)
  | k + 1, i, j, hij, h => by
    by_cases q : alwB s k = true
    · rw [alw_yes q] at h ⊢
      rw [List.length_append] at h
      by_cases hj : j < (alwTo s k).length
      · rw [listM_app _ _ hj, listM_app _ _ (Nat.lt_trans hij hj)]
        exact alw_sort s k i j hij hj
      · have e : j = (alwTo s k).length := by simp at h; omega
        rw [e, listM_last, listM_app _ _ (by omega)]
        exact (alw_in s k i (by omega)).2
    · rw [alw_no (by simpa using q)] at h ⊢
      exact alw_sort s k i j hij h
end Go.Proofs.Ytbakdblbknfadaa
end
section
set_option linter.unusedVariables false
set_option linter.unusedSimpArgs false
set_option maxRecDepth 100000
set_option maxHeartbeats 4000000
namespace Go.Proofs.Ytbakdblbknfadaa
open Go.V
def mvA (a : Nat → Nat → Int) (x y : Int) (i j : Nat) : Int := a i j + (if j < 2 then x else if j < 4 then y else 0)
def mvT (t : ATask) (x y : Int) : ATask := ⟨t.nr, t.ra, t.ns, mvA t.sa x y, t.tx + x, t.ty + y, t.al + x, t.ah + x, t.bl + y, t.bh + y, t.gain, t.turn, t.freeze⟩
theorem wS_mv (t : ATask) (x y : Int) (f : Int → Int → Int → Int → Int) (c : Nat) (n : Nat) (a : Nat → Nat → Int) : ∀ i, wS f c (mvT t x y) n a i = wS f c t n a i
  | 0 => rfl
  | i + 1 => by
    simp only [wS, wS_mv t x y f c n a i]
    rfl
def mvS (s : Scn) (x y : Int) : Scn := ⟨mvT s.t x y, s.xl, s.xh, s.yl, s.yh⟩
theorem weigh_mv (t : ATask) (x y : Int) (n : Nat) (a : Nat → Nat → Int) : weighS (mvT t x y) n a = mvS (weighS t n a) x y := by
  unfold weighS weighTo mvS
  simp only [wS_mv]
  rfl
theorem imp_mv (s : Scn) (x y : Int) (i : Nat) : (imp (mvS s x y) i 0 = imp s i 0 + x ∧ imp (mvS s x y) i 1 = imp s i 1 + x) ∧ imp (mvS s x y) i 2 = imp s i 2 + y ∧ imp (mvS s x y) i 3 = imp s i 3 + y := by
  have e : (mvS s x y).t.sa i 4 = s.t.sa i 4 := by show mvA s.t.sa x y i 4 = _; simp [mvA]
  have e0 : (mvS s x y).t.sa i 0 = s.t.sa i 0 + x := by show mvA s.t.sa x y i 0 = _; simp [mvA]
  have e1 : (mvS s x y).t.sa i 1 = s.t.sa i 1 + x := by show mvA s.t.sa x y i 1 = _; simp [mvA]
  have e2 : (mvS s x y).t.sa i 2 = s.t.sa i 2 + y := by show mvA s.t.sa x y i 2 = _; simp [mvA]
  have e3 : (mvS s x y).t.sa i 3 = s.t.sa i 3 + y := by show mvA s.t.sa x y i 3 = _; simp [mvA]
  simp only [imp]
  rw [e, e0, e1, e2, e3]
  simp only [mvS]
  omega
theorem crn_mv (s : Scn) (x y : Int) (i : Nat) (k : Int) : crn (mvS s x y) i k = crn s i k := by
  obtain ⟨⟨h0, h1⟩, h2, h3⟩ := imp_mv s x y i
  unfold crn cornV
  rw [h0, h1, h2, h3]
  have ex : (mvS s x y).t.tx = s.t.tx + x := rfl
  have ey : (mvS s x y).t.ty = s.t.ty + y := rfl
  rw [ex, ey]
  congr 2
  · split <;> omega
  · split <;> omega
theorem miss_mv (s : Scn) (x y : Int) (i : Nat) : missS (mvS s x y) i = missS s i := by
  unfold missS
  simp only [crn_mv]
theorem sd_mv (s : Scn) (x y : Int) (i : Nat) (k : Int) : sdB (mvS s x y) i k = sdB s i k := by
  obtain ⟨⟨h0, h1⟩, h2, h3⟩ := imp_mv s x y i
  unfold sdB lvB
  rw [h0, h1, h2, h3]
  have e1 : (mvS s x y).t.al = s.t.al + x := rfl
  have e2 : (mvS s x y).t.ah = s.t.ah + x := rfl
  have e3 : (mvS s x y).t.bl = s.t.bl + y := rfl
  have e4 : (mvS s x y).t.bh = s.t.bh + y := rfl
  rw [e1, e2, e3, e4]
  split
  · rw [decide_eq_decide]; omega
  split
  · rw [decide_eq_decide]; omega
  split
  · rw [decide_eq_decide]; omega
  · rw [decide_eq_decide]; omega
theorem alw_mv (s : Scn) (x y : Int) (i : Nat) : alwB (mvS s x y) i = alwB s i := by
  unfold alwB
  simp only [sd_mv]
theorem best_mv (s : Scn) (x y : Int) : ∀ k, bestTo (mvS s x y) k = bestTo s k
  | 0 => rfl
  | k + 1 => by simp only [bestTo, alw_mv, miss_mv, best_mv s x y k]
theorem why_mv (s : Scn) (x y b m : Int) : whyM (mvS s x y) b m = whyM s b m := by
  funext i j
  have e : mkB (mvS s x y) i b m = mkB s i b m := by
    funext k
    unfold mkB farB
    simp only [alw_mv, crn_mv, sd_mv]
  match j with
  | 0 => show whyK _ _ _ = whyK _ _ _; unfold whyK; rw [alw_mv]
  | j + 1 => show whyA _ _ _ _ = whyA _ _ _ _; unfold whyA; rw [e]
/-- The best setting of what is moved. -/
theorem moved_best {t : ATask} {x y : Int} {n : Nat} {a : Nat → Nat → Int} (h : askE t n a = 0) (hu : (chkA (mvT t x y)).2.2 = 0) :
    bE (mvT t x y) n a = bE t n a ∧ bB (mvT t x y) n a = bB t n a ∧ bM (mvT t x y) n a = bM t n a ∧ whyM (weighS (mvT t x y) n a) = whyM (weighS t n a) := by
  have o := ask_ok h
  have hl : lowB (mvT t x y) n a = false := o.2.2.1
  have hu' : askE (mvT t x y) n a = 0 := ask_4 hu o.2.2.2.2 hl
  have hb : bB (mvT t x y) n a = bB t n a := by
    unfold bB
    rw [weigh_mv, best_mv]
    rfl
  refine ⟨?_, hb, ?_, ?_⟩
  · have e : bestTo (weighS (mvT t x y) n a) (mvT t x y).ns = bestTo (weighS t n a) t.ns := hb
    by_cases q : bestTo (weighS t n a) t.ns < 0
    · rw [bE_2 h q, bE_2 hu' (by rw [e]; exact q)]
    · rw [bE_3 h q, bE_3 hu' (by rw [e]; exact q)]
  · unfold bM
    rw [hb, weigh_mv, miss_mv]
  · funext b m
    rw [weigh_mv, why_mv]
def wdT (t : ATask) (z : Int) : ATask := ⟨t.nr, t.ra, t.ns, t.sa, t.tx, t.ty, t.al, z, t.bl, t.bh, t.gain, t.turn, t.freeze⟩
theorem wide_ok {t : ATask} (h : AmOK t) {z : Int} (h1 : t.ah ≤ z) (h2 : z ≤ 500000000) : AmOK (wdT t z) := by
  have r := h.rest
  refine ⟨h.nr, h.ns, h.from', h.resp, h.sets, ?_⟩
  unfold RestOK at r ⊢
  show _
  simp only [wdT]
  omega
theorem wS_wd (t : ATask) (z : Int) (f : Int → Int → Int → Int → Int) (c : Nat) (n : Nat) (a : Nat → Nat → Int) : ∀ i, wS f c (wdT t z) n a i = wS f c t n a i
  | 0 => rfl
  | i + 1 => by
    simp only [wS, wS_wd t z f c n a i]
    rfl
theorem weigh_wd (t : ATask) (z : Int) (n : Nat) (a : Nat → Nat → Int) : weighS (wdT t z) n a = ⟨wdT t z, (weighS t n a).xl, (weighS t n a).xh, (weighS t n a).yl, (weighS t n a).yh⟩ := by
  unfold weighS weighTo
  simp only [wS_wd]
  rfl
theorem alw_wd {t : ATask} {z : Int} {n : Nat} {a : Nat → Nat → Int} (h1 : t.ah ≤ z) {i : Nat} (h : alwB (weighS t n a) i = true) : alwB (weighS (wdT t z) n a) i = true := by
  have h := alw_iff.1 h
  rw [weigh_wd]
  refine alw_iff.2 ?_
  have e0 : ∀ j, imp ⟨wdT t z, (weighS t n a).xl, (weighS t n a).xh, (weighS t n a).yl, (weighS t n a).yh⟩ i j = imp (weighS t n a) i j := fun j => by
    unfold imp
    rfl
  rw [e0, e0, e0, e0]
  rw [weighS_t] at h
  show t.al ≤ _ ∧ _ ≤ z ∧ t.bl ≤ _ ∧ _ ≤ t.bh
  omega
theorem wide_ask {t : ATask} {z : Int} {n : Nat} {a : Nat → Nat → Int} (h : askE t n a = 0) (h1 : t.ah ≤ z) (h2 : z ≤ 500000000) : askE (wdT t z) n a = 0 := by
  have o := ask_ok h
  have hl : lowB (wdT t z) n a = false := o.2.2.1
  exact ask_4 (by rw [(wide_ok o.1 h1 h2).check]) o.2.2.2.2 hl
end Go.Proofs.Ytbakdblbknfadaa
end
section
set_option linter.unusedVariables false
set_option linter.unusedSimpArgs false
set_option maxRecDepth 100000
set_option maxHeartbeats 4000000
namespace Go.Proofs.Ytbakdblbknfadaa
open Go.V
def rMvA : List V.D → Option (Prop × V.D) := fun ds => match ds with
  | [.agg [.int .i64 a, .int .i64 b, .int .i64 c, .int .i64 d], .int .i64 x, .int .i64 y] => some (((-500000000 ≤ a ∧ a ≤ 500000000) ∧ (-500000000 ≤ b ∧ b ≤ 500000000) ∧ (-500000000 ≤ c ∧ c ≤ 500000000) ∧ -500000000 ≤ d ∧ d ≤ 500000000) ∧ (-500000000 ≤ x ∧ x ≤ 500000000) ∧ -500000000 ≤ y ∧ y ≤ 500000000, .agg [.int .i64 (a + x), .int .i64 (b + x), .int .i64 (c + y), .int .i64 (d + y)])
  | _ => none
theorem lMoved_ok : PSound Go.Proofs.Try.prog 27 (mk rMvA) := by
  refine psound_mk Try.func27 (by kernel_rfl) rfl (ctx la28_ok) ?_
  (intro ds p d h; unfold rMvA at h; split at h <;> first | (cases h; done) | skip; cases h; refine ⟨Nat.le_of_ble_eq_true rfl, fun hp k hk => ?_⟩)
  rename_i a b c d x y
  obtain ⟨⟨h1, h2, h3, h4⟩, h5, h6⟩ := hp
  refine ⟨[.agg [.int .i64 a, .int .i64 b, .int .i64 c, .int .i64 d], .int .i64 x, .int .i64 y], rfl, rfl, rfl, rfl, rfl, rfl, ?_⟩
  repeat' (first | ((with_reducible refine kok ?_); kernel_rfl) | ((with_reducible refine keq_mk ?_); kernel_rfl) | with_reducible rfl | ((conv => whnf); first | (with_reducible exact trivial) | ((with_reducible refine and_ff ?_ ?_); · exact rfl) | ((with_reducible refine and_tt ?_ ?_); · exact rfl) | (with_reducible refine And.intro ?_ ?_) | intro _ | (with_reducible refine fin2 hk ?_) | ((with_reducible refine eq_leaf ?_); exact rfl) | exact trivial))
  all_goals try (clear hk; omega)
noncomputable def la29 : Lib := (27, mk rMvA) :: la28
theorem la29_ok : LibOK Go.Proofs.Try.prog la29 := .cons lMoved_ok la28_ok
noncomputable def Lmv : Libs := ⟨la29, [(21, lockC (mk (rTL bestT)))], [], []⟩
theorem Lmv_ok : LibsOK Go.Proofs.Try.prog Lmv := ⟨la29_ok, asGet_cons (csound_lock aBestT_ok) (fun _ _ h => by cases h), (fun _ _ h => by cases h), fun _ _ h => by cases h⟩
def rLMv : List V.D → Option (Prop × V.D) := fun ds => match ds with
  | [d, .rsl 6 n g, .agg [.int .i32 b0, .int .i32 b1, .int .i32 b2]] => some (AtIs d ∧ IM n 6 g ∧ (-2147483648 ≤ b0 ∧ b0 ≤ 2147483647) ∧ (-2147483648 ≤ b1 ∧ b1 ≤ 2147483647) ∧ -2147483648 ≤ b2 ∧ b2 ≤ 2147483647, .tt)
  | _ => none
attribute [local irreducible] weighS chkA checkBands lowB ScOK askE askI imp missS alwB sdB farB bestTo whyM ScIs soB accS accE badI bB bM bE foundB listM alwN alwTo mvA chB
def mvTo (a : Nat → Nat → Int) (x y : Int) (n i k j : Nat) : Int := if k < i ∨ n ≤ k then mvA a x y k j else a k j
theorem mvTo_ne {a : Nat → Nat → Int} {x y : Int} {n i k j : Nat} (h : ¬ k = i) : mvTo a x y n i k j = mvTo a x y n (i + 1) k j := by
  unfold mvTo
  by_cases q : k < i ∨ n ≤ k
  · rw [if_pos q, if_pos (by omega)]
  · rw [if_neg q, if_neg (by omega)]
theorem mvTo_eq {a : Nat → Nat → Int} {x y : Int} {n i j : Nat} : mvTo a x y n (i + 1) i j = mvA a x y i j := if_pos (.inl (Nat.lt_succ_self i))
theorem mvTo_4 {a : Nat → Nat → Int} {x y : Int} {n i : Nat} (h : i < n) : mvTo a x y n i i 4 = mvTo a x y n (i + 1) i 4 := by
  rw [mvTo_eq]
  unfold mvTo mvA
  rw [if_neg (by omega)]
  simp
theorem mvA_0 {a : Nat → Nat → Int} {x y : Int} {i : Nat} : a i 0 + x = mvA a x y i 0 := by simp [mvA]
theorem mvA_1 {a : Nat → Nat → Int} {x y : Int} {i : Nat} : a i 1 + x = mvA a x y i 1 := by simp [mvA]
theorem mvA_2 {a : Nat → Nat → Int} {x y : Int} {i : Nat} : a i 2 + y = mvA a x y i 2 := by simp [mvA]
theorem mvA_3 {a : Nat → Nat → Int} {x y : Int} {i : Nat} : a i 3 + y = mvA a x y i 3 := by simp [mvA]
theorem mvTo_0 {a : Nat → Nat → Int} {x y : Int} {n k j : Nat} (h : k < n) : a k j = mvTo a x y n 0 k j := by
  unfold mvTo
  rw [if_neg (by omega)]
theorem mvTo_n {a : Nat → Nat → Int} {x y : Int} {n : Nat} : mvTo a x y n n = mvA a x y := by
  funext k j
  unfold mvTo
  rw [if_pos (by omega)]
theorem atOf_mv (t : ATask) (x y : Int) : atOf (.agg [.rsl 4 t.nr (imD t.ra), .rsl 5 t.ns (imD (mvA t.sa x y)), .int .i64 (t.tx + x), .int .i64 (t.ty + y), .int .i64 (t.al + x), .int .i64 (t.ah + x), .int .i64 (t.bl + y), .int .i64 (t.bh + y), .int .i64 t.gain, .int .i64 t.turn, .int .i64 t.freeze]) = mvT t x y := rfl
theorem atOf_wd (t : ATask) (z : Int) : atOf (.agg [.rsl 4 t.nr (imD t.ra), .rsl 5 t.ns (imD t.sa), .int .i64 t.tx, .int .i64 t.ty, .int .i64 t.al, .int .i64 z, .int .i64 t.bl, .int .i64 t.bh, .int .i64 t.gain, .int .i64 t.turn, .int .i64 t.freeze]) = wdT t z := rfl
def fndB (l : Nat → Nat → Int) (v : Int) : Nat → Bool
  | 0 => false
  | k + 1 => fndB l v k || decide (l k 0 = v)
theorem fnd_mem {l : Nat → Nat → Int} {v : Int} {i : Nat} (hl : l i 0 = v) : ∀ k, i < k → fndB l v k = true
  | 0, h => absurd h (Nat.not_lt_zero _)
  | k + 1, h => by
    by_cases e : i = k
    · subst e; simp [fndB, hl]
    · simp [fndB, fnd_mem hl k (by omega)]
theorem td10 {b : Int} (h : -2147483648 ≤ b ∧ b ≤ 2147483647) : -214748365 ≤ b.tdiv 10 ∧ b.tdiv 10 ≤ 214748365 := by
  rcases Int.le_total 0 b with q | q
  · rw [Int.tdiv_eq_ediv_of_nonneg q]; omega
  · have e : b.tdiv 10 = -((-b).tdiv 10) := by rw [Int.neg_tdiv, Int.neg_neg]
    rw [e, Int.tdiv_eq_ediv_of_nonneg (by omega)]; omega
theorem lawAMoved_ok : PSound Go.Proofs.Try.prog 8 (mk rLMv) := by
  refine psound_mk Try.func8 (by kernel_rfl) rfl (ctxA Lmv_ok) ?_
  (intro ds p d h; unfold rLMv at h; split at h <;> first | (cases h; done) | skip; cases h; refine ⟨Nat.le_of_ble_eq_true rfl, fun hp k hk => ?_⟩)
  rename_i d n g b0 b1 b2
  obtain ⟨ht, hg, h0, h1, h2⟩ := hp
  have hf := at_fits ht
  refine ⟨[(atOf d).D, .rsl 6 n (imD (im g)), .agg [.int .i32 b0, .int .i32 b1, .int .i32 b2]], at_imp ht ⟨rfl, hg, rfl, rfl, rfl, rfl, ?_⟩⟩
  clear ht hg
  generalize atOf d = t at *
  generalize im g = a at *
  have hx := td10 h0
  have hy := td10 h1
  generalize hX : b0.tdiv 10 = x at *
  generalize hY : b1.tdiv 10 = y at *
  by_cases e0 : askE t n a = 0
  rotate_left
  · have e1 : bE t n a = askE t n a := bE_1 e0
    repeat' (first | ((with_reducible refine kok ?_); kernel_rfl) | ((with_reducible refine keq_mk ?_); kernel_rfl) | with_reducible rfl | ((conv => whnf); first | (with_reducible exact trivial) | ((with_reducible refine and_ff ?_ ?_); · exact rfl) | ((with_reducible refine and_tt ?_ ?_); · exact rfl) | (with_reducible refine And.intro ?_ ?_) | intro _ | (with_reducible refine fin2 hk ?_) | ((with_reducible refine eq_leaf ?_); exact rfl) | exact trivial))
    all_goals (clear hk; try first | exact hf.1 | exact hf.2)
    all_goals (exfalso; simp only [atOf_agg, im_imD, e1, taskOf_agg, ↓Bool.not_eq_true', ↓Bool.not_eq_false', ↓decT, ↓decF, out_true, out_false, isin_true, isin_false, Int.toNat_natCast, Int.ofNat_lt, Nat.zero_add, Nat.add_zero, Nat.reduceAdd] at *; first | exact absurd (by assumption : askE t n a = 0) e0 | (exact absurd rfl (by assumption)) | (exact absurd trivial (by assumption)) | (simp_all; done))
  have o := ask_ok e0
  have R := o.1.rest
  unfold RestOK at R
  have hns := o.1.ns
  repeat' (first | ((with_reducible refine kok ?_); kernel_rfl) | ((with_reducible refine keq_mk ?_); kernel_rfl) | with_reducible rfl | ((conv => whnf); first | (with_reducible exact trivial) | ((with_reducible refine and_ff ?_ ?_); · exact rfl) | ((with_reducible refine and_tt ?_ ?_); · exact rfl) | (with_reducible refine And.intro ?_ ?_) | intro _ | (with_reducible refine fin2 hk ?_) | ((with_reducible refine eq_leaf ?_); exact rfl) | exact trivial))
  all_goals try (clear hk; first | exact hf.1 | exact hf.2)
  all_goals try (exfalso; exact absurd (by assumption : (10 : Int) = 0) (by decide))
  all_goals try (clear hk; (first | with_reducible refine (?_ : (_ : Int) ≤ _) | with_reducible refine (?_ : (_ : Int) < _)); first | omega | (simp only [hX, hY]; omega))
  all_goals try (clear hk; exfalso; simp only [atOf_agg, im_imD, taskOf_agg, ↓Bool.not_eq_true', ↓Bool.not_eq_false', ↓decT, ↓decF, out_true, out_false, isin_true, isin_false, Int.toNat_natCast, Int.ofNat_lt, Nat.zero_add, Nat.add_zero, Nat.reduceAdd] at *; contradiction)
  · clear hk
    show (0 + t.ns) * 40 ≤ 140737488355328
    omega
  conv => whnf
  refine ⟨Nat, fun i => [(1, .rsl 6 n (imD a)), (3, .ptr 0 0), (5, .ptr 1 0), (7, .ptr 2 0), (8, .int .i64 (bE t n a)), (9, .rsl 1 (alwN t n a) (imD (listM (alwTo (weighS t n a) t.ns)))), (11, .int .i64 x), (12, .int .i64 y), (13, .ptr 3 0), (14, .ptr 4 0), (15, .int .i64 i)],
    fun i => [some (.row t.cells), some (.row [.int .i32 b0, .int .i32 b1, .int .i32 b2]), some (.row [.int .i64 (ifz (bE t n a) (bB t n a)), .int .i64 (ifz (bE t n a) (bM t n a)), .rsl 2 (ifn (bE t n a) t.ns) (imD (whyM (weighS t n a) (bB t n a) (bM t n a)))]),
      some (.row [.rsl 4 t.nr (imD t.ra), .own 7 t.ns, .int .i64 (t.tx + x), .int .i64 (t.ty + y), .int .i64 (t.al + x), .int .i64 (t.ah + x), .int .i64 (t.bl + y), .int .i64 (t.bh + y), .int .i64 t.gain, .int .i64 t.turn, .int .i64 t.freeze]), some (.row t.cells), none, none,
      some (.buf 72 5 t.ns (imD (mvTo t.sa x y t.ns i)))],
    fun i => t.ns - i, fun i => i ≤ t.ns, [], 0, fun _ => ⟨?_, ?_⟩, ?_, fun i hi => ?_⟩
  · conv => lhs; whnf
  · conv => lhs; whnf
  · clear hk
    repeat' (first | ((with_reducible refine kok ?_); kernel_rfl) | ((with_reducible refine keq_mk ?_); kernel_rfl) | with_reducible rfl | ((conv => whnf); first | (with_reducible exact trivial) | ((with_reducible refine and_ff ?_ ?_); · exact rfl) | ((with_reducible refine and_tt ?_ ?_); · exact rfl) | (with_reducible refine And.intro ?_ ?_) | intro _ | (with_reducible refine fin2 hk ?_) | ((with_reducible refine eq_leaf ?_); exact rfl) | exact trivial))
    all_goals first
      | exact Nat.zero_le _
      | exact hX
      | exact hY
      | rfl
      | (simp only [hX, hY]; done)
      | (exact Nat.zero_add _)
      | exact congrArg (V.D.int .i64) (mvTo_0 (by omega))
      | skip
  have hi : i ≤ t.ns := hi
  conv => whnf
  refine ⟨rfl, ?_⟩
  conv => whnf
  refine ⟨fun g1 => ?_, fun g1 => ?_⟩
  · have hlt : i < t.ns := by have := of_decide_eq_true g1; omega
    have S := o.1.sets i hlt
    unfold SetOK at S
    repeat' (first | ((with_reducible refine kok ?_); kernel_rfl) | ((with_reducible refine keq_mk ?_); kernel_rfl) | with_reducible rfl | ((conv => whnf); first | (with_reducible exact trivial) | ((with_reducible refine and_ff ?_ ?_); · exact rfl) | ((with_reducible refine and_tt ?_ ?_); · exact rfl) | (with_reducible refine And.intro ?_ ?_) | intro _ | (with_reducible refine fin2 hk ?_) | ((with_reducible refine eq_leaf ?_); exact rfl) | exact trivial))
    all_goals try (clear hk; (first | with_reducible refine (?_ : (_ : Int) ≤ _) | with_reducible refine (?_ : (_ : Int) < _)); first | omega | (simp only [Int.toNat_natCast, Nat.zero_add, Nat.add_zero, Nat.reduceAdd]; omega))
    all_goals clear hk
    all_goals try exact hlt
    conv => whnf
    refine ⟨i + 1, ?_⟩
    repeat' (first | ((with_reducible refine kok ?_); kernel_rfl) | ((with_reducible refine keq_mk ?_); kernel_rfl) | with_reducible rfl | ((conv => whnf); first | (with_reducible exact trivial) | ((with_reducible refine and_ff ?_ ?_); · exact rfl) | ((with_reducible refine and_tt ?_ ?_); · exact rfl) | (with_reducible refine And.intro ?_ ?_) | intro _ | (with_reducible refine fin2 hk ?_) | ((with_reducible refine eq_leaf ?_); exact rfl) | exact trivial))
    all_goals first
      | exact hlt
      | (simp only; omega)
      | (rename_i i' j' h3 h4
         by_cases e : i' = i
         · subst e
           have hj : j' = 0 ∨ j' = 1 ∨ j' = 2 ∨ j' = 3 ∨ j' = 4 := by omega
           rcases hj with rfl | rfl | rfl | rfl | rfl
           · refine (if_pos (And.intro rfl (And.intro (show 0 ≤ 0 by omega) (show 0 < 4 by omega)))).trans ?_
             exact congrArg (V.D.int .i64) (mvA_0.trans mvTo_eq.symm)
           · refine (if_pos (And.intro rfl (And.intro (show 0 ≤ 1 by omega) (show 1 < 4 by omega)))).trans ?_
             exact congrArg (V.D.int .i64) (mvA_1.trans mvTo_eq.symm)
           · refine (if_pos (And.intro rfl (And.intro (show 0 ≤ 2 by omega) (show 2 < 4 by omega)))).trans ?_
             exact congrArg (V.D.int .i64) (mvA_2.trans mvTo_eq.symm)
           · refine (if_pos (And.intro rfl (And.intro (show 0 ≤ 3 by omega) (show 3 < 4 by omega)))).trans ?_
             exact congrArg (V.D.int .i64) (mvA_3.trans mvTo_eq.symm)
           · refine (if_neg (fun q => absurd (q.2.2 : 4 < 4) (by decide))).trans ?_
             exact congrArg (V.D.int .i64) (mvTo_4 hlt)
         · refine (if_neg (fun q => e q.1)).trans ?_
           exact congrArg (V.D.int .i64) (mvTo_ne e))
  have e : i = t.ns := by have := of_decide_eq_false g1; omega
  subst e
  clear hi
  have hz1 : t.ah ≤ min 500000000 (t.ah + max 0 b2) := by omega
  have hz2 : min 500000000 (t.ah + max 0 b2) ≤ 500000000 := by omega
  have W := wide_ask e0 hz1 hz2
  have MB := fun hu => @moved_best t x y n a e0 hu
  have bl := bestN_le t n a
  repeat' (first | ((with_reducible refine kok ?_); kernel_rfl) | ((with_reducible refine keq_mk ?_); kernel_rfl) | with_reducible rfl | ((conv => whnf); first | (with_reducible exact trivial) | ((with_reducible refine and_ff ?_ ?_); · exact rfl) | ((with_reducible refine and_tt ?_ ?_); · exact rfl) | (with_reducible refine And.intro ?_ ?_) | intro _ | (with_reducible refine fin2 hk ?_) | ((with_reducible refine eq_leaf ?_); exact rfl) | exact trivial))
  all_goals try (clear hk; first | exact hf.1 | exact hf.2)
  all_goals try (clear hk; (first | with_reducible refine (?_ : (_ : Int) ≤ _) | with_reducible refine (?_ : (_ : Int) < _)); omega)
  all_goals try (clear hk; exact Nat.le_trans bl (by decide))
  all_goals try (
    clear hk
    exfalso
    simp only [mvTo_n, atOf_mv, atOf_wd, atOf_agg, im_imD, taskOf_agg, ↓Bool.not_eq_true', ↓Bool.not_eq_false', ↓decT, ↓decF, out_true, out_false, isin_true, isin_false, Int.toNat_natCast, Int.ofNat_lt, Nat.zero_add, Nat.add_zero, Nat.reduceAdd] at *
    first
      | exact absurd W (by assumption)
      | (obtain ⟨q1, q2, q3, q4⟩ := MB (by assumption)
         first
           | exact absurd q1 (by assumption)
           | (rw [q1, q2, q3, q4] at *
              have z := @chB_refl
              simp_all; done)))
  · clear hk
    exfalso
    rename_i h1 h2 h3
    simp only [mvTo_n, atOf_mv, im_imD, taskOf_agg, ↓Bool.not_eq_true', ↓Bool.not_eq_false', ↓decT, ↓decF, out_true, out_false, isin_true, isin_false, Int.toNat_natCast, Int.ofNat_lt, Nat.zero_add, Nat.add_zero, Nat.reduceAdd] at h1 h3
    obtain ⟨q1, q2, q3, q4⟩ := MB h1
    have e : (mvT t x y).ns = t.ns := rfl
    rw [q1, q2, q3, q4, e, chB_refl] at h3
    exact absurd h3 (by decide)
  all_goals (
    rename_i gz
    clear gz MB
    have hN : alwN t n a = (alwTo (weighS t n a) t.ns).length := by unfold alwN; rw [e0, ifn_0]
    have hM : alwN (wdT t (min 500000000 (t.ah + max 0 b2))) n a = (alwTo (weighS (wdT t (min 500000000 (t.ah + max 0 b2))) n a) t.ns).length := by unfold alwN; rw [W, ifn_0]; rfl
    have key : ∀ i, i < alwN t n a → ∃ q, q < alwN (wdT t (min 500000000 (t.ah + max 0 b2))) n a ∧ listM (alwTo (weighS (wdT t (min 500000000 (t.ah + max 0 b2))) n a) t.ns) q 0 = listM (alwTo (weighS t n a) t.ns) i 0 := fun i hi => by
      have h1 := alw_is (weighS t n a) t.ns i (by omega)
      have h2 := alw_in (weighS t n a) t.ns i (by omega)
      obtain ⟨q, q1, q2⟩ := alw_at (weighS (wdT t (min 500000000 (t.ah + max 0 b2))) n a) (alw_wd hz1 h1) t.ns (by omega)
      exact ⟨q, by omega, by rw [q2]; omega⟩
    have leA := alwN_le t n a
    have leB := alwN_le (wdT t (min 500000000 (t.ah + max 0 b2))) n a
    clear hN hM
    conv => whnf)
  · generalize hla : listM (alwTo (weighS t n a) t.ns) = la at *
    generalize hlb : listM (alwTo (weighS (wdT t (min 500000000 (t.ah + max 0 b2))) n a) t.ns) = lb at *
    generalize hmN : alwN t n a = mN at *
    generalize hpN : alwN (wdT t (min 500000000 (t.ah + max 0 b2))) n a = pN at *
    refine ⟨Nat, fun i => [(9, .rsl 1 mN (imD la)), (21, .rsl 1 pN (imD lb)), (22, .int .i64 i)], fun _ => [some (.row [.top, .top, .top, .top, .top, .top, .top, .top, .top, .top, .top]), some (.row [.top, .top, .top]), some (.row [.top, .top, .top]), some (.row [.top, .top, .top, .top, .top, .top, .top, .top, .top, .top, .top]), some (.row [.top, .top, .top, .top, .top, .top, .top, .top, .top, .top, .top]), none, none, some .dead, some (.row [.top, .top, .top])], fun i => mN - i, fun i => i ≤ mN, [], 0, fun _ => ⟨?_, ?_⟩, ?_, fun i hi => ?_⟩
    · conv => lhs; whnf
    · conv => lhs; whnf
    · clear hk
      repeat' (first | ((with_reducible refine kok ?_); kernel_rfl) | ((with_reducible refine keq_mk ?_); kernel_rfl) | with_reducible rfl | ((conv => whnf); first | (with_reducible exact trivial) | ((with_reducible refine and_ff ?_ ?_); · exact rfl) | ((with_reducible refine and_tt ?_ ?_); · exact rfl) | (with_reducible refine And.intro ?_ ?_) | intro _ | (with_reducible refine fin2 hk ?_) | ((with_reducible refine eq_leaf ?_); exact rfl) | exact trivial))
      all_goals first
        | exact Nat.zero_le _
        | exact hpN
        | exact hmN
        | (rw [← hlb]; rfl)
        | (rw [← hla]; rfl)
        | rfl
    have hi : i ≤ mN := hi
    conv => whnf
    refine ⟨fun g1 => ?_, fun g1 => ?_⟩
    rotate_left
    · repeat' (first | ((with_reducible refine kok ?_); kernel_rfl) | ((with_reducible refine keq_mk ?_); kernel_rfl) | with_reducible rfl | ((conv => whnf); first | (with_reducible exact trivial) | ((with_reducible refine and_ff ?_ ?_); · exact rfl) | ((with_reducible refine and_tt ?_ ?_); · exact rfl) | (with_reducible refine And.intro ?_ ?_) | intro _ | (with_reducible refine fin2 hk ?_) | ((with_reducible refine eq_leaf ?_); exact rfl) | exact trivial))
    have hlt : i < mN := by have := of_decide_eq_true g1; omega
    obtain ⟨q, hq, hql⟩ := key i hlt
    repeat' (first | ((with_reducible refine kok ?_); kernel_rfl) | ((with_reducible refine keq_mk ?_); kernel_rfl) | with_reducible rfl | ((conv => whnf); first | (with_reducible exact trivial) | ((with_reducible refine and_ff ?_ ?_); · exact rfl) | ((with_reducible refine and_tt ?_ ?_); · exact rfl) | (with_reducible refine And.intro ?_ ?_) | intro _ | (with_reducible refine fin2 hk ?_) | ((with_reducible refine eq_leaf ?_); exact rfl) | exact trivial))
    conv => whnf
    refine ⟨Nat, fun k => [(9, .rsl 1 mN (imD la)), (21, .rsl 1 pN (imD lb)), (22, .int .i64 i), (23, .bool (fndB lb (la i 0) k)), (24, .int .i64 k)], fun _ => [some (.row [.top, .top, .top, .top, .top, .top, .top, .top, .top, .top, .top]), some (.row [.top, .top, .top]), some (.row [.top, .top, .top]), some (.row [.top, .top, .top, .top, .top, .top, .top, .top, .top, .top, .top]), some (.row [.top, .top, .top, .top, .top, .top, .top, .top, .top, .top, .top]), none, none, some .dead, some (.row [.top, .top, .top])], fun k => pN - k, fun k => k ≤ pN, [], 0, fun _ => ⟨?_, ?_⟩, ?_, fun k hk0 => ?_⟩
    · conv => lhs; whnf
    · conv => lhs; whnf
    · clear hk
      repeat' (first | ((with_reducible refine kok ?_); kernel_rfl) | ((with_reducible refine keq_mk ?_); kernel_rfl) | with_reducible rfl | ((conv => whnf); first | (with_reducible exact trivial) | ((with_reducible refine and_ff ?_ ?_); · exact rfl) | ((with_reducible refine and_tt ?_ ?_); · exact rfl) | (with_reducible refine And.intro ?_ ?_) | intro _ | (with_reducible refine fin2 hk ?_) | ((with_reducible refine eq_leaf ?_); exact rfl) | exact trivial))
      all_goals first
        | exact Nat.zero_le _
        | rfl
        | skip
    have hk0 : k ≤ pN := hk0
    conv => whnf
    refine ⟨fun g1 => ?_, fun g1 => ?_⟩
    rotate_left
    · have hd : fndB lb (la i 0) k = true := fnd_mem hql k (by have := of_decide_eq_false g1; omega)
      repeat' (first | ((with_reducible refine kok ?_); kernel_rfl) | ((with_reducible refine keq_mk ?_); kernel_rfl) | with_reducible rfl | ((conv => whnf); first | (with_reducible exact trivial) | ((with_reducible refine and_ff ?_ ?_); · exact rfl) | ((with_reducible refine and_tt ?_ ?_); · exact rfl) | (with_reducible refine And.intro ?_ ?_) | intro _ | (with_reducible refine fin2 hk ?_) | ((with_reducible refine eq_leaf ?_); exact rfl) | exact trivial))
      all_goals try (clear hk; (first | with_reducible refine (?_ : (_ : Int) ≤ _) | with_reducible refine (?_ : (_ : Int) < _)); omega)
      all_goals clear hk
      all_goals try (exfalso; rename_i z; rw [hd] at z; exact absurd z (by decide))
      conv => whnf
      refine ⟨i + 1, ?_⟩
      repeat' (first | ((with_reducible refine kok ?_); kernel_rfl) | ((with_reducible refine keq_mk ?_); kernel_rfl) | with_reducible rfl | ((conv => whnf); first | (with_reducible exact trivial) | ((with_reducible refine and_ff ?_ ?_); · exact rfl) | ((with_reducible refine and_tt ?_ ?_); · exact rfl) | (with_reducible refine And.intro ?_ ?_) | intro _ | (with_reducible refine fin2 hk ?_) | ((with_reducible refine eq_leaf ?_); exact rfl) | exact trivial))
      all_goals first | exact hlt | (simp only; omega)
    have hlt2 : k < pN := by have := of_decide_eq_true g1; omega
    repeat' (first | ((with_reducible refine kok ?_); kernel_rfl) | ((with_reducible refine keq_mk ?_); kernel_rfl) | with_reducible rfl | ((conv => whnf); first | (with_reducible exact trivial) | ((with_reducible refine and_ff ?_ ?_); · exact rfl) | ((with_reducible refine and_tt ?_ ?_); · exact rfl) | (with_reducible refine And.intro ?_ ?_) | intro _ | (with_reducible refine fin2 hk ?_) | ((with_reducible refine eq_leaf ?_); exact rfl) | exact trivial))
    all_goals try (clear hk; (first | with_reducible refine (?_ : (_ : Int) ≤ _) | with_reducible refine (?_ : (_ : Int) < _)); omega)
    all_goals clear hk
    all_goals (
      conv => whnf
      refine ⟨k + 1, ?_⟩
      repeat' (first | ((with_reducible refine kok ?_); kernel_rfl) | ((with_reducible refine keq_mk ?_); kernel_rfl) | with_reducible rfl | ((conv => whnf); first | (with_reducible exact trivial) | ((with_reducible refine and_ff ?_ ?_); · exact rfl) | ((with_reducible refine and_tt ?_ ?_); · exact rfl) | (with_reducible refine And.intro ?_ ?_) | intro _ | (with_reducible refine fin2 hk ?_) | ((with_reducible refine eq_leaf ?_); exact rfl) | exact trivial)))
    all_goals first
      | exact hlt2
      | (simp only; omega)
      | (simp only [fndB, Int.toNat_natCast] at *; simp_all; done)
      | skip
  · generalize hla : listM (alwTo (weighS t n a) t.ns) = la at *
    generalize hlb : listM (alwTo (weighS (wdT t (min 500000000 (t.ah + max 0 b2))) n a) t.ns) = lb at *
    generalize hmN : alwN t n a = mN at *
    generalize hpN : alwN (wdT t (min 500000000 (t.ah + max 0 b2))) n a = pN at *
    refine ⟨Nat, fun i => [(9, .rsl 1 mN (imD la)), (21, .rsl 1 pN (imD lb)), (22, .int .i64 i)], fun _ => [some (.row [.top, .top, .top, .top, .top, .top, .top, .top, .top, .top, .top]), some (.row [.top, .top, .top]), some (.row [.top, .top, .top]), some (.row [.top, .top, .top, .top, .top, .top, .top, .top, .top, .top, .top]), some (.row [.top, .top, .top, .top, .top, .top, .top, .top, .top, .top, .top]), none, none, some (.buf 72 5 t.ns (imD (mvTo t.sa x y t.ns t.ns)))], fun i => mN - i, fun i => i ≤ mN, [], 0, fun _ => ⟨?_, ?_⟩, ?_, fun i hi => ?_⟩
    · conv => lhs; whnf
    · conv => lhs; whnf
    · clear hk
      repeat' (first | ((with_reducible refine kok ?_); kernel_rfl) | ((with_reducible refine keq_mk ?_); kernel_rfl) | with_reducible rfl | ((conv => whnf); first | (with_reducible exact trivial) | ((with_reducible refine and_ff ?_ ?_); · exact rfl) | ((with_reducible refine and_tt ?_ ?_); · exact rfl) | (with_reducible refine And.intro ?_ ?_) | intro _ | (with_reducible refine fin2 hk ?_) | ((with_reducible refine eq_leaf ?_); exact rfl) | exact trivial))
      all_goals first
        | exact Nat.zero_le _
        | exact hpN
        | exact hmN
        | (rw [← hlb]; rfl)
        | (rw [← hla]; rfl)
        | rfl
    have hi : i ≤ mN := hi
    conv => whnf
    refine ⟨fun g1 => ?_, fun g1 => ?_⟩
    rotate_left
    · repeat' (first | ((with_reducible refine kok ?_); kernel_rfl) | ((with_reducible refine keq_mk ?_); kernel_rfl) | with_reducible rfl | ((conv => whnf); first | (with_reducible exact trivial) | ((with_reducible refine and_ff ?_ ?_); · exact rfl) | ((with_reducible refine and_tt ?_ ?_); · exact rfl) | (with_reducible refine And.intro ?_ ?_) | intro _ | (with_reducible refine fin2 hk ?_) | ((with_reducible refine eq_leaf ?_); exact rfl) | exact trivial))
    have hlt : i < mN := by have := of_decide_eq_true g1; omega
    obtain ⟨q, hq, hql⟩ := key i hlt
    repeat' (first | ((with_reducible refine kok ?_); kernel_rfl) | ((with_reducible refine keq_mk ?_); kernel_rfl) | with_reducible rfl | ((conv => whnf); first | (with_reducible exact trivial) | ((with_reducible refine and_ff ?_ ?_); · exact rfl) | ((with_reducible refine and_tt ?_ ?_); · exact rfl) | (with_reducible refine And.intro ?_ ?_) | intro _ | (with_reducible refine fin2 hk ?_) | ((with_reducible refine eq_leaf ?_); exact rfl) | exact trivial))
    conv => whnf
    refine ⟨Nat, fun k => [(9, .rsl 1 mN (imD la)), (21, .rsl 1 pN (imD lb)), (22, .int .i64 i), (23, .bool (fndB lb (la i 0) k)), (24, .int .i64 k)], fun _ => [some (.row [.top, .top, .top, .top, .top, .top, .top, .top, .top, .top, .top]), some (.row [.top, .top, .top]), some (.row [.top, .top, .top]), some (.row [.top, .top, .top, .top, .top, .top, .top, .top, .top, .top, .top]), some (.row [.top, .top, .top, .top, .top, .top, .top, .top, .top, .top, .top]), none, none, some (.buf 72 5 t.ns (imD (mvTo t.sa x y t.ns t.ns)))], fun k => pN - k, fun k => k ≤ pN, [], 0, fun _ => ⟨?_, ?_⟩, ?_, fun k hk0 => ?_⟩
    · conv => lhs; whnf
    · conv => lhs; whnf
    · clear hk
      repeat' (first | ((with_reducible refine kok ?_); kernel_rfl) | ((with_reducible refine keq_mk ?_); kernel_rfl) | with_reducible rfl | ((conv => whnf); first | (with_reducible exact trivial) | ((with_reducible refine and_ff ?_ ?_); · exact rfl) | ((with_reducible refine and_tt ?_ ?_); · exact rfl) | (with_reducible refine And.intro ?_ ?_) | intro _ | (with_reducible refine fin2 hk ?_) | ((with_reducible refine eq_leaf ?_); exact rfl) | exact trivial))
      all_goals first
        | exact Nat.zero_le _
        | rfl
        | skip
    have hk0 : k ≤ pN := hk0
    conv => whnf
    refine ⟨fun g1 => ?_, fun g1 => ?_⟩
    rotate_left
    · have hd : fndB lb (la i 0) k = true := fnd_mem hql k (by have := of_decide_eq_false g1; omega)
      repeat' (first | ((with_reducible refine kok ?_); kernel_rfl) | ((with_reducible refine keq_mk ?_); kernel_rfl) | with_reducible rfl | ((conv => whnf); first | (with_reducible exact trivial) | ((with_reducible refine and_ff ?_ ?_); · exact rfl) | ((with_reducible refine and_tt ?_ ?_); · exact rfl) | (with_reducible refine And.intro ?_ ?_) | intro _ | (with_reducible refine fin2 hk ?_) | ((with_reducible refine eq_leaf ?_); exact rfl) | exact trivial))
      all_goals try (clear hk; (first | with_reducible refine (?_ : (_ : Int) ≤ _) | with_reducible refine (?_ : (_ : Int) < _)); omega)
      all_goals clear hk
      all_goals try (exfalso; rename_i z; rw [hd] at z; exact absurd z (by decide))
      conv => whnf
      refine ⟨i + 1, ?_⟩
      repeat' (first | ((with_reducible refine kok ?_); kernel_rfl) | ((with_reducible refine keq_mk ?_); kernel_rfl) | with_reducible rfl | ((conv => whnf); first | (with_reducible exact trivial) | ((with_reducible refine and_ff ?_ ?_); · exact rfl) | ((with_reducible refine and_tt ?_ ?_); · exact rfl) | (with_reducible refine And.intro ?_ ?_) | intro _ | (with_reducible refine fin2 hk ?_) | ((with_reducible refine eq_leaf ?_); exact rfl) | exact trivial))
      all_goals first | exact hlt | (simp only; omega)
    have hlt2 : k < pN := by have := of_decide_eq_true g1; omega
    repeat' (first | ((with_reducible refine kok ?_); kernel_rfl) | ((with_reducible refine keq_mk ?_); kernel_rfl) | with_reducible rfl | ((conv => whnf); first | (with_reducible exact trivial) | ((with_reducible refine and_ff ?_ ?_); · exact rfl) | ((with_reducible refine and_tt ?_ ?_); · exact rfl) | (with_reducible refine And.intro ?_ ?_) | intro _ | (with_reducible refine fin2 hk ?_) | ((with_reducible refine eq_leaf ?_); exact rfl) | exact trivial))
    all_goals try (clear hk; (first | with_reducible refine (?_ : (_ : Int) ≤ _) | with_reducible refine (?_ : (_ : Int) < _)); omega)
    all_goals clear hk
    all_goals (
      conv => whnf
      refine ⟨k + 1, ?_⟩
      repeat' (first | ((with_reducible refine kok ?_); kernel_rfl) | ((with_reducible refine keq_mk ?_); kernel_rfl) | with_reducible rfl | ((conv => whnf); first | (with_reducible exact trivial) | ((with_reducible refine and_ff ?_ ?_); · exact rfl) | ((with_reducible refine and_tt ?_ ?_); · exact rfl) | (with_reducible refine And.intro ?_ ?_) | intro _ | (with_reducible refine fin2 hk ?_) | ((with_reducible refine eq_leaf ?_); exact rfl) | exact trivial)))
    all_goals first
      | exact hlt2
      | (simp only; omega)
      | (simp only [fndB, Int.toNat_natCast] at *; simp_all; done)
      | skip
end Go.Proofs.Ytbakdblbknfadaa
end
section
set_option linter.unusedVariables false
set_option linter.unusedSimpArgs false
set_option maxRecDepth 100000
namespace Go.Proofs.Ytbakdblbknfadaa
open Go.V

theorem aimMoved_lifted (os : Os) (started : os.Started) (H : Type) (enc : TypeId × Value → H) :
    ReturnsInHanded {} Try.checked os 8 .any (Rows.aimMovedSpec.pre6 enc Go.Proofs.Try.prog Try.f8 Rows.aimMovedRow.domain false) (Rows.aimMovedSpec.post enc Go.Proofs.Try.prog Try.f8 false Rows.aimMovedRow.fresh Rows.aimMovedRow.handsOn Rows.aimMovedRow.again) := by
  refine returnsInHanded_of_change (C := Try.checked) own started (by kernel_rfl) Try.func8
    (ChangeSpec.witness6 (enc := enc) (C := Try.checked) false ⟨#[], #[.agg #[.slice none 0 0, .slice none 0 0, .int .i64 0, .int .i64 0, .int .i64 0, .int .i64 0, .int .i64 0, .int .i64 0, .int .i64 0, .int .i64 0, .int .i64 0], .slice none 0 0, .agg #[.int .i32 0, .int .i32 0, .int .i32 0]], []⟩ 8 (by kernel_rfl) (by kernel_rfl) (by kernel_rfl) (by kernel_rfl)) ?_
  intro W base args ds gs before hok hW _ _
  refine law_contract (l := [atK, .one bandsK, .agg [.int .i32, .int .i32, .int .i32]]) (tb := 4) laid_ok lawAMoved_ok (by kernel_rfl) (by kernel_rfl) rfl tbool (fun ds h => ?_) rfl (fun ds hd => ?_) W base args ds gs before hok hW
  · obtain ⟨d, e, f, rfl, h1, h2, h3⟩ := isAL3 h
    obtain ⟨n, g, rfl, hg⟩ := bands_of_kinds (f := 6) h2
    obtain ⟨ds, rfl, hl, h3⟩ := h3
    match ds, hl with
    | [d0, d1, d2], _ =>
      obtain ⟨n0, rfl, m0, m0'⟩ := h3 0 _ _ rfl rfl
      obtain ⟨n1, rfl, m1, m1'⟩ := h3 1 _ _ rfl rfl
      obtain ⟨n2, rfl, m2, m2'⟩ := h3 2 _ _ rfl rfl
      exact ⟨_, _, rfl, ⟨at_of_kinds h1, hg, ⟨m0, m0'⟩, ⟨m1, m1'⟩, m2, m2'⟩, .inl rfl⟩
  · match ds, hd with
    | [a, b, c], _ => exact ⟨rfl, rfl, rfl⟩
theorem aimMoved_holds : Rows.AimMovedSaid :=
  OpenClaim.holds_of_wide 8 Try.f8 rfl rfl rfl rfl rfl rfl rfl ⟨rfl, rfl, rfl, rfl, rfl⟩ rfl rfl rfl rfl rfl (by kernel_rfl) Try.func8 (by kernel_rfl)
    (of_decide_eq_true (by kernel_rfl)) (by unfold Func.isWrapper; first | (rw [if_pos (by decide +kernel)]; kernel_rfl) | (rw [if_neg (by decide +kernel)]; exact ⟨rfl, rfl⟩))
    (fun os started H enc _ => aimMoved_lifted os started H enc)
#print axioms aimMoved_holds
end Go.Proofs.Ytbakdblbknfadaa
end
