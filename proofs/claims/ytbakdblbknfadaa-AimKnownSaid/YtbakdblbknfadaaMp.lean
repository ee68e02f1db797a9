/-
  Plain laws of bands: what covers, and what is at a height.
-/
import Derived.Test.YtbakdblbknfadaaMi
section
set_option linter.unusedVariables false
set_option linter.unusedSimpArgs false
namespace Go.Proofs.Ytbakdblbknfadaa
open Go.V

theorem covT_ok {n m : Nat} {a b : Nat → Nat → Int} (h : (coversT n a m b).2 = 0) : BandsOK n a ∧ BandsOK m b ∧ (coversT n a m b).1 = covB n a m b := by
  unfold coversT at h ⊢
  split at h
  · rename_i g; exact absurd h g
  split at h
  · rename_i g; exact absurd h g
  rename_i g1 g2
  rw [if_neg g1, if_neg g2]
  exact ⟨bands_ok (Classical.not_not.mp g1), bands_ok (Classical.not_not.mp g2), rfl⟩
theorem covT_bad {n m : Nat} {a b : Nat → Nat → Int} (h : (coversT n a m b).2 ≠ 0) : (coversT n a m b).1 = false := by
  unfold coversT at h ⊢
  split
  · rfl
  split
  · rfl
  · rename_i g1 g2
    rw [if_neg g1, if_neg g2] at h
    exact absurd rfl h
theorem covT_mk {n m : Nat} {a b : Nat → Nat → Int} (h1 : (checkBands n a).2 = 0) (h2 : (checkBands m b).2 = 0) : coversT n a m b = (covB n a m b, 0) := by
  rw [coversT, if_neg (fun h => h h1), if_neg (fun h => h h2)]
theorem covT_chk {n m : Nat} {a b : Nat → Nat → Int} (h : (coversT n a m b).2 = 0) : (checkBands n a).2 = 0 ∧ (checkBands m b).2 = 0 := by
  unfold coversT at h
  split at h
  · rename_i g; exact absurd h g
  split at h
  · rename_i g; exact absurd h g
  rename_i g1 g2
  exact ⟨Classical.not_not.mp g1, Classical.not_not.mp g2⟩
theorem covB_iff {n m : Nat} {a b : Nat → Nat → Int} : covB n a m b = true ↔ Cov n a m b := by unfold covB; rw [decT]
theorem BandsOK.low {n : Nat} {a : Nat → Nat → Int} (h : BandsOK n a) {i : Nat} (hi : i < n) : 0 ≤ a i 0 := by
  rw [h.from0 i hi, fromOf]
  split
  · exact Int.le_refl _
  · have h1 := h.up (i - 1) (by omega)
    have h2 := h.mono (i := 0) (i - 1) (by omega) (by omega)
    have h3 := h.up 0 (by omega)
    have h4 := h.zero
    omega
theorem meet_one {n : Nat} {a : Nat → Nat → Int} (h : BandsOK n a) {i k : Nat} (hi : i < n) (hk : k < n) (hm : meetB a a i k) : i = k := by
  unfold meetB at hm
  rcases Nat.lt_trichotomy i k with g | g | g
  · have := h.above g hk; omega
  · exact g
  · have := h.above g hi; omega
theorem Cov.refl {n : Nat} {a : Nat → Nat → Int} (h : BandsOK n a) : Cov n a n a := ⟨Int.le_refl _, fun i k hi hk hm => by
  obtain rfl := meet_one h hi hk hm
  exact ⟨Int.le_refl _, Int.le_refl _, Int.le_refl _, Int.le_refl _⟩⟩
/-- The band that has a height. -/
theorem BandsOK.at {n : Nat} {a : Nat → Nat → Int} (h : BandsOK n a) {x : Int} (h0 : 0 ≤ x) (h1 : x < a (n - 1) 1) : ∃ i, i < n ∧ a i 0 ≤ x ∧ x < a i 1 := by
  have key : ∀ k, k < n → x < a k 1 → ∃ i, i < n ∧ a i 0 ≤ x ∧ x < a i 1 := by
    intro k
    induction k with
    | zero =>
      intro hk hx
      exact ⟨0, hk, by rw [h.zero]; exact h0, hx⟩
    | succ k ih =>
      intro hk hx
      by_cases g : x < a k 1
      · exact ih (by omega) g
      · exact ⟨k + 1, hk, by rw [h.step hk]; omega, hx⟩
  have := h.len
  exact key (n - 1) (by omega) h1
theorem BandsOK.one {n : Nat} {a : Nat → Nat → Int} (h : BandsOK n a) {x : Int} {i j : Nat} (hi : i < n) (hj : j < n) (h1 : a i 0 ≤ x) (h2 : x < a i 1) (h3 : a j 0 ≤ x) (h4 : x < a j 1) : i = j :=
  meet_one h hi hj (by unfold meetB; omega)
theorem Cov.trans {n m l : Nat} {a b c : Nat → Nat → Int} (hA : BandsOK n a) (hB : BandsOK m b) (hC : BandsOK l c) (h1 : Cov n a m b) (h2 : Cov m b l c) : Cov n a l c := by
  refine ⟨Int.le_trans h2.1 h1.1, fun i k hi hk hm => ?_⟩
  have hx := hC.mono (i := k) (l - 1) (by omega) (by have := hC.len; omega)
  have h20 := h2.1
  have lo := hA.low hi
  unfold meetB at hm
  obtain ⟨j, hj, g1, g2⟩ := hB.at (x := max (a i 0) (c k 0)) (by omega) (by omega)
  have q1 := h1.2 i j hi hj (by unfold meetB; omega)
  have q2 := h2.2 j k hj hk (by unfold meetB; omega)
  unfold inB at *
  omega

/-- What Over has found. -/
theorem over_ok {n : Nat} {a : Nat → Nat → Int} {x : Int} (h : (overT n a x).2 = 0) : BandsOK n a ∧ (0 ≤ x ∧ x ≤ 99999999) ∧ ∃ i, i < n ∧ a i 0 ≤ x ∧ x < a i 1 ∧ (overT n a x).1 = ⟨a i 2, a i 3, a i 4, a i 5⟩ := by
  unfold overT at h ⊢
  split at h
  · rename_i g; exact absurd h g
  split at h
  · cases h
  rename_i g1 g2
  rw [if_neg g1, if_neg g2]
  have hb := bands_ok (Classical.not_not.mp g1)
  have hx : 0 ≤ x ∧ x ≤ 99999999 := by simpa [heightB, isin] using g2
  refine ⟨hb, hx, ?_⟩
  unfold overS at h ⊢
  rcases firstFrom_spec (belowTo a x) n 0 with ⟨e, hn⟩ | ⟨m, e, _, hm, hp, hq⟩
  · rw [e, if_pos (by omega)] at h; cases h
  · rw [e, if_neg (by omega), Int.toNat_natCast]
    refine ⟨m, by omega, ?_, by simpa [belowTo] using hp, rfl⟩
    rw [hb.from0 m (by omega), fromOf]
    split
    · exact hx.1
    · have := hq (m - 1) (Nat.zero_le _) (by omega)
      simp only [belowTo, decide_eq_false_iff_not] at this
      omega
theorem over_mk {n : Nat} {a : Nat → Nat → Int} {x : Int} (hc : (checkBands n a).2 = 0) (hx : 0 ≤ x ∧ x ≤ 99999999) {i : Nat} (hi : i < n) (h1 : a i 0 ≤ x) (h2 : x < a i 1) : overT n a x = (⟨a i 2, a i 3, a i 4, a i 5⟩, 0) := by
  have hb := bands_ok hc
  have e : firstFrom (belowTo a x) 0 n = i := first_is hi (by simpa [belowTo] using h2) fun j hj => by
    have := hb.above hj hi
    simp only [belowTo, decide_eq_false_iff_not]
    omega
  rw [overT, if_neg (fun h => h hc), if_neg (by simp [heightB, isin]; omega), overS, e, if_neg (by omega), Int.toNat_natCast]
theorem over_none {n : Nat} {a : Nat → Nat → Int} {x : Int} (hc : (checkBands n a).2 = 0) (hx : 0 ≤ x ∧ x ≤ 99999999) (h : a (n - 1) 1 ≤ x) : overT n a x = (left00, 4) := by
  have hb := bands_ok hc
  have e : firstFrom (belowTo a x) 0 n = -1 := first_none fun j hj => by
    have := hb.mono (i := j) (n - 1) (by omega) (by omega)
    simp only [belowTo, decide_eq_false_iff_not]
    omega
  rw [overT, if_neg (fun h => h hc), if_neg (by simp [heightB, isin]; omega), overS, e, if_pos (by omega)]
/-- At each height the spans of bands that are covered lie in those of the others. -/
theorem over_cov {n m : Nat} {a b : Nat → Nat → Int} {x : Int} (hA : (checkBands n a).2 = 0) (hC : Cov n a m b) (hb : (overT m b x).2 = 0) :
    (overT n a x).2 = 0 ∧ (overT n a x).1.xl ≤ (overT m b x).1.xl ∧ (overT m b x).1.xh ≤ (overT n a x).1.xh ∧ (overT n a x).1.yl ≤ (overT m b x).1.yl ∧ (overT m b x).1.yh ≤ (overT n a x).1.yh := by
  obtain ⟨hB, hx, k, hk, g1, g2, e⟩ := over_ok hb
  have ha := bands_ok hA
  have hm := hB.mono (i := k) (m - 1) (by omega) (by omega)
  have h0 := hC.1
  obtain ⟨i, hi, g3, g4⟩ := ha.at hx.1 (by omega : x < a (n - 1) 1)
  have e2 := over_mk hA hx hi g3 g4
  have q := hC.2 i k hi hk (by unfold meetB; omega)
  unfold inB at q
  rw [e2, e]
  exact ⟨rfl, q.1, q.2.1, q.2.2.1, q.2.2.2⟩
end Go.Proofs.Ytbakdblbknfadaa
end
section
set_option linter.unusedVariables false
set_option linter.unusedSimpArgs false
namespace Go.Proofs.Ytbakdblbknfadaa
open Go.V

/-- A sounding that a view looks at: of one source; of all but one. -/
def Hears (t : Task) (s now : Int) (j : Nat) : Prop := t.xa j 0 = s ∧ knownS t j now = true
theorem says_some {t : Task} {s low high a now : Int} : ∀ (k i : Nat) (w : Word), (saysFrom t s low high a now i w k).some = true ↔ w.some = true ∨ ∃ j, i ≤ j ∧ j < i + k ∧ Hears t s now j
  | 0, i, w => ⟨fun h => .inl h, fun h => by
    rcases h with h | ⟨j, h1, h2, _⟩
    · exact h
    · omega⟩
  | k + 1, i, w => by
    rw [saysFrom, says_some k (i + 1)]
    unfold sayStep
    by_cases g : Hears t s now i
    · obtain ⟨g1, g2⟩ := g
      rw [if_neg (fun h => h g1), if_neg (by rw [g2]; exact Bool.noConfusion)]
      exact ⟨fun _ => .inr ⟨i, Nat.le_refl _, by omega, g1, g2⟩, fun _ => .inl rfl⟩
    · have e : (if t.xa i 0 ≠ s then w else if knownS t i now = false then w else (⟨true, max w.xl (t.xa i 3 - dOf t low high a i), min w.xh (t.xa i 3 + dOf t low high a i), max w.yl (t.xa i 4 - dOf t low high a i), min w.yh (t.xa i 4 + dOf t low high a i)⟩ : Word)) = w := by
        split
        · rfl
        split
        · rfl
        · rename_i h1 h2
          exact absurd ⟨Classical.not_not.mp h1, by simpa using h2⟩ g
      rw [e]
      constructor
      · rintro (h | ⟨j, h1, h2, h3⟩)
        · exact .inl h
        · exact .inr ⟨j, by omega, by omega, h3⟩
      · rintro (h | ⟨j, h1, h2, h3⟩)
        · exact .inl h
        · rcases Nat.eq_or_lt_of_le h1 with rfl | h4
          · exact absurd h3 g
          · exact .inr ⟨j, h4, by omega, h3⟩
theorem sayStep_no {t : Task} {s low high a now : Int} {i : Nat} {w : Word} (g : ¬ Hears t s now i) : sayStep t s low high a now i w = w := by
  unfold sayStep
  split
  · rfl
  split
  · rfl
  · rename_i h1 h2
    exact absurd ⟨Classical.not_not.mp h1, by simpa using h2⟩ g
theorem sayStep_yes {t : Task} {s low high a now : Int} {i : Nat} {w : Word} (g : Hears t s now i) : sayStep t s low high a now i w = ⟨true, max w.xl (t.xa i 3 - dOf t low high a i), min w.xh (t.xa i 3 + dOf t low high a i), max w.yl (t.xa i 4 - dOf t low high a i), min w.yh (t.xa i 4 + dOf t low high a i)⟩ := by
  unfold sayStep
  rw [if_neg (fun h => h g.1), if_neg (by rw [g.2]; exact Bool.noConfusion)]
theorem says_xl {t : Task} {s low high a now v : Int} : ∀ (k i : Nat) (w : Word), (saysFrom t s low high a now i w k).xl ≤ v ↔ w.xl ≤ v ∧ ∀ j, i ≤ j → j < i + k → Hears t s now j → t.xa j 3 - dOf t low high a j ≤ v
  | 0, i, w => ⟨fun h => ⟨h, fun j h1 h2 => absurd h2 (by omega)⟩, fun h => h.1⟩
  | k + 1, i, w => by
    rw [saysFrom, says_xl k (i + 1)]
    by_cases g : Hears t s now i
    · rw [sayStep_yes g]
      constructor
      · rintro ⟨h1, h2⟩
        refine ⟨by simp only at h1; omega, fun j g1 g2 g3 => ?_⟩
        rcases Nat.eq_or_lt_of_le g1 with rfl | g4
        · simp only at h1; omega
        · exact h2 j g4 (by omega) g3
      · rintro ⟨h1, h2⟩
        have := h2 i (Nat.le_refl _) (by omega) g
        exact ⟨by simp only; omega, fun j g1 g2 g3 => h2 j (by omega) (by omega) g3⟩
    · rw [sayStep_no g]
      constructor
      · rintro ⟨h1, h2⟩
        refine ⟨h1, fun j g1 g2 g3 => ?_⟩
        rcases Nat.eq_or_lt_of_le g1 with rfl | g4
        · exact absurd g3 g
        · exact h2 j g4 (by omega) g3
      · rintro ⟨h1, h2⟩
        exact ⟨h1, fun j g1 g2 g3 => h2 j (by omega) (by omega) g3⟩
theorem leftF_xl {t : Task} {but low high a now v : Int} : ∀ (k i : Nat) (l : Left), (leftFrom t but low high a now i l k).xl ≤ v ↔ l.xl ≤ v ∧ ∀ s : Nat, i ≤ s → s < i + k → (s : Int) ≠ but → (saysS t s low high a now).some = true → (saysS t s low high a now).xl ≤ v
  | 0, i, l => ⟨fun h => ⟨h, fun j h1 h2 => absurd h2 (by omega)⟩, fun h => h.1⟩
  | k + 1, i, l => by
    rw [leftFrom, leftF_xl k (i + 1)]
    unfold leftStep
    by_cases g : (i : Int) = but ∨ (saysS t i low high a now).some = false
    · have e : (if (i : Int) = but then l else if (saysS t i low high a now).some = false then l else (⟨max l.xl (saysS t i low high a now).xl, min l.xh (saysS t i low high a now).xh, max l.yl (saysS t i low high a now).yl, min l.yh (saysS t i low high a now).yh⟩ : Left)) = l := by
        split
        · rfl
        split
        · rfl
        · rename_i h1 h2
          rcases g with g | g
          · exact absurd g h1
          · exact absurd g h2
      rw [e]
      constructor
      · rintro ⟨h1, h2⟩
        refine ⟨h1, fun s g1 g2 g3 g4 => ?_⟩
        rcases Nat.eq_or_lt_of_le g1 with rfl | g5
        · rcases g with g | g
          · exact absurd g g3
          · rw [g] at g4; cases g4
        · exact h2 s g5 (by omega) g3 g4
      · rintro ⟨h1, h2⟩
        exact ⟨h1, fun s g1 g2 g3 g4 => h2 s (by omega) (by omega) g3 g4⟩
    · have n1 : ¬ (i : Int) = but := fun h => g (.inl h)
      have n2 : ¬ (saysS t i low high a now).some = false := fun h => g (.inr h)
      rw [if_neg n1, if_neg n2]
      constructor
      · rintro ⟨h1, h2⟩
        refine ⟨by simp only at h1; omega, fun s g1 g2 g3 g4 => ?_⟩
        rcases Nat.eq_or_lt_of_le g1 with rfl | g5
        · simp only at h1; omega
        · exact h2 s g5 (by omega) g3 g4
      · rintro ⟨h1, h2⟩
        have := h2 i (Nat.le_refl _) (by omega) n1 (by simpa using n2)
        exact ⟨by simp only; omega, fun s g1 g2 g3 g4 => h2 s (by omega) (by omega) g3 g4⟩
/-- What is left, by the soundings. -/
theorem left_xl {t : Task} (hok : t.ok) {but low high a now v : Int} : (leftS t but low high a now).xl ≤ v ↔ -20000 ≤ v ∧ ∀ j, j < t.nx → t.xa j 0 ≠ but → knownS t j now = true → t.xa j 3 - dOf t low high a j ≤ v := by
  unfold leftS
  rw [leftF_xl]
  constructor
  · rintro ⟨h1, h2⟩
    refine ⟨h1, fun j g1 g2 g3 => ?_⟩
    have hs := hok.src j g1
    have e : (((t.xa j 0).toNat : Nat) : Int) = t.xa j 0 := by omega
    have h3 := h2 (t.xa j 0).toNat (Nat.zero_le _) (by omega) (by rw [e]; exact g2) (by
      unfold saysS
      rw [says_some]
      exact .inr ⟨j, Nat.zero_le _, by omega, e.symm, g3⟩)
    unfold saysS at h3
    rw [says_xl] at h3
    exact h3.2 j (Nat.zero_le _) (by omega) ⟨e.symm, g3⟩
  · rintro ⟨h1, h2⟩
    refine ⟨h1, fun s g1 g2 g3 g4 => ?_⟩
    unfold saysS
    rw [says_xl]
    exact ⟨h1, fun j q1 q2 q3 => h2 j (by omega) (by rw [q3.1]; exact g3) q3.2⟩
theorem says_xh {t : Task} {s low high a now v : Int} : ∀ (k i : Nat) (w : Word), v ≤ (saysFrom t s low high a now i w k).xh ↔ v ≤ w.xh ∧ ∀ j, i ≤ j → j < i + k → Hears t s now j → v ≤ t.xa j 3 + dOf t low high a j
  | 0, i, w => ⟨fun h => ⟨h, fun j h1 h2 => absurd h2 (by omega)⟩, fun h => h.1⟩
  | k + 1, i, w => by
    rw [saysFrom, says_xh k (i + 1)]
    by_cases g : Hears t s now i
    · rw [sayStep_yes g]
      constructor
      · rintro ⟨h1, h2⟩
        refine ⟨by simp only at h1; omega, fun j g1 g2 g3 => ?_⟩
        rcases Nat.eq_or_lt_of_le g1 with rfl | g4
        · simp only at h1; omega
        · exact h2 j g4 (by omega) g3
      · rintro ⟨h1, h2⟩
        have := h2 i (Nat.le_refl _) (by omega) g
        exact ⟨by simp only; omega, fun j g1 g2 g3 => h2 j (by omega) (by omega) g3⟩
    · rw [sayStep_no g]
      constructor
      · rintro ⟨h1, h2⟩
        refine ⟨h1, fun j g1 g2 g3 => ?_⟩
        rcases Nat.eq_or_lt_of_le g1 with rfl | g4
        · exact absurd g3 g
        · exact h2 j g4 (by omega) g3
      · rintro ⟨h1, h2⟩
        exact ⟨h1, fun j g1 g2 g3 => h2 j (by omega) (by omega) g3⟩
theorem leftF_xh {t : Task} {but low high a now v : Int} : ∀ (k i : Nat) (l : Left), v ≤ (leftFrom t but low high a now i l k).xh ↔ v ≤ l.xh ∧ ∀ s : Nat, i ≤ s → s < i + k → (s : Int) ≠ but → (saysS t s low high a now).some = true → v ≤ (saysS t s low high a now).xh
  | 0, i, l => ⟨fun h => ⟨h, fun j h1 h2 => absurd h2 (by omega)⟩, fun h => h.1⟩
  | k + 1, i, l => by
    rw [leftFrom, leftF_xh k (i + 1)]
    unfold leftStep
    by_cases g : (i : Int) = but ∨ (saysS t i low high a now).some = false
    · have e : (if (i : Int) = but then l else if (saysS t i low high a now).some = false then l else (⟨max l.xl (saysS t i low high a now).xl, min l.xh (saysS t i low high a now).xh, max l.yl (saysS t i low high a now).yl, min l.yh (saysS t i low high a now).yh⟩ : Left)) = l := by
        split
        · rfl
        split
        · rfl
        · rename_i h1 h2
          rcases g with g | g
          · exact absurd g h1
          · exact absurd g h2
      rw [e]
      constructor
      · rintro ⟨h1, h2⟩
        refine ⟨h1, fun s g1 g2 g3 g4 => ?_⟩
        rcases Nat.eq_or_lt_of_le g1 with rfl | g5
        · rcases g with g | g
          · exact absurd g g3
          · rw [g] at g4; cases g4
        · exact h2 s g5 (by omega) g3 g4
      · rintro ⟨h1, h2⟩
        exact ⟨h1, fun s g1 g2 g3 g4 => h2 s (by omega) (by omega) g3 g4⟩
    · have n1 : ¬ (i : Int) = but := fun h => g (.inl h)
      have n2 : ¬ (saysS t i low high a now).some = false := fun h => g (.inr h)
      rw [if_neg n1, if_neg n2]
      constructor
      · rintro ⟨h1, h2⟩
        refine ⟨by simp only at h1; omega, fun s g1 g2 g3 g4 => ?_⟩
        rcases Nat.eq_or_lt_of_le g1 with rfl | g5
        · simp only at h1; omega
        · exact h2 s g5 (by omega) g3 g4
      · rintro ⟨h1, h2⟩
        have := h2 i (Nat.le_refl _) (by omega) n1 (by simpa using n2)
        exact ⟨by simp only; omega, fun s g1 g2 g3 g4 => h2 s (by omega) (by omega) g3 g4⟩
/-- What is left, by the soundings. -/
theorem left_xh {t : Task} (hok : t.ok) {but low high a now v : Int} : v ≤ (leftS t but low high a now).xh ↔ v ≤ 20000 ∧ ∀ j, j < t.nx → t.xa j 0 ≠ but → knownS t j now = true → v ≤ t.xa j 3 + dOf t low high a j := by
  unfold leftS
  rw [leftF_xh]
  constructor
  · rintro ⟨h1, h2⟩
    refine ⟨h1, fun j g1 g2 g3 => ?_⟩
    have hs := hok.src j g1
    have e : (((t.xa j 0).toNat : Nat) : Int) = t.xa j 0 := by omega
    have h3 := h2 (t.xa j 0).toNat (Nat.zero_le _) (by omega) (by rw [e]; exact g2) (by
      unfold saysS
      rw [says_some]
      exact .inr ⟨j, Nat.zero_le _, by omega, e.symm, g3⟩)
    unfold saysS at h3
    rw [says_xh] at h3
    exact h3.2 j (Nat.zero_le _) (by omega) ⟨e.symm, g3⟩
  · rintro ⟨h1, h2⟩
    refine ⟨h1, fun s g1 g2 g3 g4 => ?_⟩
    unfold saysS
    rw [says_xh]
    exact ⟨h1, fun j q1 q2 q3 => h2 j (by omega) (by rw [q3.1]; exact g3) q3.2⟩
theorem says_yl {t : Task} {s low high a now v : Int} : ∀ (k i : Nat) (w : Word), (saysFrom t s low high a now i w k).yl ≤ v ↔ w.yl ≤ v ∧ ∀ j, i ≤ j → j < i + k → Hears t s now j → t.xa j 4 - dOf t low high a j ≤ v
  | 0, i, w => ⟨fun h => ⟨h, fun j h1 h2 => absurd h2 (by omega)⟩, fun h => h.1⟩
  | k + 1, i, w => by
    rw [saysFrom, says_yl k (i + 1)]
    by_cases g : Hears t s now i
    · rw [sayStep_yes g]
      constructor
      · rintro ⟨h1, h2⟩
        refine ⟨by simp only at h1; omega, fun j g1 g2 g3 => ?_⟩
        rcases Nat.eq_or_lt_of_le g1 with rfl | g4
        · simp only at h1; omega
        · exact h2 j g4 (by omega) g3
      · rintro ⟨h1, h2⟩
        have := h2 i (Nat.le_refl _) (by omega) g
        exact ⟨by simp only; omega, fun j g1 g2 g3 => h2 j (by omega) (by omega) g3⟩
    · rw [sayStep_no g]
      constructor
      · rintro ⟨h1, h2⟩
        refine ⟨h1, fun j g1 g2 g3 => ?_⟩
        rcases Nat.eq_or_lt_of_le g1 with rfl | g4
        · exact absurd g3 g
        · exact h2 j g4 (by omega) g3
      · rintro ⟨h1, h2⟩
        exact ⟨h1, fun j g1 g2 g3 => h2 j (by omega) (by omega) g3⟩
theorem leftF_yl {t : Task} {but low high a now v : Int} : ∀ (k i : Nat) (l : Left), (leftFrom t but low high a now i l k).yl ≤ v ↔ l.yl ≤ v ∧ ∀ s : Nat, i ≤ s → s < i + k → (s : Int) ≠ but → (saysS t s low high a now).some = true → (saysS t s low high a now).yl ≤ v
  | 0, i, l => ⟨fun h => ⟨h, fun j h1 h2 => absurd h2 (by omega)⟩, fun h => h.1⟩
  | k + 1, i, l => by
    rw [leftFrom, leftF_yl k (i + 1)]
    unfold leftStep
    by_cases g : (i : Int) = but ∨ (saysS t i low high a now).some = false
    · have e : (if (i : Int) = but then l else if (saysS t i low high a now).some = false then l else (⟨max l.xl (saysS t i low high a now).xl, min l.xh (saysS t i low high a now).xh, max l.yl (saysS t i low high a now).yl, min l.yh (saysS t i low high a now).yh⟩ : Left)) = l := by
        split
        · rfl
        split
        · rfl
        · rename_i h1 h2
          rcases g with g | g
          · exact absurd g h1
          · exact absurd g h2
      rw [e]
      constructor
      · rintro ⟨h1, h2⟩
        refine ⟨h1, fun s g1 g2 g3 g4 => ?_⟩
        rcases Nat.eq_or_lt_of_le g1 with rfl | g5
        · rcases g with g | g
          · exact absurd g g3
          · rw [g] at g4; cases g4
        · exact h2 s g5 (by omega) g3 g4
      · rintro ⟨h1, h2⟩
        exact ⟨h1, fun s g1 g2 g3 g4 => h2 s (by omega) (by omega) g3 g4⟩
    · have n1 : ¬ (i : Int) = but := fun h => g (.inl h)
      have n2 : ¬ (saysS t i low high a now).some = false := fun h => g (.inr h)
      rw [if_neg n1, if_neg n2]
      constructor
      · rintro ⟨h1, h2⟩
        refine ⟨by simp only at h1; omega, fun s g1 g2 g3 g4 => ?_⟩
        rcases Nat.eq_or_lt_of_le g1 with rfl | g5
        · simp only at h1; omega
        · exact h2 s g5 (by omega) g3 g4
      · rintro ⟨h1, h2⟩
        have := h2 i (Nat.le_refl _) (by omega) n1 (by simpa using n2)
        exact ⟨by simp only; omega, fun s g1 g2 g3 g4 => h2 s (by omega) (by omega) g3 g4⟩
/-- What is left, by the soundings. -/
theorem left_yl {t : Task} (hok : t.ok) {but low high a now v : Int} : (leftS t but low high a now).yl ≤ v ↔ -20000 ≤ v ∧ ∀ j, j < t.nx → t.xa j 0 ≠ but → knownS t j now = true → t.xa j 4 - dOf t low high a j ≤ v := by
  unfold leftS
  rw [leftF_yl]
  constructor
  · rintro ⟨h1, h2⟩
    refine ⟨h1, fun j g1 g2 g3 => ?_⟩
    have hs := hok.src j g1
    have e : (((t.xa j 0).toNat : Nat) : Int) = t.xa j 0 := by omega
    have h3 := h2 (t.xa j 0).toNat (Nat.zero_le _) (by omega) (by rw [e]; exact g2) (by
      unfold saysS
      rw [says_some]
      exact .inr ⟨j, Nat.zero_le _, by omega, e.symm, g3⟩)
    unfold saysS at h3
    rw [says_yl] at h3
    exact h3.2 j (Nat.zero_le _) (by omega) ⟨e.symm, g3⟩
  · rintro ⟨h1, h2⟩
    refine ⟨h1, fun s g1 g2 g3 g4 => ?_⟩
    unfold saysS
    rw [says_yl]
    exact ⟨h1, fun j q1 q2 q3 => h2 j (by omega) (by rw [q3.1]; exact g3) q3.2⟩
theorem says_yh {t : Task} {s low high a now v : Int} : ∀ (k i : Nat) (w : Word), v ≤ (saysFrom t s low high a now i w k).yh ↔ v ≤ w.yh ∧ ∀ j, i ≤ j → j < i + k → Hears t s now j → v ≤ t.xa j 4 + dOf t low high a j
  | 0, i, w => ⟨fun h => ⟨h, fun j h1 h2 => absurd h2 (by omega)⟩, fun h => h.1⟩
  | k + 1, i, w => by
    rw [saysFrom, says_yh k (i + 1)]
    by_cases g : Hears t s now i
    · rw [sayStep_yes g]
      constructor
      · rintro ⟨h1, h2⟩
        refine ⟨by simp only at h1; omega, fun j g1 g2 g3 => ?_⟩
        rcases Nat.eq_or_lt_of_le g1 with rfl | g4
        · simp only at h1; omega
        · exact h2 j g4 (by omega) g3
      · rintro ⟨h1, h2⟩
        have := h2 i (Nat.le_refl _) (by omega) g
        exact ⟨by simp only; omega, fun j g1 g2 g3 => h2 j (by omega) (by omega) g3⟩
    · rw [sayStep_no g]
      constructor
      · rintro ⟨h1, h2⟩
        refine ⟨h1, fun j g1 g2 g3 => ?_⟩
        rcases Nat.eq_or_lt_of_le g1 with rfl | g4
        · exact absurd g3 g
        · exact h2 j g4 (by omega) g3
      · rintro ⟨h1, h2⟩
        exact ⟨h1, fun j g1 g2 g3 => h2 j (by omega) (by omega) g3⟩
theorem leftF_yh {t : Task} {but low high a now v : Int} : ∀ (k i : Nat) (l : Left), v ≤ (leftFrom t but low high a now i l k).yh ↔ v ≤ l.yh ∧ ∀ s : Nat, i ≤ s → s < i + k → (s : Int) ≠ but → (saysS t s low high a now).some = true → v ≤ (saysS t s low high a now).yh
  | 0, i, l => ⟨fun h => ⟨h, fun j h1 h2 => absurd h2 (by omega)⟩, fun h => h.1⟩
  | k + 1, i, l => by
    rw [leftFrom, leftF_yh k (i + 1)]
    unfold leftStep
    by_cases g : (i : Int) = but ∨ (saysS t i low high a now).some = false
    · have e : (if (i : Int) = but then l else if (saysS t i low high a now).some = false then l else (⟨max l.xl (saysS t i low high a now).xl, min l.xh (saysS t i low high a now).xh, max l.yl (saysS t i low high a now).yl, min l.yh (saysS t i low high a now).yh⟩ : Left)) = l := by
        split
        · rfl
        split
        · rfl
        · rename_i h1 h2
          rcases g with g | g
          · exact absurd g h1
          · exact absurd g h2
      rw [e]
      constructor
      · rintro ⟨h1, h2⟩
        refine ⟨h1, fun s g1 g2 g3 g4 => ?_⟩
        rcases Nat.eq_or_lt_of_le g1 with rfl | g5
        · rcases g with g | g
          · exact absurd g g3
          · rw [g] at g4; cases g4
        · exact h2 s g5 (by omega) g3 g4
      · rintro ⟨h1, h2⟩
        exact ⟨h1, fun s g1 g2 g3 g4 => h2 s (by omega) (by omega) g3 g4⟩
    · have n1 : ¬ (i : Int) = but := fun h => g (.inl h)
      have n2 : ¬ (saysS t i low high a now).some = false := fun h => g (.inr h)
      rw [if_neg n1, if_neg n2]
      constructor
      · rintro ⟨h1, h2⟩
        refine ⟨by simp only at h1; omega, fun s g1 g2 g3 g4 => ?_⟩
        rcases Nat.eq_or_lt_of_le g1 with rfl | g5
        · simp only at h1; omega
        · exact h2 s g5 (by omega) g3 g4
      · rintro ⟨h1, h2⟩
        have := h2 i (Nat.le_refl _) (by omega) n1 (by simpa using n2)
        exact ⟨by simp only; omega, fun s g1 g2 g3 g4 => h2 s (by omega) (by omega) g3 g4⟩
/-- What is left, by the soundings. -/
theorem left_yh {t : Task} (hok : t.ok) {but low high a now v : Int} : v ≤ (leftS t but low high a now).yh ↔ v ≤ 20000 ∧ ∀ j, j < t.nx → t.xa j 0 ≠ but → knownS t j now = true → v ≤ t.xa j 4 + dOf t low high a j := by
  unfold leftS
  rw [leftF_yh]
  constructor
  · rintro ⟨h1, h2⟩
    refine ⟨h1, fun j g1 g2 g3 => ?_⟩
    have hs := hok.src j g1
    have e : (((t.xa j 0).toNat : Nat) : Int) = t.xa j 0 := by omega
    have h3 := h2 (t.xa j 0).toNat (Nat.zero_le _) (by omega) (by rw [e]; exact g2) (by
      unfold saysS
      rw [says_some]
      exact .inr ⟨j, Nat.zero_le _, by omega, e.symm, g3⟩)
    unfold saysS at h3
    rw [says_yh] at h3
    exact h3.2 j (Nat.zero_le _) (by omega) ⟨e.symm, g3⟩
  · rintro ⟨h1, h2⟩
    refine ⟨h1, fun s g1 g2 g3 g4 => ?_⟩
    unfold saysS
    rw [says_yh]
    exact ⟨h1, fun j q1 q2 q3 => h2 j (by omega) (by rw [q3.1]; exact g3) q3.2⟩

/-- The spans of the one lie in those of the other. -/
def Left.le (l m : Left) : Prop := m.xl ≤ l.xl ∧ l.xh ≤ m.xh ∧ m.yl ≤ l.yl ∧ l.yh ≤ m.yh
theorem Left.agree_iff {l : Left} : l.agree = true ↔ l.xl ≤ l.xh ∧ l.yl ≤ l.yh := by
  simp [Left.agree]
theorem Left.le_agree {l m : Left} (h : l.le m) (hl : l.agree = true) : m.agree = true := by
  rw [Left.agree_iff] at *
  unfold Left.le at h
  omega
/-- If each sounding that the one hears stands in the other, and says no less there, then no span is narrower. -/
theorem left_le {t u : Task} (ht : t.ok) (hu : u.ok) {but but' low high low' high' a a' now now' : Int}
    (h : ∀ j, j < u.nx → u.xa j 0 ≠ but' → knownS u j now' = true → ∃ i, i < t.nx ∧ t.xa i 0 ≠ but ∧ knownS t i now = true ∧ u.xa j 3 = t.xa i 3 ∧ u.xa j 4 = t.xa i 4 ∧ dOf t low high a i ≤ dOf u low' high' a' j) :
    (leftS t but low high a now).le (leftS u but' low' high' a' now') := by
  have a1 := (left_xl ht (but := but) (low := low) (high := high) (a := a) (now := now)).1 (Int.le_refl _)
  have a2 := (left_xh ht (but := but) (low := low) (high := high) (a := a) (now := now)).1 (Int.le_refl _)
  have a3 := (left_yl ht (but := but) (low := low) (high := high) (a := a) (now := now)).1 (Int.le_refl _)
  have a4 := (left_yh ht (but := but) (low := low) (high := high) (a := a) (now := now)).1 (Int.le_refl _)
  refine ⟨(left_xl hu).2 ⟨a1.1, fun j g1 g2 g3 => ?_⟩, (left_xh hu).2 ⟨a2.1, fun j g1 g2 g3 => ?_⟩, (left_yl hu).2 ⟨a3.1, fun j g1 g2 g3 => ?_⟩, (left_yh hu).2 ⟨a4.1, fun j g1 g2 g3 => ?_⟩⟩
  all_goals obtain ⟨i, h1, h2, h3, h4, h5, h6⟩ := h j g1 g2 g3
  · have := a1.2 i h1 h2 h3; omega
  · have := a2.2 i h1 h2 h3; omega
  · have := a3.2 i h1 h2 h3; omega
  · have := a4.2 i h1 h2 h3; omega

/-- Doubts grow with distances. -/
theorem begun_mono {a b a' b' l : Int} (hl : 0 < l) (h : max (a - b) (b - a) ≤ max (a' - b') (b' - a')) : begun a b l ≤ begun a' b' l := by
  unfold begun
  have h0 : 0 ≤ max (a - b) (b - a) := by omega
  rw [Int.tdiv_eq_ediv_of_nonneg (by omega), Int.tdiv_eq_ediv_of_nonneg (by omega)]
  exact Int.ediv_le_ediv hl (by omega)
theorem doubt_mono {t : Task} (hok : t.ok) {i : Nat} {h h' a a' : Int} (h1 : max (t.xa i 1 - a) (a - t.xa i 1) ≤ max (t.xa i 1 - a') (a' - t.xa i 1)) (h2 : max (t.xa i 2 - h) (h - t.xa i 2) ≤ max (t.xa i 2 - h') (h' - t.xa i 2)) : doubtS t i h a ≤ doubtS t i h' a' := by
  unfold doubtS
  have m1 := Int.mul_le_mul_of_nonneg_left (begun_mono (l := 600) (by omega) h1) hok.age.1
  have m2 := Int.mul_le_mul_of_nonneg_left (begun_mono (l := 100000) (by omega) h2) hok.shear.1
  omega
/-- A wider band, a later tick: no less doubt. -/
theorem dOf_mono {t : Task} (hok : t.ok) {i : Nat} {low high low' high' a a' : Int} (h1 : max (t.xa i 1 - a) (a - t.xa i 1) ≤ max (t.xa i 1 - a') (a' - t.xa i 1)) (h2 : low' ≤ low) (h3 : low ≤ high) (h4 : high ≤ high') : dOf t low high a i ≤ dOf t low' high' a' i := by
  unfold dOf
  have key : ∀ h, low' ≤ h → h ≤ high' → doubtS t i h a ≤ max (doubtS t i low' a') (doubtS t i high' a') := fun h g1 g2 => by
    rcases Int.le_total (t.xa i 2) h with g | g
    · have := doubt_mono hok (i := i) (h := h) (h' := high') h1 (by omega)
      omega
    · have := doubt_mono hok (i := i) (h := h) (h' := low') h1 (by omega)
      omega
  have k1 := key low (by omega) (by omega)
  have k2 := key high (by omega) (by omega)
  omega
end Go.Proofs.Ytbakdblbknfadaa
end
section
set_option linter.unusedVariables false
set_option linter.unusedSimpArgs false
set_option maxRecDepth 100000
set_option maxHeartbeats 4000000
namespace Go.Proofs.Ytbakdblbknfadaa
open Go.V
attribute [local irreducible] checkS atT blameT bandsT bandA
def notAg (t : Task) (a now : Int) (i : Nat) : Bool := !(decide ((blameT t i a now).2.2 = 0) && (blameT t i a now).2.1)
def agreedT (t : Task) (a now : Int) : Bool := (decide ((bandsT t a now).2 = 0) && decide ((bandsT t a now).1 = t.nc)) && !anyBelow (notAg t a now) t.nc
def agreedN (t : Task) (a now : Int) : Nat := if agreedT t a now = true then t.nc else 0
def rAgreed : List V.D → Option (Prop × V.D) := fun ds => match ds with
  | [d, .int .i64 a, .int .i64 now] => some (TaskIs d ∧ (taskOf d).fits, .tup [.rsl 6 (agreedN (taskOf d) a now) (imD (bandA (taskOf d) a now)), .bool (agreedT (taskOf d) a now)])
  | _ => none
theorem bandsT_nc {t : Task} {a now : Int} (h : (bandsT t a now).2 = 0) : t.nc ≤ 20 ∧ (bandsT t a now).1 = t.nc := by
  unfold bandsT at h ⊢
  split at h
  · rename_i g; exact absurd h g
  split at h
  · cases h
  split at h
  · cases h
  rename_i g1 g2 g3
  rw [if_neg g1, if_neg g2, if_neg g3]
  exact ⟨(small_nx (t := t) (Classical.not_not.mp g1)).2.2.2, rfl⟩
end Go.Proofs.Ytbakdblbknfadaa
end
section
set_option linter.unusedVariables false
set_option linter.unusedSimpArgs false
set_option maxRecDepth 100000
set_option maxHeartbeats 4000000
namespace Go.Proofs.Ytbakdblbknfadaa
open Go.V

theorem answer_agree {t : Task} {low high a now : Int} (h : agreeS t low high a now = true) : answerS t low high a now = (leftS t (-1) low high a now, true) := by
  unfold answerS
  rw [if_pos h]
  exact congrArg (Prod.mk _) h
/-- What an answer tells, if there is one. -/
theorem answer_left {t : Task} (hok : t.ok) {low high a now : Int} (h : (answerS t low high a now).2 = true) :
    -20000 ≤ (answerS t low high a now).1.xl ∧ (answerS t low high a now).1.xl ≤ (answerS t low high a now).1.xh ∧ (answerS t low high a now).1.xh ≤ 20000 ∧
    -20000 ≤ (answerS t low high a now).1.yl ∧ (answerS t low high a now).1.yl ≤ (answerS t low high a now).1.yh ∧ (answerS t low high a now).1.yh ≤ 20000 := by
  have key : ∀ but, (leftS t but low high a now).agree = true → -20000 ≤ (leftS t but low high a now).xl ∧ (leftS t but low high a now).xl ≤ (leftS t but low high a now).xh ∧ (leftS t but low high a now).xh ≤ 20000 ∧
    -20000 ≤ (leftS t but low high a now).yl ∧ (leftS t but low high a now).yl ≤ (leftS t but low high a now).yh ∧ (leftS t but low high a now).yh ≤ 20000 := fun but g => by
    rw [Left.agree_iff] at g
    exact ⟨((left_xl hok).1 (Int.le_refl _)).1, g.1, ((left_xh hok).1 (Int.le_refl _)).1, ((left_yl hok).1 (Int.le_refl _)).1, g.2, ((left_yh hok).1 (Int.le_refl _)).1⟩
  unfold answerS at h ⊢
  split
  · rename_i g
    rw [if_pos g] at h
    exact key _ h
  · rename_i g
    rw [if_neg g] at h
    split
    · rename_i g2
      rw [if_pos g2] at h
      cases h
    · rename_i g2
      rw [if_neg g2] at h
      exact key _ h
theorem bandsT_ok {t : Task} {a now : Int} (h : (bandsT t a now).2 = 0) : checkE t = 0 ∧ (0 ≤ a ∧ a ≤ 100000) ∧ (0 ≤ now ∧ now ≤ 100000) ∧ ∀ i, i < t.nc → (ansB t a now i).2 = true := by
  unfold bandsT at h
  split at h
  · rename_i g; exact absurd h g
  split at h
  · cases h
  split at h
  · cases h
  rename_i g1 g2 g3
  simp only [tickB, isin, Bool.and_eq_false_iff, decide_eq_false_iff_not] at g2
  refine ⟨Classical.not_not.mp g1, by omega, by omega, fun i hi => ?_⟩
  by_cases e : (ansB t a now i).2 = true
  · exact e
  · exact absurd (anyBelow_iff.2 ⟨i, hi, by unfold badB; simp only [Bool.not_eq_true] at e; rw [e]; rfl⟩) g3
theorem bandsT_mk {t : Task} {a now : Int} (h : checkE t = 0) (h1 : 0 ≤ a ∧ a ≤ 100000) (h2 : 0 ≤ now ∧ now ≤ 100000) (hb : ∀ i, i < t.nc → (ansB t a now i).2 = true) : bandsT t a now = (t.nc, 0) := by
  unfold bandsT
  rw [if_neg (fun g => g h), if_neg (by simp only [tickB, isin, Bool.and_eq_false_iff, decide_eq_false_iff_not]; omega), if_neg]
  intro g
  obtain ⟨i, hi, g⟩ := anyBelow_iff.1 g
  unfold badB at g
  rw [hb i hi] at g
  cases g
theorem bandsT_0 {t : Task} {a now : Int} (h : (bandsT t a now).2 ≠ 0) : (bandsT t a now).1 = 0 := by
  unfold bandsT at h ⊢
  split
  · rfl
  split
  · rfl
  split
  · rfl
  rename_i g1 g2 g3
  rw [if_neg g1, if_neg g2, if_neg g3] at h
  exact absurd rfl h
/-- The bands of a task are without errors. -/
theorem bands_check {t : Task} {a now : Int} (h : (bandsT t a now).2 = 0) : (checkBands t.nc (bandA t a now)).2 = 0 := by
  obtain ⟨hc, h1, h2, hb⟩ := bandsT_ok h
  have hok := check_ok hc
  have hnc := hok.nc
  unfold checkBands
  rw [if_pos (by simp only [isin, Bool.and_eq_true, decide_eq_true_eq]; omega)]
  suffices hz : ∀ (n i : Nat), i + n ≤ t.nc → fe (bandErr (bandA t a now)) i n = (0, 0) by rw [hz t.nc 0 (by omega)]
  intro n
  induction n with
  | zero => intro i _; rfl
  | succ n ih =>
    intro i hi
    have hz : bandErr (bandA t a now) i = 0 := by
      have ha := answer_left hok (hb i (by omega))
      have hu := hok.cut i (by omega)
      have hlow : bandA t a now i 0 = fromOf (bandA t a now) i := by
        show lowS t i = _
        unfold lowS fromOf
        rfl
      have hl : lowS t i < t.ca i 0 := by
        unfold lowS
        split
        · omega
        · have := hok.rise (i - 1) (by omega)
          rwa [show i - 1 + 1 = i by omega] at this
      have hl' : ¬ t.ca i 0 ≤ lowS t i := by omega
      have hu' : ¬ 100000000 < t.ca i 0 := by omega
      unfold bandErr
      rw [if_neg (fun g => g hlow), if_neg (show ¬ bandA t a now i 1 ≤ bandA t a now i 0 from hl'), if_neg (show ¬ 100000000 < bandA t a now i 1 from hu'), if_neg, if_neg]
      · show ¬ winds (ansB t a now i).1.yl (ansB t a now i).1.yh = false
        unfold ansB
        simp only [winds, isin, Bool.and_eq_false_iff, decide_eq_false_iff_not]
        omega
      · show ¬ winds (ansB t a now i).1.xl (ansB t a now i).1.xh = false
        unfold ansB
        simp only [winds, isin, Bool.and_eq_false_iff, decide_eq_false_iff_not]
        omega
    rw [fe, if_neg (fun g => g hz)]
    exact ih (i + 1) (by omega)
/-- What it is that the sources agree for all bands. -/
theorem agreedT_iff {t : Task} {a now : Int} : agreedT t a now = true ↔ checkE t = 0 ∧ (0 ≤ a ∧ a ≤ 100000) ∧ (0 ≤ now ∧ now ≤ 100000) ∧ ∀ i, i < t.nc → agreeS t (lowS t i) (t.ca i 0 - 1) a now = true := by
  have hbl : checkE t = 0 → (0 ≤ a ∧ a ≤ 100000) → (0 ≤ now ∧ now ≤ 100000) → ∀ i, i < t.nc → blameT t i a now = (blameS t (lowS t i) (t.ca i 0 - 1) a now, agreeS t (lowS t i) (t.ca i 0 - 1) a now, 0) := fun hc h1 h2 i hi => by
    have hnc := (check_ok hc).nc
    unfold blameT
    rw [if_neg (fun g => g hc), if_neg (by rw [isin_false]; omega), if_neg (by simp only [tickB, isin, Bool.and_eq_false_iff, decide_eq_false_iff_not]; omega), Int.toNat_natCast]
  constructor
  · intro h
    unfold agreedT at h
    simp only [Bool.and_eq_true, decide_eq_true_eq, Bool.not_eq_true'] at h
    obtain ⟨⟨h1, h2⟩, h3⟩ := h
    obtain ⟨hc, ha, hn, _⟩ := bandsT_ok h1
    refine ⟨hc, ha, hn, fun i hi => ?_⟩
    by_cases e : agreeS t (lowS t i) (t.ca i 0 - 1) a now = true
    · exact e
    · have : anyBelow (notAg t a now) t.nc = true := anyBelow_iff.2 ⟨i, hi, by
        unfold notAg
        rw [hbl hc ha hn i hi]
        simp only [Bool.not_eq_true] at e
        rw [e, Bool.and_false]
        rfl⟩
      rw [this] at h3
      cases h3
  · rintro ⟨hc, ha, hn, hag⟩
    unfold agreedT
    rw [bandsT_mk hc ha hn (fun i hi => by unfold ansB; rw [answer_agree (hag i hi)])]
    simp only [decide_true, Bool.true_and, Bool.not_eq_true']
    by_cases e : anyBelow (notAg t a now) t.nc = true
    · obtain ⟨i, hi, g⟩ := anyBelow_iff.1 e
      unfold notAg at g
      rw [hbl hc ha hn i hi, hag i hi] at g
      cases g
    · simpa using e
theorem agreedT_bands {t : Task} {a now : Int} (h : agreedT t a now = true) : bandsT t a now = (t.nc, 0) := by
  obtain ⟨hc, ha, hn, hag⟩ := agreedT_iff.1 h
  exact bandsT_mk hc ha hn (fun i hi => by unfold ansB; rw [answer_agree (hag i hi)])
/-- Bands with the same cuts, each span not narrower: they cover. -/
theorem cov_same {t u : Task} {a now a' now' : Int} (h : (checkBands t.nc (bandA t a now)).2 = 0) (hn : u.nc = t.nc) (hc : ∀ i, i < t.nc → u.ca i 0 = t.ca i 0)
    (hle : ∀ i, i < t.nc → (ansB t a now i).1.le (ansB u a' now' i).1) : Cov u.nc (bandA u a' now') t.nc (bandA t a now) := by
  have hb := bands_ok h
  have hlen := hb.len
  rw [hn]
  have hlow : ∀ i, i < t.nc → lowS u i = lowS t i := fun i hi => by
    unfold lowS
    split
    · rfl
    · exact hc _ (by omega)
  refine ⟨?_, fun i k hi hk hm => ?_⟩
  · show t.ca (t.nc - 1) 0 ≤ u.ca (t.nc - 1) 0
    rw [hc _ (by omega)]
    exact Int.le_refl _
  · have hm' : meetB (bandA t a now) (bandA t a now) i k := by
      unfold meetB at hm ⊢
      simp only [bandA, hlow i hi, hc i hi] at hm ⊢
      exact hm
    obtain rfl := meet_one hb hi hk hm'
    exact hle i hi
theorem ages {t : Task} {a b now : Int} (h : agreedT t a now = true) (h1 : now ≤ a) (h2 : a ≤ b) (h3 : b ≤ 100000) :
    agreedT t b now = true ∧ coversT t.nc (bandA t b now) t.nc (bandA t a now) = (true, 0) := by
  have hb := agreedT_bands h
  obtain ⟨hc, ha, hn, hag⟩ := agreedT_iff.1 h
  have hok := check_ok hc
  have hle : ∀ i, i < t.nc → (leftS t (-1) (lowS t i) (t.ca i 0 - 1) a now).le (leftS t (-1) (lowS t i) (t.ca i 0 - 1) b now) := fun i hi => by
    refine left_le hok hok fun j g1 g2 g3 => ⟨j, g1, g2, g3, rfl, rfl, dOf_mono hok ?_ (Int.le_refl _) ?_ (Int.le_refl _)⟩
    · simp only [knownS, Bool.and_eq_true, decide_eq_true_eq] at g3
      have hs := hok.src j g1
      have := hok.late (t.xa j 0).toNat (by omega)
      omega
    · have hu := hok.cut i hi
      unfold lowS
      split
      · omega
      · have := hok.rise (i - 1) (by omega)
        rw [show i - 1 + 1 = i by omega] at this
        omega
  have hag' : ∀ i, i < t.nc → agreeS t (lowS t i) (t.ca i 0 - 1) b now = true := fun i hi => Left.le_agree (hle i hi) (hag i hi)
  have hb' : agreedT t b now = true := agreedT_iff.2 ⟨hc, by omega, hn, hag'⟩
  refine ⟨hb', ?_⟩
  have c1 := bands_check (t := t) (a := a) (now := now) (by rw [hb])
  have c2 := bands_check (t := t) (a := b) (now := now) (by rw [agreedT_bands hb'])
  rw [covT_mk c2 c1, covB_true]
  refine cov_same c1 rfl (fun _ _ => rfl) fun i hi => ?_
  unfold ansB
  rw [answer_agree (hag i hi), answer_agree (hag' i hi)]
  exact hle i hi
end Go.Proofs.Ytbakdblbknfadaa
end
