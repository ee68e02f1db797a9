/-
  The wind's law Point: what its function answers.
-/
import Derived.Test.YtbakdblbknfadaaMp
import Derived.Test.YtbakdblbknfadaaMf
import Derived.Test.YtbakdblbknfadaaMq
section
set_option linter.unusedVariables false
set_option linter.unusedSimpArgs false
set_option maxRecDepth 100000
set_option maxHeartbeats 4000000
namespace Go.Proofs.Ytbakdblbknfadaa
open Go.V

/-- A task with other cuts. -/
def Task.cut (t : Task) (n : Nat) (c : Nat → Nat → Int) : Task := ⟨t.ns, t.nx, n, t.nm, t.sa, t.xa, c, t.age, t.shear⟩
theorem saysF_cut (t : Task) (n : Nat) (c : Nat → Nat → Int) (s low high a now : Int) : ∀ (k i : Nat) (w : Word), saysFrom (t.cut n c) s low high a now i w k = saysFrom t s low high a now i w k
  | 0, i, w => rfl
  | k + 1, i, w => by
    rw [saysFrom, saysFrom, saysF_cut t n c s low high a now k (i + 1)]
    rfl
theorem saysS_cut (t : Task) (n : Nat) (c : Nat → Nat → Int) (s low high a now : Int) : saysS (t.cut n c) s low high a now = saysS t s low high a now := saysF_cut t n c s low high a now _ _ _
theorem leftF_cut (t : Task) (n : Nat) (c : Nat → Nat → Int) (s low high a now : Int) : ∀ (k i : Nat) (l : Left), leftFrom (t.cut n c) s low high a now i l k = leftFrom t s low high a now i l k
  | 0, i, l => rfl
  | k + 1, i, l => by
    rw [leftFrom, leftFrom, leftF_cut t n c s low high a now k (i + 1)]
    unfold leftStep
    rw [saysS_cut]
theorem leftS_cut (t : Task) (n : Nat) (c : Nat → Nat → Int) (s low high a now : Int) : leftS (t.cut n c) s low high a now = leftS t s low high a now := leftF_cut t n c s low high a now _ _ _
theorem agreeS_cut (t : Task) (n : Nat) (c : Nat → Nat → Int) (low high a now : Int) : agreeS (t.cut n c) low high a now = agreeS t low high a now := by
  unfold agreeS
  rw [leftS_cut]
theorem blameF_cut (t : Task) (n : Nat) (c : Nat → Nat → Int) (low high a now : Int) : ∀ (k i : Nat) (l : List Int), blameFrom (t.cut n c) low high a now i l k = blameFrom t low high a now i l k
  | 0, i, l => rfl
  | k + 1, i, l => by
    rw [blameFrom, blameFrom, blameF_cut t n c low high a now k (i + 1)]
    unfold blameStep
    rw [leftS_cut]
theorem blameS_cut (t : Task) (n : Nat) (c : Nat → Nat → Int) (low high a now : Int) : blameS (t.cut n c) low high a now = blameS t low high a now := by
  unfold blameS
  rw [agreeS_cut]
  split
  · rfl
  · exact blameF_cut t n c low high a now _ _ _
theorem fe_zero_mk {e : Nat → Int} : ∀ {n i : Nat}, (∀ j, i ≤ j → j < i + n → e j = 0) → fe e i n = (0, 0)
  | 0, i, _ => rfl
  | n + 1, i, h => by
    rw [fe, if_neg (fun g => g (h i (Nat.le_refl _) (by omega)))]
    exact fe_zero_mk fun j h1 h2 => h j (by omega) (by omega)
theorem check_cut {t : Task} (h : (checkS t).2.2 = 0) {n : Nat} {c : Nat → Nat → Int} (hn : 1 ≤ n ∧ n ≤ 20) (hc : ∀ i, i < n → 1 ≤ c i 0 ∧ c i 0 ≤ 100000000) (hr : ∀ i, i + 1 < n → c i 0 < c (i + 1) 0) : checkS (t.cut n c) = (0, 0, 0) := by
  have hok := check_ok h
  unfold checkS at h ⊢
  split at h
  · cases h
  rename_i hl
  obtain ⟨h1, h⟩ := pickE_zero h
  obtain ⟨h2, h⟩ := pickE_zero h
  obtain ⟨h3, h4⟩ := pickE_zero h
  rw [if_neg]
  · have s1 := fun j (hj : j < t.ns) => fe_zero h1 j (Nat.zero_le j) (by omega : j < 0 + t.ns)
    have s2 := fun j (hj : j < t.nx) => fe_zero h2 j (Nat.zero_le j) (by omega : j < 0 + t.nx)
    have e1 : fe (srcErr (t.cut n c)) 0 (t.cut n c).ns = (0, 0) := fe_zero_mk fun j _ hj => s1 j (by have : (t.cut n c).ns = t.ns := rfl; omega)
    have e2 : fe (sndErr (t.cut n c)) 0 (t.cut n c).nx = (0, 0) := fe_zero_mk fun j _ hj => s2 j (by have : (t.cut n c).nx = t.nx := rfl; omega)
    have e3 : fe (cutErr (t.cut n c)) 0 (t.cut n c).nc = (0, 0) := fe_zero_mk fun j _ hj => by
      have hj' : j < n := by have : (t.cut n c).nc = n := rfl; omega
      have g1 := hc j hj'
      show (if isin (c j 0) 1 100000000 = false then 7 else if 0 < j ∧ c j 0 ≤ c (j - 1) 0 then 2 else 0) = (0 : Int)
      rw [if_neg (by rw [isin_false]; omega), if_neg]
      rintro ⟨q1, q2⟩
      have g2 := hr (j - 1) (by omega)
      rw [show j - 1 + 1 = j by omega] at g2
      omega
    rw [e1]
    show check2 (t.cut n c) = _
    unfold check2
    rw [e2]
    show check3 (t.cut n c) = _
    unfold check3
    rw [e3]
    show check4 (t.cut n c) = _
    have ha := hok.age
    have hs := hok.shear
    unfold check4
    rw [if_pos]
    show (isin t.age 0 1000 && isin t.shear 0 1000) = true
    simp only [isin, Bool.and_eq_true, decide_eq_true_eq]
    omega
  · intro hl'
    have g1 := hok.ns
    have g2 := hok.nx
    have e1 : (t.cut n c).ns = t.ns := rfl
    have e2 : (t.cut n c).nx = t.nx := rfl
    have e3 : (t.cut n c).nc = n := rfl
    simp only [tooLong, isin, Bool.or_eq_true, decide_eq_true_eq, Bool.not_eq_true', Bool.and_eq_false_iff, decide_eq_false_iff_not, e1, e2, e3] at hl'
    omega

/-- What is there for a height is there for each band that has it. -/
theorem left_band {t : Task} (hok : t.ok) {but low high x a now : Int} (h1 : low ≤ x) (h2 : x ≤ high) : (leftS t but x x a now).le (leftS t but low high a now) :=
  left_le hok hok fun j g1 g2 g3 => ⟨j, g1, g2, g3, rfl, rfl, dOf_mono hok (Int.le_refl _) h1 (Int.le_refl _) h2⟩
theorem answer_iff {t : Task} {low high a now : Int} : (answerS t low high a now).2 = true ↔ agreeS t low high a now = true ∨ (blameS t low high a now).length = 1 := by
  unfold answerS
  by_cases g : agreeS t low high a now = true
  · rw [if_pos g]
    exact ⟨fun _ => .inl g, fun _ => g⟩
  · rw [if_neg g]
    by_cases g2 : (blameS t low high a now).length = 1
    · rw [if_neg (fun h => h g2)]
      exact ⟨fun _ => .inr g2, fun _ => blame_agree g2⟩
    · rw [if_pos g2]
      exact ⟨fun h => (by cases h), fun h => by rcases h with h | h; exact absurd h g; exact absurd h g2⟩

/-- What At returns. -/
theorem at_bad {t : Task} {h a now : Int} (h1 : (atT t h a now).2 ≠ 0) (h2 : (atT t h a now).2 ≠ 9) : (atT t h a now).1 = left00 := by
  unfold atT at h1 ⊢
  split
  · rfl
  split
  · rfl
  split
  · rfl
  · rename_i g1 g2 g3
    rw [if_neg g1, if_neg g2, if_neg g3] at h1
    exact absurd rfl h1
theorem check_not9 {t : Task} : checkE t ≠ 9 := by
  have e1 : ∀ i, srcErr t i = 6 ∨ srcErr t i = 5 ∨ srcErr t i = 2 ∨ srcErr t i = 7 ∨ srcErr t i = 0 := fun i => by
    unfold srcErr; split; exact .inl rfl; split; exact .inr (.inl rfl); split; exact .inr (.inr (.inl rfl)); split; exact .inr (.inr (.inr (.inl rfl))); exact .inr (.inr (.inr (.inr rfl)))
  have e2 : ∀ i, sndErr t i = 4 ∨ sndErr t i = 7 ∨ sndErr t i = 5 ∨ sndErr t i = 2 ∨ sndErr t i = 0 := fun i => by
    unfold sndErr; split; exact .inl rfl; split; exact .inr (.inl rfl); split; exact .inr (.inr (.inl rfl)); split; exact .inr (.inr (.inr (.inl rfl))); exact .inr (.inr (.inr (.inr rfl)))
  have e3 : ∀ i, cutErr t i = 7 ∨ cutErr t i = 2 ∨ cutErr t i = 0 := fun i => by
    unfold cutErr; split; exact .inl rfl; split; exact .inr (.inl rfl); exact .inr (.inr rfl)
  have hf : ∀ (e : Nat → Int) (_ : ∀ i, e i ≠ 9) (n i : Nat), (fe e i n).2 ≠ 9 := by
    intro e he n
    induction n with
    | zero => intro i; exact (by decide : (0 : Int) ≠ 9)
    | succ n ih =>
      intro i
      unfold fe
      split
      · exact he i
      · exact ih (i + 1)
  have hp : ∀ (p : Int) (q : Int × Int) (r : Int × Int × Int), q.2 ≠ 9 → r.2.2 ≠ 9 → (pickE p q r).2.2 ≠ 9 := fun p q r h1 h2 => by
    unfold pickE
    split
    · exact h1
    · exact h2
  unfold checkE checkS
  split
  · exact (by decide : (3 : Int) ≠ 9)
  refine hp _ _ _ (hf _ (fun i => by have := e1 i; omega) _ _) ?_
  refine hp _ _ _ (hf _ (fun i => by have := e2 i; omega) _ _) ?_
  refine hp _ _ _ (hf _ (fun i => by have := e3 i; omega) _ _) ?_
  unfold check4
  split
  · exact (by decide : (0 : Int) ≠ 9)
  · exact (by decide : (7 : Int) ≠ 9)
theorem at_ok {t : Task} {h a now : Int} (h1 : (atT t h a now).2 = 0 ∨ (atT t h a now).2 = 9) : checkE t = 0 ∧ (0 ≤ h ∧ h ≤ 99999999) ∧ (0 ≤ a ∧ a ≤ 100000) ∧ (0 ≤ now ∧ now ≤ 100000) ∧ ((atT t h a now).2 = 0 ↔ (answerS t h h a now).2 = true) ∧ ((atT t h a now).2 = 0 → (atT t h a now).1 = (answerS t h h a now).1) := by
  unfold atT at h1 ⊢
  split at h1
  · rename_i g
    have := check_not9 (t := t)
    simp only at h1
    omega
  rename_i g1
  split at h1
  · rcases h1 with h1 | h1 <;> cases h1
  rename_i g2
  rw [if_neg g1, if_neg g2]
  have g3 : (0 ≤ h ∧ h ≤ 99999999) ∧ (0 ≤ a ∧ a ≤ 100000) ∧ (0 ≤ now ∧ now ≤ 100000) := by
    simp only [heightB, tickB, isin, Bool.not_eq_false, Bool.and_eq_true, decide_eq_true_eq] at g2
    omega
  refine ⟨Classical.not_not.mp g1, g3.1, g3.2.1, g3.2.2, ?_, ?_⟩
  · split
    · rename_i g4; rw [g4]; exact ⟨fun h => (by cases h), fun h => (by cases h)⟩
    · rename_i g4; exact ⟨fun _ => by simpa using g4, fun _ => rfl⟩
  · split
    · intro h; cases h
    · intro _; rfl
theorem blameT_cut {t : Task} (h : checkE t = 0) {x0 x1 x2 : Int} (hx : 0 ≤ x0 ∧ x0 ≤ 99999999) (h1 : 0 ≤ x1 ∧ x1 ≤ 100000) (h2 : 0 ≤ x2 ∧ x2 ≤ 100000) {n : Nat} {c : Nat → Nat → Int} (hc : (n = 1 ∧ x0 = 0 ∧ c 0 0 = x0 + 1) ∨ (n = 2 ∧ 0 < x0 ∧ c 0 0 = x0 ∧ c 1 0 = x0 + 1)) :
    blameT (t.cut n c) ((n : Int) - 1) x1 x2 = (blameS t x0 x0 x1 x2, agreeS t x0 x0 x1 x2, 0) := by
  have e : checkE (t.cut n c) = 0 := by
    unfold checkE
    rw [check_cut h (by omega) (fun i hi => ?_) (fun i hi => ?_)]
    · rcases hc with ⟨rfl, g1, g2⟩ | ⟨rfl, g1, g2, g3⟩
      · rw [show i = 0 by omega]; omega
      · have : i = 0 ∨ i = 1 := by omega
        rcases this with rfl | rfl <;> omega
    · rcases hc with ⟨rfl, g1, g2⟩ | ⟨rfl, g1, g2, g3⟩
      · omega
      · rw [show i = 0 by omega, g2, show (0 : Nat) + 1 = 1 from rfl, g3]; omega
  have hn : (t.cut n c).nc = n := rfl
  have hcc : ∀ k j, (t.cut n c).ca k j = c k j := fun _ _ => rfl
  unfold blameT
  rw [if_neg (fun g => g e), if_neg (by rw [hn, isin_false]; rcases hc with ⟨rfl, _⟩ | ⟨rfl, _⟩ <;> omega), if_neg (by simp only [tickB, isin, Bool.and_eq_false_iff, decide_eq_false_iff_not]; omega)]
  rw [blameS_cut, agreeS_cut]
  unfold lowS
  simp only [hcc]
  rcases hc with ⟨rfl, g1, g2⟩ | ⟨rfl, g1, g2, g3⟩
  · rw [show (((1 : Nat) : Int) - 1).toNat = 0 from rfl, if_pos rfl, g2, g1]; rfl
  · rw [show (((2 : Nat) : Int) - 1).toNat = 1 from rfl, if_neg (by omega), g3, show (1 : Nat) - 1 = 0 from rfl, g2, show x0 + 1 - 1 = x0 by omega]
/-- If the sources agree at a height, they agree for the band that has it, and what At says lies in what Bands says. -/
theorem point_band {t : Task} (h : checkE t = 0) {x0 x1 x2 : Int} (hx : 0 ≤ x0 ∧ x0 ≤ 99999999) (h1 : 0 ≤ x1 ∧ x1 ≤ 100000) (h2 : 0 ≤ x2 ∧ x2 ≤ 100000) (ha : agreeS t x0 x0 x1 x2 = true) {i : Nat} (hi : i < t.nc) (hu : x0 < t.ca i 0) (hl : 0 < i → t.ca (i - 1) 0 ≤ x0) :
    (blameT t i x1 x2).2.2 = 0 ∧ (blameT t i x1 x2).2.1 = true ∧ ((bandsT t x1 x2).2 = 0 → (bandsT t x1 x2).1 = t.nc ∧ (leftS t (-1) x0 x0 x1 x2).le ⟨bandA t x1 x2 i 2, bandA t x1 x2 i 3, bandA t x1 x2 i 4, bandA t x1 x2 i 5⟩) := by
  have hok := check_ok h
  have hnc := hok.nc
  have low : lowS t i ≤ x0 := by
    unfold lowS
    split
    · exact hx.1
    · exact hl (by omega)
  have hle := left_band hok (but := -1) (a := x1) (now := x2) low (by omega : x0 ≤ t.ca i 0 - 1)
  have hag : agreeS t (lowS t i) (t.ca i 0 - 1) x1 x2 = true := Left.le_agree hle ha
  have eb : blameT t i x1 x2 = (blameS t (lowS t i) (t.ca i 0 - 1) x1 x2, agreeS t (lowS t i) (t.ca i 0 - 1) x1 x2, 0) := by
    unfold blameT
    rw [if_neg (fun g => g h), if_neg (by rw [isin_false]; omega), if_neg (by simp only [tickB, isin, Bool.and_eq_false_iff, decide_eq_false_iff_not]; omega), Int.toNat_natCast]
  rw [eb]
  refine ⟨rfl, hag, fun hb => ?_⟩
  have e2 : (bandsT t x1 x2).1 = t.nc := by
    unfold bandsT at hb ⊢
    split at hb
    · rename_i g; exact absurd hb g
    split at hb
    · cases hb
    split at hb
    · cases hb
    rename_i g1 g2 g3
    rw [if_neg g1, if_neg g2, if_neg g3]
  refine ⟨e2, ?_⟩
  have e3 : ansB t x1 x2 i = (leftS t (-1) (lowS t i) (t.ca i 0 - 1) x1 x2, true) := answer_agree hag
  simp only [bandA, e3]
  exact hle
end Go.Proofs.Ytbakdblbknfadaa
end
section
set_option linter.unusedVariables false
set_option linter.unusedSimpArgs false
set_option maxRecDepth 100000
set_option maxHeartbeats 4000000
namespace Go.Proofs.Ytbakdblbknfadaa
open Go.V
attribute [local irreducible] checkS atT blameT bandsT bandA sameB
noncomputable def notSame (t u : Task) (a now : Int) (i : Nat) : Bool := !(sameB 1 (blameT t i a now).1.length (blameT u i a now).1.length (im (liD (blameT t i a now).1)) (im (liD (blameT u i a now).1)) && ((blameT t i a now).2.1 == (blameT u i a now).2.1) && decide ((blameT t i a now).2.2 = (blameT u i a now).2.2))
noncomputable def alikeB (t u : Task) (a now : Int) : Bool :=
  (sameB 6 (bandsT t a now).1 (bandsT u a now).1 (bandA t a now) (bandA u a now) && decide ((bandsT t a now).2 = (bandsT u a now).2)) && !anyBelow (notSame t u a now) t.nc
noncomputable def rAlike : List V.D → Option (Prop × V.D) := fun ds => match ds with
  | [d, e, .int .i64 a, .int .i64 now] => some (TaskIs d ∧ TaskIs e ∧ (taskOf d).fits ∧ (taskOf e).fits ∧ (taskOf d).nc ≤ 1000, .bool (alikeB (taskOf d) (taskOf e) a now))
  | _ => none
end Go.Proofs.Ytbakdblbknfadaa
end
section
set_option linter.unusedVariables false
set_option linter.unusedSimpArgs false
set_option maxRecDepth 100000
namespace Go.Proofs.Ytbakdblbknfadaa
open Go.V

/-- A task with other soundings. -/
def Task.wth (t : Task) (n : Nat) (x : Nat → Nat → Int) : Task := ⟨t.ns, n, t.nc, t.nm, t.sa, x, t.ca, t.age, t.shear⟩
/-- Some of a task's soundings, in their order; what they say of the wind may be another thing. -/
structure Part (t : Task) (n : Nat) (x : Nat → Nat → Int) (f : Nat → Nat) : Prop where
  lt : ∀ k, k < n → f k < t.nx
  mono : ∀ k l, k < l → l < n → f k < f l
  here : ∀ k, k < n → x k 0 = t.xa (f k) 0 ∧ x k 1 = t.xa (f k) 1 ∧ x k 2 = t.xa (f k) 2
  wx : ∀ k, k < n → -20000 ≤ x k 3 ∧ x k 3 ≤ 20000
  wy : ∀ k, k < n → -20000 ≤ x k 4 ∧ x k 4 ≤ 20000
theorem Part.le {t : Task} {n : Nat} {x : Nat → Nat → Int} {f : Nat → Nat} (h : Part t n x f) : n ≤ t.nx := by
  have key : ∀ k, k < n → k ≤ f k := by
    intro k
    induction k with
    | zero => intro _; exact Nat.zero_le _
    | succ k ih =>
      intro hk
      have h1 := ih (by omega)
      have h2 := h.mono k (k + 1) (by omega) hk
      omega
  rcases Nat.eq_zero_or_pos n with h0 | h0
  · omega
  · have h1 := key (n - 1) (by omega)
    have h2 := h.lt (n - 1) (by omega)
    omega
theorem lastOf_spec (p : Nat → Bool) : ∀ n, (lastOf p n = -1 ∧ ∀ k, k < n → p k = false) ∨ ∃ l : Nat, lastOf p n = (l : Int) ∧ l < n ∧ p l = true ∧ ∀ k, l < k → k < n → p k = false
  | 0 => .inl ⟨rfl, fun k hk => absurd hk (Nat.not_lt_zero k)⟩
  | n + 1 => by
    unfold lastOf
    by_cases h : p n = true
    · rw [if_pos h]
      exact .inr ⟨n, rfl, Nat.lt_succ_self n, h, fun k h1 h2 => absurd h2 (by omega)⟩
    · rw [if_neg h]
      have h' : p n = false := by simpa using h
      rcases lastOf_spec p n with ⟨h1, h2⟩ | ⟨l, h1, h2, h3, h4⟩
      · refine .inl ⟨h1, fun k hk => ?_⟩
        rcases Nat.lt_succ_iff_lt_or_eq.1 hk with g | rfl
        · exact h2 k g
        · exact h'
      · refine .inr ⟨l, h1, by omega, h3, fun k g1 g2 => ?_⟩
        rcases Nat.lt_succ_iff_lt_or_eq.1 g2 with g | rfl
        · exact h4 k g1 g
        · exact h'
structure SndOK (t : Task) (i : Nat) : Prop where
  src : isin (t.xa i 0) 0 (t.ns - 1) = true
  range : sndRange t i = true
  spot : ∀ k, k < i → sameSpot t i k = false
  falls : falls t i = false
theorem snd_iff {t : Task} {i : Nat} : sndErr t i = 0 ↔ SndOK t i := by
  unfold sndErr
  constructor
  · intro h
    split at h
    · cases h
    split at h
    · cases h
    split at h
    · cases h
    split at h
    · cases h
    rename_i h1 h2 h3 h4
    refine ⟨by simpa using h1, by simpa using h2, fun k hk => ?_, by simpa using h4⟩
    by_cases e : sameSpot t i k = true
    · exact absurd (anyBelow_iff.2 ⟨k, hk, e⟩) h3
    · simpa using e
  · rintro ⟨h1, h2, h3, h4⟩
    rw [if_neg (by rw [h1]; exact Bool.noConfusion), if_neg (by rw [h2]; exact Bool.noConfusion), if_neg, if_neg (by rw [h4]; exact Bool.noConfusion)]
    intro h
    obtain ⟨k, hk, e⟩ := anyBelow_iff.1 h
    rw [h3 k hk] at e
    cases e
/-- Soundings of a balloon come later, and higher. -/
theorem rises {t : Task} (h : ∀ i, i < t.nx → SndOK t i) : ∀ i, i < t.nx → t.sa (t.xa i 0).toNat 0 = 2 → ∀ k, k < i → t.xa k 0 = t.xa i 0 → t.xa k 1 ≤ t.xa i 1 ∧ t.xa k 2 ≤ t.xa i 2 := by
  intro i
  induction i using Nat.strongRecOn with
  | _ i ih =>
    intro hi hb k hk he
    have hf := (h i hi).falls
    unfold falls lastS at hf
    rcases lastOf_spec (sameSrc t i) i with ⟨h1, h2⟩ | ⟨l, h1, h2, h3, h4⟩
    · have := h2 k hk
      unfold sameSrc at this
      rw [decide_eq_false_iff_not] at this
      exact absurd he this
    · rw [h1] at hf
      unfold sameSrc at h3
      rw [decide_eq_true_eq] at h3
      simp only [hb, decide_true, Bool.true_and, Int.toNat_natCast, Bool.and_eq_false_iff, Bool.or_eq_false_iff, decide_eq_false_iff_not] at hf
      have hl : t.xa l 1 ≤ t.xa i 1 ∧ t.xa l 2 ≤ t.xa i 2 := by omega
      rcases Nat.lt_trichotomy k l with g | rfl | g
      · have := ih l h2 (by omega) (by rw [h3]; exact hb) k g (by rw [h3]; exact he)
        omega
      · exact hl
      · have := h4 k g hk
        unfold sameSrc at this
        rw [decide_eq_false_iff_not] at this
        exact absurd he this
theorem part_snd {t : Task} {n : Nat} {x : Nat → Nat → Int} {f : Nat → Nat} (hp : Part t n x f) (h : ∀ i, i < t.nx → SndOK t i) : ∀ k, k < n → SndOK (t.wth n x) k := by
  intro k hk
  have hi := h (f k) (hp.lt k hk)
  obtain ⟨a0, a1, a2⟩ := hp.here k hk
  have b1 := hp.wx k hk
  have b2 := hp.wy k hk
  refine ⟨?_, ?_, fun l hl => ?_, ?_⟩
  · show isin (x k 0) 0 (t.ns - 1) = true
    rw [a0]; exact hi.src
  · have := hi.range
    unfold sndRange at this ⊢
    show (isin (x k 1) 0 100000 && isin (x k 2) (t.sa (x k 0).toNat 4) (t.sa (x k 0).toNat 5) && isin (x k 3) (-20000) 20000 && isin (x k 4) (-20000) 20000) = true
    rw [a0, a1, a2]
    simp only [Bool.and_eq_true] at this ⊢
    refine ⟨⟨this.1.1, ?_⟩, ?_⟩
    · simp only [isin, Bool.and_eq_true, decide_eq_true_eq]; exact b1
    · simp only [isin, Bool.and_eq_true, decide_eq_true_eq]; exact b2
  · have := hi.spot (f l) (hp.mono l k hl hk)
    obtain ⟨c0, c1, c2⟩ := hp.here l (by omega)
    unfold sameSpot at this ⊢
    show (decide (x l 0 = x k 0) && decide (x l 1 = x k 1) && decide (x l 2 = x k 2)) = false
    rw [a0, a1, a2, c0, c1, c2]
    exact this
  · have e : ∀ i, (t.wth n x).xa i = x i := fun _ => rfl
    have e' : (t.wth n x).sa = t.sa := rfl
    unfold falls lastS
    rw [e, e', a0, a1, a2]
    rcases lastOf_spec (sameSrc (t.wth n x) k) k with ⟨h1, h2⟩ | ⟨l, h1, h2, h3, h4⟩
    · rw [h1]
      simp
    · rw [h1, Int.toNat_natCast, e]
      obtain ⟨c0, c1, c2⟩ := hp.here l (by omega)
      unfold sameSrc at h3
      rw [decide_eq_true_eq, e, e, a0, c0] at h3
      by_cases hb : t.sa (t.xa (f k) 0).toNat 0 = 2
      · have := rises h (f k) (hp.lt k hk) hb (f l) (hp.mono l k h2 hk) h3
        rw [c1, c2, decide_eq_false (by omega : ¬ t.xa (f k) 1 < t.xa (f l) 1), decide_eq_false (by omega : ¬ t.xa (f k) 2 < t.xa (f l) 2), Bool.or_self, Bool.and_false]
      · rw [decide_eq_false hb]; rfl
theorem check_part {t : Task} (h : checkE t = 0) {n : Nat} {x : Nat → Nat → Int} {f : Nat → Nat} (hp : Part t n x f) : checkE (t.wth n x) = 0 := by
  unfold checkE checkS at h ⊢
  split at h
  · cases h
  rename_i hl
  obtain ⟨h1, h⟩ := pickE_zero h
  obtain ⟨h2, h⟩ := pickE_zero h
  have s2 := fun j (hj : j < t.nx) => snd_iff.1 (fe_zero h2 j (Nat.zero_le j) (by omega : j < 0 + t.nx))
  have hle := hp.le
  have e1 : (t.wth n x).ns = t.ns := rfl
  have e2 : (t.wth n x).nx = n := rfl
  have e3 : (t.wth n x).nc = t.nc := rfl
  rw [if_neg]
  · have g1 : fe (srcErr (t.wth n x)) 0 (t.wth n x).ns = fe (srcErr t) 0 t.ns := rfl
    have g2 : fe (sndErr (t.wth n x)) 0 (t.wth n x).nx = (0, 0) := fe_zero_mk fun j _ hj => snd_iff.2 (part_snd hp s2 j (by omega))
    have g3 : check3 (t.wth n x) = check3 t := rfl
    unfold pickE check2
    rw [g1, if_neg (fun g => g h1), g2]
    unfold pickE
    rw [if_neg (fun g => g rfl), g3]
    exact h
  · intro hl'
    apply hl
    simp only [tooLong, isin, Bool.or_eq_true, decide_eq_true_eq, Bool.not_eq_true', Bool.and_eq_false_iff, decide_eq_false_iff_not, e1, e2, e3] at hl' ⊢
    omega
theorem Left.le_antisymm {l m : Left} (h : l.le m) (k : m.le l) : l = m := by
  obtain ⟨a, b, c, d⟩ := l
  obtain ⟨a', b', c', d'⟩ := m
  simp only [Left.le] at h k
  obtain rfl : a = a' := by omega
  obtain rfl : b = b' := by omega
  obtain rfl : c = c' := by omega
  obtain rfl : d = d' := by omega
  rfl
/-- What is left hangs on what is left by the sources alone. -/
theorem blame_of {t u : Task} (hn : u.ns = t.ns) {low high a now : Int} (h : ∀ but, leftS u but low high a now = leftS t but low high a now) : agreeS u low high a now = agreeS t low high a now ∧ blameS u low high a now = blameS t low high a now ∧ answerS u low high a now = answerS t low high a now := by
  have e1 : agreeS u low high a now = agreeS t low high a now := by
    unfold agreeS
    rw [h]
  have e2 : ∀ k i l, blameFrom u low high a now i l k = blameFrom t low high a now i l k := by
    intro k
    induction k with
    | zero => intro i l; rfl
    | succ k ih =>
      intro i l
      rw [blameFrom, blameFrom, ih]
      unfold blameStep
      rw [h]
  have e3 : blameS u low high a now = blameS t low high a now := by
    unfold blameS
    rw [e1, e2, hn]
  refine ⟨e1, e3, ?_⟩
  unfold answerS
  simp only [e1, e3, h]
theorem same_winds {t u : Task} (ht : checkE t = 0) (hu : checkE u = 0) (hn : u.ns = t.ns) (hc : u.nc = t.nc) (hca : u.ca = t.ca) {a now : Int} (h : ∀ but low high, leftS u but low high a now = leftS t but low high a now) :
    bandsT u a now = bandsT t a now ∧ bandA u a now = bandA t a now ∧ ∀ i, blameT u i a now = blameT t i a now := by
  have hl : ∀ i, lowS u i = lowS t i := fun i => by unfold lowS; rw [hca]
  have ha : ∀ i, ansB u a now i = ansB t a now i := fun i => by
    unfold ansB
    rw [hl, hca]
    exact (blame_of hn fun but => h but _ _).2.2
  refine ⟨?_, ?_, fun i => ?_⟩
  · unfold bandsT
    have hb : badB u a now = badB t a now := by funext i; unfold badB; rw [ha]
    rw [ht, hu, hc, hb]
  · funext i j
    unfold bandA
    simp only [hl, hca, ha]
  · unfold blameT
    obtain ⟨b1, b2, _⟩ := blame_of (low := lowS t i.toNat) (high := t.ca i.toNat 0 - 1) hn fun but => h but _ _
    rw [ht, hu, hc, hl, hca, b1, b2]
theorem alike_of {t u : Task} {a now : Int} (h1 : bandsT u a now = bandsT t a now) (h2 : bandA u a now = bandA t a now) (h3 : ∀ i, blameT u i a now = blameT t i a now) : alikeB t u a now = true := by
  unfold alikeB
  rw [h1, h2, sameB_refl]
  simp only [decide_true, Bool.and_self, Bool.true_and, Bool.not_eq_true']
  by_cases e : anyBelow (notSame t u a now) t.nc = true
  · obtain ⟨i, hi, g⟩ := anyBelow_iff.1 e
    unfold notSame at g
    rw [h3, sameB_refl] at g
    simp at g
  · simpa using e
/-- Soundings that are not known change nothing. -/
theorem unknown_same {t : Task} (ht : checkE t = 0) {n : Nat} {x : Nat → Nat → Int} {f : Nat → Nat} (hp : Part t n x f) {now : Int} (h1 : ∀ k, k < n → knownS t (f k) now = true → x k 3 = t.xa (f k) 3 ∧ x k 4 = t.xa (f k) 4)
    (h2 : ∀ i, i < t.nx → knownS t i now = true → ∃ k, k < n ∧ f k = i) (a : Int) : alikeB t (t.wth n x) a now = true := by
  have hu := check_part ht hp
  have hok := check_ok ht
  have hok' := check_ok hu
  have hk : ∀ k, k < n → knownS (t.wth n x) k now = knownS t (f k) now := fun k hk => by
    obtain ⟨a0, a1, a2⟩ := hp.here k hk
    unfold knownS
    show (decide (x k 1 + t.sa (x k 0).toNat 2 ≤ now) && decide (now - x k 1 ≤ t.sa (x k 0).toNat 3)) = _
    rw [a0, a1]
  have hd : ∀ k, k < n → ∀ low high, dOf (t.wth n x) low high a k = dOf t low high a (f k) := fun k hk low high => by
    obtain ⟨a0, a1, a2⟩ := hp.here k hk
    have e : ∀ h, doubtS (t.wth n x) k h a = doubtS t (f k) h a := fun h => by
      unfold doubtS
      show t.sa (x k 0).toNat 1 + t.age * begun (x k 1) a 600 + t.shear * begun (x k 2) h 100000 = _
      rw [a0, a1, a2]
    unfold dOf
    rw [e, e]
  obtain ⟨b1, b2, b3⟩ := same_winds (a := a) (now := now) ht hu rfl rfl rfl fun but low high => by
    refine Left.le_antisymm ?_ ?_
    · refine left_le hok' hok fun j g1 g2 g3 => ?_
      obtain ⟨k, hk', rfl⟩ := h2 j g1 g3
      obtain ⟨a0, a1, a2⟩ := hp.here k hk'
      obtain ⟨x3, x4⟩ := h1 k hk' g3
      exact ⟨k, hk', by show x k 0 ≠ but; rw [a0]; exact g2, by rw [hk k hk']; exact g3, x3.symm, x4.symm, by rw [hd k hk']; exact Int.le_refl _⟩
    · refine left_le hok hok' fun k g1 g2 g3 => ?_
      have hk' : k < n := g1
      obtain ⟨a0, a1, a2⟩ := hp.here k hk'
      rw [hk k hk'] at g3
      obtain ⟨x3, x4⟩ := h1 k hk' g3
      exact ⟨f k, hp.lt k hk', by rw [← a0]; exact g2, g3, x3, x4, by rw [hd k hk']; exact Int.le_refl _⟩
  exact alike_of b1 b2 b3
/-- Without some of the soundings no span is narrower. -/
theorem less_wider {t : Task} {a now : Int} (h : agreedT t a now = true) {n : Nat} {x : Nat → Nat → Int} {f : Nat → Nat} (hp : Part t n x f) (h1 : ∀ k, k < n → x k 3 = t.xa (f k) 3 ∧ x k 4 = t.xa (f k) 4) :
    agreedT (t.wth n x) a now = true ∧ coversT t.nc (bandA (t.wth n x) a now) t.nc (bandA t a now) = (true, 0) := by
  have hb := agreedT_bands h
  obtain ⟨ht, ha, hn, hag⟩ := agreedT_iff.1 h
  have hu := check_part ht hp
  have hok := check_ok ht
  have hok' := check_ok hu
  have hle : ∀ low high, (leftS t (-1) low high a now).le (leftS (t.wth n x) (-1) low high a now) := fun low high => by
    refine left_le hok hok' fun k g1 g2 g3 => ?_
    have hk' : k < n := g1
    obtain ⟨a0, a1, a2⟩ := hp.here k hk'
    obtain ⟨x3, x4⟩ := h1 k hk'
    have hd : ∀ h, doubtS (t.wth n x) k h a = doubtS t (f k) h a := fun h => by
      unfold doubtS
      show t.sa (x k 0).toNat 1 + t.age * begun (x k 1) a 600 + t.shear * begun (x k 2) h 100000 = _
      rw [a0, a1, a2]
    refine ⟨f k, hp.lt k hk', by rw [← a0]; exact g2, ?_, x3, x4, by unfold dOf; rw [hd, hd]; exact Int.le_refl _⟩
    unfold knownS at g3 ⊢
    have g3' : (decide (x k 1 + t.sa (x k 0).toNat 2 ≤ now) && decide (now - x k 1 ≤ t.sa (x k 0).toNat 3)) = true := g3
    rwa [a0, a1] at g3'
  have hlow : ∀ i, lowS (t.wth n x) i = lowS t i := fun _ => rfl
  have hag' : ∀ i, i < t.nc → agreeS (t.wth n x) (lowS t i) (t.ca i 0 - 1) a now = true := fun i hi => Left.le_agree (hle _ _) (hag i hi)
  have hb' : agreedT (t.wth n x) a now = true := agreedT_iff.2 ⟨hu, ha, hn, hag'⟩
  refine ⟨hb', ?_⟩
  have c1 := bands_check (t := t) (a := a) (now := now) (by rw [hb])
  have c2 := bands_check (t := t.wth n x) (a := a) (now := now) (by rw [agreedT_bands hb'])
  show coversT (t.wth n x).nc (bandA (t.wth n x) a now) t.nc (bandA t a now) = (true, 0)
  rw [covT_mk c2 c1, covB_true]
  refine cov_same c1 rfl (fun _ _ => rfl) fun i hi => ?_
  unfold ansB
  rw [answer_agree (hag i hi)]
  rw [show answerS (t.wth n x) (lowS (t.wth n x) i) ((t.wth n x).ca i 0 - 1) a now = _ from answer_agree (hag' i hi)]
  exact hle _ _
end Go.Proofs.Ytbakdblbknfadaa
end
section
set_option linter.unusedVariables false
set_option linter.unusedSimpArgs false
set_option maxRecDepth 100000
set_option maxHeartbeats 4000000
namespace Go.Proofs.Ytbakdblbknfadaa
open Go.V
theorem knownUp_mem {t : Task} {now : Int} {i : Nat} : ∀ {n : Nat}, (i : Int) ∈ knownUp t now n ↔ i < n ∧ knownS t i now = true
  | 0 => by simp [knownUp]
  | n + 1 => by
    unfold knownUp
    split
    · rename_i h
      rw [List.mem_append, knownUp_mem (n := n), List.mem_singleton]
      constructor
      · rintro (⟨h1, h2⟩ | h1)
        · exact ⟨by omega, h2⟩
        · obtain rfl : i = n := by omega
          exact ⟨by omega, h⟩
      · rintro ⟨h1, h2⟩
        rcases Nat.lt_succ_iff_lt_or_eq.1 h1 with g | rfl
        · exact .inl ⟨g, h2⟩
        · exact .inr rfl
    · rename_i h
      rw [knownUp_mem (n := n)]
      constructor
      · rintro ⟨h1, h2⟩
        exact ⟨by omega, h2⟩
      · rintro ⟨h1, h2⟩
        rcases Nat.lt_succ_iff_lt_or_eq.1 h1 with g | rfl
        · exact ⟨g, h2⟩
        · exact absurd h2 h
theorem knownUp_get {t : Task} {now : Int} : ∀ {n k : Nat}, k < (knownUp t now n).length → ∃ i : Nat, (knownUp t now n).getD k 0 = (i : Int) ∧ i < n ∧ knownS t i now = true
  | 0, k, h => by simp [knownUp] at h
  | n + 1, k, h => by
    unfold knownUp at h ⊢
    split
    · rename_i g
      rw [if_pos g] at h
      simp only [List.length_append, List.length_singleton] at h
      by_cases e : k < (knownUp t now n).length
      · obtain ⟨i, h1, h2, h3⟩ := knownUp_get e
        refine ⟨i, ?_, by omega, h3⟩
        rw [← h1]
        simp [List.getElem?_append, e]
      · obtain rfl : k = (knownUp t now n).length := by omega
        exact ⟨n, by simp, by omega, g⟩
    · rename_i g
      rw [if_neg g] at h
      obtain ⟨i, h1, h2, h3⟩ := knownUp_get h
      exact ⟨i, h1, by omega, h3⟩
theorem knownUp_mono {t : Task} {now : Int} : ∀ {n k l : Nat}, k < l → l < (knownUp t now n).length → (knownUp t now n).getD k 0 < (knownUp t now n).getD l 0
  | 0, k, l, _, h => by simp [knownUp] at h
  | n + 1, k, l, hkl, h => by
    unfold knownUp at h ⊢
    split
    · rename_i g
      rw [if_pos g] at h
      simp only [List.length_append, List.length_singleton] at h
      have hk : k < (knownUp t now n).length := by omega
      have e1 : (knownUp t now n ++ [(n : Int)]).getD k 0 = (knownUp t now n).getD k 0 := by simp [List.getElem?_append, hk]
      rw [e1]
      by_cases e : l < (knownUp t now n).length
      · have e2 : (knownUp t now n ++ [(n : Int)]).getD l 0 = (knownUp t now n).getD l 0 := by simp [List.getElem?_append, e]
        rw [e2]
        exact knownUp_mono hkl e
      · obtain rfl : l = (knownUp t now n).length := by omega
        obtain ⟨i, h1, h2, _⟩ := knownUp_get hk
        rw [h1]
        simp
        omega
    · rename_i g
      rw [if_neg g] at h
      exact knownUp_mono hkl h
theorem getD_of_mem {l : List Int} {x : Int} (h : x ∈ l) : ∃ k, k < l.length ∧ l.getD k 0 = x := by
  obtain ⟨k, hk, e⟩ := List.getElem_of_mem h
  exact ⟨k, hk, by simp [hk, e]⟩
/-- Whether one of the first numbers of a list is this one. -/
def eqAt (l : List Int) (i : Nat) (k : Nat) : Bool := decide (l.getD k 0 = (i : Int))
theorem known_any {t : Task} {now : Int} {i : Nat} (hi : i < t.nx) : anyBelow (eqAt (knownUp t now t.nx) i) (knownUp t now t.nx).length = knownS t i now := by
  have h : anyBelow (eqAt (knownUp t now t.nx) i) (knownUp t now t.nx).length = true ↔ knownS t i now = true := by
    rw [anyBelow_iff]
    constructor
    · rintro ⟨k, hk, e⟩
      unfold eqAt at e
      rw [decide_eq_true_eq] at e
      obtain ⟨j, h1, h2, h3⟩ := knownUp_get hk
      rw [h1] at e
      obtain rfl : j = i := by omega
      exact h3
    · intro h
      obtain ⟨k, hk, e⟩ := getD_of_mem (knownUp_mem.2 ⟨hi, h⟩)
      exact ⟨k, hk, decide_eq_true e⟩
  by_cases e : knownS t i now = true
  · rw [e, h.2 e]
  · have e1 : knownS t i now = false := by simpa using e
    rw [e1]
    by_cases e2 : anyBelow (eqAt (knownUp t now t.nx) i) (knownUp t now t.nx).length = true
    · exact absurd (h.1 e2) e
    · simpa using e2
/-- What is left of the soundings; what is said by the others. -/
def lessA (t : Task) (now : Int) (i k j : Nat) : Int := t.xa ((knownUp t now i).getD k 0).toNat j
def saidA (t : Task) (now w0 w1 : Int) (i k j : Nat) : Int := if k < i ∧ knownS t k now = false then (if j = 3 then w0 else if j = 4 then w1 else t.xa k j) else t.xa k j
theorem less_alike {t : Task} (ht : checkE t = 0) (now a : Int) : alikeB t (t.wth (knownUp t now t.nx).length (lessA t now t.nx)) a now = true := by
  have hok := check_ok ht
  refine unknown_same ht (f := fun k => ((knownUp t now t.nx).getD k 0).toNat) ⟨fun k hk => ?_, fun k l hkl hl => ?_, fun k hk => ⟨rfl, rfl, rfl⟩, fun k hk => ?_, fun k hk => ?_⟩ (fun k hk _ => ⟨rfl, rfl⟩) (fun i hi hn => ?_) a
  · obtain ⟨i, h1, h2, h3⟩ := knownUp_get hk
    simp only [h1, Int.toNat_natCast]
    exact h2
  · have h1 := knownUp_mono hkl hl
    obtain ⟨i, h2, _⟩ := knownUp_get (Nat.lt_trans hkl hl)
    show ((knownUp t now t.nx).getD k 0).toNat < ((knownUp t now t.nx).getD l 0).toNat
    omega
  · obtain ⟨i, h1, h2, h3⟩ := knownUp_get hk
    show _ ≤ t.xa ((knownUp t now t.nx).getD k 0).toNat _ ∧ _
    rw [h1, Int.toNat_natCast]
    exact hok.x i h2
  · obtain ⟨i, h1, h2, h3⟩ := knownUp_get hk
    show _ ≤ t.xa ((knownUp t now t.nx).getD k 0).toNat _ ∧ _
    rw [h1, Int.toNat_natCast]
    exact hok.y i h2
  · obtain ⟨k, hk, e⟩ := getD_of_mem (knownUp_mem.2 ⟨hi, hn⟩)
    exact ⟨k, hk, by simp only [e, Int.toNat_natCast]⟩
theorem said_alike {t : Task} (ht : checkE t = 0) (now a : Int) {w0 w1 : Int} (h0 : -20000 ≤ w0 ∧ w0 ≤ 20000) (h1 : -20000 ≤ w1 ∧ w1 ≤ 20000) : alikeB t (t.wth t.nx (saidA t now w0 w1 t.nx)) a now = true := by
  have hok := check_ok ht
  refine unknown_same ht (f := id) ⟨fun k hk => hk, fun k l hkl hl => hkl, fun k hk => ?_, fun k hk => ?_, fun k hk => ?_⟩ (fun k hk hn => ?_) (fun i hi hn => ⟨i, hi, rfl⟩) a
  · unfold saidA
    split <;> exact ⟨rfl, rfl, rfl⟩
  · unfold saidA
    split
    · rw [if_pos rfl]; exact h0
    · exact hok.x k hk
  · unfold saidA
    split
    · rw [if_neg (by decide), if_pos rfl]; exact h1
    · exact hok.y k hk
  · unfold saidA
    have hn' : knownS t k now = true := hn
    rw [if_neg (fun h => by rw [hn'] at h; cases h.2), if_neg (fun h => by rw [hn'] at h; cases h.2)]
    exact ⟨rfl, rfl⟩
theorem knownUp0 (t : Task) (now : Int) : knownUp t now 0 = [] := rfl
theorem knownUp_yes {t : Task} {now : Int} {i : Nat} (h : knownS t i now = true) : knownUp t now (i + 1) = knownUp t now i ++ [(i : Int)] := if_pos h
theorem knownUp_no {t : Task} {now : Int} {i : Nat} (h : knownS t i now = false) : knownUp t now (i + 1) = knownUp t now i := if_neg (by rw [h]; exact Bool.noConfusion)
theorem said_yes {t : Task} {now w0 w1 : Int} {i : Nat} (h : knownS t i now = true) (a b : Nat) : saidA t now w0 w1 i a b = saidA t now w0 w1 (i + 1) a b := by
  unfold saidA
  by_cases e : a = i
  · subst e
    rw [if_neg (fun g => by have := g.1; omega), if_neg (fun g => by have := g.2; rw [h] at this; cases this)]
  · have : (a < i ∧ knownS t a now = false) ↔ (a < i + 1 ∧ knownS t a now = false) := by
      constructor
      · rintro ⟨h1, h2⟩; exact ⟨by omega, h2⟩
      · rintro ⟨h1, h2⟩; exact ⟨by omega, h2⟩
    simp only [this]
theorem said_no {t : Task} {now w0 w1 : Int} {i : Nat} (h : knownS t i now = false) {a b : Nat} (hb : b < 5) :
    (if a = (i : Int).toNat ∧ (4 : Nat) ≤ b ∧ b < 4 + 1 then ([V.D.int .i64 w1]).getD (b - 4) .top else if a = (i : Int).toNat ∧ (3 : Nat) ≤ b ∧ b < 3 + 1 then ([V.D.int .i64 w0]).getD (b - 3) .top else imD (saidA t now w0 w1 i) a b) = imD (saidA t now w0 w1 (i + 1)) a b := by
  rw [Int.toNat_natCast]
  by_cases e : a = i
  · subst e
    have e1 : saidA t now w0 w1 (a + 1) a b = if b = 3 then w0 else if b = 4 then w1 else t.xa a b := by
      unfold saidA
      rw [if_pos ⟨by omega, h⟩]
    have e2 : saidA t now w0 w1 a a b = t.xa a b := by
      unfold saidA
      rw [if_neg (fun g => by have := g.1; omega)]
    unfold imD
    rw [e1, e2]
    have : b = 0 ∨ b = 1 ∨ b = 2 ∨ b = 3 ∨ b = 4 := by omega
    rcases this with rfl | rfl | rfl | rfl | rfl <;> simp
  · have : (a < i ∧ knownS t a now = false) ↔ (a < i + 1 ∧ knownS t a now = false) := by
      constructor
      · rintro ⟨h1, h2⟩; exact ⟨by omega, h2⟩
      · rintro ⟨h1, h2⟩; exact ⟨by omega, h2⟩
    rw [if_neg (fun g => e g.1), if_neg (fun g => e g.1)]
    unfold imD saidA
    simp only [this]
theorem less_yes {t : Task} {now : Int} {i : Nat} (hup : knownUp t now (i + 1) = knownUp t now i ++ [(i : Int)]) {a b : Nat} (ha : a < (knownUp t now (i + 1)).length) (hb : b < 5) :
    (if a < (knownUp t now i).length then imD (lessA t now i) a b else [V.D.int .i64 (t.xa (i : Int).toNat 0), .int .i64 (t.xa (i : Int).toNat 1), .int .i64 (t.xa (i : Int).toNat 2), .int .i64 (t.xa (i : Int).toNat 3), .int .i64 (t.xa (i : Int).toNat 4)].getD ((a - (knownUp t now i).length) * 5 + b) .top) = imD (lessA t now (i + 1)) a b := by
  rw [hup, List.length_append, List.length_singleton] at ha
  unfold imD lessA
  rw [hup]
  split
  · rename_i h
    simp [List.getElem?_append, h]
  · rename_i h
    obtain rfl : a = (knownUp t now i).length := by omega
    have : b = 0 ∨ b = 1 ∨ b = 2 ∨ b = 3 ∨ b = 4 := by omega
    rcases this with rfl | rfl | rfl | rfl | rfl <;> simp
attribute [local irreducible] checkS knownT alikeB knownUp knownS eqAt
theorem knownT_ok {t : Task} {now : Int} (h : (knownT t now).2 = 0) : checkE t = 0 ∧ (knownT t now).1 = knownUp t now t.nx := by
  unfold knownT at h ⊢
  split at h
  · rename_i g; exact absurd h g
  split at h
  · cases h
  rename_i g1 g2
  rw [if_neg g1, if_neg g2]
  exact ⟨Classical.not_not.mp g1, rfl⟩
theorem knownT_bad {t : Task} {now : Int} (h : (knownT t now).2 ≠ 0) : (knownT t now).1 = [] := by
  unfold knownT at h ⊢
  split
  · rfl
  split
  · rfl
  rename_i g1 g2
  rw [if_neg g1, if_neg g2] at h
  exact absurd rfl h
theorem eqAt_eq (l : List Int) (i k : Nat) : eqAt l i k = decide (l.getD k 0 = (i : Int)) := by unfold eqAt; rfl
theorem tmod_wind (o : Int) : -20000 ≤ o.tmod 20000 ∧ o.tmod 20000 ≤ 20000 := by
  have h1 := Int.tmod_lt_of_pos o (show (0 : Int) < 20000 by decide)
  have h2 := Int.tmod_lt_of_pos (-o) (show (0 : Int) < 20000 by decide)
  rw [Int.neg_tmod] at h2
  omega
noncomputable def lib42 : Lib := lib40
theorem lib42_ok : LibOK Go.Proofs.Try.prog lib42 := lib40_ok
def rLUnknown : List V.D → Option (Prop × V.D) := fun ds => match ds with
  | [d, .agg [.int .i64 x0, .int .i64 x1], .agg [.int .i16 o0, .int .i16 o1]] => some (TaskIs d ∧ (taskOf d).fits ∧ (-32768 ≤ o0 ∧ o0 ≤ 32767) ∧ (-32768 ≤ o1 ∧ o1 ≤ 32767), .tt)
  | _ => none
end Go.Proofs.Ytbakdblbknfadaa
end
section
set_option linter.unusedVariables false
set_option linter.unusedSimpArgs false
set_option maxRecDepth 100000
set_option maxHeartbeats 4000000
namespace Go.Proofs.Ytbakdblbknfadaa
open Go.V
theorem unknown_eq {t : Task} (ht : checkE t = 0) {n : Nat} {x : Nat → Nat → Int} {f : Nat → Nat} (hp : Part t n x f) {now : Int} (h1 : ∀ k, k < n → knownS t (f k) now = true → x k 3 = t.xa (f k) 3 ∧ x k 4 = t.xa (f k) 4)
    (h2 : ∀ i, i < t.nx → knownS t i now = true → ∃ k, k < n ∧ f k = i) (a : Int) : bandsT (t.wth n x) a now = bandsT t a now ∧ bandA (t.wth n x) a now = bandA t a now := by
  have hu := check_part ht hp
  have hok := check_ok ht
  have hok' := check_ok hu
  have hk : ∀ k, k < n → knownS (t.wth n x) k now = knownS t (f k) now := fun k hk => by
    obtain ⟨a0, a1, a2⟩ := hp.here k hk
    unfold knownS
    show (decide (x k 1 + t.sa (x k 0).toNat 2 ≤ now) && decide (now - x k 1 ≤ t.sa (x k 0).toNat 3)) = _
    rw [a0, a1]
  have hd : ∀ k, k < n → ∀ low high, dOf (t.wth n x) low high a k = dOf t low high a (f k) := fun k hk low high => by
    obtain ⟨a0, a1, a2⟩ := hp.here k hk
    have e : ∀ h, doubtS (t.wth n x) k h a = doubtS t (f k) h a := fun h => by
      unfold doubtS
      show t.sa (x k 0).toNat 1 + t.age * begun (x k 1) a 600 + t.shear * begun (x k 2) h 100000 = _
      rw [a0, a1, a2]
    unfold dOf
    rw [e, e]
  obtain ⟨b1, b2, b3⟩ := same_winds (a := a) (now := now) ht hu rfl rfl rfl fun but low high => by
    refine Left.le_antisymm ?_ ?_
    · refine left_le hok' hok fun j g1 g2 g3 => ?_
      obtain ⟨k, hk', rfl⟩ := h2 j g1 g3
      obtain ⟨a0, a1, a2⟩ := hp.here k hk'
      obtain ⟨x3, x4⟩ := h1 k hk' g3
      exact ⟨k, hk', by show x k 0 ≠ but; rw [a0]; exact g2, by rw [hk k hk']; exact g3, x3.symm, x4.symm, by rw [hd k hk']; exact Int.le_refl _⟩
    · refine left_le hok hok' fun k g1 g2 g3 => ?_
      have hk' : k < n := g1
      obtain ⟨a0, a1, a2⟩ := hp.here k hk'
      rw [hk k hk'] at g3
      obtain ⟨x3, x4⟩ := h1 k hk' g3
      exact ⟨f k, hp.lt k hk', by rw [← a0]; exact g2, g3, x3, x4, by rw [hd k hk']; exact Int.le_refl _⟩
  exact ⟨b1, b2⟩
/-- A sounding that is known later only. -/
def lateB (u : Task) (last : Int) (k : Nat) : Bool := decide (last < u.xa k 1 + u.sa (u.xa k 0).toNat 2)
def saidL (u : Task) (last w0 w1 : Int) (i k j : Nat) : Int := if k < i ∧ lateB u last k = true then (if j = 3 then w0 else if j = 4 then w1 else u.xa k j) else u.xa k j
theorem saidL_part {u : Task} (hu : checkE u = 0) (last : Int) {w0 w1 : Int} (h0 : -20000 ≤ w0 ∧ w0 ≤ 20000) (h1 : -20000 ≤ w1 ∧ w1 ≤ 20000) : Part u u.nx (saidL u last w0 w1 u.nx) id := by
  have hok := check_ok hu
  refine ⟨fun k hk => hk, fun k l hkl hl => hkl, fun k hk => ?_, fun k hk => ?_, fun k hk => ?_⟩
  · unfold saidL
    split <;> exact ⟨rfl, rfl, rfl⟩
  · unfold saidL
    split
    · rw [if_pos rfl]; exact h0
    · exact hok.x k hk
  · unfold saidL
    split
    · rw [if_neg (by decide), if_pos rfl]; exact h1
    · exact hok.y k hk
theorem saidL_eq {u : Task} (hu : checkE u = 0) {last w0 w1 : Int} (h0 : -20000 ≤ w0 ∧ w0 ≤ 20000) (h1 : -20000 ≤ w1 ∧ w1 ≤ 20000) {now : Int} (hn : now ≤ last) (a : Int) :
    bandsT (u.wth u.nx (saidL u last w0 w1 u.nx)) a now = bandsT u a now ∧ bandA (u.wth u.nx (saidL u last w0 w1 u.nx)) a now = bandA u a now := by
  refine unknown_eq hu (saidL_part hu last h0 h1) (fun k hk hkn => ?_) (fun i hi hkn => ⟨i, hi, rfl⟩) a
  have hkn : knownS u k now = true := hkn
  have e : knownS u k now = (decide (u.xa k 1 + u.sa (u.xa k 0).toNat 2 ≤ now) && decide (now - u.xa k 1 ≤ u.sa (u.xa k 0).toNat 3)) := by delta knownS; rfl
  rw [e, Bool.and_eq_true, decide_eq_true_eq, decide_eq_true_eq] at hkn
  have q : ¬ (k < u.nx ∧ lateB u last k = true) := fun g => by
    have := of_decide_eq_true g.2
    omega
  unfold saidL
  rw [if_neg q, if_neg q]
  exact ⟨rfl, rfl⟩
theorem saidL_chk {u : Task} (hu : checkE u = 0) (last : Int) {w0 w1 : Int} (h0 : -20000 ≤ w0 ∧ w0 ≤ 20000) (h1 : -20000 ≤ w1 ∧ w1 ≤ 20000) : checkE (u.wth u.nx (saidL u last w0 w1 u.nx)) = 0 := check_part hu (saidL_part hu last h0 h1)
theorem saidL_no {u : Task} {last w0 w1 : Int} {i : Nat} (h : lateB u last i = false) (a b : Nat) : saidL u last w0 w1 i a b = saidL u last w0 w1 (i + 1) a b := by
  unfold saidL
  by_cases e : a = i
  · subst e
    rw [if_neg (fun g => by have := g.1; omega), if_neg (fun g => by have := g.2; rw [h] at this; cases this)]
  · have : (a < i ∧ lateB u last a = true) ↔ (a < i + 1 ∧ lateB u last a = true) := by
      constructor
      · rintro ⟨h1, h2⟩; exact ⟨by omega, h2⟩
      · rintro ⟨h1, h2⟩; exact ⟨by omega, h2⟩
    simp only [this]
theorem saidL_yes {u : Task} {last w0 w1 : Int} {i : Nat} (h : lateB u last i = true) {a b : Nat} (hb : b < 5) :
    (if a = (i : Int).toNat ∧ (4 : Nat) ≤ b ∧ b < 4 + 1 then ([V.D.int .i64 w1]).getD (b - 4) .top else if a = (i : Int).toNat ∧ (3 : Nat) ≤ b ∧ b < 3 + 1 then ([V.D.int .i64 w0]).getD (b - 3) .top else imD (saidL u last w0 w1 i) a b) = imD (saidL u last w0 w1 (i + 1)) a b := by
  rw [Int.toNat_natCast]
  by_cases e : a = i
  · subst e
    have e1 : saidL u last w0 w1 (a + 1) a b = if b = 3 then w0 else if b = 4 then w1 else u.xa a b := by
      unfold saidL
      rw [if_pos ⟨by omega, h⟩]
    have e2 : saidL u last w0 w1 a a b = u.xa a b := by
      unfold saidL
      rw [if_neg (fun g => by have := g.1; omega)]
    unfold imD
    rw [e1, e2]
    have : b = 0 ∨ b = 1 ∨ b = 2 ∨ b = 3 ∨ b = 4 := by omega
    rcases this with rfl | rfl | rfl | rfl | rfl <;> simp
  · have : (a < i ∧ lateB u last a = true) ↔ (a < i + 1 ∧ lateB u last a = true) := by
      constructor
      · rintro ⟨h1, h2⟩; exact ⟨by omega, h2⟩
      · rintro ⟨h1, h2⟩; exact ⟨by omega, h2⟩
    rw [if_neg (fun g => e g.1), if_neg (fun g => e g.1)]
    unfold imD saidL
    simp only [this]
/-- Rounds by winds that are alike up to the last tick. -/
theorem next_same {t : ATask} {u v : Task} {la now k : Int} (h1 : bandsT v la now = bandsT u la now) (h2 : bandA v la now = bandA u la now) : nextR t v la now k = nextR t u la now k ∧ misR t v la now k = misR t u la now k ∧ setR t v la now k = setR t u la now k := by
  have e1 : noB t v la now = noB t u la now := by unfold noB; rw [h1, h2]
  have e2 : scR t v la now = scR t u la now := by unfold scR; rw [h1, h2]
  have e3 : nextR t v la now k = nextR t u la now k := by unfold nextR; rw [e1, e2]
  refine ⟨e3, ?_, ?_⟩
  · unfold misR; rw [e1, e2, e3]
  · unfold setR; rw [e1, e2]
theorem setTo_same {t : ATask} {u v : Task} {la : Int} {w : Nat → Nat → Int} {n : Nat} (h : ∀ i, i < n → bandsT v la (w i 0) = bandsT u la (w i 0) ∧ bandA v la (w i 0) = bandA u la (w i 0)) : ∀ i, i ≤ n → setTo t v la w i = setTo t u la w i
  | 0, _ => rfl
  | i + 1, hi => by
    have ih := setTo_same (t := t) h i (by omega)
    have g := h i (by omega)
    show nextR t v la (w i 0) (setTo t v la w i) = nextR t u la (w i 0) (setTo t u la w i)
    rw [ih, (next_same g.1 g.2).1]
theorem rndA_same {t : ATask} {u v : Task} {la : Int} {w : Nat → Nat → Int} {n : Nat} (h : ∀ i, i < n → bandsT v la (w i 0) = bandsT u la (w i 0) ∧ bandA v la (w i 0) = bandA u la (w i 0)) {i : Nat} (hi : i < n) (j : Nat) : rndA t v la w i j = rndA t u la w i j := by
  have g := h i hi
  have s0 := setTo_same (t := t) h i (by omega)
  have s1 := setTo_same (t := t) h (i + 1) (by omega)
  have r := next_same (t := t) (k := setTo t u la w i) g.1 g.2
  unfold rndA
  rw [s0, s1, r.2.1, r.2.2]
theorem RndOK.last {t : ATask} {u : Task} {la : Int} {n : Nat} {w : Nat → Nat → Int} (o : RndOK t u la n w) : ∀ k i, i + k + 1 = n → w i 0 ≤ w (n - 1) 0
  | 0, i, h => by
    obtain rfl : i = n - 1 := by omega
    exact Int.le_refl _
  | k + 1, i, h => Int.le_trans (o.up i (by omega)) (o.last k (i + 1) (by omega))
end Go.Proofs.Ytbakdblbknfadaa
end
