/-
  The law WindFiner is proved: if the sources agree for all bands with one Cut more, they do without it, and the bands without it cover those with it, for any task, ticks, and Cut below the last one. No condition.
-/
import Derived.Test.YtbkehkiflfhpfaaMh
import Derived.Test.YtbkehkiflfhpfaaMc
import Derived.Test.YtbkehkiflfhpfaaMf
section
set_option linter.unusedVariables false
set_option linter.unusedSimpArgs false
set_option maxRecDepth 100000
set_option maxHeartbeats 4000000
namespace Go.Proofs.Ytbkehkiflfhpfaa
open Go.V

/-- A task with other cuts. -/
def Task.cut (t : Task) (n : Nat) (c : Nat → Nat → Int) : Task := ⟨t.ns, t.nx, n, t.nm, t.sa, t.xa, c, t.age, t.shear⟩
theorem saysF_cut (t : Task) (n : Nat) (c : Nat → Nat → Int) (s low high a now : Int) : ∀ (k i : Nat) (w : Word), saysFrom (t.cut n c) s low high a now i w k = saysFrom t s low high a now i w k
  | 0, i, w => rfl
  | k + 1, i, w => by
    rw [saysFrom, saysFrom, saysF_cut t n c s low high a now k (i + 1)]
    rfl
theorem saysS_cut (t : Task) (n : Nat) (c : Nat → Nat → Int) (s low high a now : Int) : saysS (t.cut n c) s low high a now = saysS t s low high a now := saysF_cut t n c s low high a now _ _ _
theorem leftF_cut (t : Task) (n : Nat) (c : Nat → Nat → Int) (s low high a now : Int) : ∀ (k i : Nat) (l : Left), leftFrom (t.cut n c) s low high a now i l k = leftFrom t s low high a now i l k
  | 0, i, l => rfl
  | k + 1, i, l => by
    rw [leftFrom, leftFrom, leftF_cut t n c s low high a now k (i + 1)]
    unfold leftStep
    rw [saysS_cut]
theorem leftS_cut (t : Task) (n : Nat) (c : Nat → Nat → Int) (s low high a now : Int) : leftS (t.cut n c) s low high a now = leftS t s low high a now := leftF_cut t n c s low high a now _ _ _
theorem agreeS_cut (t : Task) (n : Nat) (c : Nat → Nat → Int) (low high a now : Int) : agreeS (t.cut n c) low high a now = agreeS t low high a now := by
  unfold agreeS
  rw [leftS_cut]
theorem blameF_cut (t : Task) (n : Nat) (c : Nat → Nat → Int) (low high a now : Int) : ∀ (k i : Nat) (l : List Int), blameFrom (t.cut n c) low high a now i l k = blameFrom t low high a now i l k
  | 0, i, l => rfl
  | k + 1, i, l => by
    rw [blameFrom, blameFrom, blameF_cut t n c low high a now k (i + 1)]
    unfold blameStep
    rw [leftS_cut]
theorem blameS_cut (t : Task) (n : Nat) (c : Nat → Nat → Int) (low high a now : Int) : blameS (t.cut n c) low high a now = blameS t low high a now := by
  unfold blameS
  rw [agreeS_cut]
  split
  · rfl
  · exact blameF_cut t n c low high a now _ _ _
theorem fe_zero_mk {e : Nat → Int} : ∀ {n i : Nat}, (∀ j, i ≤ j → j < i + n → e j = 0) → fe e i n = (0, 0)
  | 0, i, _ => rfl
  | n + 1, i, h => by
    rw [fe, if_neg (fun g => g (h i (Nat.le_refl _) (by omega)))]
    exact fe_zero_mk fun j h1 h2 => h j (by omega) (by omega)
theorem check_cut {t : Task} (h : (checkS t).2.2 = 0) {n : Nat} {c : Nat → Nat → Int} (hn : 1 ≤ n ∧ n ≤ 20) (hc : ∀ i, i < n → 1 ≤ c i 0 ∧ c i 0 ≤ 100000000) (hr : ∀ i, i + 1 < n → c i 0 < c (i + 1) 0) : checkS (t.cut n c) = (0, 0, 0) := by
  have hok := check_ok h
  unfold checkS at h ⊢
  split at h
  · cases h
  rename_i hl
  obtain ⟨h1, h⟩ := pickE_zero h
  obtain ⟨h2, h⟩ := pickE_zero h
  obtain ⟨h3, h4⟩ := pickE_zero h
  rw [if_neg]
  · have s1 := fun j (hj : j < t.ns) => fe_zero h1 j (Nat.zero_le j) (by omega : j < 0 + t.ns)
    have s2 := fun j (hj : j < t.nx) => fe_zero h2 j (Nat.zero_le j) (by omega : j < 0 + t.nx)
    have e1 : fe (srcErr (t.cut n c)) 0 (t.cut n c).ns = (0, 0) := fe_zero_mk fun j _ hj => s1 j (by have : (t.cut n c).ns = t.ns := rfl; omega)
    have e2 : fe (sndErr (t.cut n c)) 0 (t.cut n c).nx = (0, 0) := fe_zero_mk fun j _ hj => s2 j (by have : (t.cut n c).nx = t.nx := rfl; omega)
    have e3 : fe (cutErr (t.cut n c)) 0 (t.cut n c).nc = (0, 0) := fe_zero_mk fun j _ hj => by
      have hj' : j < n := by have : (t.cut n c).nc = n := rfl; omega
      have g1 := hc j hj'
      show (if isin (c j 0) 1 100000000 = false then 7 else if 0 < j ∧ c j 0 ≤ c (j - 1) 0 then 2 else 0) = (0 : Int)
      rw [if_neg (by rw [isin_false]; omega), if_neg]
      rintro ⟨q1, q2⟩
      have g2 := hr (j - 1) (by omega)
      rw [show j - 1 + 1 = j by omega] at g2
      omega
    rw [e1]
    show check2 (t.cut n c) = _
    unfold check2
    rw [e2]
    show check3 (t.cut n c) = _
    unfold check3
    rw [e3]
    show check4 (t.cut n c) = _
    have ha := hok.age
    have hs := hok.shear
    unfold check4
    rw [if_pos]
    show (isin t.age 0 1000 && isin t.shear 0 1000) = true
    simp only [isin, Bool.and_eq_true, decide_eq_true_eq]
    omega
  · intro hl'
    have g1 := hok.ns
    have g2 := hok.nx
    have e1 : (t.cut n c).ns = t.ns := rfl
    have e2 : (t.cut n c).nx = t.nx := rfl
    have e3 : (t.cut n c).nc = n := rfl
    simp only [tooLong, isin, Bool.or_eq_true, decide_eq_true_eq, Bool.not_eq_true', Bool.and_eq_false_iff, decide_eq_false_iff_not, e1, e2, e3] at hl'
    omega

/-- What is there for a height is there for each band that has it. -/
theorem left_band {t : Task} (hok : t.ok) {but low high x a now : Int} (h1 : low ≤ x) (h2 : x ≤ high) : (leftS t but x x a now).le (leftS t but low high a now) :=
  left_le hok hok fun j g1 g2 g3 => ⟨j, g1, g2, g3, rfl, rfl, dOf_mono hok (Int.le_refl _) h1 (Int.le_refl _) h2⟩
theorem answer_iff {t : Task} {low high a now : Int} : (answerS t low high a now).2 = true ↔ agreeS t low high a now = true ∨ (blameS t low high a now).length = 1 := by
  unfold answerS
  by_cases g : agreeS t low high a now = true
  · rw [if_pos g]
    exact ⟨fun _ => .inl g, fun _ => g⟩
  · rw [if_neg g]
    by_cases g2 : (blameS t low high a now).length = 1
    · rw [if_neg (fun h => h g2)]
      exact ⟨fun _ => .inr g2, fun _ => blame_agree g2⟩
    · rw [if_pos g2]
      exact ⟨fun h => (by cases h), fun h => by rcases h with h | h; exact absurd h g; exact absurd h g2⟩

/-- What At returns. -/
theorem at_bad {t : Task} {h a now : Int} (h1 : (atT t h a now).2 ≠ 0) (h2 : (atT t h a now).2 ≠ 9) : (atT t h a now).1 = left00 := by
  unfold atT at h1 ⊢
  split
  · rfl
  split
  · rfl
  split
  · rfl
  · rename_i g1 g2 g3
    rw [if_neg g1, if_neg g2, if_neg g3] at h1
    exact absurd rfl h1
theorem check_not9 {t : Task} : checkE t ≠ 9 := by
  have e1 : ∀ i, srcErr t i = 6 ∨ srcErr t i = 5 ∨ srcErr t i = 2 ∨ srcErr t i = 7 ∨ srcErr t i = 0 := fun i => by
    unfold srcErr; split; exact .inl rfl; split; exact .inr (.inl rfl); split; exact .inr (.inr (.inl rfl)); split; exact .inr (.inr (.inr (.inl rfl))); exact .inr (.inr (.inr (.inr rfl)))
  have e2 : ∀ i, sndErr t i = 4 ∨ sndErr t i = 7 ∨ sndErr t i = 5 ∨ sndErr t i = 2 ∨ sndErr t i = 0 := fun i => by
    unfold sndErr; split; exact .inl rfl; split; exact .inr (.inl rfl); split; exact .inr (.inr (.inl rfl)); split; exact .inr (.inr (.inr (.inl rfl))); exact .inr (.inr (.inr (.inr rfl)))
  have e3 : ∀ i, cutErr t i = 7 ∨ cutErr t i = 2 ∨ cutErr t i = 0 := fun i => by
    unfold cutErr; split; exact .inl rfl; split; exact .inr (.inl rfl); exact .inr (.inr rfl)
  have hf : ∀ (e : Nat → Int) (_ : ∀ i, e i ≠ 9) (n i : Nat), (fe e i n).2 ≠ 9 := by
    intro e he n
    induction n with
    | zero => intro i; exact (by decide : (0 : Int) ≠ 9)
    | succ n ih =>
      intro i
      unfold fe
      split
      · exact he i
      · exact ih (i + 1)
  have hp : ∀ (p : Int) (q : Int × Int) (r : Int × Int × Int), q.2 ≠ 9 → r.2.2 ≠ 9 → (pickE p q r).2.2 ≠ 9 := fun p q r h1 h2 => by
    unfold pickE
    split
    · exact h1
    · exact h2
  unfold checkE checkS
  split
  · exact (by decide : (3 : Int) ≠ 9)
  refine hp _ _ _ (hf _ (fun i => by have := e1 i; omega) _ _) ?_
  refine hp _ _ _ (hf _ (fun i => by have := e2 i; omega) _ _) ?_
  refine hp _ _ _ (hf _ (fun i => by have := e3 i; omega) _ _) ?_
  unfold check4
  split
  · exact (by decide : (0 : Int) ≠ 9)
  · exact (by decide : (7 : Int) ≠ 9)
theorem at_ok {t : Task} {h a now : Int} (h1 : (atT t h a now).2 = 0 ∨ (atT t h a now).2 = 9) : checkE t = 0 ∧ (0 ≤ h ∧ h ≤ 99999999) ∧ (0 ≤ a ∧ a ≤ 100000) ∧ (0 ≤ now ∧ now ≤ 100000) ∧ ((atT t h a now).2 = 0 ↔ (answerS t h h a now).2 = true) ∧ ((atT t h a now).2 = 0 → (atT t h a now).1 = (answerS t h h a now).1) := by
  unfold atT at h1 ⊢
  split at h1
  · rename_i g
    have := check_not9 (t := t)
    simp only at h1
    omega
  rename_i g1
  split at h1
  · rcases h1 with h1 | h1 <;> cases h1
  rename_i g2
  rw [if_neg g1, if_neg g2]
  have g3 : (0 ≤ h ∧ h ≤ 99999999) ∧ (0 ≤ a ∧ a ≤ 100000) ∧ (0 ≤ now ∧ now ≤ 100000) := by
    simp only [heightB, tickB, isin, Bool.not_eq_false, Bool.and_eq_true, decide_eq_true_eq] at g2
    omega
  refine ⟨Classical.not_not.mp g1, g3.1, g3.2.1, g3.2.2, ?_, ?_⟩
  · split
    · rename_i g4; rw [g4]; exact ⟨fun h => (by cases h), fun h => (by cases h)⟩
    · rename_i g4; exact ⟨fun _ => by simpa using g4, fun _ => rfl⟩
  · split
    · intro h; cases h
    · intro _; rfl
theorem blameT_cut {t : Task} (h : checkE t = 0) {x0 x1 x2 : Int} (hx : 0 ≤ x0 ∧ x0 ≤ 99999999) (h1 : 0 ≤ x1 ∧ x1 ≤ 100000) (h2 : 0 ≤ x2 ∧ x2 ≤ 100000) {n : Nat} {c : Nat → Nat → Int} (hc : (n = 1 ∧ x0 = 0 ∧ c 0 0 = x0 + 1) ∨ (n = 2 ∧ 0 < x0 ∧ c 0 0 = x0 ∧ c 1 0 = x0 + 1)) :
    blameT (t.cut n c) ((n : Int) - 1) x1 x2 = (blameS t x0 x0 x1 x2, agreeS t x0 x0 x1 x2, 0) := by
  have e : checkE (t.cut n c) = 0 := by
    unfold checkE
    rw [check_cut h (by omega) (fun i hi => ?_) (fun i hi => ?_)]
    · rcases hc with ⟨rfl, g1, g2⟩ | ⟨rfl, g1, g2, g3⟩
      · rw [show i = 0 by omega]; omega
      · have : i = 0 ∨ i = 1 := by omega
        rcases this with rfl | rfl <;> omega
    · rcases hc with ⟨rfl, g1, g2⟩ | ⟨rfl, g1, g2, g3⟩
      · omega
      · rw [show i = 0 by omega, g2, show (0 : Nat) + 1 = 1 from rfl, g3]; omega
  have hn : (t.cut n c).nc = n := rfl
  have hcc : ∀ k j, (t.cut n c).ca k j = c k j := fun _ _ => rfl
  unfold blameT
  rw [if_neg (fun g => g e), if_neg (by rw [hn, isin_false]; rcases hc with ⟨rfl, _⟩ | ⟨rfl, _⟩ <;> omega), if_neg (by simp only [tickB, isin, Bool.and_eq_false_iff, decide_eq_false_iff_not]; omega)]
  rw [blameS_cut, agreeS_cut]
  unfold lowS
  simp only [hcc]
  rcases hc with ⟨rfl, g1, g2⟩ | ⟨rfl, g1, g2, g3⟩
  · rw [show (((1 : Nat) : Int) - 1).toNat = 0 from rfl, if_pos rfl, g2, g1]; rfl
  · rw [show (((2 : Nat) : Int) - 1).toNat = 1 from rfl, if_neg (by omega), g3, show (1 : Nat) - 1 = 0 from rfl, g2, show x0 + 1 - 1 = x0 by omega]
/-- If the sources agree at a height, they agree for the band that has it, and what At says lies in what Bands says. -/
theorem point_band {t : Task} (h : checkE t = 0) {x0 x1 x2 : Int} (hx : 0 ≤ x0 ∧ x0 ≤ 99999999) (h1 : 0 ≤ x1 ∧ x1 ≤ 100000) (h2 : 0 ≤ x2 ∧ x2 ≤ 100000) (ha : agreeS t x0 x0 x1 x2 = true) {i : Nat} (hi : i < t.nc) (hu : x0 < t.ca i 0) (hl : 0 < i → t.ca (i - 1) 0 ≤ x0) :
    (blameT t i x1 x2).2.2 = 0 ∧ (blameT t i x1 x2).2.1 = true ∧ ((bandsT t x1 x2).2 = 0 → (bandsT t x1 x2).1 = t.nc ∧ (leftS t (-1) x0 x0 x1 x2).le ⟨bandA t x1 x2 i 2, bandA t x1 x2 i 3, bandA t x1 x2 i 4, bandA t x1 x2 i 5⟩) := by
  have hok := check_ok h
  have hnc := hok.nc
  have low : lowS t i ≤ x0 := by
    unfold lowS
    split
    · exact hx.1
    · exact hl (by omega)
  have hle := left_band hok (but := -1) (a := x1) (now := x2) low (by omega : x0 ≤ t.ca i 0 - 1)
  have hag : agreeS t (lowS t i) (t.ca i 0 - 1) x1 x2 = true := Left.le_agree hle ha
  have eb : blameT t i x1 x2 = (blameS t (lowS t i) (t.ca i 0 - 1) x1 x2, agreeS t (lowS t i) (t.ca i 0 - 1) x1 x2, 0) := by
    unfold blameT
    rw [if_neg (fun g => g h), if_neg (by rw [isin_false]; omega), if_neg (by simp only [tickB, isin, Bool.and_eq_false_iff, decide_eq_false_iff_not]; omega), Int.toNat_natCast]
  rw [eb]
  refine ⟨rfl, hag, fun hb => ?_⟩
  have e2 : (bandsT t x1 x2).1 = t.nc := by
    unfold bandsT at hb ⊢
    split at hb
    · rename_i g; exact absurd hb g
    split at hb
    · cases hb
    split at hb
    · cases hb
    rename_i g1 g2 g3
    rw [if_neg g1, if_neg g2, if_neg g3]
  refine ⟨e2, ?_⟩
  have e3 : ansB t x1 x2 i = (leftS t (-1) (lowS t i) (t.ca i 0 - 1) x1 x2, true) := answer_agree hag
  simp only [bandA, e3]
  exact hle
end Go.Proofs.Ytbkehkiflfhpfaa
end
section
set_option linter.unusedVariables false
set_option linter.unusedSimpArgs false
set_option maxRecDepth 100000
set_option maxHeartbeats 4000000
namespace Go.Proofs.Ytbkehkiflfhpfaa
open Go.V
attribute [local irreducible] checkBands overT coversT covB bandsT bandA agreedT checkS
noncomputable def lib41 : Lib := (55, mk rAgreed) :: lib40
theorem lib41_ok : LibOK Go.Proofs.Try.prog lib41 := .cons agreed_ok lib40_ok
def rLAges : List V.D → Option (Prop × V.D) := fun ds => match ds with
  | [d, .agg [.int .i64 x0, .int .i64 x1, .int .i64 x2]] => some (TaskIs d ∧ (taskOf d).fits, .tt)
  | _ => none
theorem bandsT_le20 (t : Task) (a now : Int) : (bandsT t a now).1 ≤ 20 := by
  by_cases h : (bandsT t a now).2 = 0
  · rw [(bandsT_nc h).2]
    exact (bandsT_nc h).1
  · rw [bandsT_0 h]
    omega
theorem agreedN_le20 (t : Task) (a now : Int) : agreedN t a now ≤ 20 := by
  unfold agreedN
  split
  · rename_i h
    exact (bandsT_nc (by rw [agreedT_bands h])).1
  · omega
attribute [local irreducible] agreedN
theorem lawAges_ok : PSound Go.Proofs.Try.prog 15 (mk rLAges) := by
  refine psound_mk Try.func15 (by kernel_rfl) rfl (ctx lib41_ok) ?_
  (intro ds p d h; unfold rLAges at h; split at h <;> first | (cases h; done) | skip; cases h; refine ⟨Nat.le_of_ble_eq_true rfl, fun hp k hk => ?_⟩)
  rename_i d x0 x1 x2
  obtain ⟨ht, hf⟩ := hp
  refine ⟨[(taskOf d).D, .agg [.int .i64 x0, .int .i64 x1, .int .i64 x2]], task_imp ht ⟨rfl, rfl, ?_⟩⟩
  clear ht
  generalize taskOf d = t at *
  have B1 := bandsT_le20 t
  have B2 := agreedN_le20 t
  have F0 := fun a => @bandsT_0 t a x0
  have F1 : ∀ a, (bandsT t a x0).2 = 0 → (checkBands (bandsT t a x0).1 (bandA t a x0)).2 = 0 := fun a h => by
    rw [(bandsT_nc h).2]
    exact bands_check h
  have F2 : ∀ a b, x0 ≤ a → a ≤ b → b ≤ 100000 → agreedT t a x0 = true → agreedT t b x0 = true ∧ (coversT (agreedN t b x0) (bandA t b x0) (agreedN t a x0) (bandA t a x0)).1 = true ∧ (coversT (agreedN t b x0) (bandA t b x0) (agreedN t a x0) (bandA t a x0)).2 = 0 := fun a b h1 h2 h3 h => by
    obtain ⟨g1, g2⟩ := ages h h1 h2 h3
    unfold agreedN
    rw [if_pos h, if_pos g1, g2]
    exact ⟨g1, rfl, rfl⟩
  repeat' (first | ((with_reducible refine kok ?_); kernel_rfl) | ((with_reducible refine keq_mk ?_); kernel_rfl) | with_reducible rfl | ((conv => whnf); first | (with_reducible exact trivial) | ((with_reducible refine and_ff ?_ ?_); · exact rfl) | ((with_reducible refine and_tt ?_ ?_); · exact rfl) | (with_reducible refine And.intro ?_ ?_) | intro _ | (with_reducible refine fin2 hk ?_) | ((with_reducible refine eq_leaf ?_); exact rfl) | exact trivial))
  all_goals try exact hf _ (by assumption)
  all_goals clear hk hf
  all_goals try ((first | with_reducible refine (?_ : (_ : Int) ≤ _) | with_reducible refine (?_ : (_ : Int) < _) | with_reducible refine (?_ : (_ : Nat) ≤ _)); first | omega | (simp only [taskOf_agg, ↓Bool.not_eq_true', ↓Bool.not_eq_false', ↓decT, ↓decF, out_true, out_false, isin_true, isin_false, Int.toNat_natCast, Int.ofNat_lt, Nat.zero_add, Nat.add_zero, Nat.reduceAdd]; omega))
  all_goals clear B1 B2
  all_goals have f0 := F0 (max x0 (min x1 x2))
  all_goals have f1 := F1 (max x0 (min x1 x2))
  all_goals have f2 := F2 (max x0 (min x1 x2)) (max x0 (max x1 x2)) (by omega) (by omega)
  all_goals clear F0 F1 F2
  all_goals simp only [taskOf_agg, ↓Bool.not_eq_true', ↓Bool.not_eq_false', ↓decT, ↓decF, out_true, out_false, isin_true, isin_false, Int.toNat_natCast, Int.ofNat_lt, Nat.zero_add, Nat.add_zero, Nat.reduceAdd, Int.toNat_zero, Int.reduceToNat, ↓reduceIte, reduceCtorEq, Bool.or_eq_true, Bool.or_eq_false_iff, Bool.and_eq_true, Bool.and_eq_false_iff, im_imD] at *
  all_goals exfalso
  · rename_i g1 g2
    have := f0 g1
    omega
  · rename_i g1 g2
    exact g2 (f1 g1)
  · rename_i g1 g2 g3 g4 g5
    have := (f2 (by omega) g3).1
    rw [this] at g5
    cases g5
  · have := (f2 (by omega) (by assumption)).2.1
    simp_all only [reduceCtorEq]
  · rename_i g1 g2 g3 g4 g5 g6
    exact g6 (f2 (by omega) g3).2.2
end Go.Proofs.Ytbkehkiflfhpfaa
end
section
set_option linter.unusedVariables false
set_option linter.unusedSimpArgs false
set_option maxRecDepth 100000
set_option maxHeartbeats 4000000
namespace Go.Proofs.Ytbkehkiflfhpfaa
open Go.V
/-- A cut more. -/
def finA (t : Task) (p : Nat) (c : Int) (j : Nat) : Int := if j < p then t.ca j 0 else if j = p then c else t.ca (j - 1) 0
def finN (p i : Nat) : Nat := if i ≤ p then i else i + 1
/-- Where a cut belongs. -/
theorem cut_place {t : Task} {c : Int} : ∀ {n : Nat}, 0 < n → c ≤ t.ca (n - 1) 0 → ∃ p, p < n ∧ (∀ k, k < p → t.ca k 0 < c) ∧ c ≤ t.ca p 0 := by
  intro n
  induction n with
  | zero => intro h; exact absurd h (by omega)
  | succ n ih =>
    intro _ h
    rw [Nat.add_sub_cancel] at h
    by_cases e : ∃ p, p < n ∧ (∀ k, k < p → t.ca k 0 < c) ∧ c ≤ t.ca p 0
    · obtain ⟨p, h1, h2, h3⟩ := e
      exact ⟨p, by omega, h2, h3⟩
    · refine ⟨n, by omega, fun k hk => ?_, h⟩
      have : ∀ k, k < n → t.ca k 0 < c := by
        intro k
        induction k using Nat.strongRecOn with
        | _ k ik =>
          intro hk
          by_cases g : t.ca k 0 < c
          · exact g
          · exact absurd ⟨k, hk, fun l hl => ik l hl (by omega), by omega⟩ e
      exact this k hk
theorem cuts_up {t : Task} (hok : t.ok) {i j : Nat} (h : i < j) (hj : j < t.nc) : t.ca i 0 < t.ca j 0 := by
  have key : ∀ d, i + d + 1 < t.nc → t.ca i 0 < t.ca (i + d + 1) 0 := by
    intro d
    induction d with
    | zero => intro h1; exact hok.rise i h1
    | succ d ih =>
      intro h1
      have h2 := ih (by omega)
      have h3 := hok.rise (i + d + 1) (by omega)
      rw [show i + (d + 1) + 1 = i + d + 1 + 1 by omega]
      omega
  have := key (j - i - 1) (by omega)
  rwa [show i + (j - i - 1) + 1 = j by omega] at this
theorem left_sub {t : Task} (hok : t.ok) {but low high low' high' a now : Int} (h1 : low ≤ low') (h2 : low' ≤ high') (h3 : high' ≤ high) : (leftS t but low' high' a now).le (leftS t but low high a now) :=
  left_le hok hok fun j g1 g2 g3 => ⟨j, g1, g2, g3, rfl, rfl, dOf_mono hok (Int.le_refl _) h1 h2 h3⟩
/-- With a cut more: which band a band is a part of. -/
theorem fin_sub {t : Task} (hok : t.ok) {p : Nat} {c : Int} (hp : p < t.nc) (hlt : ∀ k, k < p → t.ca k 0 < c) (hc : c < t.ca p 0) (h1 : 1 ≤ c) {g : Nat → Nat → Int} (hg : ∀ j, j < t.nc + 1 → g j 0 = finA t p c j) {k : Nat} (hk : k < t.nc + 1) :
    lowS t (if k ≤ p then k else k - 1) ≤ lowS (t.cut (t.nc + 1) g) k ∧ lowS (t.cut (t.nc + 1) g) k ≤ g k 0 - 1 ∧ g k 0 ≤ t.ca (if k ≤ p then k else k - 1) 0 ∧ (if k ≤ p then k else k - 1) < t.nc := by
  have e : lowS (t.cut (t.nc + 1) g) k = if k = 0 then 0 else g (k - 1) 0 := rfl
  rw [e, hg k hk]
  have e2 : (if k = 0 then (0 : Int) else g (k - 1) 0) = if k = 0 then 0 else finA t p c (k - 1) := by
    split
    · rfl
    · rw [hg _ (by omega)]
  rw [e2]
  have up := fun i j (h : i < j) (hj : j < t.nc) => cuts_up hok h hj
  unfold lowS finA
  rcases Nat.lt_trichotomy k p with g1 | rfl | g1
  · rw [if_pos (by omega : k ≤ p), if_pos g1]
    by_cases k0 : k = 0
    · subst k0
      have := (hok.cut 0 (by omega)).1
      simp only [if_true]
      omega
    · have := up (k - 1) k (by omega) (by omega)
      rw [if_neg k0, if_neg k0, if_pos (by omega : k - 1 < p)]
      omega
  · rw [if_pos (Nat.le_refl k), if_neg (Nat.lt_irrefl k), if_pos rfl]
    by_cases k0 : k = 0
    · subst k0
      simp only [if_true]
      omega
    · have := hlt (k - 1) (by omega)
      rw [if_neg k0, if_neg k0, if_pos (by omega : k - 1 < k)]
      omega
  · rw [if_neg (by omega : ¬ k ≤ p), if_neg (by omega : ¬ k < p), if_neg (by omega : ¬ k = p), if_neg (by omega : ¬ k = 0)]
    by_cases k1 : k = p + 1
    · subst k1
      rw [if_neg (by omega : ¬ p + 1 - 1 < p), if_pos (by omega : p + 1 - 1 = p), Nat.add_sub_cancel]
      by_cases p0 : p = 0
      · rw [if_pos p0]; omega
      · have := hlt (p - 1) (by omega)
        rw [if_neg p0]; omega
    · have := up (k - 1 - 1) (k - 1) (by omega) (by omega)
      rw [if_neg (by omega : ¬ k - 1 < p), if_neg (by omega : ¬ k - 1 = p), if_neg (by omega : ¬ k - 1 = 0)]
      omega
theorem finer {t : Task} (ht : checkE t = 0) {a now : Int} {p : Nat} {c : Int} (hp : p < t.nc) (hlt : ∀ k, k < p → t.ca k 0 < c) (hc : c < t.ca p 0) (h1 : 1 ≤ c) {g : Nat → Nat → Int} (hg : ∀ j, j < t.nc + 1 → g j 0 = finA t p c j)
    (h : agreedT (t.cut (t.nc + 1) g) a now = true) : agreedT t a now = true ∧ coversT t.nc (bandA t a now) (t.nc + 1) (bandA (t.cut (t.nc + 1) g) a now) = (true, 0) := by
  have hok := check_ok ht
  have hbu := agreedT_bands h
  obtain ⟨hu, ha, hn, hag⟩ := agreedT_iff.1 h
  have hag : ∀ k, k < t.nc + 1 → agreeS (t.cut (t.nc + 1) g) (lowS (t.cut (t.nc + 1) g) k) (g k 0 - 1) a now = true := hag
  have sub := fun k (hk : k < t.nc + 1) => fin_sub hok hp hlt hc h1 hg hk
  have hle : ∀ k, k < t.nc + 1 → (leftS t (-1) (lowS (t.cut (t.nc + 1) g) k) (g k 0 - 1) a now).le (leftS t (-1) (lowS t (if k ≤ p then k else k - 1)) (t.ca (if k ≤ p then k else k - 1) 0 - 1) a now) := fun k hk => by
    obtain ⟨s1, s2, s3, s4⟩ := sub k hk
    exact left_sub hok s1 s2 (by omega)
  have hagt : ∀ i, i < t.nc → agreeS t (lowS t i) (t.ca i 0 - 1) a now = true := fun i hi => by
    have key : ∀ k, k < t.nc + 1 → (if k ≤ p then k else k - 1) = i → agreeS t (lowS t i) (t.ca i 0 - 1) a now = true := fun k hk e => by
      have h2 := hle k hk
      rw [e] at h2
      refine Left.le_agree h2 ?_
      have h3 := hag k hk
      rw [agreeS_cut] at h3
      exact h3
    by_cases e : i ≤ p
    · exact key i (by omega) (if_pos e)
    · exact key (i + 1) (by omega) (by rw [if_neg (by omega)]; omega)
  have hbt : agreedT t a now = true := agreedT_iff.2 ⟨ht, ha, hn, hagt⟩
  refine ⟨hbt, ?_⟩
  have c1 := bands_check (t := t) (a := a) (now := now) (by rw [agreedT_bands hbt])
  have c2 := bands_check (t := t.cut (t.nc + 1) g) (a := a) (now := now) (by rw [hbu])
  have hb := bands_ok c1
  show coversT t.nc (bandA t a now) (t.cut (t.nc + 1) g).nc (bandA (t.cut (t.nc + 1) g) a now) = (true, 0)
  rw [covT_mk c1 c2, covB_true]
  refine ⟨?_, fun i k hi hk hm => ?_⟩
  · show g (t.nc + 1 - 1) 0 ≤ t.ca (t.nc - 1) 0
    rw [Nat.add_sub_cancel, hg _ (by omega)]
    unfold finA
    rw [if_neg (by omega), if_neg (by omega)]
    exact Int.le_refl _
  · have hk : k < t.nc + 1 := hk
    obtain ⟨s1, s2, s3, s4⟩ := sub k hk
    have hm : max (lowS t i) (lowS (t.cut (t.nc + 1) g) k) < min (t.ca i 0) (g k 0) := hm
    obtain rfl : i = if k ≤ p then k else k - 1 := meet_one hb hi s4 (by
      show max (lowS t i) (lowS t _) < min (t.ca i 0) (t.ca _ 0)
      omega)
    have h2 := hle k hk
    have e1 : ansB t a now (if k ≤ p then k else k - 1) = (leftS t (-1) (lowS t (if k ≤ p then k else k - 1)) (t.ca (if k ≤ p then k else k - 1) 0 - 1) a now, true) := answer_agree (hagt _ s4)
    have e2 : ansB (t.cut (t.nc + 1) g) a now k = (leftS t (-1) (lowS (t.cut (t.nc + 1) g) k) (g k 0 - 1) a now, true) := (answer_agree (hag k hk)).trans (by rw [leftS_cut])
    unfold inB
    simp only [bandA, e1, e2]
    exact h2
theorem fin_two {t : Task} {p : Nat} {c : Int} {i n : Nat} (e : p = i) (hn : n = i) {a b : Nat} (ha : a < i + 2) (hb : b < 1) :
    (if a < n + 1 then (if a < n then V.D.int .i64 (finA t p c a) else [V.D.int .i64 c].getD ((a - n) * 1 + b) .top) else [V.D.int .i64 (t.ca i 0)].getD ((a - (n + 1)) * 1 + b) .top) = .int .i64 (finA t p c a) := by
  subst e; subst hn
  obtain rfl : b = 0 := by omega
  unfold finA
  split
  · split
    · rfl
    · obtain rfl : a = n := by omega
      simp
  · obtain rfl : a = n + 1 := by omega
    rw [if_neg (by omega), if_neg (by omega)]
    simp
theorem fin_one {t : Task} {p : Nat} {c : Int} {i n : Nat} (e : p ≠ i) (hn : n = finN p i) {a b : Nat} (ha : a < finN p i + 1) (hb : b < 1) :
    (if a < n then V.D.int .i64 (finA t p c a) else [V.D.int .i64 (t.ca i 0)].getD ((a - n) * 1 + b) .top) = .int .i64 (finA t p c a) := by
  subst hn
  obtain rfl : b = 0 := by omega
  split
  · rfl
  · obtain rfl : a = finN p i := by omega
    unfold finA finN
    by_cases g : i ≤ p
    · simp only [if_pos g]
      rw [if_pos (by omega)]
      simp
    · simp only [if_neg g]
      rw [if_neg (by omega), if_neg (by omega)]
      simp
theorem not_false_of {b : Bool} (h : (!b) = false) : b = true := by simpa using h
theorem agreedN_of {t : Task} {a now : Int} (h : agreedT t a now = true) : agreedN t a now = t.nc := if_pos h
theorem cov_eq {t : Task} {a now : Int} {n : Nat} {g : Nat → Nat → Int} {v : Bool × Int} (e : n = t.nc + 1) (e1 : agreedN t a now = t.nc) (e2 : agreedN (t.cut (t.nc + 1) g) a now = t.nc + 1) (h : coversT t.nc (bandA t a now) (t.nc + 1) (bandA (t.cut (t.nc + 1) g) a now) = v) :
    coversT (agreedN t a now) (bandA t a now) (agreedN (t.cut n g) a now) (bandA (t.cut n g) a now) = v := by
  rw [e, e1, e2]
  exact h
attribute [local irreducible] checkBands overT coversT covB bandsT bandA agreedT checkS agreedN
noncomputable def Lless : Libs := ⟨lib40, [(55, lockC (mk rAgreed))], [], []⟩
theorem Lless_ok : LibsOK Go.Proofs.Try.prog Lless := ⟨lib40_ok, asGet_cons (csound_lock agreed_ok) (fun _ _ h => by cases h), (fun _ _ h => by cases h), fun _ _ h => by cases h⟩
def rLFiner : List V.D → Option (Prop × V.D) := fun ds => match ds with
  | [d, .agg [.int .i64 x0, .int .i64 x1], .int .u32 w] => some (TaskIs d ∧ (taskOf d).fits ∧ (0 ≤ w ∧ w ≤ 4294967295), .tt)
  | _ => none
theorem lawFiner_ok : PSound Go.Proofs.Try.prog 17 (mk rLFiner) := by
  refine psound_mk Try.func17 (by kernel_rfl) rfl (ctxA Lless_ok) ?_
  (intro ds p d h; unfold rLFiner at h; split at h <;> first | (cases h; done) | skip; cases h; refine ⟨Nat.le_of_ble_eq_true rfl, fun hp k hk => ?_⟩)
  rename_i d x0 x1 w
  obtain ⟨ht, hf, hw⟩ := hp
  refine ⟨[(taskOf d).D, .agg [.int .i64 x0, .int .i64 x1], .int .u32 w], task_imp ht ⟨rfl, rfl, rfl, ?_⟩⟩
  clear ht
  generalize taskOf d = t at *
  have B2 := agreedN_le20 t
  have C : checkE t = 0 → t.nc ≤ 20 ∧ (t.ca ((t.nc : Int) - 1).toNat 0 ≤ 100000000) ∧ (2 ≤ t.ca ((t.nc : Int) - 1).toNat 0 → (1 ≤ 1 + w.tmod (t.ca ((t.nc : Int) - 1).toNat 0 - 1) ∧ 1 + w.tmod (t.ca ((t.nc : Int) - 1).toNat 0 - 1) < t.ca ((t.nc : Int) - 1).toNat 0) ∧ ∃ p, p < t.nc ∧ (∀ k, k < p → t.ca k 0 < 1 + w.tmod (t.ca ((t.nc : Int) - 1).toNat 0 - 1)) ∧ 1 + w.tmod (t.ca ((t.nc : Int) - 1).toNat 0 - 1) ≤ t.ca p 0) := fun h => by
    have hok := check_ok h
    have hnc := hok.nc
    have e : ((t.nc : Int) - 1).toNat = t.nc - 1 := by omega
    rw [e]
    refine ⟨hnc.2, (hok.cut (t.nc - 1) (by omega)).2, fun h2 => ?_⟩
    have w1 := Int.tmod_nonneg (t.ca (t.nc - 1) 0 - 1) hw.1
    have w2 := Int.tmod_lt_of_pos w (show 0 < t.ca (t.nc - 1) 0 - 1 by omega)
    exact ⟨by omega, cut_place (by omega) (by omega)⟩
  have CE : (checkS t).2.2 = 0 → checkE t = 0 := fun h => h
  repeat' (first | ((with_reducible refine kok ?_); kernel_rfl) | ((with_reducible refine keq_mk ?_); kernel_rfl) | with_reducible rfl | ((conv => whnf); first | (with_reducible exact trivial) | ((with_reducible refine and_ff ?_ ?_); · exact rfl) | ((with_reducible refine and_tt ?_ ?_); · exact rfl) | (with_reducible refine And.intro ?_ ?_) | intro _ | (with_reducible refine fin2 hk ?_) | ((with_reducible refine eq_leaf ?_); exact rfl) | exact trivial))
  all_goals try exact hf _ (by assumption)
  all_goals try ((first | with_reducible refine (?_ : (_ : Int) ≤ _) | with_reducible refine (?_ : (_ : Int) < _) | with_reducible refine (?_ : (_ : Nat) < _) | with_reducible refine (?_ : (_ : Nat) ≤ _)); clear hk; first | omega | (simp only [taskOf_agg, ↓Bool.not_eq_true', ↓Bool.not_eq_false', ↓decT, ↓decF, out_true, out_false, isin_true, isin_false, Int.toNat_natCast, Int.ofNat_lt, Nat.zero_add, Nat.add_zero, Nat.reduceAdd] at *; have c1 := C (CE (by assumption)); omega))
  all_goals try conv => whnf
  · rename_i g1 g2 g3 g4
    simp only [taskOf_agg, ↓Bool.not_eq_true', ↓Bool.not_eq_false', ↓decT, ↓decF, out_true, out_false, isin_true, isin_false, Int.toNat_natCast, Int.ofNat_lt, Nat.zero_add, Nat.add_zero, Nat.reduceAdd] at *
    omega
  rename_i g1 g2 g3
  simp only [taskOf_agg, ↓Bool.not_eq_true', ↓Bool.not_eq_false', ↓decT, ↓decF, out_true, out_false, isin_true, isin_false, Int.toNat_natCast, Int.ofNat_lt, Nat.zero_add, Nat.add_zero, Nat.reduceAdd] at g1 g2 g3
  have ht : checkE t = 0 := g1
  obtain ⟨hn20, hm, c2⟩ := C ht
  obtain ⟨⟨c3, c4⟩, p, hp, hlt, hge⟩ := c2 (by omega)
  clear C CE B2
  have hok := check_ok ht
  generalize hc : 1 + w.tmod (t.ca ((t.nc : Int) - 1).toNat 0 - 1) = c at *
  refine ⟨Nat, fun i => [(3, .ptr 0 0), (4, .ptr 1 0), (10, .int .i64 c), (11, .ptr 2 0), (12, .int .i64 i)],
    fun i => [some (taskRow t), some (.row [.int .i64 x0, .int .i64 x1]), some (.row [.rsl 7 t.ns (smD t.nm t.sa), .rsl 5 t.nx (imD t.xa), .own 3 (finN p i), .int .i64 t.age, .int .i64 t.shear]), some (.buf 3 1 (finN p i) (fun j _ => .int .i64 (finA t p c j)))],
    fun i => t.nc - i, fun i => i ≤ t.nc ∧ (p < i → c < t.ca p 0), [(3, 1)], 0, fun _ => ⟨?_, ?_⟩, ?_, fun i hi => ?_⟩
  · conv => lhs; whnf
  · conv => lhs; whnf
  · clear hk
    repeat' (first | ((with_reducible refine kok ?_); kernel_rfl) | ((with_reducible refine keq_mk ?_); kernel_rfl) | with_reducible rfl | ((conv => whnf); first | (with_reducible exact trivial) | ((with_reducible refine and_ff ?_ ?_); · exact rfl) | ((with_reducible refine and_tt ?_ ?_); · exact rfl) | (with_reducible refine And.intro ?_ ?_) | intro _ | (with_reducible refine fin2 hk ?_) | ((with_reducible refine eq_leaf ?_); exact rfl) | exact trivial))
    all_goals first
      | exact Nat.zero_le _
      | (rename_i a b ha hb; exact absurd ha (Nat.not_lt_zero a))
      | (rename_i h; exact absurd h (Nat.not_lt_zero p))
  obtain ⟨hi, hpc⟩ := hi
  have hfn : finN p i ≤ i + 1 := by unfold finN; split <;> omega
  have hpi : (∀ k, k < t.nc → p ≤ k → c ≤ t.ca k 0) := fun k hk hpk => by
    rcases Nat.eq_or_lt_of_le hpk with rfl | h
    · exact hge
    · have := cuts_up hok h hk
      omega
  repeat' (first | ((with_reducible refine kok ?_); kernel_rfl) | ((with_reducible refine keq_mk ?_); kernel_rfl) | with_reducible rfl | ((conv => whnf); first | (with_reducible exact trivial) | ((with_reducible refine and_ff ?_ ?_); · exact rfl) | ((with_reducible refine and_tt ?_ ?_); · exact rfl) | (with_reducible refine And.intro ?_ ?_) | intro _ | (with_reducible refine fin2 hk ?_) | ((with_reducible refine eq_leaf ?_); exact rfl) | exact trivial))
  all_goals try exact hf _ (by assumption)
  all_goals try ((first | with_reducible refine (?_ : (_ : Int) ≤ _) | with_reducible refine (?_ : (_ : Int) < _) | with_reducible refine (?_ : (_ : Nat) < _) | with_reducible refine (?_ : (_ : Nat) ≤ _)); clear hk; first | omega | (simp only [taskOf_agg, ↓Bool.not_eq_true', ↓Bool.not_eq_false', ↓decT, ↓decF, out_true, out_false, isin_true, isin_false, Int.toNat_natCast, Int.ofNat_lt, Nat.zero_add, Nat.add_zero, Nat.reduceAdd] at *; omega))
  all_goals try conv => whnf
  rotate_right 3
  all_goals try (rename_i h1 h2; clear hk; exact absurd h1 h2)
  · rename_i g4 g5 g6
    clear hk
    simp only [taskOf_agg, ↓Bool.not_eq_true', ↓Bool.not_eq_false', ↓decT, ↓decF, out_true, out_false, isin_true, isin_false, Int.toNat_natCast, Int.ofNat_lt, Nat.zero_add, Nat.add_zero, Nat.reduceAdd] at g4
    obtain rfl : i = t.nc := by omega
    have e : finN p t.nc = t.nc + 1 := by unfold finN; rw [if_neg (by omega)]
    have hag : agreedT (t.cut (t.nc + 1) (im fun j _ => V.D.int .i64 (finA t p c j))) x0 x1 = true := by
      rw [← e]
      exact not_false_of g5
    have q := (finer ht hp hlt (hpc hp) c3 (g := im fun j _ => V.D.int .i64 (finA t p c j)) (fun j _ => rfl) hag).1
    exact absurd (g6.symm.trans (congrArg Bool.not q)) (by decide)
  · rename_i g4 g5 g6 g7 g8
    clear hk
    simp only [taskOf_agg, ↓Bool.not_eq_true', ↓Bool.not_eq_false', ↓decT, ↓decF, out_true, out_false, isin_true, isin_false, Int.toNat_natCast, Int.ofNat_lt, Nat.zero_add, Nat.add_zero, Nat.reduceAdd] at g4
    obtain rfl : i = t.nc := by omega
    have e : finN p t.nc = t.nc + 1 := by unfold finN; rw [if_neg (by omega)]
    have hag : agreedT (t.cut (t.nc + 1) (im fun j _ => V.D.int .i64 (finA t p c j))) x0 x1 = true := by
      rw [← e]
      exact not_false_of g5
    have q := finer ht hp hlt (hpc hp) c3 (g := im fun j _ => V.D.int .i64 (finA t p c j)) (fun j _ => rfl) hag
    have e1 := agreedN_of q.1
    have e2 := agreedN_of hag
    exact Bool.noConfusion ((congrArg Prod.fst (cov_eq e e1 e2 q.2)).symm.trans g8)
  · rename_i g4 g5 g6 g7
    clear hk
    simp only [taskOf_agg, ↓Bool.not_eq_true', ↓Bool.not_eq_false', ↓decT, ↓decF, out_true, out_false, isin_true, isin_false, Int.toNat_natCast, Int.ofNat_lt, Nat.zero_add, Nat.add_zero, Nat.reduceAdd] at g4
    obtain rfl : i = t.nc := by omega
    have e : finN p t.nc = t.nc + 1 := by unfold finN; rw [if_neg (by omega)]
    have hag : agreedT (t.cut (t.nc + 1) (im fun j _ => V.D.int .i64 (finA t p c j))) x0 x1 = true := by
      rw [← e]
      exact not_false_of g5
    have q := finer ht hp hlt (hpc hp) c3 (g := im fun j _ => V.D.int .i64 (finA t p c j)) (fun j _ => rfl) hag
    have e1 := agreedN_of q.1
    have e2 := agreedN_of hag
    exact absurd (congrArg Prod.snd (cov_eq e e1 e2 q.2)) (of_decide_eq_false g7)
  all_goals have hp1 : ((i : Int) - 1).toNat = i - 1 := by omega
  all_goals simp only [taskOf_agg, ↓Bool.not_eq_true', ↓Bool.not_eq_false', ↓decT, ↓decF, out_true, out_false, isin_true, isin_false, Int.toNat_natCast, Int.ofNat_lt, Nat.zero_add, Nat.add_zero, Nat.reduceAdd, hp1] at *
  all_goals clear hk
  · rename_i g4 g5 g6 g7
    have e : p = i := by
      rcases Nat.lt_trichotomy p i with h | h | h
      · omega
      · exact h
      · have := hlt i h; omega
    have e1 : finN p i = i := by unfold finN; rw [if_pos (by omega)]
    have e2 : finN p (i + 1) = i + 2 := by unfold finN; rw [if_neg (by omega)]
    refine ⟨i + 1, ?_⟩
    repeat' (first | ((with_reducible refine kok ?_); kernel_rfl) | ((with_reducible refine keq_mk ?_); kernel_rfl) | with_reducible rfl | ((conv => whnf); first | (with_reducible exact trivial) | ((with_reducible refine and_ff ?_ ?_); · exact rfl) | ((with_reducible refine and_tt ?_ ?_); · exact rfl) | (with_reducible refine And.intro ?_ ?_) | intro _ | (with_reducible refine fin2 hk ?_) | ((with_reducible refine eq_leaf ?_); exact rfl) | exact trivial))
    all_goals first
      | omega
      | (simp only; omega)
      | (rename_i a b ha hb; rw [e2] at ha; exact fin_two e e1 ha hb)
      | (rename_i h; rw [e]; exact g6)
  · rename_i g4 g5 g6 g7 g8
    have e : p = i := by
      rcases Nat.lt_trichotomy p i with h | h | h
      · have := hpi (i - 1) (by omega) (by omega); omega
      · exact h
      · have := hlt i h; omega
    have e1 : finN p i = i := by unfold finN; rw [if_pos (by omega)]
    have e2 : finN p (i + 1) = i + 2 := by unfold finN; rw [if_neg (by omega)]
    refine ⟨i + 1, ?_⟩
    repeat' (first | ((with_reducible refine kok ?_); kernel_rfl) | ((with_reducible refine keq_mk ?_); kernel_rfl) | with_reducible rfl | ((conv => whnf); first | (with_reducible exact trivial) | ((with_reducible refine and_ff ?_ ?_); · exact rfl) | ((with_reducible refine and_tt ?_ ?_); · exact rfl) | (with_reducible refine And.intro ?_ ?_) | intro _ | (with_reducible refine fin2 hk ?_) | ((with_reducible refine eq_leaf ?_); exact rfl) | exact trivial))
    all_goals first
      | omega
      | (simp only; omega)
      | (rename_i a b ha hb; rw [e2] at ha; exact fin_two e e1 ha hb)
      | (rename_i h; rw [e]; exact g6)
  · rename_i g4 g5 g6 g7 g8
    have e : p < i := by
      rcases Nat.lt_or_ge p i with h | h
      · exact h
      · have := hlt (i - 1) (by omega); omega
    have e1 : finN p i = i + 1 := by unfold finN; rw [if_neg (by omega)]
    have e2 : finN p (i + 1) = i + 2 := by unfold finN; rw [if_neg (by omega)]
    refine ⟨i + 1, ?_⟩
    repeat' (first | ((with_reducible refine kok ?_); kernel_rfl) | ((with_reducible refine keq_mk ?_); kernel_rfl) | with_reducible rfl | ((conv => whnf); first | (with_reducible exact trivial) | ((with_reducible refine and_ff ?_ ?_); · exact rfl) | ((with_reducible refine and_tt ?_ ?_); · exact rfl) | (with_reducible refine And.intro ?_ ?_) | intro _ | (with_reducible refine fin2 hk ?_) | ((with_reducible refine eq_leaf ?_); exact rfl) | exact trivial))
    all_goals first
      | omega
      | (simp only; omega)
      | (rename_i a b ha hb; exact fin_one (by omega) rfl (by omega) hb)
      | exact hpc (by omega)
  · rename_i g4 g5 g6
    have e : i < p := by
      rcases Nat.lt_or_ge i p with h | h
      · exact h
      · have := hpi i (by omega) h; omega
    have e1 : finN p i = i := by unfold finN; rw [if_pos (by omega)]
    have e2 : finN p (i + 1) = i + 1 := by unfold finN; rw [if_pos (by omega)]
    refine ⟨i + 1, ?_⟩
    repeat' (first | ((with_reducible refine kok ?_); kernel_rfl) | ((with_reducible refine keq_mk ?_); kernel_rfl) | with_reducible rfl | ((conv => whnf); first | (with_reducible exact trivial) | ((with_reducible refine and_ff ?_ ?_); · exact rfl) | ((with_reducible refine and_tt ?_ ?_); · exact rfl) | (with_reducible refine And.intro ?_ ?_) | intro _ | (with_reducible refine fin2 hk ?_) | ((with_reducible refine eq_leaf ?_); exact rfl) | exact trivial))
    all_goals first
      | omega
      | (simp only; omega)
      | (rename_i a b ha hb; exact fin_one (by omega) rfl (by omega) hb)
      | (rename_i h; omega)
end Go.Proofs.Ytbkehkiflfhpfaa
end
section
set_option linter.unusedVariables false
set_option linter.unusedSimpArgs false
set_option maxRecDepth 100000
namespace Go.Proofs.Ytbkehkiflfhpfaa
open Go.V

theorem windFiner_lifted (os : Os) (started : os.Started) (H : Type) (enc : TypeId × Value → H) :
    ReturnsInHanded {} Try.checked os 17 .any (Rows.windFinerSpec.pre6 enc Go.Proofs.Try.prog Try.f17 Rows.windFinerRow.domain false) (Rows.windFinerSpec.post enc Go.Proofs.Try.prog Try.f17 false Rows.windFinerRow.fresh Rows.windFinerRow.handsOn Rows.windFinerRow.again) := by
  refine returnsInHanded_of_change (C := Try.checked) own started (by kernel_rfl) Try.func17
    (ChangeSpec.witness6 (enc := enc) (C := Try.checked) false ⟨#[], #[.agg #[.slice none 0 0, .slice none 0 0, .slice none 0 0, .int .i64 0, .int .i64 0], .agg #[.int .i64 0, .int .i64 0], .int .u32 0], []⟩ 8 (by kernel_rfl) (by kernel_rfl) (by kernel_rfl) (by kernel_rfl)) ?_
  intro W base args ds gs before hok hW _ _
  refine law_contract (l := [taskK, .agg [.int .i64, .int .i64], .one (.int .u32)]) (tb := 4) laid_ok lawFiner_ok (by kernel_rfl) (by kernel_rfl) rfl tbool (fun ds h => ?_) rfl (fun ds hd => ?_) W base args ds gs before hok hW
  · match ds, h with
    | [d, e, f], ⟨h1, h2, h3, _⟩ =>
      obtain ⟨g1, g2⟩ := task_of_kinds h1
      obtain ⟨xs, rfl, hl, hx⟩ := h2
      obtain ⟨w, rfl, pw⟩ := h3
      match xs, hl with
      | [y0, y1], _ =>
        obtain ⟨x0, rfl, _⟩ := hx 0 _ _ rfl rfl
        obtain ⟨x1, rfl, _⟩ := hx 1 _ _ rfl rfl
        exact ⟨_, _, rfl, ⟨g1, g2, pw⟩, .inl rfl⟩
  · match ds, hd with
    | [a, b, c], _ => exact ⟨rfl, rfl, rfl⟩
theorem windFiner_holds : Rows.WindFinerSaid :=
  OpenClaim.holds_of_wide 17 Try.f17 rfl rfl rfl rfl rfl rfl rfl ⟨rfl, rfl, rfl, rfl, rfl⟩ rfl rfl rfl rfl rfl (by kernel_rfl) Try.func17 (by kernel_rfl)
    (of_decide_eq_true (by kernel_rfl)) (by unfold Func.isWrapper; first | (rw [if_pos (by decide +kernel)]; kernel_rfl) | (rw [if_neg (by decide +kernel)]; exact ⟨rfl, rfl⟩))
    (fun os started H enc _ => windFiner_lifted os started H enc)
#print axioms windFiner_holds
end Go.Proofs.Ytbkehkiflfhpfaa
end
