/-
  The law WindPoint is proved: what At returns is what there is for a band of this height alone; if the sources agree there, they agree for the band that has it, and the spans lie in those of that band, for any task, height and ticks. No condition.
-/
import Derived.Test.YtbkehkiflfhpfaaMh
import Derived.Test.YtbkehkiflfhpfaaMc
import Derived.Test.YtbkehkiflfhpfaaMf
section
set_option linter.unusedVariables false
set_option linter.unusedSimpArgs false
set_option maxRecDepth 100000
set_option maxHeartbeats 4000000
namespace Go.Proofs.Ytbkehkiflfhpfaa
open Go.V

/-- A task with other cuts. -/
def Task.cut (t : Task) (n : Nat) (c : Nat → Nat → Int) : Task := ⟨t.ns, t.nx, n, t.nm, t.sa, t.xa, c, t.age, t.shear⟩
theorem saysF_cut (t : Task) (n : Nat) (c : Nat → Nat → Int) (s low high a now : Int) : ∀ (k i : Nat) (w : Word), saysFrom (t.cut n c) s low high a now i w k = saysFrom t s low high a now i w k
  | 0, i, w => rfl
  | k + 1, i, w => by
    rw [saysFrom, saysFrom, saysF_cut t n c s low high a now k (i + 1)]
    rfl
theorem saysS_cut (t : Task) (n : Nat) (c : Nat → Nat → Int) (s low high a now : Int) : saysS (t.cut n c) s low high a now = saysS t s low high a now := saysF_cut t n c s low high a now _ _ _
theorem leftF_cut (t : Task) (n : Nat) (c : Nat → Nat → Int) (s low high a now : Int) : ∀ (k i : Nat) (l : Left), leftFrom (t.cut n c) s low high a now i l k = leftFrom t s low high a now i l k
  | 0, i, l => rfl
  | k + 1, i, l => by
    rw [leftFrom, leftFrom, leftF_cut t n c s low high a now k (i + 1)]
    unfold leftStep
    rw [saysS_cut]
theorem leftS_cut (t : Task) (n : Nat) (c : Nat → Nat → Int) (s low high a now : Int) : leftS (t.cut n c) s low high a now = leftS t s low high a now := leftF_cut t n c s low high a now _ _ _
theorem agreeS_cut (t : Task) (n : Nat) (c : Nat → Nat → Int) (low high a now : Int) : agreeS (t.cut n c) low high a now = agreeS t low high a now := by
  unfold agreeS
  rw [leftS_cut]
theorem blameF_cut (t : Task) (n : Nat) (c : Nat → Nat → Int) (low high a now : Int) : ∀ (k i : Nat) (l : List Int), blameFrom (t.cut n c) low high a now i l k = blameFrom t low high a now i l k
  | 0, i, l => rfl
  | k + 1, i, l => by
    rw [blameFrom, blameFrom, blameF_cut t n c low high a now k (i + 1)]
    unfold blameStep
    rw [leftS_cut]
theorem blameS_cut (t : Task) (n : Nat) (c : Nat → Nat → Int) (low high a now : Int) : blameS (t.cut n c) low high a now = blameS t low high a now := by
  unfold blameS
  rw [agreeS_cut]
  split
  · rfl
  · exact blameF_cut t n c low high a now _ _ _
theorem fe_zero_mk {e : Nat → Int} : ∀ {n i : Nat}, (∀ j, i ≤ j → j < i + n → e j = 0) → fe e i n = (0, 0)
  | 0, i, _ => rfl
  | n + 1, i, h => by
    rw [fe, if_neg (fun g => g (h i (Nat.le_refl _) (by omega)))]
    exact fe_zero_mk fun j h1 h2 => h j (by omega) (by omega)
theorem check_cut {t : Task} (h : (checkS t).2.2 = 0) {n : Nat} {c : Nat → Nat → Int} (hn : 1 ≤ n ∧ n ≤ 20) (hc : ∀ i, i < n → 1 ≤ c i 0 ∧ c i 0 ≤ 100000000) (hr : ∀ i, i + 1 < n → c i 0 < c (i + 1) 0) : checkS (t.cut n c) = (0, 0, 0) := by
  have hok := check_ok h
  unfold checkS at h ⊢
  split at h
  · cases h
  rename_i hl
  obtain ⟨h1, h⟩ := pickE_zero h
  obtain ⟨h2, h⟩ := pickE_zero h
  obtain ⟨h3, h4⟩ := pickE_zero h
  rw [if_neg]
  · have s1 := fun j (hj : j < t.ns) => fe_zero h1 j (Nat.zero_le j) (by omega : j < 0 + t.ns)
    have s2 := fun j (hj : j < t.nx) => fe_zero h2 j (Nat.zero_le j) (by omega : j < 0 + t.nx)
    have e1 : fe (srcErr (t.cut n c)) 0 (t.cut n c).ns = (0, 0) := fe_zero_mk fun j _ hj => s1 j (by have : (t.cut n c).ns = t.ns := rfl; omega)
    have e2 : fe (sndErr (t.cut n c)) 0 (t.cut n c).nx = (0, 0) := fe_zero_mk fun j _ hj => s2 j (by have : (t.cut n c).nx = t.nx := rfl; omega)
    have e3 : fe (cutErr (t.cut n c)) 0 (t.cut n c).nc = (0, 0) := fe_zero_mk fun j _ hj => by
      have hj' : j < n := by have : (t.cut n c).nc = n := rfl; omega
      have g1 := hc j hj'
      show (if isin (c j 0) 1 100000000 = false then 7 else if 0 < j ∧ c j 0 ≤ c (j - 1) 0 then 2 else 0) = (0 : Int)
      rw [if_neg (by rw [isin_false]; omega), if_neg]
      rintro ⟨q1, q2⟩
      have g2 := hr (j - 1) (by omega)
      rw [show j - 1 + 1 = j by omega] at g2
      omega
    rw [e1]
    show check2 (t.cut n c) = _
    unfold check2
    rw [e2]
    show check3 (t.cut n c) = _
    unfold check3
    rw [e3]
    show check4 (t.cut n c) = _
    have ha := hok.age
    have hs := hok.shear
    unfold check4
    rw [if_pos]
    show (isin t.age 0 1000 && isin t.shear 0 1000) = true
    simp only [isin, Bool.and_eq_true, decide_eq_true_eq]
    omega
  · intro hl'
    have g1 := hok.ns
    have g2 := hok.nx
    have e1 : (t.cut n c).ns = t.ns := rfl
    have e2 : (t.cut n c).nx = t.nx := rfl
    have e3 : (t.cut n c).nc = n := rfl
    simp only [tooLong, isin, Bool.or_eq_true, decide_eq_true_eq, Bool.not_eq_true', Bool.and_eq_false_iff, decide_eq_false_iff_not, e1, e2, e3] at hl'
    omega

/-- What is there for a height is there for each band that has it. -/
theorem left_band {t : Task} (hok : t.ok) {but low high x a now : Int} (h1 : low ≤ x) (h2 : x ≤ high) : (leftS t but x x a now).le (leftS t but low high a now) :=
  left_le hok hok fun j g1 g2 g3 => ⟨j, g1, g2, g3, rfl, rfl, dOf_mono hok (Int.le_refl _) h1 (Int.le_refl _) h2⟩
theorem answer_iff {t : Task} {low high a now : Int} : (answerS t low high a now).2 = true ↔ agreeS t low high a now = true ∨ (blameS t low high a now).length = 1 := by
  unfold answerS
  by_cases g : agreeS t low high a now = true
  · rw [if_pos g]
    exact ⟨fun _ => .inl g, fun _ => g⟩
  · rw [if_neg g]
    by_cases g2 : (blameS t low high a now).length = 1
    · rw [if_neg (fun h => h g2)]
      exact ⟨fun _ => .inr g2, fun _ => blame_agree g2⟩
    · rw [if_pos g2]
      exact ⟨fun h => (by cases h), fun h => by rcases h with h | h; exact absurd h g; exact absurd h g2⟩

/-- What At returns. -/
theorem at_bad {t : Task} {h a now : Int} (h1 : (atT t h a now).2 ≠ 0) (h2 : (atT t h a now).2 ≠ 9) : (atT t h a now).1 = left00 := by
  unfold atT at h1 ⊢
  split
  · rfl
  split
  · rfl
  split
  · rfl
  · rename_i g1 g2 g3
    rw [if_neg g1, if_neg g2, if_neg g3] at h1
    exact absurd rfl h1
theorem check_not9 {t : Task} : checkE t ≠ 9 := by
  have e1 : ∀ i, srcErr t i = 6 ∨ srcErr t i = 5 ∨ srcErr t i = 2 ∨ srcErr t i = 7 ∨ srcErr t i = 0 := fun i => by
    unfold srcErr; split; exact .inl rfl; split; exact .inr (.inl rfl); split; exact .inr (.inr (.inl rfl)); split; exact .inr (.inr (.inr (.inl rfl))); exact .inr (.inr (.inr (.inr rfl)))
  have e2 : ∀ i, sndErr t i = 4 ∨ sndErr t i = 7 ∨ sndErr t i = 5 ∨ sndErr t i = 2 ∨ sndErr t i = 0 := fun i => by
    unfold sndErr; split; exact .inl rfl; split; exact .inr (.inl rfl); split; exact .inr (.inr (.inl rfl)); split; exact .inr (.inr (.inr (.inl rfl))); exact .inr (.inr (.inr (.inr rfl)))
  have e3 : ∀ i, cutErr t i = 7 ∨ cutErr t i = 2 ∨ cutErr t i = 0 := fun i => by
    unfold cutErr; split; exact .inl rfl; split; exact .inr (.inl rfl); exact .inr (.inr rfl)
  have hf : ∀ (e : Nat → Int) (_ : ∀ i, e i ≠ 9) (n i : Nat), (fe e i n).2 ≠ 9 := by
    intro e he n
    induction n with
    | zero => intro i; exact (by decide : (0 : Int) ≠ 9)
    | succ n ih =>
      intro i
      unfold fe
      split
      · exact he i
      · exact ih (i + 1)
  have hp : ∀ (p : Int) (q : Int × Int) (r : Int × Int × Int), q.2 ≠ 9 → r.2.2 ≠ 9 → (pickE p q r).2.2 ≠ 9 := fun p q r h1 h2 => by
    unfold pickE
    split
    · exact h1
    · exact h2
  unfold checkE checkS
  split
  · exact (by decide : (3 : Int) ≠ 9)
  refine hp _ _ _ (hf _ (fun i => by have := e1 i; omega) _ _) ?_
  refine hp _ _ _ (hf _ (fun i => by have := e2 i; omega) _ _) ?_
  refine hp _ _ _ (hf _ (fun i => by have := e3 i; omega) _ _) ?_
  unfold check4
  split
  · exact (by decide : (0 : Int) ≠ 9)
  · exact (by decide : (7 : Int) ≠ 9)
theorem at_ok {t : Task} {h a now : Int} (h1 : (atT t h a now).2 = 0 ∨ (atT t h a now).2 = 9) : checkE t = 0 ∧ (0 ≤ h ∧ h ≤ 99999999) ∧ (0 ≤ a ∧ a ≤ 100000) ∧ (0 ≤ now ∧ now ≤ 100000) ∧ ((atT t h a now).2 = 0 ↔ (answerS t h h a now).2 = true) ∧ ((atT t h a now).2 = 0 → (atT t h a now).1 = (answerS t h h a now).1) := by
  unfold atT at h1 ⊢
  split at h1
  · rename_i g
    have := check_not9 (t := t)
    simp only at h1
    omega
  rename_i g1
  split at h1
  · rcases h1 with h1 | h1 <;> cases h1
  rename_i g2
  rw [if_neg g1, if_neg g2]
  have g3 : (0 ≤ h ∧ h ≤ 99999999) ∧ (0 ≤ a ∧ a ≤ 100000) ∧ (0 ≤ now ∧ now ≤ 100000) := by
    simp only [heightB, tickB, isin, Bool.not_eq_false, Bool.and_eq_true, decide_eq_true_eq] at g2
    omega
  refine ⟨Classical.not_not.mp g1, g3.1, g3.2.1, g3.2.2, ?_, ?_⟩
  · split
    · rename_i g4; rw [g4]; exact ⟨fun h => (by cases h), fun h => (by cases h)⟩
    · rename_i g4; exact ⟨fun _ => by simpa using g4, fun _ => rfl⟩
  · split
    · intro h; cases h
    · intro _; rfl
theorem blameT_cut {t : Task} (h : checkE t = 0) {x0 x1 x2 : Int} (hx : 0 ≤ x0 ∧ x0 ≤ 99999999) (h1 : 0 ≤ x1 ∧ x1 ≤ 100000) (h2 : 0 ≤ x2 ∧ x2 ≤ 100000) {n : Nat} {c : Nat → Nat → Int} (hc : (n = 1 ∧ x0 = 0 ∧ c 0 0 = x0 + 1) ∨ (n = 2 ∧ 0 < x0 ∧ c 0 0 = x0 ∧ c 1 0 = x0 + 1)) :
    blameT (t.cut n c) ((n : Int) - 1) x1 x2 = (blameS t x0 x0 x1 x2, agreeS t x0 x0 x1 x2, 0) := by
  have e : checkE (t.cut n c) = 0 := by
    unfold checkE
    rw [check_cut h (by omega) (fun i hi => ?_) (fun i hi => ?_)]
    · rcases hc with ⟨rfl, g1, g2⟩ | ⟨rfl, g1, g2, g3⟩
      · rw [show i = 0 by omega]; omega
      · have : i = 0 ∨ i = 1 := by omega
        rcases this with rfl | rfl <;> omega
    · rcases hc with ⟨rfl, g1, g2⟩ | ⟨rfl, g1, g2, g3⟩
      · omega
      · rw [show i = 0 by omega, g2, show (0 : Nat) + 1 = 1 from rfl, g3]; omega
  have hn : (t.cut n c).nc = n := rfl
  have hcc : ∀ k j, (t.cut n c).ca k j = c k j := fun _ _ => rfl
  unfold blameT
  rw [if_neg (fun g => g e), if_neg (by rw [hn, isin_false]; rcases hc with ⟨rfl, _⟩ | ⟨rfl, _⟩ <;> omega), if_neg (by simp only [tickB, isin, Bool.and_eq_false_iff, decide_eq_false_iff_not]; omega)]
  rw [blameS_cut, agreeS_cut]
  unfold lowS
  simp only [hcc]
  rcases hc with ⟨rfl, g1, g2⟩ | ⟨rfl, g1, g2, g3⟩
  · rw [show (((1 : Nat) : Int) - 1).toNat = 0 from rfl, if_pos rfl, g2, g1]; rfl
  · rw [show (((2 : Nat) : Int) - 1).toNat = 1 from rfl, if_neg (by omega), g3, show (1 : Nat) - 1 = 0 from rfl, g2, show x0 + 1 - 1 = x0 by omega]
/-- If the sources agree at a height, they agree for the band that has it, and what At says lies in what Bands says. -/
theorem point_band {t : Task} (h : checkE t = 0) {x0 x1 x2 : Int} (hx : 0 ≤ x0 ∧ x0 ≤ 99999999) (h1 : 0 ≤ x1 ∧ x1 ≤ 100000) (h2 : 0 ≤ x2 ∧ x2 ≤ 100000) (ha : agreeS t x0 x0 x1 x2 = true) {i : Nat} (hi : i < t.nc) (hu : x0 < t.ca i 0) (hl : 0 < i → t.ca (i - 1) 0 ≤ x0) :
    (blameT t i x1 x2).2.2 = 0 ∧ (blameT t i x1 x2).2.1 = true ∧ ((bandsT t x1 x2).2 = 0 → (bandsT t x1 x2).1 = t.nc ∧ (leftS t (-1) x0 x0 x1 x2).le ⟨bandA t x1 x2 i 2, bandA t x1 x2 i 3, bandA t x1 x2 i 4, bandA t x1 x2 i 5⟩) := by
  have hok := check_ok h
  have hnc := hok.nc
  have low : lowS t i ≤ x0 := by
    unfold lowS
    split
    · exact hx.1
    · exact hl (by omega)
  have hle := left_band hok (but := -1) (a := x1) (now := x2) low (by omega : x0 ≤ t.ca i 0 - 1)
  have hag : agreeS t (lowS t i) (t.ca i 0 - 1) x1 x2 = true := Left.le_agree hle ha
  have eb : blameT t i x1 x2 = (blameS t (lowS t i) (t.ca i 0 - 1) x1 x2, agreeS t (lowS t i) (t.ca i 0 - 1) x1 x2, 0) := by
    unfold blameT
    rw [if_neg (fun g => g h), if_neg (by rw [isin_false]; omega), if_neg (by simp only [tickB, isin, Bool.and_eq_false_iff, decide_eq_false_iff_not]; omega), Int.toNat_natCast]
  rw [eb]
  refine ⟨rfl, hag, fun hb => ?_⟩
  have e2 : (bandsT t x1 x2).1 = t.nc := by
    unfold bandsT at hb ⊢
    split at hb
    · rename_i g; exact absurd hb g
    split at hb
    · cases hb
    split at hb
    · cases hb
    rename_i g1 g2 g3
    rw [if_neg g1, if_neg g2, if_neg g3]
  refine ⟨e2, ?_⟩
  have e3 : ansB t x1 x2 i = (leftS t (-1) (lowS t i) (t.ca i 0 - 1) x1 x2, true) := answer_agree hag
  simp only [bandA, e3]
  exact hle
end Go.Proofs.Ytbkehkiflfhpfaa
end
section
set_option linter.unusedVariables false
set_option linter.unusedSimpArgs false
set_option maxRecDepth 100000
set_option maxHeartbeats 4000000
namespace Go.Proofs.Ytbkehkiflfhpfaa
open Go.V
attribute [local irreducible] checkS atT blameT bandsT bandA
def rLPoint : List V.D → Option (Prop × V.D) := fun ds => match ds with
  | [d, .agg [.int .i64 x0, .int .i64 x1, .int .i64 x2]] => some (TaskIs d ∧ (taskOf d).fits, .tt)
  | _ => none
noncomputable def Lpoint : Libs := ⟨lib40, [(35, lockC (mk rBlameT))], [], []⟩
theorem Lpoint_ok : LibsOK Go.Proofs.Try.prog Lpoint := ⟨lib40_ok, asGet_cons (csound_lock windBlameT_ok) (fun _ _ h => by cases h), (fun _ _ h => by cases h), fun _ _ h => by cases h⟩
theorem lawPoint_ok : PSound Go.Proofs.Try.prog 8 (mk rLPoint) := by
  refine psound_mk Try.func8 (by kernel_rfl) rfl (ctxA Lpoint_ok) ?_
  (intro ds p d h; unfold rLPoint at h; split at h <;> first | (cases h; done) | skip; cases h; refine ⟨Nat.le_of_ble_eq_true rfl, fun hp k hk => ?_⟩)
  rename_i d x0 x1 x2
  obtain ⟨ht, hf⟩ := hp
  refine ⟨[(taskOf d).D, .agg [.int .i64 x0, .int .i64 x1, .int .i64 x2]], task_imp ht ⟨rfl, rfl, rfl, ?_⟩⟩
  clear ht
  generalize taskOf d = t at *
  have A0 : (atT t x0 x1 x2).2 ≠ 0 → (atT t x0 x1 x2).2 ≠ 9 → (atT t x0 x1 x2).1 = left00 := at_bad
  have B2 : checkE t = 0 → (0 < x0 ∧ x0 ≤ 99999999) → (0 ≤ x1 ∧ x1 ≤ 100000) → (0 ≤ x2 ∧ x2 ≤ 100000) → blameT (taskOf (.agg [.rsl 7 t.ns (smD t.nm t.sa), .rsl 5 t.nx (imD t.xa), .rsl 1 2 (fun i j => [V.D.int .i64 x0, V.D.int .i64 (x0 + 1)].getD (i * 1 + j) .top), .int .i64 t.age, .int .i64 t.shear])) (((2 : Nat) : Int) - 1) x1 x2 = (blameS t x0 x0 x1 x2, agreeS t x0 x0 x1 x2, 0) :=
    fun h1 h2 h3 h4 => blameT_cut h1 (by omega) h3 h4 (n := 2) (c := im fun i j => [V.D.int .i64 x0, V.D.int .i64 (x0 + 1)].getD (i * 1 + j) .top) (.inr ⟨rfl, h2.1, rfl, rfl⟩)
  have B1 : checkE t = 0 → x0 = 0 → (0 ≤ x1 ∧ x1 ≤ 100000) → (0 ≤ x2 ∧ x2 ≤ 100000) → blameT (taskOf (.agg [.rsl 7 t.ns (smD t.nm t.sa), .rsl 5 t.nx (imD t.xa), .rsl 1 1 (fun i j => [V.D.int .i64 (x0 + 1)].getD (i * 1 + j) .top), .int .i64 t.age, .int .i64 t.shear])) (((1 : Nat) : Int) - 1) x1 x2 = (blameS t x0 x0 x1 x2, agreeS t x0 x0 x1 x2, 0) :=
    fun h1 h2 h3 h4 => blameT_cut h1 (by omega) h3 h4 (n := 1) (c := im fun i j => [V.D.int .i64 (x0 + 1)].getD (i * 1 + j) .top) (.inl ⟨rfl, h2, rfl⟩)
  have F := at_ok (t := t) (h := x0) (a := x1) (now := x2)
  repeat' (first | ((with_reducible refine kok ?_); kernel_rfl) | ((with_reducible refine keq_mk ?_); kernel_rfl) | with_reducible rfl | ((conv => whnf); first | (with_reducible exact trivial) | ((with_reducible refine and_ff ?_ ?_); · exact rfl) | ((with_reducible refine and_tt ?_ ?_); · exact rfl) | (with_reducible refine And.intro ?_ ?_) | intro _ | (with_reducible refine fin2 hk ?_) | ((with_reducible refine eq_leaf ?_); exact rfl) | exact trivial))
  all_goals try exact hf _ (by assumption)
  all_goals try ((first | with_reducible refine (?_ : (_ : Int) ≤ _) | with_reducible refine (?_ : (_ : Int) < _)); clear hk A0 B1 B2; first | omega | (simp only [taskOf_agg, ↓Bool.not_eq_true', ↓Bool.not_eq_false', ↓decT, ↓decF, out_true, out_false, isin_true, isin_false, Int.toNat_natCast, Int.ofNat_lt, Nat.zero_add, Nat.add_zero, Nat.reduceAdd] at *; have A1 := F (by omega); omega))
  all_goals try conv => whnf
  all_goals try (rename_i i j h1 h2; have e2 : j = 0 := by omega
                 subst e2; clear hk A0 B1 B2 F; have e1 : i = 0 ∨ i = 1 := by omega
                 rcases e1 with rfl | rfl <;> first | rfl | omega)
  all_goals simp only [taskOf_agg, ↓Bool.not_eq_true', ↓Bool.not_eq_false', ↓decT, ↓decF, out_true, out_false, isin_true, isin_false, Int.toNat_natCast, Int.ofNat_lt, Nat.zero_add, Nat.add_zero, Nat.reduceAdd, Int.toNat_zero, Int.reduceToNat, ↓reduceIte, reduceCtorEq, Bool.or_eq_true, Bool.or_eq_false_iff, Bool.and_eq_true, Bool.and_eq_false_iff] at *
  all_goals try (exfalso; have A1 := A0 (by assumption) (by assumption); clear A0 F B1 B2 hk hf; simp_all [left00]; done)
  all_goals have A1 := F (by omega)
  all_goals clear F A0
  all_goals obtain ⟨c1, c2, c3, c4, c5, c6⟩ := A1
  all_goals rw [answer_iff] at c5
  all_goals first | have B := B2 c1 (by omega) c3 c4 | have B := B1 c1 (by omega) c3 c4
  all_goals clear B1 B2
  all_goals simp only [B, not_true_eq_false] at *
  all_goals have hcast : ∀ l : List Int, ((l.length : Int) = 1) = (l.length = 1) := fun l => propext ⟨fun h => by omega, fun h => by omega⟩
  all_goals try (exfalso; clear hk hf B c6; simp only [hcast] at *; simp_all; done)
  all_goals clear hcast
  all_goals have P := fun i => @point_band t c1 x0 x1 x2 c2 c3 c4 (by assumption) i
  all_goals have hL : (atT t x0 x1 x2).1 = leftS t (-1) x0 x0 x1 x2 := (c6 (by assumption)).trans (by rw [answer_agree (by assumption)])
  all_goals clear c5 c6 B
  all_goals have hnc := (check_ok c1).nc
  all_goals have hfit : t.fits := hf
  refine ⟨Nat, fun i => [(2, .ptr 0 0), (3, .ptr 1 0), (5, .ptr 2 0), (6, .ptr 3 0), (12, .int .i64 i)], fun i => [some (taskRow t), some (.row [.int .i64 x0, .int .i64 x1, .int .i64 x2]), some (.row [.int .i64 (atT t x0 x1 x2).1.xl, .int .i64 (atT t x0 x1 x2).1.xh]), some (.row [.int .i64 (atT t x0 x1 x2).1.yl, .int .i64 (atT t x0 x1 x2).1.yh]), some (.row [.top, .top, .top, .top, .top]), some (.buf 3 1 1 fun i j => [V.D.int .i64 (x0 + 1)].getD (i * 1 + j) .top), some .dead],
        fun i => t.nc - i, fun i => i ≤ t.nc, [], 0, fun _ => ⟨?_, ?_⟩, ?_, fun i hi => ?_⟩
  rotate_left 4
  refine ⟨Nat, fun i => [(2, .ptr 0 0), (3, .ptr 1 0), (5, .ptr 2 0), (6, .ptr 3 0), (12, .int .i64 i)], fun i => [some (taskRow t), some (.row [.int .i64 x0, .int .i64 x1, .int .i64 x2]), some (.row [.int .i64 (atT t x0 x1 x2).1.xl, .int .i64 (atT t x0 x1 x2).1.xh]), some (.row [.int .i64 (atT t x0 x1 x2).1.yl, .int .i64 (atT t x0 x1 x2).1.yh]), some (.row [.top, .top, .top, .top, .top]), some .dead],
        fun i => t.nc - i, fun i => i ≤ t.nc, [], 0, fun _ => ⟨?_, ?_⟩, ?_, fun i hi => ?_⟩
  all_goals first | (conv => lhs; whnf; done) | skip
  all_goals repeat' (first | ((with_reducible refine kok ?_); kernel_rfl) | ((with_reducible refine keq_mk ?_); kernel_rfl) | with_reducible rfl | ((conv => whnf); first | (with_reducible exact trivial) | ((with_reducible refine and_ff ?_ ?_); · exact rfl) | ((with_reducible refine and_tt ?_ ?_); · exact rfl) | (with_reducible refine And.intro ?_ ?_) | intro _ | (with_reducible refine fin2 hk ?_) | ((with_reducible refine eq_leaf ?_); exact rfl) | exact trivial))
  all_goals try exact hfit _ (by assumption)
  all_goals try exact Nat.zero_le _
  all_goals try ((first | with_reducible refine (?_ : (_ : Int) ≤ _) | with_reducible refine (?_ : (_ : Int) < _) | with_reducible refine (?_ : (_ : Nat) < _)); clear hk P hL; first | omega | (simp only [taskOf_agg, ↓Bool.not_eq_true', ↓Bool.not_eq_false', ↓decT, ↓decF, out_true, out_false, isin_true, isin_false, Int.toNat_natCast, Int.ofNat_lt, Nat.zero_add, Nat.add_zero, Nat.reduceAdd] at *; omega))
  all_goals try conv => whnf
  all_goals have hp : ((i : Int) - 1).toNat = i - 1 := by omega
  all_goals have hi' : i ≤ t.nc := hi
  all_goals try (refine ⟨i + 1, ?_⟩; clear hk P hL hf hfit; simp only [taskOf_agg, ↓Bool.not_eq_true', ↓Bool.not_eq_false', ↓decT, ↓decF, out_true, out_false, isin_true, isin_false, Int.toNat_natCast, Int.ofNat_lt, Nat.zero_add, Nat.add_zero, Nat.reduceAdd] at *; repeat' (first | ((with_reducible refine kok ?_); kernel_rfl) | ((with_reducible refine keq_mk ?_); kernel_rfl) | with_reducible rfl | ((conv => whnf); first | (with_reducible exact trivial) | ((with_reducible refine and_ff ?_ ?_); · exact rfl) | ((with_reducible refine and_tt ?_ ?_); · exact rfl) | (with_reducible refine And.intro ?_ ?_) | intro _ | (with_reducible refine fin2 hk ?_) | ((with_reducible refine eq_leaf ?_); exact rfl) | exact trivial)))
  all_goals try ((first | with_reducible refine (?_ : (_ : Nat) ≤ _) | with_reducible refine (?_ : (_ : Nat) < _)); omega)
  all_goals simp only [taskOf_agg, ↓Bool.not_eq_true', ↓Bool.not_eq_false', ↓decT, ↓decF, out_true, out_false, isin_true, isin_false, Int.toNat_natCast, Int.ofNat_lt, Nat.zero_add, Nat.add_zero, Nat.reduceAdd, Int.toNat_zero, Int.reduceToNat, ↓reduceIte, reduceCtorEq, Bool.or_eq_true, Bool.or_eq_false_iff, Bool.and_eq_true, Bool.and_eq_false_iff, hp, hL] at *
  all_goals obtain ⟨p1, p2, p3⟩ := P i (by omega) (by omega) (by omega)
  all_goals simp only [p1, p2, not_true_eq_false, reduceCtorEq] at *
  all_goals obtain ⟨q1, q2⟩ := p3 (by assumption)
  all_goals simp only [Left.le] at q2
  all_goals omega
end Go.Proofs.Ytbkehkiflfhpfaa
end
section
set_option linter.unusedVariables false
set_option linter.unusedSimpArgs false
set_option maxRecDepth 100000
namespace Go.Proofs.Ytbkehkiflfhpfaa
open Go.V

theorem windPoint_lifted (os : Os) (started : os.Started) (H : Type) (enc : TypeId × Value → H) :
    ReturnsInHanded {} Try.checked os 8 .any (Rows.windPointSpec.pre6 enc Go.Proofs.Try.prog Try.f8 Rows.windPointRow.domain false) (Rows.windPointSpec.post enc Go.Proofs.Try.prog Try.f8 false Rows.windPointRow.fresh Rows.windPointRow.handsOn Rows.windPointRow.again) := by
  refine returnsInHanded_of_change (C := Try.checked) own started (by kernel_rfl) Try.func8
    (ChangeSpec.witness6 (enc := enc) (C := Try.checked) false ⟨#[], #[.agg #[.slice none 0 0, .slice none 0 0, .slice none 0 0, .int .i64 0, .int .i64 0], .agg #[.int .i64 0, .int .i64 0, .int .i64 0]], []⟩ 8 (by kernel_rfl) (by kernel_rfl) (by kernel_rfl) (by kernel_rfl)) ?_
  intro W base args ds gs before hok hW _ _
  refine law_contract (l := [taskK, .agg [.int .i64, .int .i64, .int .i64]]) (tb := 4) laid_ok lawPoint_ok (by kernel_rfl) (by kernel_rfl) rfl tbool (fun ds h => ?_) rfl (fun ds hd => ?_) W base args ds gs before hok hW
  · match ds, h with
    | [d, e], ⟨h1, h2, _⟩ =>
      obtain ⟨g1, g2⟩ := task_of_kinds h1
      obtain ⟨xs, rfl, hl, hx⟩ := h2
      match xs, hl with
      | [y0, y1, y2], _ =>
        obtain ⟨x0, rfl, _⟩ := hx 0 _ _ rfl rfl
        obtain ⟨x1, rfl, _⟩ := hx 1 _ _ rfl rfl
        obtain ⟨x2, rfl, _⟩ := hx 2 _ _ rfl rfl
        exact ⟨_, _, rfl, ⟨g1, g2⟩, .inl rfl⟩
  · match ds, hd with
    | [a, b], _ => exact ⟨rfl, rfl, rfl⟩
theorem windPoint_holds : Rows.WindPointSaid :=
  OpenClaim.holds_of_wide 8 Try.f8 rfl rfl rfl rfl rfl rfl rfl ⟨rfl, rfl, rfl, rfl, rfl⟩ rfl rfl rfl rfl rfl (by kernel_rfl) Try.func8 (by kernel_rfl)
    (of_decide_eq_true (by kernel_rfl)) (by unfold Func.isWrapper; first | (rw [if_pos (by decide +kernel)]; kernel_rfl) | (rw [if_neg (by decide +kernel)]; exact ⟨rfl, rfl⟩))
    (fun os started H enc _ => windPoint_lifted os started H enc)
#print axioms windPoint_holds
end Go.Proofs.Ytbkehkiflfhpfaa
end
