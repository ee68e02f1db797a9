/-
  The wind's laws: whether all sources agree for all bands.
-/
import Derived.Test.YtbkehkiflfhpfaaMg
section
set_option linter.unusedVariables false
set_option linter.unusedSimpArgs false
set_option maxRecDepth 100000
set_option maxHeartbeats 4000000
namespace Go.Proofs.Ytbkehkiflfhpfaa
open Go.V
attribute [local irreducible] checkS atT blameT bandsT bandA
def notAg (t : Task) (a now : Int) (i : Nat) : Bool := !(decide ((blameT t i a now).2.2 = 0) && (blameT t i a now).2.1)
def agreedT (t : Task) (a now : Int) : Bool := (decide ((bandsT t a now).2 = 0) && decide ((bandsT t a now).1 = t.nc)) && !anyBelow (notAg t a now) t.nc
def agreedN (t : Task) (a now : Int) : Nat := if agreedT t a now = true then t.nc else 0
def rAgreed : List V.D → Option (Prop × V.D) := fun ds => match ds with
  | [d, .int .i64 a, .int .i64 now] => some (TaskIs d ∧ (taskOf d).fits, .tup [.rsl 6 (agreedN (taskOf d) a now) (imD (bandA (taskOf d) a now)), .bool (agreedT (taskOf d) a now)])
  | _ => none
theorem bandsT_nc {t : Task} {a now : Int} (h : (bandsT t a now).2 = 0) : t.nc ≤ 20 ∧ (bandsT t a now).1 = t.nc := by
  unfold bandsT at h ⊢
  split at h
  · rename_i g; exact absurd h g
  split at h
  · cases h
  split at h
  · cases h
  rename_i g1 g2 g3
  rw [if_neg g1, if_neg g2, if_neg g3]
  exact ⟨(small_nx (t := t) (Classical.not_not.mp g1)).2.2.2, rfl⟩
theorem agreed_ok : PSound Go.Proofs.Try.prog 55 (mk rAgreed) := by
  refine psound_mk Try.func55 (by kernel_rfl) rfl (ctx lib40_ok) ?_
  (intro ds p d h; unfold rAgreed at h; split at h <;> first | (cases h; done) | skip; cases h; refine ⟨Nat.le_of_ble_eq_true rfl, fun hp k hk => ?_⟩)
  rename_i d a now
  obtain ⟨ht, hf⟩ := hp
  refine ⟨[(taskOf d).D, .int .i64 a, .int .i64 now], task_imp ht ⟨rfl, rfl, ?_⟩⟩
  clear ht
  generalize taskOf d = t at *
  generalize hN : agreedN t a now = n at *
  generalize hS : agreedT t a now = c at *
  have hN' : n = if c = true then t.nc else 0 := by rw [← hN, agreedN, hS]
  clear hN
  repeat' (first | ((with_reducible refine kok ?_); kernel_rfl) | ((with_reducible refine keq_mk ?_); kernel_rfl) | with_reducible rfl | ((conv => whnf); first | (with_reducible exact trivial) | ((with_reducible refine and_ff ?_ ?_); · exact rfl) | ((with_reducible refine and_tt ?_ ?_); · exact rfl) | (with_reducible refine And.intro ?_ ?_) | intro _ | (with_reducible refine fin2 hk ?_) | ((with_reducible refine eq_leaf ?_); exact rfl) | exact trivial))
  all_goals try exact hf _ (by assumption)
  rotate_left 4
  · rename_i g1 g2
    have e1 : (bandsT t a now).2 = 0 := by
      clear hk hS hN' hf
      simp only [taskOf_agg, ↓Bool.not_eq_true', ↓Bool.not_eq_false', ↓decT, ↓decF, out_true, out_false, isin_true, isin_false, Int.toNat_natCast, Int.ofNat_lt, Nat.zero_add, Nat.add_zero, Nat.reduceAdd] at g1
      exact g1
    obtain ⟨hn20, e2⟩ := bandsT_nc e1
    have hc : c = !anyBelow (notAg t a now) t.nc := by
      rw [← hS, agreedT, decide_eq_true e1, decide_eq_true e2]
      rfl
    clear g1 g2 hS
    refine ⟨Nat, fun i => [(1, .int .i64 a), (2, .int .i64 now), (3, .ptr 0 0), (8, .rsl 6 (bandsT t a now).1 (imD (bandA t a now))), (10, .int .i64 i)], fun i => [some (taskRow t)],
      fun i => t.nc - i, fun i => i ≤ t.nc ∧ anyBelow (notAg t a now) i = false, [], 0, fun _ => ⟨?_, ?_⟩, ?_, fun i hi => ?_⟩
    · conv => lhs; whnf
    · conv => lhs; whnf
    · clear hk
      repeat' (first | ((with_reducible refine kok ?_); kernel_rfl) | ((with_reducible refine keq_mk ?_); kernel_rfl) | with_reducible rfl | ((conv => whnf); first | (with_reducible exact trivial) | ((with_reducible refine and_ff ?_ ?_); · exact rfl) | ((with_reducible refine and_tt ?_ ?_); · exact rfl) | (with_reducible refine And.intro ?_ ?_) | intro _ | (with_reducible refine fin2 hk ?_) | ((with_reducible refine eq_leaf ?_); exact rfl) | exact trivial))
      exact Nat.zero_le _
    obtain ⟨hi, hq⟩ := hi
    repeat' (first | ((with_reducible refine kok ?_); kernel_rfl) | ((with_reducible refine keq_mk ?_); kernel_rfl) | with_reducible rfl | ((conv => whnf); first | (with_reducible exact trivial) | ((with_reducible refine and_ff ?_ ?_); · exact rfl) | ((with_reducible refine and_tt ?_ ?_); · exact rfl) | (with_reducible refine And.intro ?_ ?_) | intro _ | (with_reducible refine fin2 hk ?_) | ((with_reducible refine eq_leaf ?_); exact rfl) | exact trivial))
    all_goals try exact hf _ (by assumption)
    all_goals try ((first | with_reducible refine (?_ : (_ : Int) ≤ _) | with_reducible refine (?_ : (_ : Int) < _)); clear hk hN' hc; simp only [taskOf_agg, ↓Bool.not_eq_true', ↓Bool.not_eq_false', ↓decT, ↓decF, out_true, out_false, isin_true, isin_false, Int.toNat_natCast, Int.ofNat_lt, Nat.zero_add, Nat.add_zero, Nat.reduceAdd] at *; omega)
    all_goals try conv => whnf
    all_goals clear hk hf
    · rename_i g1 g2
      simp only [taskOf_agg, ↓Bool.not_eq_true', ↓Bool.not_eq_false', ↓decT, ↓decF, out_true, out_false, isin_true, isin_false, Int.toNat_natCast, Int.ofNat_lt, Nat.zero_add, Nat.add_zero, Nat.reduceAdd] at g1 g2
      have hb : anyBelow (notAg t a now) t.nc = true := by
        refine anyBelow_iff.2 ⟨i, by omega, ?_⟩
        unfold notAg
        rw [decide_eq_false g2]
        rfl
      rw [hN', hc, hb]
      rfl
    · rename_i g1 g2
      simp only [taskOf_agg, ↓Bool.not_eq_true', ↓Bool.not_eq_false', ↓decT, ↓decF, out_true, out_false, isin_true, isin_false, Int.toNat_natCast, Int.ofNat_lt, Nat.zero_add, Nat.add_zero, Nat.reduceAdd] at g1 g2
      have hb : anyBelow (notAg t a now) t.nc = true := by
        refine anyBelow_iff.2 ⟨i, by omega, ?_⟩
        unfold notAg
        rw [decide_eq_false g2]
        rfl
      rw [hc, hb]
      rfl
    · rename_i g1 g2 g3
      simp only [taskOf_agg, ↓Bool.not_eq_true', ↓Bool.not_eq_false', ↓decT, ↓decF, out_true, out_false, isin_true, isin_false, Int.toNat_natCast, Int.ofNat_lt, Nat.zero_add, Nat.add_zero, Nat.reduceAdd] at g1 g2 g3
      have hb : anyBelow (notAg t a now) t.nc = true := by
        refine anyBelow_iff.2 ⟨i, by omega, ?_⟩
        unfold notAg
        rw [g3, Bool.and_false]
        rfl
      rw [hN', hc, hb]
      rfl
    · rename_i g1 g2 g3
      simp only [taskOf_agg, ↓Bool.not_eq_true', ↓Bool.not_eq_false', ↓decT, ↓decF, out_true, out_false, isin_true, isin_false, Int.toNat_natCast, Int.ofNat_lt, Nat.zero_add, Nat.add_zero, Nat.reduceAdd] at g1 g2 g3
      have hb : anyBelow (notAg t a now) t.nc = true := by
        refine anyBelow_iff.2 ⟨i, by omega, ?_⟩
        unfold notAg
        rw [g3, Bool.and_false]
        rfl
      rw [hc, hb]
      rfl
    · rename_i g1 g2 g3
      simp only [taskOf_agg, ↓Bool.not_eq_true', ↓Bool.not_eq_false', ↓decT, ↓decF, out_true, out_false, isin_true, isin_false, Int.toNat_natCast, Int.ofNat_lt, Nat.zero_add, Nat.add_zero, Nat.reduceAdd] at g1 g2 g3
      have hs : anyBelow (notAg t a now) (i + 1) = false := by
        rw [anyBelow_succ, hq]
        unfold notAg
        rw [g3, decide_eq_true g2]
        rfl
      refine ⟨i + 1, ?_⟩
      clear hN' hc
      repeat' (first | ((with_reducible refine kok ?_); kernel_rfl) | ((with_reducible refine keq_mk ?_); kernel_rfl) | with_reducible rfl | ((conv => whnf); first | (with_reducible exact trivial) | ((with_reducible refine and_ff ?_ ?_); · exact rfl) | ((with_reducible refine and_tt ?_ ?_); · exact rfl) | (with_reducible refine And.intro ?_ ?_) | intro _ | (with_reducible refine fin2 hk ?_) | ((with_reducible refine eq_leaf ?_); exact rfl) | exact trivial))
      all_goals first
        | exact hs
        | (simp only [taskOf_agg, ↓Bool.not_eq_true', ↓Bool.not_eq_false', ↓decT, ↓decF, out_true, out_false, isin_true, isin_false, Int.toNat_natCast, Int.ofNat_lt, Nat.zero_add, Nat.add_zero, Nat.reduceAdd] at *; omega)
        | omega
    · rename_i g1
      simp only [taskOf_agg, ↓Bool.not_eq_true', ↓Bool.not_eq_false', ↓decT, ↓decF, out_true, out_false, isin_true, isin_false, Int.toNat_natCast, Int.ofNat_lt, Nat.zero_add, Nat.add_zero, Nat.reduceAdd] at g1
      have e : i = t.nc := by omega
      subst e
      rw [hN', hc, hq, e2]
      rfl
    · rename_i g1
      simp only [taskOf_agg, ↓Bool.not_eq_true', ↓Bool.not_eq_false', ↓decT, ↓decF, out_true, out_false, isin_true, isin_false, Int.toNat_natCast, Int.ofNat_lt, Nat.zero_add, Nat.add_zero, Nat.reduceAdd] at g1
      have e : i = t.nc := by omega
      subst e
      rw [hc, hq]
      rfl
  all_goals clear hk hf
  all_goals simp only [taskOf_agg, ↓Bool.not_eq_true', ↓Bool.not_eq_false', ↓decT, ↓decF, out_true, out_false, isin_true, isin_false, Int.toNat_natCast, Int.ofNat_lt, Nat.zero_add, Nat.add_zero, Nat.reduceAdd] at *
  all_goals subst hS
  all_goals try subst hN'
  all_goals rename_i g
  · rw [agreedT, decide_eq_false g]
    rfl
  · rw [agreedT, decide_eq_false g]
    rfl
  · rw [agreedT, decide_eq_false (p := (bandsT t a now).1 = t.nc) (fun h => g (by rw [h])), Bool.and_false]
    rfl
  · rw [agreedT, decide_eq_false (p := (bandsT t a now).1 = t.nc) (fun h => g (by rw [h])), Bool.and_false]
    rfl
end Go.Proofs.Ytbkehkiflfhpfaa
end
section
set_option linter.unusedVariables false
set_option linter.unusedSimpArgs false
set_option maxRecDepth 100000
set_option maxHeartbeats 4000000
namespace Go.Proofs.Ytbkehkiflfhpfaa
open Go.V

theorem answer_agree {t : Task} {low high a now : Int} (h : agreeS t low high a now = true) : answerS t low high a now = (leftS t (-1) low high a now, true) := by
  unfold answerS
  rw [if_pos h]
  exact congrArg (Prod.mk _) h
/-- What an answer tells, if there is one. -/
theorem answer_left {t : Task} (hok : t.ok) {low high a now : Int} (h : (answerS t low high a now).2 = true) :
    -20000 ≤ (answerS t low high a now).1.xl ∧ (answerS t low high a now).1.xl ≤ (answerS t low high a now).1.xh ∧ (answerS t low high a now).1.xh ≤ 20000 ∧
    -20000 ≤ (answerS t low high a now).1.yl ∧ (answerS t low high a now).1.yl ≤ (answerS t low high a now).1.yh ∧ (answerS t low high a now).1.yh ≤ 20000 := by
  have key : ∀ but, (leftS t but low high a now).agree = true → -20000 ≤ (leftS t but low high a now).xl ∧ (leftS t but low high a now).xl ≤ (leftS t but low high a now).xh ∧ (leftS t but low high a now).xh ≤ 20000 ∧
    -20000 ≤ (leftS t but low high a now).yl ∧ (leftS t but low high a now).yl ≤ (leftS t but low high a now).yh ∧ (leftS t but low high a now).yh ≤ 20000 := fun but g => by
    rw [Left.agree_iff] at g
    exact ⟨((left_xl hok).1 (Int.le_refl _)).1, g.1, ((left_xh hok).1 (Int.le_refl _)).1, ((left_yl hok).1 (Int.le_refl _)).1, g.2, ((left_yh hok).1 (Int.le_refl _)).1⟩
  unfold answerS at h ⊢
  split
  · rename_i g
    rw [if_pos g] at h
    exact key _ h
  · rename_i g
    rw [if_neg g] at h
    split
    · rename_i g2
      rw [if_pos g2] at h
      cases h
    · rename_i g2
      rw [if_neg g2] at h
      exact key _ h
theorem bandsT_ok {t : Task} {a now : Int} (h : (bandsT t a now).2 = 0) : checkE t = 0 ∧ (0 ≤ a ∧ a ≤ 100000) ∧ (0 ≤ now ∧ now ≤ 100000) ∧ ∀ i, i < t.nc → (ansB t a now i).2 = true := by
  unfold bandsT at h
  split at h
  · rename_i g; exact absurd h g
  split at h
  · cases h
  split at h
  · cases h
  rename_i g1 g2 g3
  simp only [tickB, isin, Bool.and_eq_false_iff, decide_eq_false_iff_not] at g2
  refine ⟨Classical.not_not.mp g1, by omega, by omega, fun i hi => ?_⟩
  by_cases e : (ansB t a now i).2 = true
  · exact e
  · exact absurd (anyBelow_iff.2 ⟨i, hi, by unfold badB; simp only [Bool.not_eq_true] at e; rw [e]; rfl⟩) g3
theorem bandsT_mk {t : Task} {a now : Int} (h : checkE t = 0) (h1 : 0 ≤ a ∧ a ≤ 100000) (h2 : 0 ≤ now ∧ now ≤ 100000) (hb : ∀ i, i < t.nc → (ansB t a now i).2 = true) : bandsT t a now = (t.nc, 0) := by
  unfold bandsT
  rw [if_neg (fun g => g h), if_neg (by simp only [tickB, isin, Bool.and_eq_false_iff, decide_eq_false_iff_not]; omega), if_neg]
  intro g
  obtain ⟨i, hi, g⟩ := anyBelow_iff.1 g
  unfold badB at g
  rw [hb i hi] at g
  cases g
theorem bandsT_0 {t : Task} {a now : Int} (h : (bandsT t a now).2 ≠ 0) : (bandsT t a now).1 = 0 := by
  unfold bandsT at h ⊢
  split
  · rfl
  split
  · rfl
  split
  · rfl
  rename_i g1 g2 g3
  rw [if_neg g1, if_neg g2, if_neg g3] at h
  exact absurd rfl h
/-- The bands of a task are without errors. -/
theorem bands_check {t : Task} {a now : Int} (h : (bandsT t a now).2 = 0) : (checkBands t.nc (bandA t a now)).2 = 0 := by
  obtain ⟨hc, h1, h2, hb⟩ := bandsT_ok h
  have hok := check_ok hc
  have hnc := hok.nc
  unfold checkBands
  rw [if_pos (by simp only [isin, Bool.and_eq_true, decide_eq_true_eq]; omega)]
  suffices hz : ∀ (n i : Nat), i + n ≤ t.nc → fe (bandErr (bandA t a now)) i n = (0, 0) by rw [hz t.nc 0 (by omega)]
  intro n
  induction n with
  | zero => intro i _; rfl
  | succ n ih =>
    intro i hi
    have hz : bandErr (bandA t a now) i = 0 := by
      have ha := answer_left hok (hb i (by omega))
      have hu := hok.cut i (by omega)
      have hlow : bandA t a now i 0 = fromOf (bandA t a now) i := by
        show lowS t i = _
        unfold lowS fromOf
        rfl
      have hl : lowS t i < t.ca i 0 := by
        unfold lowS
        split
        · omega
        · have := hok.rise (i - 1) (by omega)
          rwa [show i - 1 + 1 = i by omega] at this
      have hl' : ¬ t.ca i 0 ≤ lowS t i := by omega
      have hu' : ¬ 100000000 < t.ca i 0 := by omega
      unfold bandErr
      rw [if_neg (fun g => g hlow), if_neg (show ¬ bandA t a now i 1 ≤ bandA t a now i 0 from hl'), if_neg (show ¬ 100000000 < bandA t a now i 1 from hu'), if_neg, if_neg]
      · show ¬ winds (ansB t a now i).1.yl (ansB t a now i).1.yh = false
        unfold ansB
        simp only [winds, isin, Bool.and_eq_false_iff, decide_eq_false_iff_not]
        omega
      · show ¬ winds (ansB t a now i).1.xl (ansB t a now i).1.xh = false
        unfold ansB
        simp only [winds, isin, Bool.and_eq_false_iff, decide_eq_false_iff_not]
        omega
    rw [fe, if_neg (fun g => g hz)]
    exact ih (i + 1) (by omega)
/-- What it is that the sources agree for all bands. -/
theorem agreedT_iff {t : Task} {a now : Int} : agreedT t a now = true ↔ checkE t = 0 ∧ (0 ≤ a ∧ a ≤ 100000) ∧ (0 ≤ now ∧ now ≤ 100000) ∧ ∀ i, i < t.nc → agreeS t (lowS t i) (t.ca i 0 - 1) a now = true := by
  have hbl : checkE t = 0 → (0 ≤ a ∧ a ≤ 100000) → (0 ≤ now ∧ now ≤ 100000) → ∀ i, i < t.nc → blameT t i a now = (blameS t (lowS t i) (t.ca i 0 - 1) a now, agreeS t (lowS t i) (t.ca i 0 - 1) a now, 0) := fun hc h1 h2 i hi => by
    have hnc := (check_ok hc).nc
    unfold blameT
    rw [if_neg (fun g => g hc), if_neg (by rw [isin_false]; omega), if_neg (by simp only [tickB, isin, Bool.and_eq_false_iff, decide_eq_false_iff_not]; omega), Int.toNat_natCast]
  constructor
  · intro h
    unfold agreedT at h
    simp only [Bool.and_eq_true, decide_eq_true_eq, Bool.not_eq_true'] at h
    obtain ⟨⟨h1, h2⟩, h3⟩ := h
    obtain ⟨hc, ha, hn, _⟩ := bandsT_ok h1
    refine ⟨hc, ha, hn, fun i hi => ?_⟩
    by_cases e : agreeS t (lowS t i) (t.ca i 0 - 1) a now = true
    · exact e
    · have : anyBelow (notAg t a now) t.nc = true := anyBelow_iff.2 ⟨i, hi, by
        unfold notAg
        rw [hbl hc ha hn i hi]
        simp only [Bool.not_eq_true] at e
        rw [e, Bool.and_false]
        rfl⟩
      rw [this] at h3
      cases h3
  · rintro ⟨hc, ha, hn, hag⟩
    unfold agreedT
    rw [bandsT_mk hc ha hn (fun i hi => by unfold ansB; rw [answer_agree (hag i hi)])]
    simp only [decide_true, Bool.true_and, Bool.not_eq_true']
    by_cases e : anyBelow (notAg t a now) t.nc = true
    · obtain ⟨i, hi, g⟩ := anyBelow_iff.1 e
      unfold notAg at g
      rw [hbl hc ha hn i hi, hag i hi] at g
      cases g
    · simpa using e
theorem agreedT_bands {t : Task} {a now : Int} (h : agreedT t a now = true) : bandsT t a now = (t.nc, 0) := by
  obtain ⟨hc, ha, hn, hag⟩ := agreedT_iff.1 h
  exact bandsT_mk hc ha hn (fun i hi => by unfold ansB; rw [answer_agree (hag i hi)])
/-- Bands with the same cuts, each span not narrower: they cover. -/
theorem cov_same {t u : Task} {a now a' now' : Int} (h : (checkBands t.nc (bandA t a now)).2 = 0) (hn : u.nc = t.nc) (hc : ∀ i, i < t.nc → u.ca i 0 = t.ca i 0)
    (hle : ∀ i, i < t.nc → (ansB t a now i).1.le (ansB u a' now' i).1) : Cov u.nc (bandA u a' now') t.nc (bandA t a now) := by
  have hb := bands_ok h
  have hlen := hb.len
  rw [hn]
  have hlow : ∀ i, i < t.nc → lowS u i = lowS t i := fun i hi => by
    unfold lowS
    split
    · rfl
    · exact hc _ (by omega)
  refine ⟨?_, fun i k hi hk hm => ?_⟩
  · show t.ca (t.nc - 1) 0 ≤ u.ca (t.nc - 1) 0
    rw [hc _ (by omega)]
    exact Int.le_refl _
  · have hm' : meetB (bandA t a now) (bandA t a now) i k := by
      unfold meetB at hm ⊢
      simp only [bandA, hlow i hi, hc i hi] at hm ⊢
      exact hm
    obtain rfl := meet_one hb hi hk hm'
    exact hle i hi
theorem ages {t : Task} {a b now : Int} (h : agreedT t a now = true) (h1 : now ≤ a) (h2 : a ≤ b) (h3 : b ≤ 100000) :
    agreedT t b now = true ∧ coversT t.nc (bandA t b now) t.nc (bandA t a now) = (true, 0) := by
  have hb := agreedT_bands h
  obtain ⟨hc, ha, hn, hag⟩ := agreedT_iff.1 h
  have hok := check_ok hc
  have hle : ∀ i, i < t.nc → (leftS t (-1) (lowS t i) (t.ca i 0 - 1) a now).le (leftS t (-1) (lowS t i) (t.ca i 0 - 1) b now) := fun i hi => by
    refine left_le hok hok fun j g1 g2 g3 => ⟨j, g1, g2, g3, rfl, rfl, dOf_mono hok ?_ (Int.le_refl _) ?_ (Int.le_refl _)⟩
    · simp only [knownS, Bool.and_eq_true, decide_eq_true_eq] at g3
      have hs := hok.src j g1
      have := hok.late (t.xa j 0).toNat (by omega)
      omega
    · have hu := hok.cut i hi
      unfold lowS
      split
      · omega
      · have := hok.rise (i - 1) (by omega)
        rw [show i - 1 + 1 = i by omega] at this
        omega
  have hag' : ∀ i, i < t.nc → agreeS t (lowS t i) (t.ca i 0 - 1) b now = true := fun i hi => Left.le_agree (hle i hi) (hag i hi)
  have hb' : agreedT t b now = true := agreedT_iff.2 ⟨hc, by omega, hn, hag'⟩
  refine ⟨hb', ?_⟩
  have c1 := bands_check (t := t) (a := a) (now := now) (by rw [hb])
  have c2 := bands_check (t := t) (a := b) (now := now) (by rw [agreedT_bands hb'])
  rw [covT_mk c2 c1, covB_true]
  refine cov_same c1 rfl (fun _ _ => rfl) fun i hi => ?_
  unfold ansB
  rw [answer_agree (hag i hi), answer_agree (hag' i hi)]
  exact hle i hi
end Go.Proofs.Ytbkehkiflfhpfaa
end
