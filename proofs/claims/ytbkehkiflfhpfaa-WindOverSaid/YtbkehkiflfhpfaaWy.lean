/-
  Contracts of the wind: Bands (both).
-/
import Derived.Test.YtbkehkiflfhpfaaWx
set_option linter.unusedVariables false
set_option linter.unusedSimpArgs false
set_option maxRecDepth 100000
set_option maxHeartbeats 4000000
namespace Go.Proofs.Ytbkehkiflfhpfaa
open Go.V
attribute [local irreducible] doubtS saysS leftS agreeS blameS answerS checkS begun nameS lowS answerN knownS
def lib31 : Lib := (30, mk rKnownT) :: (31, mk rKnownT) :: lib30
theorem lib31_ok : LibOK Go.Proofs.Try.prog lib31 := .cons windKnownT_ok (.cons refKnownT_ok lib30_ok)

def ansB (t : Task) (a now : Int) (i : Nat) : Left × Bool := answerS t (lowS t i) (t.ca i 0 - 1) a now
def bandA (t : Task) (a now : Int) (i j : Nat) : Int := match j with
  | 0 => lowS t i
  | 1 => t.ca i 0
  | 2 => (ansB t a now i).1.xl
  | 3 => (ansB t a now i).1.xh
  | 4 => (ansB t a now i).1.yl
  | 5 => (ansB t a now i).1.yh
  | _ => 0
def badB (t : Task) (a now : Int) (i : Nat) : Bool := !(ansB t a now i).2
def bandsT (t : Task) (a now : Int) : Nat × Int := if checkE t ≠ 0 then (0, checkE t) else if (tickB a && tickB now) = false then (0, 7) else if anyBelow (badB t a now) t.nc = true then (0, 9) else (t.nc, 0)
def rBandsT : List V.D → Option (Prop × V.D) := fun ds => match ds with
  | [d, .int .i64 a, .int .i64 now] => some (TaskIs d ∧ (taskOf d).fits, .tup [.rsl 6 (bandsT (taskOf d) a now).1 (imD (bandA (taskOf d) a now)), .int .i64 (bandsT (taskOf d) a now).2])
  | _ => none
theorem band_snoc {t : Task} {a now : Int} {n i j : Nat} {l : List V.D} (hl : l = [.int .i64 (lowS t n), .int .i64 (t.ca n 0), .int .i64 (ansB t a now n).1.xl, .int .i64 (ansB t a now n).1.xh, .int .i64 (ansB t a now n).1.yl, .int .i64 (ansB t a now n).1.yh]) (hi : i < n + 1) (hj : j < 6) :
    (if i < n then imD (bandA t a now) i j else l.getD ((i - n) * 6 + j) D.top) = imD (bandA t a now) i j := by
  subst hl
  by_cases h : i < n
  · rw [if_pos h]
  · rw [if_neg h]
    obtain rfl : i = n := by omega
    have hj' : j = 0 ∨ j = 1 ∨ j = 2 ∨ j = 3 ∨ j = 4 ∨ j = 5 := by omega
    rcases hj' with rfl | rfl | rfl | rfl | rfl | rfl <;> simp [imD, bandA]
theorem band_snoc2 {t : Task} {a now x : Int} {n i j : Nat} {l : List V.D} (hl : l = [.int .i64 (lowS t n), .int .i64 x, .int .i64 (ansB t a now n).1.xl, .int .i64 (ansB t a now n).1.xh, .int .i64 (ansB t a now n).1.yl, .int .i64 (ansB t a now n).1.yh]) (hx : x = t.ca n 0) (hi : i < n + 1) (hj : j < 6) :
    (if i < n then imD (bandA t a now) i j else l.getD ((i - n) * 6 + j) D.top) = imD (bandA t a now) i j := by
  subst hx
  exact band_snoc hl hi hj
theorem refBandsT_ok : PSound Go.Proofs.Try.prog 28 (mk rBandsT) := by
  refine psound_mk Try.func28 (by kernel_rfl) rfl (ctx lib31_ok) ?_
  (intro ds p d h; unfold rBandsT at h; split at h <;> first | (cases h; done) | skip; cases h; refine ⟨Nat.le_of_ble_eq_true rfl, fun hp k hk => ?_⟩)
  rename_i d a now
  obtain ⟨ht, hf⟩ := hp
  refine ⟨[(taskOf d).D, .int .i64 a, .int .i64 now], task_imp ht ⟨rfl, rfl, ?_⟩⟩
  clear ht
  generalize taskOf d = t at *
  generalize hS : bandsT t a now = c at *
  repeat' (first | with_reducible rfl | ((conv => whnf); first | (with_reducible exact trivial) | ((with_reducible refine and_ff ?_ ?_); · exact rfl) | ((with_reducible refine and_tt ?_ ?_); · exact rfl) | (with_reducible refine And.intro ?_ ?_) | intro _ | (with_reducible refine fin2 hk ?_) | ((with_reducible refine eq_leaf ?_); exact rfl) | exact trivial))
  all_goals try exact hf _ (by assumption)
  all_goals clear hf
  rotate_left 6
  · rename_i g1 g2 g3 g4
    have E : checkE t = 0 := by
      clear hS hk
      simp only [taskOf_agg, ↓Bool.not_eq_true', ↓Bool.not_eq_false', ↓decT, ↓decF, out_true, out_false, isin_true, isin_false, Int.toNat_natCast, Int.ofNat_lt, Nat.zero_add, Nat.add_zero, Nat.reduceAdd] at *
      assumption
    have hok := check_ok E
    have ha : 0 ≤ a ∧ a ≤ 100000 := by
      clear hS hk
      simp only [taskOf_agg, ↓Bool.not_eq_true', ↓Bool.not_eq_false', ↓decT, ↓decF, out_true, out_false, isin_true, isin_false, Int.toNat_natCast, Int.ofNat_lt, Nat.zero_add, Nat.add_zero, Nat.reduceAdd] at *
      omega
    have hnow : 0 ≤ now ∧ now ≤ 100000 := by
      clear hS hk
      simp only [taskOf_agg, ↓Bool.not_eq_true', ↓Bool.not_eq_false', ↓decT, ↓decF, out_true, out_false, isin_true, isin_false, Int.toNat_natCast, Int.ofNat_lt, Nat.zero_add, Nat.add_zero, Nat.reduceAdd] at *
      omega
    have hc : c = if anyBelow (badB t a now) t.nc = true then (0, 9) else (t.nc, 0) := by
      rw [← hS, bandsT, if_neg (fun h => h E), if_neg]
      rw [show tickB a = true from by simp only [tickB, taskOf_agg, ↓Bool.not_eq_true', ↓Bool.not_eq_false', ↓decT, ↓decF, out_true, out_false, isin_true, isin_false, Int.toNat_natCast, Int.ofNat_lt, Nat.zero_add, Nat.add_zero, Nat.reduceAdd]; exact ha, show tickB now = true from by simp only [tickB, taskOf_agg, ↓Bool.not_eq_true', ↓Bool.not_eq_false', ↓decT, ↓decF, out_true, out_false, isin_true, isin_false, Int.toNat_natCast, Int.ofNat_lt, Nat.zero_add, Nat.add_zero, Nat.reduceAdd]; exact hnow]
      exact Bool.noConfusion
    have hnc := hok.nc
    clear hS g1 g2 g3 g4
    refine ⟨Nat, fun i => [(1, .int .i64 a), (2, .int .i64 now), (3, .ptr 0 0), (11, .own 1 i), (12, .int .i64 i)], fun i => [some (taskRow t), some (.buf 61 6 i (imD (bandA t a now)))],
      fun i => t.nc - i, fun i => i ≤ t.nc ∧ anyBelow (badB t a now) i = false, [(61, 6)], 0, fun _ => ⟨?_, ?_⟩, ?_, fun i hi => ?_⟩
    · conv => lhs; whnf
    · conv => lhs; whnf
    · clear hk
      repeat' (first | with_reducible rfl | ((conv => whnf); first | (with_reducible exact trivial) | ((with_reducible refine and_ff ?_ ?_); · exact rfl) | ((with_reducible refine and_tt ?_ ?_); · exact rfl) | (with_reducible refine And.intro ?_ ?_) | intro _ | (with_reducible refine fin2 hk ?_) | ((with_reducible refine eq_leaf ?_); exact rfl) | exact trivial))
      all_goals first | exact Nat.zero_le _ | (exact absurd (by assumption) (Nat.not_lt_zero _)) | rfl
    obtain ⟨hi, hq⟩ := hi
    have F : i < t.nc → (0 ≤ lowS t i ∧ lowS t i < 100000000) ∧ (1 ≤ t.ca i 0 ∧ t.ca i 0 ≤ 100000000) := fun h => by
      have := low_ok E (b := (i : Int)) (by omega) (by omega)
      rwa [Int.toNat_natCast] at this
    have FN : ∀ l h : Int, (answerS t l h a now).2 = true → answerN t l h a now = 2 := fun l h e => answerN_2 e
    repeat' (first | with_reducible rfl | ((conv => whnf); first | (with_reducible exact trivial) | ((with_reducible refine and_ff ?_ ?_); · exact rfl) | ((with_reducible refine and_tt ?_ ?_); · exact rfl) | (with_reducible refine And.intro ?_ ?_) | intro _ | (with_reducible refine fin2 hk ?_) | ((with_reducible refine eq_leaf ?_); exact rfl) | exact trivial))
    all_goals try ((with_reducible refine (?_ : Task.ok _)); exact hok)
    all_goals clear hok
    all_goals try ((first | with_reducible refine (?_ : (_ : Int) ≤ _) | with_reducible refine (?_ : (_ : Int) < _) | with_reducible refine (?_ : (_ : Nat) ≤ _) | with_reducible refine (?_ : (_ : Nat) < _)); clear hk; try simp only [taskOf_agg, ↓Bool.not_eq_true', ↓Bool.not_eq_false', ↓decT, ↓decF, out_true, out_false, isin_true, isin_false, Int.toNat_natCast, Int.ofNat_lt, Nat.zero_add, Nat.add_zero, Nat.reduceAdd] at *; first | omega | (have F' := F (by assumption); omega) | (have F' := FN _ _ (by assumption); omega))
    all_goals try conv => whnf
    rotate_left 2
    · rename_i g1 g2
      clear hk F FN hc
      simp only [taskOf_agg, ↓Bool.not_eq_true', ↓Bool.not_eq_false', ↓decT, ↓decF, out_true, out_false, isin_true, isin_false, Int.toNat_natCast, Int.ofNat_lt, Nat.zero_add, Nat.add_zero, Nat.reduceAdd] at g1 g2
      have hb : badB t a now i = false := by unfold badB ansB; rw [g2]; rfl
      refine ⟨i + 1, ?_⟩
      repeat' (first | with_reducible rfl | ((conv => whnf); first | (with_reducible exact trivial) | ((with_reducible refine and_ff ?_ ?_); · exact rfl) | ((with_reducible refine and_tt ?_ ?_); · exact rfl) | (with_reducible refine And.intro ?_ ?_) | intro _ | (with_reducible refine fin2 hk ?_) | ((with_reducible refine eq_leaf ?_); exact rfl) | exact trivial))
      all_goals first
        | omega
        | exact band_snoc rfl (by assumption) (by assumption)
        | exact band_snoc2 (x := t.ca i 0 - 1 + 1) rfl (by omega) (by assumption) (by assumption)
        | (rw [anyBelow, hq, hb]; rfl)
        | (simp only; omega)
    · have e : i = t.nc := by (clear hk; simp only [taskOf_agg, ↓Bool.not_eq_true', ↓Bool.not_eq_false', ↓decT, ↓decF, out_true, out_false, isin_true, isin_false, Int.toNat_natCast, Int.ofNat_lt, Nat.zero_add, Nat.add_zero, Nat.reduceAdd] at *; omega)
      rw [hc, if_neg (by rw [← e, hq]; exact Bool.noConfusion)]
      exact e
    · have e : i = t.nc := by (clear hk; simp only [taskOf_agg, ↓Bool.not_eq_true', ↓Bool.not_eq_false', ↓decT, ↓decF, out_true, out_false, isin_true, isin_false, Int.toNat_natCast, Int.ofNat_lt, Nat.zero_add, Nat.add_zero, Nat.reduceAdd] at *; omega)
      rw [hc, if_neg (by rw [← e, hq]; exact Bool.noConfusion)]
    all_goals (rename_i g1 g2; clear hk; simp only [taskOf_agg, ↓Bool.not_eq_true', ↓Bool.not_eq_false', ↓decT, ↓decF, out_true, out_false, isin_true, isin_false, Int.toNat_natCast, Int.ofNat_lt, Nat.zero_add, Nat.add_zero, Nat.reduceAdd] at g1 g2; have hb : anyBelow (badB t a now) t.nc = true := anyBelow_iff.mpr ⟨i, g1, by unfold badB ansB; rw [g2]; rfl⟩)
    all_goals rw [hc, if_pos hb]
  all_goals clear hk
  all_goals subst hS
  all_goals try simp only [taskOf_agg, ↓Bool.not_eq_true', ↓Bool.not_eq_false', ↓decT, ↓decF, out_true, out_false, isin_true, isin_false, Int.toNat_natCast, Int.ofNat_lt, Nat.zero_add, Nat.add_zero, Nat.reduceAdd, Int.toNat_zero, Int.reduceToNat, ↓reduceIte, reduceCtorEq, Bool.or_eq_true, Bool.or_eq_false_iff, Bool.and_eq_true, Bool.and_eq_false_iff] at *
  all_goals try simp only [bandsT, checkE, tickB, taskOf_agg, ↓Bool.not_eq_true', ↓Bool.not_eq_false', ↓decT, ↓decF, out_true, out_false, isin_true, isin_false, Int.toNat_natCast, Int.ofNat_lt, Nat.zero_add, Nat.add_zero, Nat.reduceAdd, Int.toNat_zero, Int.reduceToNat, ↓reduceIte, reduceCtorEq, Bool.or_eq_true, Bool.or_eq_false_iff, Bool.and_eq_true, Bool.and_eq_false_iff]
  all_goals repeat' split
  all_goals first | with_reducible rfl | omega | (simp_all only [reduceCtorEq]; done) | rfl
theorem windBandsT_ok : PSound Go.Proofs.Try.prog 27 (mk rBandsT) := by
  refine psound_mk Try.func27 (by kernel_rfl) rfl (ctx lib31_ok) ?_
  (intro ds p d h; unfold rBandsT at h; split at h <;> first | (cases h; done) | skip; cases h; refine ⟨Nat.le_of_ble_eq_true rfl, fun hp k hk => ?_⟩)
  rename_i d a now
  obtain ⟨ht, hf⟩ := hp
  refine ⟨[(taskOf d).D, .int .i64 a, .int .i64 now], task_imp ht ⟨rfl, rfl, ?_⟩⟩
  clear ht
  generalize taskOf d = t at *
  generalize hS : bandsT t a now = c at *
  repeat' (first | with_reducible rfl | ((conv => whnf); first | (with_reducible exact trivial) | ((with_reducible refine and_ff ?_ ?_); · exact rfl) | ((with_reducible refine and_tt ?_ ?_); · exact rfl) | (with_reducible refine And.intro ?_ ?_) | intro _ | (with_reducible refine fin2 hk ?_) | ((with_reducible refine eq_leaf ?_); exact rfl) | exact trivial))
  all_goals try exact hf _ (by assumption)
  all_goals clear hf
  rotate_left 6
  · rename_i g1 g2 g3
    have E : checkE t = 0 := by
      clear hS hk
      simp only [taskOf_agg, ↓Bool.not_eq_true', ↓Bool.not_eq_false', ↓decT, ↓decF, out_true, out_false, isin_true, isin_false, Int.toNat_natCast, Int.ofNat_lt, Nat.zero_add, Nat.add_zero, Nat.reduceAdd] at *
      assumption
    have hok := check_ok E
    have ha : 0 ≤ a ∧ a ≤ 100000 := by
      clear hS hk
      simp only [taskOf_agg, ↓Bool.not_eq_true', ↓Bool.not_eq_false', ↓decT, ↓decF, out_true, out_false, isin_true, isin_false, Int.toNat_natCast, Int.ofNat_lt, Nat.zero_add, Nat.add_zero, Nat.reduceAdd] at *
      omega
    have hnow : 0 ≤ now ∧ now ≤ 100000 := by
      clear hS hk
      simp only [taskOf_agg, ↓Bool.not_eq_true', ↓Bool.not_eq_false', ↓decT, ↓decF, out_true, out_false, isin_true, isin_false, Int.toNat_natCast, Int.ofNat_lt, Nat.zero_add, Nat.add_zero, Nat.reduceAdd] at *
      omega
    have hc : c = if anyBelow (badB t a now) t.nc = true then (0, 9) else (t.nc, 0) := by
      rw [← hS, bandsT, if_neg (fun h => h E), if_neg]
      rw [show tickB a = true from by simp only [tickB, taskOf_agg, ↓Bool.not_eq_true', ↓Bool.not_eq_false', ↓decT, ↓decF, out_true, out_false, isin_true, isin_false, Int.toNat_natCast, Int.ofNat_lt, Nat.zero_add, Nat.add_zero, Nat.reduceAdd]; exact ha, show tickB now = true from by simp only [tickB, taskOf_agg, ↓Bool.not_eq_true', ↓Bool.not_eq_false', ↓decT, ↓decF, out_true, out_false, isin_true, isin_false, Int.toNat_natCast, Int.ofNat_lt, Nat.zero_add, Nat.add_zero, Nat.reduceAdd]; exact hnow]
      exact Bool.noConfusion
    have hnc := hok.nc
    clear hS g1 g2 g3
    refine ⟨Nat, fun i => [(1, .int .i64 a), (2, .int .i64 now), (3, .ptr 0 0), (6, .own 2 i), (8, .ptr 1 0), (33, .rsl 1 t.nc (imD t.ca)), (34, .int .i64 t.nc), (35, .int .i64 i)], fun i => [some (taskRow t), some (.row (viewL t a now)), some (.buf 61 6 i (imD (bandA t a now)))],
      fun i => t.nc - i, fun i => i ≤ t.nc ∧ anyBelow (badB t a now) i = false, [(61, 6)], 0, fun _ => ⟨?_, ?_⟩, ?_, fun i hi => ?_⟩
    · conv => lhs; whnf
    · conv => lhs; whnf
    · clear hk
      repeat' (first | with_reducible rfl | ((conv => whnf); first | (with_reducible exact trivial) | ((with_reducible refine and_ff ?_ ?_); · exact rfl) | ((with_reducible refine and_tt ?_ ?_); · exact rfl) | (with_reducible refine And.intro ?_ ?_) | intro _ | (with_reducible refine fin2 hk ?_) | ((with_reducible refine eq_leaf ?_); exact rfl) | exact trivial))
      all_goals first | exact Nat.zero_le _ | (exact absurd (by assumption) (Nat.not_lt_zero _)) | rfl
    obtain ⟨hi, hq⟩ := hi
    have F : i < t.nc → (0 ≤ lowS t i ∧ lowS t i < 100000000) ∧ (1 ≤ t.ca i 0 ∧ t.ca i 0 ≤ 100000000) := fun h => by
      have := low_ok E (b := (i : Int)) (by omega) (by omega)
      rwa [Int.toNat_natCast] at this
    have FN : ∀ l h : Int, (answerS t l h a now).2 = true → answerN t l h a now = 2 := fun l h e => answerN_2 e
    repeat' (first | with_reducible rfl | ((conv => whnf); first | (with_reducible exact trivial) | ((with_reducible refine and_ff ?_ ?_); · exact rfl) | ((with_reducible refine and_tt ?_ ?_); · exact rfl) | (with_reducible refine And.intro ?_ ?_) | intro _ | (with_reducible refine fin2 hk ?_) | ((with_reducible refine eq_leaf ?_); exact rfl) | exact trivial))
    all_goals try ((with_reducible refine (?_ : Task.ok _)); exact hok)
    all_goals clear hok
    all_goals try ((first | with_reducible refine (?_ : (_ : Int) ≤ _) | with_reducible refine (?_ : (_ : Int) < _) | with_reducible refine (?_ : (_ : Nat) ≤ _) | with_reducible refine (?_ : (_ : Nat) < _)); clear hk; try simp only [taskOf_agg, ↓Bool.not_eq_true', ↓Bool.not_eq_false', ↓decT, ↓decF, out_true, out_false, isin_true, isin_false, Int.toNat_natCast, Int.ofNat_lt, Nat.zero_add, Nat.add_zero, Nat.reduceAdd] at *; first | omega | (have F' := F (by assumption); omega) | (have F' := FN _ _ (by assumption); omega))
    all_goals try conv => whnf
    rotate_left 2
    · rename_i g1 g2
      clear hk F FN hc
      simp only [taskOf_agg, ↓Bool.not_eq_true', ↓Bool.not_eq_false', ↓decT, ↓decF, out_true, out_false, isin_true, isin_false, Int.toNat_natCast, Int.ofNat_lt, Nat.zero_add, Nat.add_zero, Nat.reduceAdd] at g1 g2
      have hb : badB t a now i = false := by unfold badB ansB; rw [g2]; rfl
      refine ⟨i + 1, ?_⟩
      repeat' (first | with_reducible rfl | ((conv => whnf); first | (with_reducible exact trivial) | ((with_reducible refine and_ff ?_ ?_); · exact rfl) | ((with_reducible refine and_tt ?_ ?_); · exact rfl) | (with_reducible refine And.intro ?_ ?_) | intro _ | (with_reducible refine fin2 hk ?_) | ((with_reducible refine eq_leaf ?_); exact rfl) | exact trivial))
      all_goals first
        | omega
        | exact band_snoc rfl (by assumption) (by assumption)
        | exact band_snoc2 (x := t.ca i 0 - 1 + 1) rfl (by omega) (by assumption) (by assumption)
        | (rw [anyBelow, hq, hb]; rfl)
        | (simp only; omega)
    · have e : i = t.nc := by (clear hk; simp only [taskOf_agg, ↓Bool.not_eq_true', ↓Bool.not_eq_false', ↓decT, ↓decF, out_true, out_false, isin_true, isin_false, Int.toNat_natCast, Int.ofNat_lt, Nat.zero_add, Nat.add_zero, Nat.reduceAdd] at *; omega)
      rw [hc, if_neg (by rw [← e, hq]; exact Bool.noConfusion)]
      exact e
    · have e : i = t.nc := by (clear hk; simp only [taskOf_agg, ↓Bool.not_eq_true', ↓Bool.not_eq_false', ↓decT, ↓decF, out_true, out_false, isin_true, isin_false, Int.toNat_natCast, Int.ofNat_lt, Nat.zero_add, Nat.add_zero, Nat.reduceAdd] at *; omega)
      rw [hc, if_neg (by rw [← e, hq]; exact Bool.noConfusion)]
    all_goals (rename_i g1 g2; clear hk; simp only [taskOf_agg, ↓Bool.not_eq_true', ↓Bool.not_eq_false', ↓decT, ↓decF, out_true, out_false, isin_true, isin_false, Int.toNat_natCast, Int.ofNat_lt, Nat.zero_add, Nat.add_zero, Nat.reduceAdd] at g1 g2; have hb : anyBelow (badB t a now) t.nc = true := anyBelow_iff.mpr ⟨i, g1, by unfold badB ansB; rw [g2]; rfl⟩)
    all_goals rw [hc, if_pos hb]
  all_goals clear hk
  all_goals subst hS
  all_goals try simp only [taskOf_agg, ↓Bool.not_eq_true', ↓Bool.not_eq_false', ↓decT, ↓decF, out_true, out_false, isin_true, isin_false, Int.toNat_natCast, Int.ofNat_lt, Nat.zero_add, Nat.add_zero, Nat.reduceAdd, Int.toNat_zero, Int.reduceToNat, ↓reduceIte, reduceCtorEq, Bool.or_eq_true, Bool.or_eq_false_iff, Bool.and_eq_true, Bool.and_eq_false_iff] at *
  all_goals try simp only [bandsT, checkE, tickB, taskOf_agg, ↓Bool.not_eq_true', ↓Bool.not_eq_false', ↓decT, ↓decF, out_true, out_false, isin_true, isin_false, Int.toNat_natCast, Int.ofNat_lt, Nat.zero_add, Nat.add_zero, Nat.reduceAdd, Int.toNat_zero, Int.reduceToNat, ↓reduceIte, reduceCtorEq, Bool.or_eq_true, Bool.or_eq_false_iff, Bool.and_eq_true, Bool.and_eq_false_iff]
  all_goals repeat' split
  all_goals first | with_reducible rfl | omega | (simp_all only [reduceCtorEq]; done) | rfl
end Go.Proofs.Ytbkehkiflfhpfaa
