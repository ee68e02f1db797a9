/-
  Contracts of the wind: At, Says, Blame (both).
-/
import Derived.Test.YtbkehkiflfhpfaaWu
set_option linter.unusedVariables false
set_option linter.unusedSimpArgs false
set_option maxRecDepth 100000
set_option maxHeartbeats 4000000
namespace Go.Proofs.Ytbkehkiflfhpfaa
open Go.V

attribute [local irreducible] doubtS saysS leftS agreeS blameS answerS checkS begun nameS lowS answerN
def lib28 : Lib := (33, mk rDoubtT) :: (34, mk rDoubtT) :: lib27
theorem lib28_ok : LibOK Go.Proofs.Try.prog lib28 := .cons windDoubt_ok (.cons refDoubt_ok lib27_ok)

def left00 : Left := ⟨0, 0, 0, 0⟩
def atT (t : Task) (h a now : Int) : Left × Int :=
  if checkE t ≠ 0 then (left00, checkE t) else if (heightB h && tickB a && tickB now) = false then (left00, 7) else if (answerS t h h a now).2 = false then (left00, 9) else ((answerS t h h a now).1, 0)
def spansD (l : Left) (e : Int) : V.D := .tup [.agg [.int .i64 l.xl, .int .i64 l.xh], .agg [.int .i64 l.yl, .int .i64 l.yh], .int .i64 e]
def rAtT : List V.D → Option (Prop × V.D) := fun ds => match ds with
  | [d, .int .i64 h, .int .i64 a, .int .i64 now] => some (TaskIs d ∧ (taskOf d).fits, spansD (atT (taskOf d) h a now).1 (atT (taskOf d) h a now).2)
  | _ => none
theorem answerN_2 {t : Task} {l h a n : Int} (e : (answerS t l h a n).2 = true) : answerN t l h a n = 2 := by unfold answerN; exact if_pos e
theorem any2 (a b c d : Int) : anyBelow (empty (im (leftG a b c d))) 2 = (decide (b < a) || decide (d < c)) := by
  simp [anyBelow, empty, im, leftG, toI]
theorem windAt_ok : PSound Go.Proofs.Try.prog 25 (mk rAtT) := by
  refine psound_mk Try.func25 (by kernel_rfl) rfl (ctx lib28_ok) ?_
  (intro ds p d h; unfold rAtT at h; split at h <;> first | (cases h; done) | skip; cases h; refine ⟨Nat.le_of_ble_eq_true rfl, fun hp k hk => ?_⟩)
  rename_i d h a now
  obtain ⟨ht, hf⟩ := hp
  refine ⟨[(taskOf d).D, .int .i64 h, .int .i64 a, .int .i64 now], task_imp ht ⟨rfl, rfl, rfl, ?_⟩⟩
  clear ht
  generalize taskOf d = t at *
  generalize hS : atT t h a now = c at *
  repeat' (first | with_reducible rfl | ((conv => whnf); first | (with_reducible exact trivial) | ((with_reducible refine and_ff ?_ ?_); · exact rfl) | ((with_reducible refine and_tt ?_ ?_); · exact rfl) | (with_reducible refine And.intro ?_ ?_) | intro _ | (with_reducible refine fin2 hk ?_) | ((with_reducible refine eq_leaf ?_); exact rfl) | exact trivial))
  all_goals try exact hf _ (by assumption)
  all_goals clear hf
  all_goals try ((with_reducible refine (?_ : Task.ok _)); clear hS hk; simp only [taskOf_agg, ↓Bool.not_eq_true', ↓Bool.not_eq_false', ↓decT, ↓decF, out_true, out_false, isin_true, isin_false, Int.toNat_natCast, Int.ofNat_lt, Nat.zero_add, Nat.add_zero, Nat.reduceAdd] at *; exact check_ok (by assumption))
  all_goals try ((first | with_reducible refine (?_ : (_ : Int) ≤ _) | with_reducible refine (?_ : (_ : Int) < _) | with_reducible refine (?_ : (_ : Nat) ≤ _) | with_reducible refine (?_ : (_ : Nat) < _)); clear hS hk; try simp only [taskOf_agg, ↓Bool.not_eq_true', ↓Bool.not_eq_false', ↓decT, ↓decF, out_true, out_false, isin_true, isin_false, Int.toNat_natCast, Int.ofNat_lt, Nat.zero_add, Nat.add_zero, Nat.reduceAdd] at *; first | omega | (have F3 := answerN_2 (by assumption); omega))
  all_goals clear hk
  all_goals subst hS
  all_goals try simp only [any2, taskOf_agg, ↓Bool.not_eq_true', ↓Bool.not_eq_false', ↓decT, ↓decF, out_true, out_false, isin_true, isin_false, Int.toNat_natCast, Int.ofNat_lt, Nat.zero_add, Nat.add_zero, Nat.reduceAdd, Int.toNat_zero, Int.reduceToNat, ↓reduceIte, reduceCtorEq, Bool.or_eq_true, Bool.or_eq_false_iff, Bool.and_eq_true, Bool.and_eq_false_iff] at *
  all_goals try simp only [atT, left00, checkE, heightB, tickB, taskOf_agg, ↓Bool.not_eq_true', ↓Bool.not_eq_false', ↓decT, ↓decF, out_true, out_false, isin_true, isin_false, Int.toNat_natCast, Int.ofNat_lt, Nat.zero_add, Nat.add_zero, Nat.reduceAdd, Int.toNat_zero, Int.reduceToNat, ↓reduceIte, reduceCtorEq, Bool.or_eq_true, Bool.or_eq_false_iff, Bool.and_eq_true, Bool.and_eq_false_iff]
  all_goals repeat' split
  all_goals first | with_reducible rfl | omega | (simp_all only [reduceCtorEq]; done)
theorem refAt_ok : PSound Go.Proofs.Try.prog 26 (mk rAtT) := by
  refine psound_mk Try.func26 (by kernel_rfl) rfl (ctx lib28_ok) ?_
  (intro ds p d h; unfold rAtT at h; split at h <;> first | (cases h; done) | skip; cases h; refine ⟨Nat.le_of_ble_eq_true rfl, fun hp k hk => ?_⟩)
  rename_i d h a now
  obtain ⟨ht, hf⟩ := hp
  refine ⟨[(taskOf d).D, .int .i64 h, .int .i64 a, .int .i64 now], task_imp ht ⟨rfl, rfl, rfl, ?_⟩⟩
  clear ht
  generalize taskOf d = t at *
  generalize hS : atT t h a now = c at *
  repeat' (first | with_reducible rfl | ((conv => whnf); first | (with_reducible exact trivial) | ((with_reducible refine and_ff ?_ ?_); · exact rfl) | ((with_reducible refine and_tt ?_ ?_); · exact rfl) | (with_reducible refine And.intro ?_ ?_) | intro _ | (with_reducible refine fin2 hk ?_) | ((with_reducible refine eq_leaf ?_); exact rfl) | exact trivial))
  all_goals try exact hf _ (by assumption)
  all_goals clear hf
  all_goals try ((with_reducible refine (?_ : Task.ok _)); clear hS hk; simp only [taskOf_agg, ↓Bool.not_eq_true', ↓Bool.not_eq_false', ↓decT, ↓decF, out_true, out_false, isin_true, isin_false, Int.toNat_natCast, Int.ofNat_lt, Nat.zero_add, Nat.add_zero, Nat.reduceAdd] at *; exact check_ok (by assumption))
  all_goals try ((first | with_reducible refine (?_ : (_ : Int) ≤ _) | with_reducible refine (?_ : (_ : Int) < _) | with_reducible refine (?_ : (_ : Nat) ≤ _) | with_reducible refine (?_ : (_ : Nat) < _)); clear hS hk; try simp only [taskOf_agg, ↓Bool.not_eq_true', ↓Bool.not_eq_false', ↓decT, ↓decF, out_true, out_false, isin_true, isin_false, Int.toNat_natCast, Int.ofNat_lt, Nat.zero_add, Nat.add_zero, Nat.reduceAdd] at *; first | omega | (have F3 := answerN_2 (by assumption); omega))
  all_goals clear hk
  all_goals subst hS
  all_goals try simp only [any2, taskOf_agg, ↓Bool.not_eq_true', ↓Bool.not_eq_false', ↓decT, ↓decF, out_true, out_false, isin_true, isin_false, Int.toNat_natCast, Int.ofNat_lt, Nat.zero_add, Nat.add_zero, Nat.reduceAdd, Int.toNat_zero, Int.reduceToNat, ↓reduceIte, reduceCtorEq, Bool.or_eq_true, Bool.or_eq_false_iff, Bool.and_eq_true, Bool.and_eq_false_iff] at *
  all_goals try simp only [atT, left00, checkE, heightB, tickB, taskOf_agg, ↓Bool.not_eq_true', ↓Bool.not_eq_false', ↓decT, ↓decF, out_true, out_false, isin_true, isin_false, Int.toNat_natCast, Int.ofNat_lt, Nat.zero_add, Nat.add_zero, Nat.reduceAdd, Int.toNat_zero, Int.reduceToNat, ↓reduceIte, reduceCtorEq, Bool.or_eq_true, Bool.or_eq_false_iff, Bool.and_eq_true, Bool.and_eq_false_iff]
  all_goals repeat' split
  all_goals first | with_reducible rfl | omega | (simp_all only [reduceCtorEq]; done)

def saysT (t : Task) (s b a now : Int) : Left × Int :=
  if checkE t ≠ 0 then (left00, checkE t) else if (isin s 0 (t.ns - 1) && isin b 0 (t.nc - 1)) = false then (left00, 4) else if (tickB a && tickB now) = false then (left00, 7) else
    if (saysS t s (lowS t b.toNat) (t.ca b.toNat 0 - 1) a now).some = false then (left00, 4) else
      if (saysS t s (lowS t b.toNat) (t.ca b.toNat 0 - 1) a now).xh < (saysS t s (lowS t b.toNat) (t.ca b.toNat 0 - 1) a now).xl ∨ (saysS t s (lowS t b.toNat) (t.ca b.toNat 0 - 1) a now).yh < (saysS t s (lowS t b.toNat) (t.ca b.toNat 0 - 1) a now).yl then (left00, 9) else
        (⟨(saysS t s (lowS t b.toNat) (t.ca b.toNat 0 - 1) a now).xl, (saysS t s (lowS t b.toNat) (t.ca b.toNat 0 - 1) a now).xh, (saysS t s (lowS t b.toNat) (t.ca b.toNat 0 - 1) a now).yl, (saysS t s (lowS t b.toNat) (t.ca b.toNat 0 - 1) a now).yh⟩, 0)
def rSaysT : List V.D → Option (Prop × V.D) := fun ds => match ds with
  | [d, .int .i64 s, .int .i64 b, .int .i64 a, .int .i64 now] => some (TaskIs d ∧ (taskOf d).fits, spansD (saysT (taskOf d) s b a now).1 (saysT (taskOf d) s b a now).2)
  | _ => none
theorem low_ok {t : Task} (h : (checkS t).2.2 = 0) {b : Int} (h0 : 0 ≤ b) (h1 : b ≤ t.nc - 1) : (0 ≤ lowS t b.toNat ∧ lowS t b.toNat < 100000000) ∧ (1 ≤ t.ca b.toNat 0 ∧ t.ca b.toNat 0 ≤ 100000000) := by
  have hok := check_ok h
  have h2 := hok.cut b.toNat (by omega)
  refine ⟨?_, h2⟩
  unfold lowS
  split
  · omega
  · rename_i hb
    have h3 := hok.cut (b.toNat - 1) (by omega)
    have h4 := hok.rise (b.toNat - 1) (by omega)
    rw [show b.toNat - 1 + 1 = b.toNat by omega] at h4
    omega
theorem windSays_ok : PSound Go.Proofs.Try.prog 40 (mk rSaysT) := by
  refine psound_mk Try.func40 (by kernel_rfl) rfl (ctx lib28_ok) ?_
  (intro ds p d h; unfold rSaysT at h; split at h <;> first | (cases h; done) | skip; cases h; refine ⟨Nat.le_of_ble_eq_true rfl, fun hp k hk => ?_⟩)
  rename_i d s b a now
  obtain ⟨ht, hf⟩ := hp
  refine ⟨[(taskOf d).D, .int .i64 s, .int .i64 b, .int .i64 a, .int .i64 now], task_imp ht ⟨rfl, rfl, rfl, rfl, ?_⟩⟩
  clear ht
  generalize taskOf d = t at *
  generalize hS : saysT t s b a now = c at *
  repeat' (first | with_reducible rfl | ((conv => whnf); first | (with_reducible exact trivial) | ((with_reducible refine and_ff ?_ ?_); · exact rfl) | ((with_reducible refine and_tt ?_ ?_); · exact rfl) | (with_reducible refine And.intro ?_ ?_) | intro _ | (with_reducible refine fin2 hk ?_) | ((with_reducible refine eq_leaf ?_); exact rfl) | exact trivial))
  all_goals try exact hf _ (by assumption)
  all_goals clear hf
  all_goals try ((with_reducible refine (?_ : Task.ok _)); clear hS hk; simp only [taskOf_agg, ↓Bool.not_eq_true', ↓Bool.not_eq_false', ↓decT, ↓decF, out_true, out_false, isin_true, isin_false, Int.toNat_natCast, Int.ofNat_lt, Nat.zero_add, Nat.add_zero, Nat.reduceAdd] at *; exact check_ok (by assumption))
  all_goals try ((first | with_reducible refine (?_ : (_ : Int) ≤ _) | with_reducible refine (?_ : (_ : Int) < _) | with_reducible refine (?_ : (_ : Nat) ≤ _) | with_reducible refine (?_ : (_ : Nat) < _)); clear hS hk; try simp only [taskOf_agg, ↓Bool.not_eq_true', ↓Bool.not_eq_false', ↓decT, ↓decF, out_true, out_false, isin_true, isin_false, Int.toNat_natCast, Int.ofNat_lt, Nat.zero_add, Nat.add_zero, Nat.reduceAdd] at *; first | omega | (have F1 := small_nx (t := t) (by assumption); first | omega | (have F2 := low_ok (t := t) (b := b) (by assumption) (by omega) (by omega); omega)))
  all_goals clear hk
  all_goals subst hS
  all_goals try simp only [any2, taskOf_agg, ↓Bool.not_eq_true', ↓Bool.not_eq_false', ↓decT, ↓decF, out_true, out_false, isin_true, isin_false, Int.toNat_natCast, Int.ofNat_lt, Nat.zero_add, Nat.add_zero, Nat.reduceAdd, Int.toNat_zero, Int.reduceToNat, ↓reduceIte, reduceCtorEq, Bool.or_eq_true, Bool.or_eq_false_iff, Bool.and_eq_true, Bool.and_eq_false_iff] at *
  all_goals try simp only [saysT, left00, checkE, heightB, tickB, taskOf_agg, ↓Bool.not_eq_true', ↓Bool.not_eq_false', ↓decT, ↓decF, out_true, out_false, isin_true, isin_false, Int.toNat_natCast, Int.ofNat_lt, Nat.zero_add, Nat.add_zero, Nat.reduceAdd, Int.toNat_zero, Int.reduceToNat, ↓reduceIte, reduceCtorEq, Bool.or_eq_true, Bool.or_eq_false_iff, Bool.and_eq_true, Bool.and_eq_false_iff]
  all_goals repeat' split
  all_goals first | with_reducible rfl | omega | (simp_all only [reduceCtorEq]; done)
theorem refSaysT_ok : PSound Go.Proofs.Try.prog 41 (mk rSaysT) := by
  refine psound_mk Try.func41 (by kernel_rfl) rfl (ctx lib28_ok) ?_
  (intro ds p d h; unfold rSaysT at h; split at h <;> first | (cases h; done) | skip; cases h; refine ⟨Nat.le_of_ble_eq_true rfl, fun hp k hk => ?_⟩)
  rename_i d s b a now
  obtain ⟨ht, hf⟩ := hp
  refine ⟨[(taskOf d).D, .int .i64 s, .int .i64 b, .int .i64 a, .int .i64 now], task_imp ht ⟨rfl, rfl, rfl, rfl, ?_⟩⟩
  clear ht
  generalize taskOf d = t at *
  generalize hS : saysT t s b a now = c at *
  repeat' (first | with_reducible rfl | ((conv => whnf); first | (with_reducible exact trivial) | ((with_reducible refine and_ff ?_ ?_); · exact rfl) | ((with_reducible refine and_tt ?_ ?_); · exact rfl) | (with_reducible refine And.intro ?_ ?_) | intro _ | (with_reducible refine fin2 hk ?_) | ((with_reducible refine eq_leaf ?_); exact rfl) | exact trivial))
  all_goals try exact hf _ (by assumption)
  all_goals clear hf
  all_goals try ((with_reducible refine (?_ : Task.ok _)); clear hS hk; simp only [taskOf_agg, ↓Bool.not_eq_true', ↓Bool.not_eq_false', ↓decT, ↓decF, out_true, out_false, isin_true, isin_false, Int.toNat_natCast, Int.ofNat_lt, Nat.zero_add, Nat.add_zero, Nat.reduceAdd] at *; exact check_ok (by assumption))
  all_goals try ((first | with_reducible refine (?_ : (_ : Int) ≤ _) | with_reducible refine (?_ : (_ : Int) < _) | with_reducible refine (?_ : (_ : Nat) ≤ _) | with_reducible refine (?_ : (_ : Nat) < _)); clear hS hk; try simp only [taskOf_agg, ↓Bool.not_eq_true', ↓Bool.not_eq_false', ↓decT, ↓decF, out_true, out_false, isin_true, isin_false, Int.toNat_natCast, Int.ofNat_lt, Nat.zero_add, Nat.add_zero, Nat.reduceAdd] at *; first | omega | (have F1 := small_nx (t := t) (by assumption); first | omega | (have F2 := low_ok (t := t) (b := b) (by assumption) (by omega) (by omega); omega)))
  all_goals clear hk
  all_goals subst hS
  all_goals try simp only [any2, taskOf_agg, ↓Bool.not_eq_true', ↓Bool.not_eq_false', ↓decT, ↓decF, out_true, out_false, isin_true, isin_false, Int.toNat_natCast, Int.ofNat_lt, Nat.zero_add, Nat.add_zero, Nat.reduceAdd, Int.toNat_zero, Int.reduceToNat, ↓reduceIte, reduceCtorEq, Bool.or_eq_true, Bool.or_eq_false_iff, Bool.and_eq_true, Bool.and_eq_false_iff] at *
  all_goals try simp only [saysT, left00, checkE, heightB, tickB, taskOf_agg, ↓Bool.not_eq_true', ↓Bool.not_eq_false', ↓decT, ↓decF, out_true, out_false, isin_true, isin_false, Int.toNat_natCast, Int.ofNat_lt, Nat.zero_add, Nat.add_zero, Nat.reduceAdd, Int.toNat_zero, Int.reduceToNat, ↓reduceIte, reduceCtorEq, Bool.or_eq_true, Bool.or_eq_false_iff, Bool.and_eq_true, Bool.and_eq_false_iff]
  all_goals repeat' split
  all_goals first | with_reducible rfl | omega | (simp_all only [reduceCtorEq]; done)
end Go.Proofs.Ytbkehkiflfhpfaa
