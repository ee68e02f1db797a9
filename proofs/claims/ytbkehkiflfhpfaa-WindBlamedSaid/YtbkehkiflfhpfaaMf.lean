/-
  Contracts of the wind: Doubt and At (both).
-/
import Derived.Test.YtbkehkiflfhpfaaMe
import Derived.Test.YtbkehkiflfhpfaaMc
import Derived.Test.YtbkehkiflfhpfaaRows
section
set_option linter.unusedVariables false
set_option linter.unusedSimpArgs false
set_option maxRecDepth 100000
set_option maxHeartbeats 4000000
namespace Go.Proofs.Ytbkehkiflfhpfaa
open Go.V

def lib27 : Lib := (68, mk rViewAnswer) :: lib26
theorem lib27_ok : LibOK Go.Proofs.Try.prog lib27 := .cons viewAnswer_ok lib26_ok
def checkE (t : Task) : Int := (checkS t).2.2
theorem checkE_ok {t : Task} (h : checkE t = 0) : t.ok := check_ok h
def tickB (n : Int) : Bool := isin n 0 100000
def heightB (n : Int) : Bool := isin n 0 99999999

def doubtT (t : Task) (i h tick : Int) : Int × Int :=
  if checkE t ≠ 0 then (0, checkE t) else if isin i 0 (t.nx - 1) = false then (0, 4) else if (heightB h && tickB tick) = false then (0, 7) else (doubtS t i.toNat h tick, 0)
def rDoubtT : List V.D → Option (Prop × V.D) := fun ds => match ds with
  | [d, .int .i64 i, .int .i64 h, .int .i64 tick] => some (TaskIs d ∧ (taskOf d).fits, .tup [.int .i64 (doubtT (taskOf d) i h tick).1, .int .i64 (doubtT (taskOf d) i h tick).2])
  | _ => none
theorem doubtT_e {t : Task} {i h tick : Int} (h1 : checkE t ≠ 0) : doubtT t i h tick = (0, checkE t) := if_pos h1
theorem doubtT_4 {t : Task} {i h tick : Int} (h1 : checkE t = 0) (h2 : isin i 0 (t.nx - 1) = false) : doubtT t i h tick = (0, 4) := (if_neg (fun g => g h1)).trans (if_pos h2)
theorem doubtT_7 {t : Task} {i h tick : Int} (h1 : checkE t = 0) (h2 : isin i 0 (t.nx - 1) = true) (h3 : (heightB h && tickB tick) = false) : doubtT t i h tick = (0, 7) :=
  (if_neg (fun g => g h1)).trans ((if_neg (by rw [h2]; exact Bool.noConfusion)).trans (if_pos h3))
theorem doubtT_0 {t : Task} {i h tick : Int} (h1 : checkE t = 0) (h2 : isin i 0 (t.nx - 1) = true) (h3 : (heightB h && tickB tick) = true) : doubtT t i h tick = (doubtS t i.toNat h tick, 0) :=
  (if_neg (fun g => g h1)).trans ((if_neg (by rw [h2]; exact Bool.noConfusion)).trans (if_neg (by rw [h3]; exact Bool.noConfusion)))

theorem and_ff {b : Bool} {A B : Prop} (e : b = false) (h : B) : (b = true → A) ∧ (b = false → B) := ⟨fun h1 => (by rw [e] at h1; cases h1), fun _ => h⟩
theorem and_tt {b : Bool} {A B : Prop} (e : b = true) (h : A) : (b = true → A) ∧ (b = false → B) := ⟨fun _ => h, fun h1 => (by rw [e] at h1; cases h1)⟩
theorem fin2 {d d0 : V.D} {k : V.D → Prop} (h : k d0) (hi : impA noGh d d0 True) : ∃ d1, k d1 ∧ Imp d d1 := fin_of h hi
theorem eq_leaf {α : Type} {a b : α} (h : a = b) : a = b := h
theorem decT {p : Prop} {i : Decidable p} : (@decide p i = true) = p := by cases i <;> simp_all
theorem decF {p : Prop} {i : Decidable p} : (@decide p i = false) = ¬ p := by cases i <;> simp_all
theorem out_true (n a b : Int) : (out n a b = true) = (n < a ∨ b < n) := by simp [out]
theorem out_false (n a b : Int) : (out n a b = false) = (a ≤ n ∧ n ≤ b) := by simp [out]
theorem isin_true (n a b : Int) : (isin n a b = true) = (a ≤ n ∧ n ≤ b) := by simp [isin]
theorem isin_false (n a b : Int) : (isin n a b = false) = (n < a ∨ b < n) := by simp [isin]; omega
theorem ok_at {t : Task} (h : (checkS t).2.2 = 0) {i : Int} (h0 : 0 ≤ i) (h1 : i < t.nx) : (0 ≤ t.xa i.toNat 0 ∧ t.xa i.toNat 0 < t.ns) ∧ (0 ≤ t.xa i.toNat 1 ∧ t.xa i.toNat 1 ≤ 100000) ∧ (0 ≤ t.xa i.toNat 2 ∧ t.xa i.toNat 2 < 100000000) ∧
    (0 ≤ t.sa (t.xa i.toNat 0).toNat 1 ∧ t.sa (t.xa i.toNat 0).toNat 1 ≤ 5000) ∧ (0 ≤ t.age ∧ t.age ≤ 1000) ∧ (0 ≤ t.shear ∧ t.shear ≤ 1000) := by
  have hok := check_ok h
  have hi : i.toNat < t.nx := by omega
  have hs := hok.src _ hi
  exact ⟨hs, hok.tick _ hi, hok.height _ hi, hok.err _ (by omega), hok.age, hok.shear⟩
theorem small_nx {t : Task} (h : (checkS t).2.2 = 0) : t.nx ≤ 60 ∧ t.ns ≤ 6 ∧ 1 ≤ t.nc ∧ t.nc ≤ 20 := by
  have hok := check_ok h
  exact ⟨hok.nx, hok.ns, hok.nc.1, hok.nc.2⟩
theorem windDoubt_ok : PSound Go.Proofs.Try.prog 33 (mk rDoubtT) := by
  refine psound_mk Try.func33 (by kernel_rfl) rfl (ctx lib27_ok) ?_
  (intro ds p d h; unfold rDoubtT at h; split at h <;> first | (cases h; done) | skip; cases h; refine ⟨Nat.le_of_ble_eq_true rfl, fun hp k hk => ?_⟩)
  rename_i d i h tick
  obtain ⟨ht, hf⟩ := hp
  refine ⟨[(taskOf d).D, .int .i64 i, .int .i64 h, .int .i64 tick], task_imp ht ⟨rfl, rfl, rfl, ?_⟩⟩
  clear ht
  generalize taskOf d = t at *
  generalize hS : doubtT t i h tick = c at *
  repeat' (first | ((with_reducible refine kok ?_); kernel_rfl) | ((with_reducible refine keq_mk ?_); kernel_rfl) | with_reducible rfl | ((conv => whnf); first | exact trivial | refine And.intro ?_ ?_ | intro _ | (with_reducible refine (?_ : _ = true); (conv => lhs; whnf); done) | exact rfl))
  all_goals try exact hf _ (by assumption)
  all_goals clear hf
  all_goals try ((first | with_reducible refine (?_ : (_ : Int) ≤ _) | with_reducible refine (?_ : (_ : Int) < _)); clear hS hk; simp only [taskOf_agg, ↓Bool.not_eq_true', ↓Bool.not_eq_false', ↓decT, ↓decF, out_true, out_false, isin_true, isin_false, Int.toNat_natCast, Int.ofNat_lt, Nat.zero_add, Nat.add_zero, Nat.reduceAdd] at *; have F1 := small_nx (t := t) (by assumption); first | omega | (have F2 := ok_at (t := t) (i := i) (by assumption) (by omega) (by omega); omega))
  all_goals refine fin_of hk ?_
  all_goals clear hk
  repeat' (first | ((with_reducible refine kok ?_); kernel_rfl) | ((with_reducible refine keq_mk ?_); kernel_rfl) | with_reducible rfl | ((conv => whnf); first | exact trivial | refine And.intro ?_ ?_ | intro _ | (with_reducible refine (?_ : _ = true); (conv => lhs; whnf); done) | exact rfl))
  all_goals subst hS
  all_goals try simp only [taskOf_agg, ↓Bool.not_eq_true', ↓Bool.not_eq_false', ↓decT, ↓decF, out_true, out_false, isin_true, isin_false, Int.toNat_natCast, Int.ofNat_lt, Nat.zero_add, Nat.add_zero, Nat.reduceAdd] at *
  all_goals try simp only [doubtT, checkE, heightB, tickB, taskOf_agg, ↓Bool.not_eq_true', ↓Bool.not_eq_false', ↓decT, ↓decF, out_true, out_false, isin_true, isin_false, Int.toNat_natCast, Int.ofNat_lt, Nat.zero_add, Nat.add_zero, Nat.reduceAdd, Bool.and_eq_false_iff]
  all_goals repeat' split
  all_goals first | rfl | omega
theorem refDoubt_ok : PSound Go.Proofs.Try.prog 34 (mk rDoubtT) := by
  refine psound_mk Try.func34 (by kernel_rfl) rfl (ctx lib27_ok) ?_
  (intro ds p d h; unfold rDoubtT at h; split at h <;> first | (cases h; done) | skip; cases h; refine ⟨Nat.le_of_ble_eq_true rfl, fun hp k hk => ?_⟩)
  rename_i d i h tick
  obtain ⟨ht, hf⟩ := hp
  refine ⟨[(taskOf d).D, .int .i64 i, .int .i64 h, .int .i64 tick], task_imp ht ⟨rfl, rfl, rfl, ?_⟩⟩
  clear ht
  generalize taskOf d = t at *
  generalize hS : doubtT t i h tick = c at *
  repeat' (first | ((with_reducible refine kok ?_); kernel_rfl) | ((with_reducible refine keq_mk ?_); kernel_rfl) | with_reducible rfl | ((conv => whnf); first | exact trivial | refine And.intro ?_ ?_ | intro _ | (with_reducible refine (?_ : _ = true); (conv => lhs; whnf); done) | exact rfl))
  all_goals try exact hf _ (by assumption)
  all_goals clear hf
  all_goals try ((first | with_reducible refine (?_ : (_ : Int) ≤ _) | with_reducible refine (?_ : (_ : Int) < _)); clear hS hk; simp only [taskOf_agg, ↓Bool.not_eq_true', ↓Bool.not_eq_false', ↓decT, ↓decF, out_true, out_false, isin_true, isin_false, Int.toNat_natCast, Int.ofNat_lt, Nat.zero_add, Nat.add_zero, Nat.reduceAdd] at *; have F1 := small_nx (t := t) (by assumption); first | omega | (have F2 := ok_at (t := t) (i := i) (by assumption) (by omega) (by omega); omega))
  all_goals refine fin_of hk ?_
  all_goals clear hk
  repeat' (first | ((with_reducible refine kok ?_); kernel_rfl) | ((with_reducible refine keq_mk ?_); kernel_rfl) | with_reducible rfl | ((conv => whnf); first | exact trivial | refine And.intro ?_ ?_ | intro _ | (with_reducible refine (?_ : _ = true); (conv => lhs; whnf); done) | exact rfl))
  all_goals subst hS
  all_goals try simp only [taskOf_agg, ↓Bool.not_eq_true', ↓Bool.not_eq_false', ↓decT, ↓decF, out_true, out_false, isin_true, isin_false, Int.toNat_natCast, Int.ofNat_lt, Nat.zero_add, Nat.add_zero, Nat.reduceAdd] at *
  all_goals try simp only [doubtT, checkE, heightB, tickB, taskOf_agg, ↓Bool.not_eq_true', ↓Bool.not_eq_false', ↓decT, ↓decF, out_true, out_false, isin_true, isin_false, Int.toNat_natCast, Int.ofNat_lt, Nat.zero_add, Nat.add_zero, Nat.reduceAdd, Bool.and_eq_false_iff]
  all_goals repeat' split
  all_goals first | rfl | omega
end Go.Proofs.Ytbkehkiflfhpfaa
end
section
set_option linter.unusedVariables false
set_option linter.unusedSimpArgs false
set_option maxRecDepth 100000
set_option maxHeartbeats 4000000
namespace Go.Proofs.Ytbkehkiflfhpfaa
open Go.V

attribute [local irreducible] doubtS saysS leftS agreeS blameS answerS checkS begun nameS lowS answerN
def lib28 : Lib := (33, mk rDoubtT) :: (34, mk rDoubtT) :: lib27
theorem lib28_ok : LibOK Go.Proofs.Try.prog lib28 := .cons windDoubt_ok (.cons refDoubt_ok lib27_ok)

def left00 : Left := ⟨0, 0, 0, 0⟩
def atT (t : Task) (h a now : Int) : Left × Int :=
  if checkE t ≠ 0 then (left00, checkE t) else if (heightB h && tickB a && tickB now) = false then (left00, 7) else if (answerS t h h a now).2 = false then (left00, 9) else ((answerS t h h a now).1, 0)
def spansD (l : Left) (e : Int) : V.D := .tup [.agg [.int .i64 l.xl, .int .i64 l.xh], .agg [.int .i64 l.yl, .int .i64 l.yh], .int .i64 e]
def rAtT : List V.D → Option (Prop × V.D) := fun ds => match ds with
  | [d, .int .i64 h, .int .i64 a, .int .i64 now] => some (TaskIs d ∧ (taskOf d).fits, spansD (atT (taskOf d) h a now).1 (atT (taskOf d) h a now).2)
  | _ => none
theorem answerN_2 {t : Task} {l h a n : Int} (e : (answerS t l h a n).2 = true) : answerN t l h a n = 2 := by unfold answerN; exact if_pos e
theorem any2 (a b c d : Int) : anyBelow (empty (im (leftG a b c d))) 2 = (decide (b < a) || decide (d < c)) := by
  simp [anyBelow, empty, im, leftG, toI]
theorem windAt_ok : PSound Go.Proofs.Try.prog 25 (mk rAtT) := by
  refine psound_mk Try.func25 (by kernel_rfl) rfl (ctx lib28_ok) ?_
  (intro ds p d h; unfold rAtT at h; split at h <;> first | (cases h; done) | skip; cases h; refine ⟨Nat.le_of_ble_eq_true rfl, fun hp k hk => ?_⟩)
  rename_i d h a now
  obtain ⟨ht, hf⟩ := hp
  refine ⟨[(taskOf d).D, .int .i64 h, .int .i64 a, .int .i64 now], task_imp ht ⟨rfl, rfl, rfl, ?_⟩⟩
  clear ht
  generalize taskOf d = t at *
  generalize hS : atT t h a now = c at *
  repeat' (first | ((with_reducible refine kok ?_); kernel_rfl) | ((with_reducible refine keq_mk ?_); kernel_rfl) | with_reducible rfl | ((conv => whnf); first | (with_reducible exact trivial) | ((with_reducible refine and_ff ?_ ?_); · exact rfl) | ((with_reducible refine and_tt ?_ ?_); · exact rfl) | (with_reducible refine And.intro ?_ ?_) | intro _ | (with_reducible refine fin2 hk ?_) | ((with_reducible refine eq_leaf ?_); exact rfl) | exact trivial))
  all_goals try exact hf _ (by assumption)
  all_goals clear hf
  all_goals try ((with_reducible refine (?_ : Task.ok _)); clear hS hk; simp only [taskOf_agg, ↓Bool.not_eq_true', ↓Bool.not_eq_false', ↓decT, ↓decF, out_true, out_false, isin_true, isin_false, Int.toNat_natCast, Int.ofNat_lt, Nat.zero_add, Nat.add_zero, Nat.reduceAdd] at *; exact check_ok (by assumption))
  all_goals try ((first | with_reducible refine (?_ : (_ : Int) ≤ _) | with_reducible refine (?_ : (_ : Int) < _) | with_reducible refine (?_ : (_ : Nat) ≤ _) | with_reducible refine (?_ : (_ : Nat) < _)); clear hS hk; try simp only [taskOf_agg, ↓Bool.not_eq_true', ↓Bool.not_eq_false', ↓decT, ↓decF, out_true, out_false, isin_true, isin_false, Int.toNat_natCast, Int.ofNat_lt, Nat.zero_add, Nat.add_zero, Nat.reduceAdd] at *; first | omega | (have F3 := answerN_2 (by assumption); omega))
  all_goals clear hk
  all_goals subst hS
  all_goals try simp only [any2, taskOf_agg, ↓Bool.not_eq_true', ↓Bool.not_eq_false', ↓decT, ↓decF, out_true, out_false, isin_true, isin_false, Int.toNat_natCast, Int.ofNat_lt, Nat.zero_add, Nat.add_zero, Nat.reduceAdd, Int.toNat_zero, Int.reduceToNat, ↓reduceIte, reduceCtorEq, Bool.or_eq_true, Bool.or_eq_false_iff, Bool.and_eq_true, Bool.and_eq_false_iff] at *
  all_goals try simp only [atT, left00, checkE, heightB, tickB, taskOf_agg, ↓Bool.not_eq_true', ↓Bool.not_eq_false', ↓decT, ↓decF, out_true, out_false, isin_true, isin_false, Int.toNat_natCast, Int.ofNat_lt, Nat.zero_add, Nat.add_zero, Nat.reduceAdd, Int.toNat_zero, Int.reduceToNat, ↓reduceIte, reduceCtorEq, Bool.or_eq_true, Bool.or_eq_false_iff, Bool.and_eq_true, Bool.and_eq_false_iff]
  all_goals repeat' split
  all_goals first | with_reducible rfl | omega | (simp_all only [reduceCtorEq]; done)
theorem refAt_ok : PSound Go.Proofs.Try.prog 26 (mk rAtT) := by
  refine psound_mk Try.func26 (by kernel_rfl) rfl (ctx lib28_ok) ?_
  (intro ds p d h; unfold rAtT at h; split at h <;> first | (cases h; done) | skip; cases h; refine ⟨Nat.le_of_ble_eq_true rfl, fun hp k hk => ?_⟩)
  rename_i d h a now
  obtain ⟨ht, hf⟩ := hp
  refine ⟨[(taskOf d).D, .int .i64 h, .int .i64 a, .int .i64 now], task_imp ht ⟨rfl, rfl, rfl, ?_⟩⟩
  clear ht
  generalize taskOf d = t at *
  generalize hS : atT t h a now = c at *
  repeat' (first | ((with_reducible refine kok ?_); kernel_rfl) | ((with_reducible refine keq_mk ?_); kernel_rfl) | with_reducible rfl | ((conv => whnf); first | (with_reducible exact trivial) | ((with_reducible refine and_ff ?_ ?_); · exact rfl) | ((with_reducible refine and_tt ?_ ?_); · exact rfl) | (with_reducible refine And.intro ?_ ?_) | intro _ | (with_reducible refine fin2 hk ?_) | ((with_reducible refine eq_leaf ?_); exact rfl) | exact trivial))
  all_goals try exact hf _ (by assumption)
  all_goals clear hf
  all_goals try ((with_reducible refine (?_ : Task.ok _)); clear hS hk; simp only [taskOf_agg, ↓Bool.not_eq_true', ↓Bool.not_eq_false', ↓decT, ↓decF, out_true, out_false, isin_true, isin_false, Int.toNat_natCast, Int.ofNat_lt, Nat.zero_add, Nat.add_zero, Nat.reduceAdd] at *; exact check_ok (by assumption))
  all_goals try ((first | with_reducible refine (?_ : (_ : Int) ≤ _) | with_reducible refine (?_ : (_ : Int) < _) | with_reducible refine (?_ : (_ : Nat) ≤ _) | with_reducible refine (?_ : (_ : Nat) < _)); clear hS hk; try simp only [taskOf_agg, ↓Bool.not_eq_true', ↓Bool.not_eq_false', ↓decT, ↓decF, out_true, out_false, isin_true, isin_false, Int.toNat_natCast, Int.ofNat_lt, Nat.zero_add, Nat.add_zero, Nat.reduceAdd] at *; first | omega | (have F3 := answerN_2 (by assumption); omega))
  all_goals clear hk
  all_goals subst hS
  all_goals try simp only [any2, taskOf_agg, ↓Bool.not_eq_true', ↓Bool.not_eq_false', ↓decT, ↓decF, out_true, out_false, isin_true, isin_false, Int.toNat_natCast, Int.ofNat_lt, Nat.zero_add, Nat.add_zero, Nat.reduceAdd, Int.toNat_zero, Int.reduceToNat, ↓reduceIte, reduceCtorEq, Bool.or_eq_true, Bool.or_eq_false_iff, Bool.and_eq_true, Bool.and_eq_false_iff] at *
  all_goals try simp only [atT, left00, checkE, heightB, tickB, taskOf_agg, ↓Bool.not_eq_true', ↓Bool.not_eq_false', ↓decT, ↓decF, out_true, out_false, isin_true, isin_false, Int.toNat_natCast, Int.ofNat_lt, Nat.zero_add, Nat.add_zero, Nat.reduceAdd, Int.toNat_zero, Int.reduceToNat, ↓reduceIte, reduceCtorEq, Bool.or_eq_true, Bool.or_eq_false_iff, Bool.and_eq_true, Bool.and_eq_false_iff]
  all_goals repeat' split
  all_goals first | with_reducible rfl | omega | (simp_all only [reduceCtorEq]; done)

def saysT (t : Task) (s b a now : Int) : Left × Int :=
  if checkE t ≠ 0 then (left00, checkE t) else if (isin s 0 (t.ns - 1) && isin b 0 (t.nc - 1)) = false then (left00, 4) else if (tickB a && tickB now) = false then (left00, 7) else
    if (saysS t s (lowS t b.toNat) (t.ca b.toNat 0 - 1) a now).some = false then (left00, 4) else
      if (saysS t s (lowS t b.toNat) (t.ca b.toNat 0 - 1) a now).xh < (saysS t s (lowS t b.toNat) (t.ca b.toNat 0 - 1) a now).xl ∨ (saysS t s (lowS t b.toNat) (t.ca b.toNat 0 - 1) a now).yh < (saysS t s (lowS t b.toNat) (t.ca b.toNat 0 - 1) a now).yl then (left00, 9) else
        (⟨(saysS t s (lowS t b.toNat) (t.ca b.toNat 0 - 1) a now).xl, (saysS t s (lowS t b.toNat) (t.ca b.toNat 0 - 1) a now).xh, (saysS t s (lowS t b.toNat) (t.ca b.toNat 0 - 1) a now).yl, (saysS t s (lowS t b.toNat) (t.ca b.toNat 0 - 1) a now).yh⟩, 0)
def rSaysT : List V.D → Option (Prop × V.D) := fun ds => match ds with
  | [d, .int .i64 s, .int .i64 b, .int .i64 a, .int .i64 now] => some (TaskIs d ∧ (taskOf d).fits, spansD (saysT (taskOf d) s b a now).1 (saysT (taskOf d) s b a now).2)
  | _ => none
theorem low_ok {t : Task} (h : (checkS t).2.2 = 0) {b : Int} (h0 : 0 ≤ b) (h1 : b ≤ t.nc - 1) : (0 ≤ lowS t b.toNat ∧ lowS t b.toNat < 100000000) ∧ (1 ≤ t.ca b.toNat 0 ∧ t.ca b.toNat 0 ≤ 100000000) := by
  have hok := check_ok h
  have h2 := hok.cut b.toNat (by omega)
  refine ⟨?_, h2⟩
  unfold lowS
  split
  · omega
  · rename_i hb
    have h3 := hok.cut (b.toNat - 1) (by omega)
    have h4 := hok.rise (b.toNat - 1) (by omega)
    rw [show b.toNat - 1 + 1 = b.toNat by omega] at h4
    omega
theorem windSays_ok : PSound Go.Proofs.Try.prog 40 (mk rSaysT) := by
  refine psound_mk Try.func40 (by kernel_rfl) rfl (ctx lib28_ok) ?_
  (intro ds p d h; unfold rSaysT at h; split at h <;> first | (cases h; done) | skip; cases h; refine ⟨Nat.le_of_ble_eq_true rfl, fun hp k hk => ?_⟩)
  rename_i d s b a now
  obtain ⟨ht, hf⟩ := hp
  refine ⟨[(taskOf d).D, .int .i64 s, .int .i64 b, .int .i64 a, .int .i64 now], task_imp ht ⟨rfl, rfl, rfl, rfl, ?_⟩⟩
  clear ht
  generalize taskOf d = t at *
  generalize hS : saysT t s b a now = c at *
  repeat' (first | ((with_reducible refine kok ?_); kernel_rfl) | ((with_reducible refine keq_mk ?_); kernel_rfl) | with_reducible rfl | ((conv => whnf); first | (with_reducible exact trivial) | ((with_reducible refine and_ff ?_ ?_); · exact rfl) | ((with_reducible refine and_tt ?_ ?_); · exact rfl) | (with_reducible refine And.intro ?_ ?_) | intro _ | (with_reducible refine fin2 hk ?_) | ((with_reducible refine eq_leaf ?_); exact rfl) | exact trivial))
  all_goals try exact hf _ (by assumption)
  all_goals clear hf
  all_goals try ((with_reducible refine (?_ : Task.ok _)); clear hS hk; simp only [taskOf_agg, ↓Bool.not_eq_true', ↓Bool.not_eq_false', ↓decT, ↓decF, out_true, out_false, isin_true, isin_false, Int.toNat_natCast, Int.ofNat_lt, Nat.zero_add, Nat.add_zero, Nat.reduceAdd] at *; exact check_ok (by assumption))
  all_goals try ((first | with_reducible refine (?_ : (_ : Int) ≤ _) | with_reducible refine (?_ : (_ : Int) < _) | with_reducible refine (?_ : (_ : Nat) ≤ _) | with_reducible refine (?_ : (_ : Nat) < _)); clear hS hk; try simp only [taskOf_agg, ↓Bool.not_eq_true', ↓Bool.not_eq_false', ↓decT, ↓decF, out_true, out_false, isin_true, isin_false, Int.toNat_natCast, Int.ofNat_lt, Nat.zero_add, Nat.add_zero, Nat.reduceAdd] at *; first | omega | (have F1 := small_nx (t := t) (by assumption); first | omega | (have F2 := low_ok (t := t) (b := b) (by assumption) (by omega) (by omega); omega)))
  all_goals clear hk
  all_goals subst hS
  all_goals try simp only [any2, taskOf_agg, ↓Bool.not_eq_true', ↓Bool.not_eq_false', ↓decT, ↓decF, out_true, out_false, isin_true, isin_false, Int.toNat_natCast, Int.ofNat_lt, Nat.zero_add, Nat.add_zero, Nat.reduceAdd, Int.toNat_zero, Int.reduceToNat, ↓reduceIte, reduceCtorEq, Bool.or_eq_true, Bool.or_eq_false_iff, Bool.and_eq_true, Bool.and_eq_false_iff] at *
  all_goals try simp only [saysT, left00, checkE, heightB, tickB, taskOf_agg, ↓Bool.not_eq_true', ↓Bool.not_eq_false', ↓decT, ↓decF, out_true, out_false, isin_true, isin_false, Int.toNat_natCast, Int.ofNat_lt, Nat.zero_add, Nat.add_zero, Nat.reduceAdd, Int.toNat_zero, Int.reduceToNat, ↓reduceIte, reduceCtorEq, Bool.or_eq_true, Bool.or_eq_false_iff, Bool.and_eq_true, Bool.and_eq_false_iff]
  all_goals repeat' split
  all_goals first | with_reducible rfl | omega | (simp_all only [reduceCtorEq]; done)
theorem refSaysT_ok : PSound Go.Proofs.Try.prog 41 (mk rSaysT) := by
  refine psound_mk Try.func41 (by kernel_rfl) rfl (ctx lib28_ok) ?_
  (intro ds p d h; unfold rSaysT at h; split at h <;> first | (cases h; done) | skip; cases h; refine ⟨Nat.le_of_ble_eq_true rfl, fun hp k hk => ?_⟩)
  rename_i d s b a now
  obtain ⟨ht, hf⟩ := hp
  refine ⟨[(taskOf d).D, .int .i64 s, .int .i64 b, .int .i64 a, .int .i64 now], task_imp ht ⟨rfl, rfl, rfl, rfl, ?_⟩⟩
  clear ht
  generalize taskOf d = t at *
  generalize hS : saysT t s b a now = c at *
  repeat' (first | ((with_reducible refine kok ?_); kernel_rfl) | ((with_reducible refine keq_mk ?_); kernel_rfl) | with_reducible rfl | ((conv => whnf); first | (with_reducible exact trivial) | ((with_reducible refine and_ff ?_ ?_); · exact rfl) | ((with_reducible refine and_tt ?_ ?_); · exact rfl) | (with_reducible refine And.intro ?_ ?_) | intro _ | (with_reducible refine fin2 hk ?_) | ((with_reducible refine eq_leaf ?_); exact rfl) | exact trivial))
  all_goals try exact hf _ (by assumption)
  all_goals clear hf
  all_goals try ((with_reducible refine (?_ : Task.ok _)); clear hS hk; simp only [taskOf_agg, ↓Bool.not_eq_true', ↓Bool.not_eq_false', ↓decT, ↓decF, out_true, out_false, isin_true, isin_false, Int.toNat_natCast, Int.ofNat_lt, Nat.zero_add, Nat.add_zero, Nat.reduceAdd] at *; exact check_ok (by assumption))
  all_goals try ((first | with_reducible refine (?_ : (_ : Int) ≤ _) | with_reducible refine (?_ : (_ : Int) < _) | with_reducible refine (?_ : (_ : Nat) ≤ _) | with_reducible refine (?_ : (_ : Nat) < _)); clear hS hk; try simp only [taskOf_agg, ↓Bool.not_eq_true', ↓Bool.not_eq_false', ↓decT, ↓decF, out_true, out_false, isin_true, isin_false, Int.toNat_natCast, Int.ofNat_lt, Nat.zero_add, Nat.add_zero, Nat.reduceAdd] at *; first | omega | (have F1 := small_nx (t := t) (by assumption); first | omega | (have F2 := low_ok (t := t) (b := b) (by assumption) (by omega) (by omega); omega)))
  all_goals clear hk
  all_goals subst hS
  all_goals try simp only [any2, taskOf_agg, ↓Bool.not_eq_true', ↓Bool.not_eq_false', ↓decT, ↓decF, out_true, out_false, isin_true, isin_false, Int.toNat_natCast, Int.ofNat_lt, Nat.zero_add, Nat.add_zero, Nat.reduceAdd, Int.toNat_zero, Int.reduceToNat, ↓reduceIte, reduceCtorEq, Bool.or_eq_true, Bool.or_eq_false_iff, Bool.and_eq_true, Bool.and_eq_false_iff] at *
  all_goals try simp only [saysT, left00, checkE, heightB, tickB, taskOf_agg, ↓Bool.not_eq_true', ↓Bool.not_eq_false', ↓decT, ↓decF, out_true, out_false, isin_true, isin_false, Int.toNat_natCast, Int.ofNat_lt, Nat.zero_add, Nat.add_zero, Nat.reduceAdd, Int.toNat_zero, Int.reduceToNat, ↓reduceIte, reduceCtorEq, Bool.or_eq_true, Bool.or_eq_false_iff, Bool.and_eq_true, Bool.and_eq_false_iff]
  all_goals repeat' split
  all_goals first | with_reducible rfl | omega | (simp_all only [reduceCtorEq]; done)
end Go.Proofs.Ytbkehkiflfhpfaa
end
section
set_option linter.unusedVariables false
set_option linter.unusedSimpArgs false
set_option maxRecDepth 100000
set_option maxHeartbeats 4000000
namespace Go.Proofs.Ytbkehkiflfhpfaa
open Go.V
attribute [local irreducible] doubtS saysS leftS agreeS blameS answerS checkS begun nameS lowS answerN
def lib29 : Lib := (25, mk rAtT) :: (26, mk rAtT) :: (40, mk rSaysT) :: (41, mk rSaysT) :: lib28
theorem lib29_ok : LibOK Go.Proofs.Try.prog lib29 := .cons windAt_ok (.cons refAt_ok (.cons windSays_ok (.cons refSaysT_ok lib28_ok)))

def blameT (t : Task) (b a now : Int) : List Int × Bool × Int :=
  if checkE t ≠ 0 then ([], false, checkE t) else if isin b 0 (t.nc - 1) = false then ([], false, 4) else if (tickB a && tickB now) = false then ([], false, 7) else
    (blameS t (lowS t b.toNat) (t.ca b.toNat 0 - 1) a now, agreeS t (lowS t b.toNat) (t.ca b.toNat 0 - 1) a now, 0)
def listD (l : List Int) : V.D := .rsl 1 l.length (liD l)
def rBlameT : List V.D → Option (Prop × V.D) := fun ds => match ds with
  | [d, .int .i64 b, .int .i64 a, .int .i64 now] => some (TaskIs d ∧ (taskOf d).fits, .tup [listD (blameT (taskOf d) b a now).1, .bool (blameT (taskOf d) b a now).2.1, .int .i64 (blameT (taskOf d) b a now).2.2])
  | _ => none
theorem windBlameT_ok : PSound Go.Proofs.Try.prog 35 (mk rBlameT) := by
  refine psound_mk Try.func35 (by kernel_rfl) rfl (ctx lib29_ok) ?_
  (intro ds p d h; unfold rBlameT at h; split at h <;> first | (cases h; done) | skip; cases h; refine ⟨Nat.le_of_ble_eq_true rfl, fun hp k hk => ?_⟩)
  rename_i d b a now
  obtain ⟨ht, hf⟩ := hp
  refine ⟨[(taskOf d).D, .int .i64 b, .int .i64 a, .int .i64 now], task_imp ht ⟨rfl, rfl, rfl, ?_⟩⟩
  clear ht
  generalize taskOf d = t at *
  generalize hS : blameT t b a now = c at *
  repeat' (first | ((with_reducible refine kok ?_); kernel_rfl) | ((with_reducible refine keq_mk ?_); kernel_rfl) | with_reducible rfl | ((conv => whnf); first | (with_reducible exact trivial) | ((with_reducible refine and_ff ?_ ?_); · exact rfl) | ((with_reducible refine and_tt ?_ ?_); · exact rfl) | (with_reducible refine And.intro ?_ ?_) | intro _ | (with_reducible refine fin2 hk ?_) | ((with_reducible refine eq_leaf ?_); exact rfl) | exact trivial))
  all_goals try exact hf _ (by assumption)
  all_goals clear hf
  all_goals try ((with_reducible refine (?_ : Task.ok _)); clear hS hk; simp only [taskOf_agg, ↓Bool.not_eq_true', ↓Bool.not_eq_false', ↓decT, ↓decF, out_true, out_false, isin_true, isin_false, Int.toNat_natCast, Int.ofNat_lt, Nat.zero_add, Nat.add_zero, Nat.reduceAdd] at *; exact check_ok (by assumption))
  all_goals try ((first | with_reducible refine (?_ : (_ : Int) ≤ _) | with_reducible refine (?_ : (_ : Int) < _) | with_reducible refine (?_ : (_ : Nat) ≤ _) | with_reducible refine (?_ : (_ : Nat) < _)); clear hS hk; try simp only [taskOf_agg, ↓Bool.not_eq_true', ↓Bool.not_eq_false', ↓decT, ↓decF, out_true, out_false, isin_true, isin_false, Int.toNat_natCast, Int.ofNat_lt, Nat.zero_add, Nat.add_zero, Nat.reduceAdd] at *; first | omega | (have F1 := small_nx (t := t) (by assumption); first | omega | (have F2 := low_ok (t := t) (b := b) (by assumption) (by omega) (by omega); omega)))
  all_goals clear hk
  all_goals subst hS
  all_goals try simp only [any2, taskOf_agg, ↓Bool.not_eq_true', ↓Bool.not_eq_false', ↓decT, ↓decF, out_true, out_false, isin_true, isin_false, Int.toNat_natCast, Int.ofNat_lt, Nat.zero_add, Nat.add_zero, Nat.reduceAdd, Int.toNat_zero, Int.reduceToNat, ↓reduceIte, reduceCtorEq, Bool.or_eq_true, Bool.or_eq_false_iff, Bool.and_eq_true, Bool.and_eq_false_iff] at *
  all_goals try simp only [blameT, checkE, heightB, tickB, taskOf_agg, ↓Bool.not_eq_true', ↓Bool.not_eq_false', ↓decT, ↓decF, out_true, out_false, isin_true, isin_false, Int.toNat_natCast, Int.ofNat_lt, Nat.zero_add, Nat.add_zero, Nat.reduceAdd, Int.toNat_zero, Int.reduceToNat, ↓reduceIte, reduceCtorEq, Bool.or_eq_true, Bool.or_eq_false_iff, Bool.and_eq_true, Bool.and_eq_false_iff]
  all_goals repeat' split
  all_goals first | with_reducible rfl | omega | (simp_all only [reduceCtorEq]; done) | rfl
theorem refBlameT_ok : PSound Go.Proofs.Try.prog 36 (mk rBlameT) := by
  refine psound_mk Try.func36 (by kernel_rfl) rfl (ctx lib29_ok) ?_
  (intro ds p d h; unfold rBlameT at h; split at h <;> first | (cases h; done) | skip; cases h; refine ⟨Nat.le_of_ble_eq_true rfl, fun hp k hk => ?_⟩)
  rename_i d b a now
  obtain ⟨ht, hf⟩ := hp
  refine ⟨[(taskOf d).D, .int .i64 b, .int .i64 a, .int .i64 now], task_imp ht ⟨rfl, rfl, rfl, ?_⟩⟩
  clear ht
  generalize taskOf d = t at *
  generalize hS : blameT t b a now = c at *
  repeat' (first | ((with_reducible refine kok ?_); kernel_rfl) | ((with_reducible refine keq_mk ?_); kernel_rfl) | with_reducible rfl | ((conv => whnf); first | (with_reducible exact trivial) | ((with_reducible refine and_ff ?_ ?_); · exact rfl) | ((with_reducible refine and_tt ?_ ?_); · exact rfl) | (with_reducible refine And.intro ?_ ?_) | intro _ | (with_reducible refine fin2 hk ?_) | ((with_reducible refine eq_leaf ?_); exact rfl) | exact trivial))
  all_goals try exact hf _ (by assumption)
  all_goals clear hf
  all_goals try ((with_reducible refine (?_ : Task.ok _)); clear hS hk; simp only [taskOf_agg, ↓Bool.not_eq_true', ↓Bool.not_eq_false', ↓decT, ↓decF, out_true, out_false, isin_true, isin_false, Int.toNat_natCast, Int.ofNat_lt, Nat.zero_add, Nat.add_zero, Nat.reduceAdd] at *; exact check_ok (by assumption))
  all_goals try ((first | with_reducible refine (?_ : (_ : Int) ≤ _) | with_reducible refine (?_ : (_ : Int) < _) | with_reducible refine (?_ : (_ : Nat) ≤ _) | with_reducible refine (?_ : (_ : Nat) < _)); clear hS hk; try simp only [taskOf_agg, ↓Bool.not_eq_true', ↓Bool.not_eq_false', ↓decT, ↓decF, out_true, out_false, isin_true, isin_false, Int.toNat_natCast, Int.ofNat_lt, Nat.zero_add, Nat.add_zero, Nat.reduceAdd] at *; first | omega | (have F1 := small_nx (t := t) (by assumption); first | omega | (have F2 := low_ok (t := t) (b := b) (by assumption) (by omega) (by omega); omega)))
  all_goals clear hk
  all_goals subst hS
  all_goals try simp only [any2, taskOf_agg, ↓Bool.not_eq_true', ↓Bool.not_eq_false', ↓decT, ↓decF, out_true, out_false, isin_true, isin_false, Int.toNat_natCast, Int.ofNat_lt, Nat.zero_add, Nat.add_zero, Nat.reduceAdd, Int.toNat_zero, Int.reduceToNat, ↓reduceIte, reduceCtorEq, Bool.or_eq_true, Bool.or_eq_false_iff, Bool.and_eq_true, Bool.and_eq_false_iff] at *
  all_goals try simp only [blameT, checkE, heightB, tickB, taskOf_agg, ↓Bool.not_eq_true', ↓Bool.not_eq_false', ↓decT, ↓decF, out_true, out_false, isin_true, isin_false, Int.toNat_natCast, Int.ofNat_lt, Nat.zero_add, Nat.add_zero, Nat.reduceAdd, Int.toNat_zero, Int.reduceToNat, ↓reduceIte, reduceCtorEq, Bool.or_eq_true, Bool.or_eq_false_iff, Bool.and_eq_true, Bool.and_eq_false_iff]
  all_goals repeat' split
  all_goals first | with_reducible rfl | omega | (simp_all only [reduceCtorEq]; done) | rfl
end Go.Proofs.Ytbkehkiflfhpfaa
end
section
set_option linter.unusedVariables false
set_option linter.unusedSimpArgs false
set_option maxRecDepth 100000
set_option maxHeartbeats 4000000
namespace Go.Proofs.Ytbkehkiflfhpfaa
open Go.V
attribute [local irreducible] doubtS saysS leftS agreeS blameS answerS checkS begun nameS lowS answerN knownS
def lib30 : Lib := (35, mk rBlameT) :: (36, mk rBlameT) :: lib29
theorem lib30_ok : LibOK Go.Proofs.Try.prog lib30 := .cons windBlameT_ok (.cons refBlameT_ok lib29_ok)

/-- The soundings that are known, of the first ones. -/
def knownUp (t : Task) (now : Int) : Nat → List Int
  | 0 => []
  | i + 1 => if knownS t i now = true then knownUp t now i ++ [(i : Int)] else knownUp t now i
theorem knownUp_length (t : Task) (now : Int) : ∀ i, (knownUp t now i).length ≤ i
  | 0 => Nat.le_refl _
  | i + 1 => by
    have := knownUp_length t now i
    unfold knownUp
    split
    · simp only [List.length_append, List.length_singleton]; omega
    · omega
theorem liD_snoc2 {l l' : List Int} {x : Int} {i j : Nat} (h : l' = l ++ [x]) (hi : i < l'.length) (hj : j < 1) : (if i < l.length then liD l i j else [D.int IntKind.i64 x].getD ((i - l.length) * 1 + j) D.top) = liD l' i j := by
  subst h
  exact liD_snoc hi hj
theorem known_t {t : Task} {i : Nat} {now : Int} (h1 : t.xa i 1 + t.sa (t.xa i 0).toNat 2 ≤ now) (h2 : now ≤ t.xa i 1 + t.sa (t.xa i 0).toNat 3) : knownS t i now = true := by
  unfold knownS
  rw [decide_eq_true h1, decide_eq_true (by omega)]
  rfl
theorem known_f {t : Task} {i : Nat} {now : Int} (h : ¬ (t.xa i 1 + t.sa (t.xa i 0).toNat 2 ≤ now) ∨ ¬ (now ≤ t.xa i 1 + t.sa (t.xa i 0).toNat 3)) : knownS t i now = false := by
  unfold knownS
  rcases h with h | h
  · rw [decide_eq_false h]; rfl
  · rw [decide_eq_false (by omega : ¬ now - t.xa i 1 ≤ t.sa (t.xa i 0).toNat 3), Bool.and_false]
def knownT (t : Task) (now : Int) : List Int × Int := if checkE t ≠ 0 then ([], checkE t) else if tickB now = false then ([], 7) else (knownUp t now t.nx, 0)
def rKnownT : List V.D → Option (Prop × V.D) := fun ds => match ds with
  | [d, .int .i64 now] => some (TaskIs d ∧ (taskOf d).fits, .tup [listD (knownT (taskOf d) now).1, .int .i64 (knownT (taskOf d) now).2])
  | _ => none
theorem refKnownT_ok : PSound Go.Proofs.Try.prog 31 (mk rKnownT) := by
  refine psound_mk Try.func31 (by kernel_rfl) rfl (ctx lib30_ok) ?_
  (intro ds p d h; unfold rKnownT at h; split at h <;> first | (cases h; done) | skip; cases h; refine ⟨Nat.le_of_ble_eq_true rfl, fun hp k hk => ?_⟩)
  rename_i d now
  obtain ⟨ht, hf⟩ := hp
  refine ⟨[(taskOf d).D, .int .i64 now], task_imp ht ⟨rfl, ?_⟩⟩
  clear ht
  generalize taskOf d = t at *
  generalize hS : knownT t now = c at *
  repeat' (first | ((with_reducible refine kok ?_); kernel_rfl) | ((with_reducible refine keq_mk ?_); kernel_rfl) | with_reducible rfl | ((conv => whnf); first | (with_reducible exact trivial) | ((with_reducible refine and_ff ?_ ?_); · exact rfl) | ((with_reducible refine and_tt ?_ ?_); · exact rfl) | (with_reducible refine And.intro ?_ ?_) | intro _ | (with_reducible refine fin2 hk ?_) | ((with_reducible refine eq_leaf ?_); exact rfl) | exact trivial))
  all_goals try exact hf _ (by assumption)
  all_goals clear hf
  rotate_left 4
  · have E : checkE t = 0 := by
      rename_i g1 g2 g3
      clear hS hk
      simp only [taskOf_agg, ↓Bool.not_eq_true', ↓Bool.not_eq_false', ↓decT, ↓decF, out_true, out_false, isin_true, isin_false, Int.toNat_natCast, Int.ofNat_lt, Nat.zero_add, Nat.add_zero, Nat.reduceAdd] at *
      assumption
    have F1 := small_nx (t := t) E
    have hok := check_ok E
    have hnow : 0 ≤ now ∧ now ≤ 100000 := by
      rename_i g1 g2 g3
      clear hS hk
      simp only [taskOf_agg, ↓Bool.not_eq_true', ↓Bool.not_eq_false', ↓decT, ↓decF, out_true, out_false, isin_true, isin_false, Int.toNat_natCast, Int.ofNat_lt, Nat.zero_add, Nat.add_zero, Nat.reduceAdd] at *
      assumption
    have hc : c = (knownUp t now t.nx, 0) := by
      rw [← hS, knownT, if_neg (fun h => h E), if_neg]
      rw [show tickB now = true from by simp only [tickB, taskOf_agg, ↓Bool.not_eq_true', ↓Bool.not_eq_false', ↓decT, ↓decF, out_true, out_false, isin_true, isin_false, Int.toNat_natCast, Int.ofNat_lt, Nat.zero_add, Nat.add_zero, Nat.reduceAdd]; exact hnow]
      exact Bool.noConfusion
    subst hc
    clear hS
    refine ⟨Nat, fun i => [(1, .int .i64 now), (2, .ptr 0 0), (9, .own 1 (knownUp t now i).length), (10, .int .i64 i)], fun i => [some (taskRow t), some (.buf 3 1 (knownUp t now i).length (liD (knownUp t now i)))],
      fun i => t.nx - i, fun i => i ≤ t.nx, [(3, 1)], 0, fun _ => ⟨?_, ?_⟩, ?_, fun i hi => ?_⟩
    · conv => lhs; whnf
    · conv => lhs; whnf
    · clear hk
      repeat' (first | ((with_reducible refine kok ?_); kernel_rfl) | ((with_reducible refine keq_mk ?_); kernel_rfl) | with_reducible rfl | ((conv => whnf); first | (with_reducible exact trivial) | ((with_reducible refine and_ff ?_ ?_); · exact rfl) | ((with_reducible refine and_tt ?_ ?_); · exact rfl) | (with_reducible refine And.intro ?_ ?_) | intro _ | (with_reducible refine fin2 hk ?_) | ((with_reducible refine eq_leaf ?_); exact rfl) | exact trivial))
      all_goals first | exact Nat.zero_le _ | (intro i j h; exact absurd h (Nat.not_lt_zero _)) | (exact absurd (by assumption) (Nat.not_lt_zero _))
    have hlen := knownUp_length t now i
    have F : i < t.nx → (0 ≤ t.xa i 0 ∧ t.xa i 0 < t.ns) ∧ (0 ≤ t.xa i 1 ∧ t.xa i 1 ≤ 100000) ∧ (0 ≤ t.sa (t.xa i 0).toNat 2 ∧ t.sa (t.xa i 0).toNat 2 ≤ 6000) ∧ (1 ≤ t.sa (t.xa i 0).toNat 3 ∧ t.sa (t.xa i 0).toNat 3 ≤ 60000) := fun h => by
      have h3 := hok.src i h
      exact ⟨h3, hok.tick i h, hok.late _ (by omega), hok.life _ (by omega)⟩
    repeat' (first | ((with_reducible refine kok ?_); kernel_rfl) | ((with_reducible refine keq_mk ?_); kernel_rfl) | with_reducible rfl | ((conv => whnf); first | (with_reducible exact trivial) | ((with_reducible refine and_ff ?_ ?_); · exact rfl) | ((with_reducible refine and_tt ?_ ?_); · exact rfl) | (with_reducible refine And.intro ?_ ?_) | intro _ | (with_reducible refine fin2 hk ?_) | ((with_reducible refine eq_leaf ?_); exact rfl) | exact trivial))
    all_goals try ((first | with_reducible refine (?_ : (_ : Int) ≤ _) | with_reducible refine (?_ : (_ : Int) < _) | with_reducible refine (?_ : (_ : Nat) ≤ _) | with_reducible refine (?_ : (_ : Nat) < _)); clear hk; try simp only [taskOf_agg, ↓Bool.not_eq_true', ↓Bool.not_eq_false', ↓decT, ↓decF, out_true, out_false, isin_true, isin_false, Int.toNat_natCast, Int.ofNat_lt, Nat.zero_add, Nat.add_zero, Nat.reduceAdd] at *; first | omega | (have F' := F (by assumption); omega))
    all_goals try conv => whnf
    · rename_i g1 g2 g3 g4 g5
      simp only [taskOf_agg, ↓Bool.not_eq_true', ↓Bool.not_eq_false', ↓decT, ↓decF, out_true, out_false, isin_true, isin_false, Int.toNat_natCast, Int.ofNat_lt, Nat.zero_add, Nat.add_zero, Nat.reduceAdd] at g4 g5
      have hw : knownUp t now (i + 1) = knownUp t now i ++ [(i : Int)] := if_pos g5
      clear hk F hok
      refine ⟨i + 1, ?_⟩
      repeat' (first | ((with_reducible refine kok ?_); kernel_rfl) | ((with_reducible refine keq_mk ?_); kernel_rfl) | with_reducible rfl | ((conv => whnf); first | (with_reducible exact trivial) | ((with_reducible refine and_ff ?_ ?_); · exact rfl) | ((with_reducible refine and_tt ?_ ?_); · exact rfl) | (with_reducible refine And.intro ?_ ?_) | intro _ | (with_reducible refine fin2 hk ?_) | ((with_reducible refine eq_leaf ?_); exact rfl) | exact trivial))
      all_goals first
        | omega
        | (rw [hw]; simp only [List.length_append, List.length_singleton]; done)
        | exact liD_snoc2 hw (by assumption) (by assumption)
        | (simp only; omega)
    · rename_i g1 g2 g3 g4 g5
      simp only [taskOf_agg, ↓Bool.not_eq_true', ↓Bool.not_eq_false', ↓decT, ↓decF, out_true, out_false, isin_true, isin_false, Int.toNat_natCast, Int.ofNat_lt, Nat.zero_add, Nat.add_zero, Nat.reduceAdd] at g4 g5
      have hw : knownUp t now (i + 1) = knownUp t now i := if_neg (by rw [g5]; exact Bool.noConfusion)
      clear hk F hok
      refine ⟨i + 1, ?_⟩
      repeat' (first | ((with_reducible refine kok ?_); kernel_rfl) | ((with_reducible refine keq_mk ?_); kernel_rfl) | with_reducible rfl | ((conv => whnf); first | (with_reducible exact trivial) | ((with_reducible refine and_ff ?_ ?_); · exact rfl) | ((with_reducible refine and_tt ?_ ?_); · exact rfl) | (with_reducible refine And.intro ?_ ?_) | intro _ | (with_reducible refine fin2 hk ?_) | ((with_reducible refine eq_leaf ?_); exact rfl) | exact trivial))
      all_goals first
        | omega
        | (rw [hw]; done)
        | (rw [hw]; rfl)
        | (simp only; omega)
    all_goals (have e : i = t.nx := by (clear hk; simp only [taskOf_agg, ↓Bool.not_eq_true', ↓Bool.not_eq_false', ↓decT, ↓decF, out_true, out_false, isin_true, isin_false, Int.toNat_natCast, Int.ofNat_lt, Nat.zero_add, Nat.add_zero, Nat.reduceAdd] at *; omega))
    all_goals subst e
    all_goals rfl
  all_goals clear hk
  all_goals subst hS
  all_goals try simp only [taskOf_agg, ↓Bool.not_eq_true', ↓Bool.not_eq_false', ↓decT, ↓decF, out_true, out_false, isin_true, isin_false, Int.toNat_natCast, Int.ofNat_lt, Nat.zero_add, Nat.add_zero, Nat.reduceAdd, Int.toNat_zero, Int.reduceToNat, ↓reduceIte, reduceCtorEq, Bool.or_eq_true, Bool.or_eq_false_iff, Bool.and_eq_true, Bool.and_eq_false_iff] at *
  all_goals try simp only [knownT, checkE, tickB, taskOf_agg, ↓Bool.not_eq_true', ↓Bool.not_eq_false', ↓decT, ↓decF, out_true, out_false, isin_true, isin_false, Int.toNat_natCast, Int.ofNat_lt, Nat.zero_add, Nat.add_zero, Nat.reduceAdd, Int.toNat_zero, Int.reduceToNat, ↓reduceIte, reduceCtorEq, Bool.or_eq_true, Bool.or_eq_false_iff, Bool.and_eq_true, Bool.and_eq_false_iff]
  all_goals repeat' split
  all_goals first | with_reducible rfl | omega | (simp_all only [reduceCtorEq]; done) | rfl
def Lknown : Libs := ⟨lib30, [(74, inl (cxOf tab lib23) Go.Proofs.Try.f74)],
  [(102, inlI (cxOf tab lib23) Go.Proofs.Try.f102 (codeOf Go.Proofs.Try.f102))], []⟩
theorem Lknown_ok : LibsOK Go.Proofs.Try.prog Lknown := ⟨lib30_ok,
  asGet_cons (csound_in Try.func74 (by kernel_rfl) rfl (ctx lib23_ok)) (fun g s h => by cases h),
  asGet_cons (isound_of Try.func102 (by kernel_rfl) rfl (ctx lib23_ok)) (fun g s h => by cases h), fun f r h => (by cases h)⟩
theorem windKnownT_ok : PSound Go.Proofs.Try.prog 30 (mk rKnownT) := by
  refine psound_mk Try.func30 (by kernel_rfl) rfl (ctxA Lknown_ok) ?_
  (intro ds p d h; unfold rKnownT at h; split at h <;> first | (cases h; done) | skip; cases h; refine ⟨Nat.le_of_ble_eq_true rfl, fun hp k hk => ?_⟩)
  rename_i d now
  obtain ⟨ht, hf⟩ := hp
  refine ⟨[(taskOf d).D, .int .i64 now], task_imp ht ⟨rfl, ?_⟩⟩
  clear ht
  generalize taskOf d = t at *
  generalize hS : knownT t now = c at *
  repeat' (first | ((with_reducible refine kok ?_); kernel_rfl) | ((with_reducible refine keq_mk ?_); kernel_rfl) | with_reducible rfl | ((conv => whnf); first | (with_reducible exact trivial) | ((with_reducible refine and_ff ?_ ?_); · exact rfl) | ((with_reducible refine and_tt ?_ ?_); · exact rfl) | (with_reducible refine And.intro ?_ ?_) | intro _ | (with_reducible refine fin2 hk ?_) | ((with_reducible refine eq_leaf ?_); exact rfl) | exact trivial))
  all_goals try exact hf _ (by assumption)
  all_goals clear hf
  rotate_left 4
  · have E : checkE t = 0 := by
      rename_i g1 g2 r0
      clear hS hk
      simp only [taskOf_agg, ↓Bool.not_eq_true', ↓Bool.not_eq_false', ↓decT, ↓decF, out_true, out_false, isin_true, isin_false, Int.toNat_natCast, Int.ofNat_lt, Nat.zero_add, Nat.add_zero, Nat.reduceAdd] at *
      assumption
    have F1 := small_nx (t := t) E
    have hok := check_ok E
    have hnow : 0 ≤ now ∧ now ≤ 100000 := by
      rename_i g1 g2 r0
      clear hS hk
      simp only [taskOf_agg, ↓Bool.not_eq_true', ↓Bool.not_eq_false', ↓decT, ↓decF, out_true, out_false, isin_true, isin_false, Int.toNat_natCast, Int.ofNat_lt, Nat.zero_add, Nat.add_zero, Nat.reduceAdd] at *
      assumption
    have hc : c = (knownUp t now t.nx, 0) := by
      rw [← hS, knownT, if_neg (fun h => h E), if_neg]
      rw [show tickB now = true from by simp only [tickB, taskOf_agg, ↓Bool.not_eq_true', ↓Bool.not_eq_false', ↓decT, ↓decF, out_true, out_false, isin_true, isin_false, Int.toNat_natCast, Int.ofNat_lt, Nat.zero_add, Nat.add_zero, Nat.reduceAdd]; exact hnow]
      exact Bool.noConfusion
    subst hc
    clear hS
    rename_i r0
    refine ⟨Nat, fun i => [(0, .yld 4), (1, .ptr 3 0), (8, .rsl 5 t.nx (imD t.xa)), (9, .int .i64 t.nx), (10, .int .i64 i)], fun i => [some (taskRow t), some (.row [.own 5 (knownUp t now i).length]), some (.row (viewL t 0 now)), some (.row (viewL t 0 now)), some (.lp r0 .ready), some (.buf 3 1 (knownUp t now i).length (liD (knownUp t now i)))],
      fun i => t.nx - i, fun i => i ≤ t.nx, [(3, 1)], 0, fun _ => ⟨?_, ?_⟩, ?_, fun i hi => ?_⟩
    · conv => lhs; whnf
    · conv => lhs; whnf
    · clear hk
      repeat' (first | ((with_reducible refine kok ?_); kernel_rfl) | ((with_reducible refine keq_mk ?_); kernel_rfl) | with_reducible rfl | ((conv => whnf); first | (with_reducible exact trivial) | ((with_reducible refine and_ff ?_ ?_); · exact rfl) | ((with_reducible refine and_tt ?_ ?_); · exact rfl) | (with_reducible refine And.intro ?_ ?_) | intro _ | (with_reducible refine fin2 hk ?_) | ((with_reducible refine eq_leaf ?_); exact rfl) | exact trivial))
      all_goals first | exact Nat.zero_le _ | (intro i j h; exact absurd h (Nat.not_lt_zero _)) | (exact absurd (by assumption) (Nat.not_lt_zero _))
    have hlen := knownUp_length t now i
    have F : i < t.nx → (0 ≤ t.xa i 0 ∧ t.xa i 0 < t.ns) ∧ (0 ≤ t.xa i 1 ∧ t.xa i 1 ≤ 100000) ∧ (0 ≤ t.sa (t.xa i 0).toNat 2 ∧ t.sa (t.xa i 0).toNat 2 ≤ 6000) ∧ (1 ≤ t.sa (t.xa i 0).toNat 3 ∧ t.sa (t.xa i 0).toNat 3 ≤ 60000) := fun h => by
      have h3 := hok.src i h
      exact ⟨h3, hok.tick i h, hok.late _ (by omega), hok.life _ (by omega)⟩
    repeat' (first | ((with_reducible refine kok ?_); kernel_rfl) | ((with_reducible refine keq_mk ?_); kernel_rfl) | with_reducible rfl | ((conv => whnf); first | (with_reducible exact trivial) | ((with_reducible refine and_ff ?_ ?_); · exact rfl) | ((with_reducible refine and_tt ?_ ?_); · exact rfl) | (with_reducible refine And.intro ?_ ?_) | intro _ | (with_reducible refine fin2 hk ?_) | ((with_reducible refine eq_leaf ?_); exact rfl) | exact trivial))
    all_goals try ((first | with_reducible refine (?_ : (_ : Int) ≤ _) | with_reducible refine (?_ : (_ : Int) < _) | with_reducible refine (?_ : (_ : Nat) ≤ _) | with_reducible refine (?_ : (_ : Nat) < _)); clear hk; try simp only [taskOf_agg, ↓Bool.not_eq_true', ↓Bool.not_eq_false', ↓decT, ↓decF, out_true, out_false, isin_true, isin_false, Int.toNat_natCast, Int.ofNat_lt, Nat.zero_add, Nat.add_zero, Nat.reduceAdd] at *; first | omega | (have F' := F (by assumption); omega))
    all_goals try conv => whnf
    · rename_i g1 g2 g4 g5 g6
      simp only [taskOf_agg, ↓Bool.not_eq_true', ↓Bool.not_eq_false', ↓decT, ↓decF, out_true, out_false, isin_true, isin_false, Int.toNat_natCast, Int.ofNat_lt, Nat.zero_add, Nat.add_zero, Nat.reduceAdd] at g4 g5 g6
      have hw : knownUp t now (i + 1) = knownUp t now i ++ [(i : Int)] := if_pos (known_t g5 g6)
      clear hk F hok
      refine ⟨i + 1, ?_⟩
      repeat' (first | ((with_reducible refine kok ?_); kernel_rfl) | ((with_reducible refine keq_mk ?_); kernel_rfl) | with_reducible rfl | ((conv => whnf); first | (with_reducible exact trivial) | ((with_reducible refine and_ff ?_ ?_); · exact rfl) | ((with_reducible refine and_tt ?_ ?_); · exact rfl) | (with_reducible refine And.intro ?_ ?_) | intro _ | (with_reducible refine fin2 hk ?_) | ((with_reducible refine eq_leaf ?_); exact rfl) | exact trivial))
      all_goals first
        | omega
        | (rw [hw]; simp only [List.length_append, List.length_singleton]; done)
        | exact liD_snoc2 hw (by assumption) (by assumption)
        | (simp only; omega)
    · rename_i g1 g2 g4 g5 g6
      simp only [taskOf_agg, ↓Bool.not_eq_true', ↓Bool.not_eq_false', ↓decT, ↓decF, out_true, out_false, isin_true, isin_false, Int.toNat_natCast, Int.ofNat_lt, Nat.zero_add, Nat.add_zero, Nat.reduceAdd] at g4 g5 g6
      have hw : knownUp t now (i + 1) = knownUp t now i := if_neg (by rw [known_f (.inr g6)]; exact Bool.noConfusion)
      clear hk F hok
      refine ⟨i + 1, ?_⟩
      repeat' (first | ((with_reducible refine kok ?_); kernel_rfl) | ((with_reducible refine keq_mk ?_); kernel_rfl) | with_reducible rfl | ((conv => whnf); first | (with_reducible exact trivial) | ((with_reducible refine and_ff ?_ ?_); · exact rfl) | ((with_reducible refine and_tt ?_ ?_); · exact rfl) | (with_reducible refine And.intro ?_ ?_) | intro _ | (with_reducible refine fin2 hk ?_) | ((with_reducible refine eq_leaf ?_); exact rfl) | exact trivial))
      all_goals first
        | omega
        | (rw [hw]; done)
        | (rw [hw]; rfl)
        | (simp only; omega)
    · rename_i g1 g2 g4 g5
      simp only [taskOf_agg, ↓Bool.not_eq_true', ↓Bool.not_eq_false', ↓decT, ↓decF, out_true, out_false, isin_true, isin_false, Int.toNat_natCast, Int.ofNat_lt, Nat.zero_add, Nat.add_zero, Nat.reduceAdd] at g4 g5
      have hw : knownUp t now (i + 1) = knownUp t now i := if_neg (by rw [known_f (.inl g5)]; exact Bool.noConfusion)
      clear hk F hok
      refine ⟨i + 1, ?_⟩
      repeat' (first | ((with_reducible refine kok ?_); kernel_rfl) | ((with_reducible refine keq_mk ?_); kernel_rfl) | with_reducible rfl | ((conv => whnf); first | (with_reducible exact trivial) | ((with_reducible refine and_ff ?_ ?_); · exact rfl) | ((with_reducible refine and_tt ?_ ?_); · exact rfl) | (with_reducible refine And.intro ?_ ?_) | intro _ | (with_reducible refine fin2 hk ?_) | ((with_reducible refine eq_leaf ?_); exact rfl) | exact trivial))
      all_goals first
        | omega
        | (rw [hw]; done)
        | (rw [hw]; rfl)
        | (simp only; omega)
    all_goals (have e : i = t.nx := by (clear hk; simp only [taskOf_agg, ↓Bool.not_eq_true', ↓Bool.not_eq_false', ↓decT, ↓decF, out_true, out_false, isin_true, isin_false, Int.toNat_natCast, Int.ofNat_lt, Nat.zero_add, Nat.add_zero, Nat.reduceAdd] at *; omega))
    all_goals subst e
    all_goals rfl
  all_goals clear hk
  all_goals subst hS
  all_goals try simp only [taskOf_agg, ↓Bool.not_eq_true', ↓Bool.not_eq_false', ↓decT, ↓decF, out_true, out_false, isin_true, isin_false, Int.toNat_natCast, Int.ofNat_lt, Nat.zero_add, Nat.add_zero, Nat.reduceAdd, Int.toNat_zero, Int.reduceToNat, ↓reduceIte, reduceCtorEq, Bool.or_eq_true, Bool.or_eq_false_iff, Bool.and_eq_true, Bool.and_eq_false_iff] at *
  all_goals try simp only [knownT, checkE, tickB, taskOf_agg, ↓Bool.not_eq_true', ↓Bool.not_eq_false', ↓decT, ↓decF, out_true, out_false, isin_true, isin_false, Int.toNat_natCast, Int.ofNat_lt, Nat.zero_add, Nat.add_zero, Nat.reduceAdd, Int.toNat_zero, Int.reduceToNat, ↓reduceIte, reduceCtorEq, Bool.or_eq_true, Bool.or_eq_false_iff, Bool.and_eq_true, Bool.and_eq_false_iff]
  all_goals repeat' split
  all_goals first | with_reducible rfl | omega | (simp_all only [reduceCtorEq]; done) | rfl
end Go.Proofs.Ytbkehkiflfhpfaa
end
section
set_option linter.unusedVariables false
set_option linter.unusedSimpArgs false
set_option maxRecDepth 100000
set_option maxHeartbeats 4000000
namespace Go.Proofs.Ytbkehkiflfhpfaa
open Go.V
attribute [local irreducible] doubtS saysS leftS agreeS blameS answerS checkS begun nameS lowS answerN knownS
def lib31 : Lib := (30, mk rKnownT) :: (31, mk rKnownT) :: lib30
theorem lib31_ok : LibOK Go.Proofs.Try.prog lib31 := .cons windKnownT_ok (.cons refKnownT_ok lib30_ok)

def ansB (t : Task) (a now : Int) (i : Nat) : Left × Bool := answerS t (lowS t i) (t.ca i 0 - 1) a now
def bandA (t : Task) (a now : Int) (i j : Nat) : Int := match j with
  | 0 => lowS t i
  | 1 => t.ca i 0
  | 2 => (ansB t a now i).1.xl
  | 3 => (ansB t a now i).1.xh
  | 4 => (ansB t a now i).1.yl
  | 5 => (ansB t a now i).1.yh
  | _ => 0
def badB (t : Task) (a now : Int) (i : Nat) : Bool := !(ansB t a now i).2
def bandsT (t : Task) (a now : Int) : Nat × Int := if checkE t ≠ 0 then (0, checkE t) else if (tickB a && tickB now) = false then (0, 7) else if anyBelow (badB t a now) t.nc = true then (0, 9) else (t.nc, 0)
def rBandsT : List V.D → Option (Prop × V.D) := fun ds => match ds with
  | [d, .int .i64 a, .int .i64 now] => some (TaskIs d ∧ (taskOf d).fits, .tup [.rsl 6 (bandsT (taskOf d) a now).1 (imD (bandA (taskOf d) a now)), .int .i64 (bandsT (taskOf d) a now).2])
  | _ => none
theorem band_snoc {t : Task} {a now : Int} {n i j : Nat} {l : List V.D} (hl : l = [.int .i64 (lowS t n), .int .i64 (t.ca n 0), .int .i64 (ansB t a now n).1.xl, .int .i64 (ansB t a now n).1.xh, .int .i64 (ansB t a now n).1.yl, .int .i64 (ansB t a now n).1.yh]) (hi : i < n + 1) (hj : j < 6) :
    (if i < n then imD (bandA t a now) i j else l.getD ((i - n) * 6 + j) D.top) = imD (bandA t a now) i j := by
  subst hl
  by_cases h : i < n
  · rw [if_pos h]
  · rw [if_neg h]
    obtain rfl : i = n := by omega
    have hj' : j = 0 ∨ j = 1 ∨ j = 2 ∨ j = 3 ∨ j = 4 ∨ j = 5 := by omega
    rcases hj' with rfl | rfl | rfl | rfl | rfl | rfl <;> simp [imD, bandA]
theorem band_snoc2 {t : Task} {a now x : Int} {n i j : Nat} {l : List V.D} (hl : l = [.int .i64 (lowS t n), .int .i64 x, .int .i64 (ansB t a now n).1.xl, .int .i64 (ansB t a now n).1.xh, .int .i64 (ansB t a now n).1.yl, .int .i64 (ansB t a now n).1.yh]) (hx : x = t.ca n 0) (hi : i < n + 1) (hj : j < 6) :
    (if i < n then imD (bandA t a now) i j else l.getD ((i - n) * 6 + j) D.top) = imD (bandA t a now) i j := by
  subst hx
  exact band_snoc hl hi hj
theorem refBandsT_ok : PSound Go.Proofs.Try.prog 28 (mk rBandsT) := by
  refine psound_mk Try.func28 (by kernel_rfl) rfl (ctx lib31_ok) ?_
  (intro ds p d h; unfold rBandsT at h; split at h <;> first | (cases h; done) | skip; cases h; refine ⟨Nat.le_of_ble_eq_true rfl, fun hp k hk => ?_⟩)
  rename_i d a now
  obtain ⟨ht, hf⟩ := hp
  refine ⟨[(taskOf d).D, .int .i64 a, .int .i64 now], task_imp ht ⟨rfl, rfl, ?_⟩⟩
  clear ht
  generalize taskOf d = t at *
  generalize hS : bandsT t a now = c at *
  repeat' (first | ((with_reducible refine kok ?_); kernel_rfl) | ((with_reducible refine keq_mk ?_); kernel_rfl) | with_reducible rfl | ((conv => whnf); first | (with_reducible exact trivial) | ((with_reducible refine and_ff ?_ ?_); · exact rfl) | ((with_reducible refine and_tt ?_ ?_); · exact rfl) | (with_reducible refine And.intro ?_ ?_) | intro _ | (with_reducible refine fin2 hk ?_) | ((with_reducible refine eq_leaf ?_); exact rfl) | exact trivial))
  all_goals try exact hf _ (by assumption)
  all_goals clear hf
  rotate_left 6
  · rename_i g1 g2 g3 g4
    have E : checkE t = 0 := by
      clear hS hk
      simp only [taskOf_agg, ↓Bool.not_eq_true', ↓Bool.not_eq_false', ↓decT, ↓decF, out_true, out_false, isin_true, isin_false, Int.toNat_natCast, Int.ofNat_lt, Nat.zero_add, Nat.add_zero, Nat.reduceAdd] at *
      assumption
    have hok := check_ok E
    have ha : 0 ≤ a ∧ a ≤ 100000 := by
      clear hS hk
      simp only [taskOf_agg, ↓Bool.not_eq_true', ↓Bool.not_eq_false', ↓decT, ↓decF, out_true, out_false, isin_true, isin_false, Int.toNat_natCast, Int.ofNat_lt, Nat.zero_add, Nat.add_zero, Nat.reduceAdd] at *
      omega
    have hnow : 0 ≤ now ∧ now ≤ 100000 := by
      clear hS hk
      simp only [taskOf_agg, ↓Bool.not_eq_true', ↓Bool.not_eq_false', ↓decT, ↓decF, out_true, out_false, isin_true, isin_false, Int.toNat_natCast, Int.ofNat_lt, Nat.zero_add, Nat.add_zero, Nat.reduceAdd] at *
      omega
    have hc : c = if anyBelow (badB t a now) t.nc = true then (0, 9) else (t.nc, 0) := by
      rw [← hS, bandsT, if_neg (fun h => h E), if_neg]
      rw [show tickB a = true from by simp only [tickB, taskOf_agg, ↓Bool.not_eq_true', ↓Bool.not_eq_false', ↓decT, ↓decF, out_true, out_false, isin_true, isin_false, Int.toNat_natCast, Int.ofNat_lt, Nat.zero_add, Nat.add_zero, Nat.reduceAdd]; exact ha, show tickB now = true from by simp only [tickB, taskOf_agg, ↓Bool.not_eq_true', ↓Bool.not_eq_false', ↓decT, ↓decF, out_true, out_false, isin_true, isin_false, Int.toNat_natCast, Int.ofNat_lt, Nat.zero_add, Nat.add_zero, Nat.reduceAdd]; exact hnow]
      exact Bool.noConfusion
    have hnc := hok.nc
    clear hS g1 g2 g3 g4
    refine ⟨Nat, fun i => [(1, .int .i64 a), (2, .int .i64 now), (3, .ptr 0 0), (11, .own 1 i), (12, .int .i64 i)], fun i => [some (taskRow t), some (.buf 61 6 i (imD (bandA t a now)))],
      fun i => t.nc - i, fun i => i ≤ t.nc ∧ anyBelow (badB t a now) i = false, [(61, 6)], 0, fun _ => ⟨?_, ?_⟩, ?_, fun i hi => ?_⟩
    · conv => lhs; whnf
    · conv => lhs; whnf
    · clear hk
      repeat' (first | ((with_reducible refine kok ?_); kernel_rfl) | ((with_reducible refine keq_mk ?_); kernel_rfl) | with_reducible rfl | ((conv => whnf); first | (with_reducible exact trivial) | ((with_reducible refine and_ff ?_ ?_); · exact rfl) | ((with_reducible refine and_tt ?_ ?_); · exact rfl) | (with_reducible refine And.intro ?_ ?_) | intro _ | (with_reducible refine fin2 hk ?_) | ((with_reducible refine eq_leaf ?_); exact rfl) | exact trivial))
      all_goals first | exact Nat.zero_le _ | (exact absurd (by assumption) (Nat.not_lt_zero _)) | rfl
    obtain ⟨hi, hq⟩ := hi
    have F : i < t.nc → (0 ≤ lowS t i ∧ lowS t i < 100000000) ∧ (1 ≤ t.ca i 0 ∧ t.ca i 0 ≤ 100000000) := fun h => by
      have := low_ok E (b := (i : Int)) (by omega) (by omega)
      rwa [Int.toNat_natCast] at this
    have FN : ∀ l h : Int, (answerS t l h a now).2 = true → answerN t l h a now = 2 := fun l h e => answerN_2 e
    repeat' (first | ((with_reducible refine kok ?_); kernel_rfl) | ((with_reducible refine keq_mk ?_); kernel_rfl) | with_reducible rfl | ((conv => whnf); first | (with_reducible exact trivial) | ((with_reducible refine and_ff ?_ ?_); · exact rfl) | ((with_reducible refine and_tt ?_ ?_); · exact rfl) | (with_reducible refine And.intro ?_ ?_) | intro _ | (with_reducible refine fin2 hk ?_) | ((with_reducible refine eq_leaf ?_); exact rfl) | exact trivial))
    all_goals try ((with_reducible refine (?_ : Task.ok _)); exact hok)
    all_goals clear hok
    all_goals try ((first | with_reducible refine (?_ : (_ : Int) ≤ _) | with_reducible refine (?_ : (_ : Int) < _) | with_reducible refine (?_ : (_ : Nat) ≤ _) | with_reducible refine (?_ : (_ : Nat) < _)); clear hk; try simp only [taskOf_agg, ↓Bool.not_eq_true', ↓Bool.not_eq_false', ↓decT, ↓decF, out_true, out_false, isin_true, isin_false, Int.toNat_natCast, Int.ofNat_lt, Nat.zero_add, Nat.add_zero, Nat.reduceAdd] at *; first | omega | (have F' := F (by assumption); omega) | (have F' := FN _ _ (by assumption); omega))
    all_goals try conv => whnf
    rotate_left 2
    · rename_i g1 g2
      clear hk F FN hc
      simp only [taskOf_agg, ↓Bool.not_eq_true', ↓Bool.not_eq_false', ↓decT, ↓decF, out_true, out_false, isin_true, isin_false, Int.toNat_natCast, Int.ofNat_lt, Nat.zero_add, Nat.add_zero, Nat.reduceAdd] at g1 g2
      have hb : badB t a now i = false := by unfold badB ansB; rw [g2]; rfl
      refine ⟨i + 1, ?_⟩
      repeat' (first | ((with_reducible refine kok ?_); kernel_rfl) | ((with_reducible refine keq_mk ?_); kernel_rfl) | with_reducible rfl | ((conv => whnf); first | (with_reducible exact trivial) | ((with_reducible refine and_ff ?_ ?_); · exact rfl) | ((with_reducible refine and_tt ?_ ?_); · exact rfl) | (with_reducible refine And.intro ?_ ?_) | intro _ | (with_reducible refine fin2 hk ?_) | ((with_reducible refine eq_leaf ?_); exact rfl) | exact trivial))
      all_goals first
        | omega
        | exact band_snoc rfl (by assumption) (by assumption)
        | exact band_snoc2 (x := t.ca i 0 - 1 + 1) rfl (by omega) (by assumption) (by assumption)
        | (rw [anyBelow, hq, hb]; rfl)
        | (simp only; omega)
    · have e : i = t.nc := by (clear hk; simp only [taskOf_agg, ↓Bool.not_eq_true', ↓Bool.not_eq_false', ↓decT, ↓decF, out_true, out_false, isin_true, isin_false, Int.toNat_natCast, Int.ofNat_lt, Nat.zero_add, Nat.add_zero, Nat.reduceAdd] at *; omega)
      rw [hc, if_neg (by rw [← e, hq]; exact Bool.noConfusion)]
      exact e
    · have e : i = t.nc := by (clear hk; simp only [taskOf_agg, ↓Bool.not_eq_true', ↓Bool.not_eq_false', ↓decT, ↓decF, out_true, out_false, isin_true, isin_false, Int.toNat_natCast, Int.ofNat_lt, Nat.zero_add, Nat.add_zero, Nat.reduceAdd] at *; omega)
      rw [hc, if_neg (by rw [← e, hq]; exact Bool.noConfusion)]
    all_goals (rename_i g1 g2; clear hk; simp only [taskOf_agg, ↓Bool.not_eq_true', ↓Bool.not_eq_false', ↓decT, ↓decF, out_true, out_false, isin_true, isin_false, Int.toNat_natCast, Int.ofNat_lt, Nat.zero_add, Nat.add_zero, Nat.reduceAdd] at g1 g2; have hb : anyBelow (badB t a now) t.nc = true := anyBelow_iff.mpr ⟨i, g1, by unfold badB ansB; rw [g2]; rfl⟩)
    all_goals rw [hc, if_pos hb]
  all_goals clear hk
  all_goals subst hS
  all_goals try simp only [taskOf_agg, ↓Bool.not_eq_true', ↓Bool.not_eq_false', ↓decT, ↓decF, out_true, out_false, isin_true, isin_false, Int.toNat_natCast, Int.ofNat_lt, Nat.zero_add, Nat.add_zero, Nat.reduceAdd, Int.toNat_zero, Int.reduceToNat, ↓reduceIte, reduceCtorEq, Bool.or_eq_true, Bool.or_eq_false_iff, Bool.and_eq_true, Bool.and_eq_false_iff] at *
  all_goals try simp only [bandsT, checkE, tickB, taskOf_agg, ↓Bool.not_eq_true', ↓Bool.not_eq_false', ↓decT, ↓decF, out_true, out_false, isin_true, isin_false, Int.toNat_natCast, Int.ofNat_lt, Nat.zero_add, Nat.add_zero, Nat.reduceAdd, Int.toNat_zero, Int.reduceToNat, ↓reduceIte, reduceCtorEq, Bool.or_eq_true, Bool.or_eq_false_iff, Bool.and_eq_true, Bool.and_eq_false_iff]
  all_goals repeat' split
  all_goals first | with_reducible rfl | omega | (simp_all only [reduceCtorEq]; done) | rfl
theorem windBandsT_ok : PSound Go.Proofs.Try.prog 27 (mk rBandsT) := by
  refine psound_mk Try.func27 (by kernel_rfl) rfl (ctx lib31_ok) ?_
  (intro ds p d h; unfold rBandsT at h; split at h <;> first | (cases h; done) | skip; cases h; refine ⟨Nat.le_of_ble_eq_true rfl, fun hp k hk => ?_⟩)
  rename_i d a now
  obtain ⟨ht, hf⟩ := hp
  refine ⟨[(taskOf d).D, .int .i64 a, .int .i64 now], task_imp ht ⟨rfl, rfl, ?_⟩⟩
  clear ht
  generalize taskOf d = t at *
  generalize hS : bandsT t a now = c at *
  repeat' (first | ((with_reducible refine kok ?_); kernel_rfl) | ((with_reducible refine keq_mk ?_); kernel_rfl) | with_reducible rfl | ((conv => whnf); first | (with_reducible exact trivial) | ((with_reducible refine and_ff ?_ ?_); · exact rfl) | ((with_reducible refine and_tt ?_ ?_); · exact rfl) | (with_reducible refine And.intro ?_ ?_) | intro _ | (with_reducible refine fin2 hk ?_) | ((with_reducible refine eq_leaf ?_); exact rfl) | exact trivial))
  all_goals try exact hf _ (by assumption)
  all_goals clear hf
  rotate_left 6
  · rename_i g1 g2 g3
    have E : checkE t = 0 := by
      clear hS hk
      simp only [taskOf_agg, ↓Bool.not_eq_true', ↓Bool.not_eq_false', ↓decT, ↓decF, out_true, out_false, isin_true, isin_false, Int.toNat_natCast, Int.ofNat_lt, Nat.zero_add, Nat.add_zero, Nat.reduceAdd] at *
      assumption
    have hok := check_ok E
    have ha : 0 ≤ a ∧ a ≤ 100000 := by
      clear hS hk
      simp only [taskOf_agg, ↓Bool.not_eq_true', ↓Bool.not_eq_false', ↓decT, ↓decF, out_true, out_false, isin_true, isin_false, Int.toNat_natCast, Int.ofNat_lt, Nat.zero_add, Nat.add_zero, Nat.reduceAdd] at *
      omega
    have hnow : 0 ≤ now ∧ now ≤ 100000 := by
      clear hS hk
      simp only [taskOf_agg, ↓Bool.not_eq_true', ↓Bool.not_eq_false', ↓decT, ↓decF, out_true, out_false, isin_true, isin_false, Int.toNat_natCast, Int.ofNat_lt, Nat.zero_add, Nat.add_zero, Nat.reduceAdd] at *
      omega
    have hc : c = if anyBelow (badB t a now) t.nc = true then (0, 9) else (t.nc, 0) := by
      rw [← hS, bandsT, if_neg (fun h => h E), if_neg]
      rw [show tickB a = true from by simp only [tickB, taskOf_agg, ↓Bool.not_eq_true', ↓Bool.not_eq_false', ↓decT, ↓decF, out_true, out_false, isin_true, isin_false, Int.toNat_natCast, Int.ofNat_lt, Nat.zero_add, Nat.add_zero, Nat.reduceAdd]; exact ha, show tickB now = true from by simp only [tickB, taskOf_agg, ↓Bool.not_eq_true', ↓Bool.not_eq_false', ↓decT, ↓decF, out_true, out_false, isin_true, isin_false, Int.toNat_natCast, Int.ofNat_lt, Nat.zero_add, Nat.add_zero, Nat.reduceAdd]; exact hnow]
      exact Bool.noConfusion
    have hnc := hok.nc
    clear hS g1 g2 g3
    refine ⟨Nat, fun i => [(1, .int .i64 a), (2, .int .i64 now), (3, .ptr 0 0), (6, .own 2 i), (8, .ptr 1 0), (33, .rsl 1 t.nc (imD t.ca)), (34, .int .i64 t.nc), (35, .int .i64 i)], fun i => [some (taskRow t), some (.row (viewL t a now)), some (.buf 61 6 i (imD (bandA t a now)))],
      fun i => t.nc - i, fun i => i ≤ t.nc ∧ anyBelow (badB t a now) i = false, [(61, 6)], 0, fun _ => ⟨?_, ?_⟩, ?_, fun i hi => ?_⟩
    · conv => lhs; whnf
    · conv => lhs; whnf
    · clear hk
      repeat' (first | ((with_reducible refine kok ?_); kernel_rfl) | ((with_reducible refine keq_mk ?_); kernel_rfl) | with_reducible rfl | ((conv => whnf); first | (with_reducible exact trivial) | ((with_reducible refine and_ff ?_ ?_); · exact rfl) | ((with_reducible refine and_tt ?_ ?_); · exact rfl) | (with_reducible refine And.intro ?_ ?_) | intro _ | (with_reducible refine fin2 hk ?_) | ((with_reducible refine eq_leaf ?_); exact rfl) | exact trivial))
      all_goals first | exact Nat.zero_le _ | (exact absurd (by assumption) (Nat.not_lt_zero _)) | rfl
    obtain ⟨hi, hq⟩ := hi
    have F : i < t.nc → (0 ≤ lowS t i ∧ lowS t i < 100000000) ∧ (1 ≤ t.ca i 0 ∧ t.ca i 0 ≤ 100000000) := fun h => by
      have := low_ok E (b := (i : Int)) (by omega) (by omega)
      rwa [Int.toNat_natCast] at this
    have FN : ∀ l h : Int, (answerS t l h a now).2 = true → answerN t l h a now = 2 := fun l h e => answerN_2 e
    repeat' (first | ((with_reducible refine kok ?_); kernel_rfl) | ((with_reducible refine keq_mk ?_); kernel_rfl) | with_reducible rfl | ((conv => whnf); first | (with_reducible exact trivial) | ((with_reducible refine and_ff ?_ ?_); · exact rfl) | ((with_reducible refine and_tt ?_ ?_); · exact rfl) | (with_reducible refine And.intro ?_ ?_) | intro _ | (with_reducible refine fin2 hk ?_) | ((with_reducible refine eq_leaf ?_); exact rfl) | exact trivial))
    all_goals try ((with_reducible refine (?_ : Task.ok _)); exact hok)
    all_goals clear hok
    all_goals try ((first | with_reducible refine (?_ : (_ : Int) ≤ _) | with_reducible refine (?_ : (_ : Int) < _) | with_reducible refine (?_ : (_ : Nat) ≤ _) | with_reducible refine (?_ : (_ : Nat) < _)); clear hk; try simp only [taskOf_agg, ↓Bool.not_eq_true', ↓Bool.not_eq_false', ↓decT, ↓decF, out_true, out_false, isin_true, isin_false, Int.toNat_natCast, Int.ofNat_lt, Nat.zero_add, Nat.add_zero, Nat.reduceAdd] at *; first | omega | (have F' := F (by assumption); omega) | (have F' := FN _ _ (by assumption); omega))
    all_goals try conv => whnf
    rotate_left 2
    · rename_i g1 g2
      clear hk F FN hc
      simp only [taskOf_agg, ↓Bool.not_eq_true', ↓Bool.not_eq_false', ↓decT, ↓decF, out_true, out_false, isin_true, isin_false, Int.toNat_natCast, Int.ofNat_lt, Nat.zero_add, Nat.add_zero, Nat.reduceAdd] at g1 g2
      have hb : badB t a now i = false := by unfold badB ansB; rw [g2]; rfl
      refine ⟨i + 1, ?_⟩
      repeat' (first | ((with_reducible refine kok ?_); kernel_rfl) | ((with_reducible refine keq_mk ?_); kernel_rfl) | with_reducible rfl | ((conv => whnf); first | (with_reducible exact trivial) | ((with_reducible refine and_ff ?_ ?_); · exact rfl) | ((with_reducible refine and_tt ?_ ?_); · exact rfl) | (with_reducible refine And.intro ?_ ?_) | intro _ | (with_reducible refine fin2 hk ?_) | ((with_reducible refine eq_leaf ?_); exact rfl) | exact trivial))
      all_goals first
        | omega
        | exact band_snoc rfl (by assumption) (by assumption)
        | exact band_snoc2 (x := t.ca i 0 - 1 + 1) rfl (by omega) (by assumption) (by assumption)
        | (rw [anyBelow, hq, hb]; rfl)
        | (simp only; omega)
    · have e : i = t.nc := by (clear hk; simp only [taskOf_agg, ↓Bool.not_eq_true', ↓Bool.not_eq_false', ↓decT, ↓decF, out_true, out_false, isin_true, isin_false, Int.toNat_natCast, Int.ofNat_lt, Nat.zero_add, Nat.add_zero, Nat.reduceAdd] at *; omega)
      rw [hc, if_neg (by rw [← e, hq]; exact Bool.noConfusion)]
      exact e
    · have e : i = t.nc := by (clear hk; simp only [taskOf_agg, ↓Bool.not_eq_true', ↓Bool.not_eq_false', ↓decT, ↓decF, out_true, out_false, isin_true, isin_false, Int.toNat_natCast, Int.ofNat_lt, Nat.zero_add, Nat.add_zero, Nat.reduceAdd] at *; omega)
      rw [hc, if_neg (by rw [← e, hq]; exact Bool.noConfusion)]
    all_goals (rename_i g1 g2; clear hk; simp only [taskOf_agg, ↓Bool.not_eq_true', ↓Bool.not_eq_false', ↓decT, ↓decF, out_true, out_false, isin_true, isin_false, Int.toNat_natCast, Int.ofNat_lt, Nat.zero_add, Nat.add_zero, Nat.reduceAdd] at g1 g2; have hb : anyBelow (badB t a now) t.nc = true := anyBelow_iff.mpr ⟨i, g1, by unfold badB ansB; rw [g2]; rfl⟩)
    all_goals rw [hc, if_pos hb]
  all_goals clear hk
  all_goals subst hS
  all_goals try simp only [taskOf_agg, ↓Bool.not_eq_true', ↓Bool.not_eq_false', ↓decT, ↓decF, out_true, out_false, isin_true, isin_false, Int.toNat_natCast, Int.ofNat_lt, Nat.zero_add, Nat.add_zero, Nat.reduceAdd, Int.toNat_zero, Int.reduceToNat, ↓reduceIte, reduceCtorEq, Bool.or_eq_true, Bool.or_eq_false_iff, Bool.and_eq_true, Bool.and_eq_false_iff] at *
  all_goals try simp only [bandsT, checkE, tickB, taskOf_agg, ↓Bool.not_eq_true', ↓Bool.not_eq_false', ↓decT, ↓decF, out_true, out_false, isin_true, isin_false, Int.toNat_natCast, Int.ofNat_lt, Nat.zero_add, Nat.add_zero, Nat.reduceAdd, Int.toNat_zero, Int.reduceToNat, ↓reduceIte, reduceCtorEq, Bool.or_eq_true, Bool.or_eq_false_iff, Bool.and_eq_true, Bool.and_eq_false_iff]
  all_goals repeat' split
  all_goals first | with_reducible rfl | omega | (simp_all only [reduceCtorEq]; done) | rfl
end Go.Proofs.Ytbkehkiflfhpfaa
end
section
set_option linter.unusedVariables false
set_option linter.unusedSimpArgs false
set_option maxRecDepth 100000
set_option maxHeartbeats 4000000
namespace Go.Proofs.Ytbkehkiflfhpfaa
open Go.V
attribute [local irreducible] doubtS saysS leftS agreeS blameS answerS checkS begun nameS lowS answerN knownS
def lib32 : Lib := (27, mk rBandsT) :: (28, mk rBandsT) :: lib31
theorem lib32_ok : LibOK Go.Proofs.Try.prog lib32 := .cons windBandsT_ok (.cons refBandsT_ok lib31_ok)

noncomputable def rSame : List D → Option (Prop × D) := fun ds => match ds with
  | [.rsl 6 n g, .rsl 6 m h] => some (IM n 6 g ∧ IM m 6 h ∧ n ≤ 1099511627776, .bool (sameB 6 n m (im g) (im h)))
  | _ => none
theorem sameB_iff {s n m : Nat} {a b : Nat → Nat → Int} : sameB s n m a b = true ↔ n = m ∧ sameFrom s a b n 0 := by
  unfold sameB
  rw [decT]
theorem all6 {p : Nat → Prop} : (∀ j, j < 6 → p j) ↔ p 0 ∧ p 1 ∧ p 2 ∧ p 3 ∧ p 4 ∧ p 5 :=
  ⟨fun h => ⟨h 0 (by omega), h 1 (by omega), h 2 (by omega), h 3 (by omega), h 4 (by omega), h 5 (by omega)⟩, fun h j hj => by
    have hj' : j = 0 ∨ j = 1 ∨ j = 2 ∨ j = 3 ∨ j = 4 ∨ j = 5 := by omega
    rcases hj' with rfl | rfl | rfl | rfl | rfl | rfl
    · exact h.1
    · exact h.2.1
    · exact h.2.2.1
    · exact h.2.2.2.1
    · exact h.2.2.2.2.1
    · exact h.2.2.2.2.2⟩
theorem same_ok : PSound Go.Proofs.Try.prog 29 (mk rSame) := by
  refine psound_mk Try.func29 (by kernel_rfl) rfl (ctx (.nil _)) ?_
  (intro ds p d h; unfold rSame at h; split at h <;> first | (cases h; done) | skip; cases h; refine ⟨Nat.le_of_ble_eq_true rfl, fun hp k hk => ?_⟩)
  rename_i n g m h
  obtain ⟨h1, h2, h3⟩ := hp
  refine ⟨[.rsl 6 n (imD (im g)), .rsl 6 m (imD (im h))], rfl, h1, rfl, h2, ?_⟩
  clear h1 h2
  generalize im g = a at *
  generalize im h = b at *
  generalize hS : sameB 6 n m a b = c at *
  have hS' : c = true ↔ n = m ∧ sameFrom 6 a b n 0 := by rw [← hS]; exact sameB_iff
  clear hS
  repeat' (first | ((with_reducible refine kok ?_); kernel_rfl) | ((with_reducible refine keq_mk ?_); kernel_rfl) | with_reducible rfl | ((conv => whnf); first | (with_reducible exact trivial) | ((with_reducible refine and_ff ?_ ?_); · exact rfl) | ((with_reducible refine and_tt ?_ ?_); · exact rfl) | (with_reducible refine And.intro ?_ ?_) | intro _ | (with_reducible refine fin2 hk ?_) | ((with_reducible refine eq_leaf ?_); exact rfl) | exact trivial))
  · rename_i g1
    simp only [taskOf_agg, ↓Bool.not_eq_true', ↓Bool.not_eq_false', ↓decT, ↓decF, out_true, out_false, isin_true, isin_false, Int.toNat_natCast, Int.ofNat_lt, Nat.zero_add, Nat.add_zero, Nat.reduceAdd] at g1
    symm
    rw [Bool.eq_false_iff, Ne, hS']
    omega
  rename_i g1
  simp only [taskOf_agg, ↓Bool.not_eq_true', ↓Bool.not_eq_false', ↓decT, ↓decF, out_true, out_false, isin_true, isin_false, Int.toNat_natCast, Int.ofNat_lt, Nat.zero_add, Nat.add_zero, Nat.reduceAdd] at g1
  have hnm : n = m := by omega
  subst hnm
  refine ⟨Nat, fun i => [(0, .rsl 6 n (imD a)), (1, .rsl 6 n (imD b)), (5, .int .i64 i)], fun _ => [], fun i => n - i, fun i => i ≤ n ∧ (c = true ↔ sameFrom 6 a b n i), [], 0, fun _ => ⟨rfl, rfl⟩, ?_, fun i hI => ?_⟩
  · clear hk
    repeat' (first | ((with_reducible refine kok ?_); kernel_rfl) | ((with_reducible refine keq_mk ?_); kernel_rfl) | with_reducible rfl | ((conv => whnf); first | (with_reducible exact trivial) | ((with_reducible refine and_ff ?_ ?_); · exact rfl) | ((with_reducible refine and_tt ?_ ?_); · exact rfl) | (with_reducible refine And.intro ?_ ?_) | intro _ | (with_reducible refine fin2 hk ?_) | ((with_reducible refine eq_leaf ?_); exact rfl) | exact trivial))
    · omega
    · rw [hS']; simp
  obtain ⟨hi, hc⟩ := hI
  clear hS'
  repeat' (first | ((with_reducible refine kok ?_); kernel_rfl) | ((with_reducible refine keq_mk ?_); kernel_rfl) | with_reducible rfl | ((conv => whnf); first | (with_reducible exact trivial) | ((with_reducible refine and_ff ?_ ?_); · exact rfl) | ((with_reducible refine and_tt ?_ ?_); · exact rfl) | (with_reducible refine And.intro ?_ ?_) | intro _ | (with_reducible refine fin2 hk ?_) | ((with_reducible refine eq_leaf ?_); exact rfl) | exact trivial))
  all_goals try ((first | with_reducible refine (?_ : (_ : Int) ≤ _) | with_reducible refine (?_ : (_ : Int) < _) | with_reducible refine (?_ : (_ : Nat) ≤ _) | with_reducible refine (?_ : (_ : Nat) < _)); clear hk; try simp only [taskOf_agg, ↓Bool.not_eq_true', ↓Bool.not_eq_false', ↓decT, ↓decF, out_true, out_false, isin_true, isin_false, Int.toNat_natCast, Int.ofNat_lt, Nat.zero_add, Nat.add_zero, Nat.reduceAdd] at *; omega)
  all_goals try conv => whnf
  · rename_i g1 g2
    clear hk
    simp only [taskOf_agg, ↓Bool.not_eq_true', ↓Bool.not_eq_false', ↓decT, ↓decF, out_true, out_false, isin_true, isin_false, Int.toNat_natCast, Int.ofNat_lt, Nat.zero_add, Nat.add_zero, Nat.reduceAdd, Int.toNat_zero, Int.reduceToNat, ↓reduceIte, reduceCtorEq, Bool.or_eq_true, Bool.or_eq_false_iff, Bool.and_eq_true, Bool.and_eq_false_iff, Bool.and_true, Bool.and_false] at g1 g2
    symm
    rw [Bool.eq_false_iff, Ne, hc, sameFrom_step g1, all6]
    omega
  · rename_i g1 g2
    clear hk
    simp only [taskOf_agg, ↓Bool.not_eq_true', ↓Bool.not_eq_false', ↓decT, ↓decF, out_true, out_false, isin_true, isin_false, Int.toNat_natCast, Int.ofNat_lt, Nat.zero_add, Nat.add_zero, Nat.reduceAdd, Int.toNat_zero, Int.reduceToNat, ↓reduceIte, reduceCtorEq, Bool.or_eq_true, Bool.or_eq_false_iff, Bool.and_eq_true, Bool.and_eq_false_iff, Bool.and_true, Bool.and_false] at g1 g2
    refine ⟨i + 1, ?_⟩
    repeat' (first | ((with_reducible refine kok ?_); kernel_rfl) | ((with_reducible refine keq_mk ?_); kernel_rfl) | with_reducible rfl | ((conv => whnf); first | (with_reducible exact trivial) | ((with_reducible refine and_ff ?_ ?_); · exact rfl) | ((with_reducible refine and_tt ?_ ?_); · exact rfl) | (with_reducible refine And.intro ?_ ?_) | intro _ | (with_reducible refine fin2 hk ?_) | ((with_reducible refine eq_leaf ?_); exact rfl) | exact trivial))
    · exact g1
    · rw [hc, sameFrom_step g1, all6]
      exact ⟨fun h => h.2, fun h => ⟨by omega, h⟩⟩
    · simp only; omega
  · rename_i g1
    clear hk
    simp only [taskOf_agg, ↓Bool.not_eq_true', ↓Bool.not_eq_false', ↓decT, ↓decF, out_true, out_false, isin_true, isin_false, Int.toNat_natCast, Int.ofNat_lt, Nat.zero_add, Nat.add_zero, Nat.reduceAdd] at g1
    symm
    rw [hc]
    exact sameFrom_end (by omega)

/-- Numbers of a list of rows. -/
def tabI (l : List (List Int)) (i j : Nat) : Int := (l.getD i []).getD j 0
def exT : Task := ⟨3, 4, 2, fun i => [(⟨#[109, 97, 115, 116]⟩ : ByteArray), ⟨#[98, 108, 117, 101]⟩, ⟨#[98, 101, 97, 109]⟩].getD i ⟨#[]⟩,
  tabI [[1, 50, 0, 6000, 0, 300000], [2, 100, 600, 12000, 0, 30000000], [3, 80, 100, 3000, 50000, 2000000]],
  tabI [[0, 1000, 100000, 450, 0], [1, 1000, 100000, 600, -100], [1, 1600, 600000, 850, 100], [2, 2000, 300000, 760, 0]], tabI [[200000], [1000000]], 30, 20⟩
def rConst (d : V.D) : List V.D → Option (Prop × V.D) := fun ds => match ds with
  | [] => some (True, d)
  | _ => none
theorem example_ok : PSound Go.Proofs.Try.prog 56 (mk (rConst exT.D)) := by
  refine psound_mk Try.func56 (by kernel_rfl) rfl (ctx (.nil _)) ?_
  (intro ds p d h; unfold rConst at h; split at h <;> first | (cases h; done) | skip; cases h; refine ⟨Nat.le_of_ble_eq_true rfl, fun hp k hk => ?_⟩)
  refine ⟨[], ?_⟩
  repeat' (first | ((with_reducible refine kok ?_); kernel_rfl) | ((with_reducible refine keq_mk ?_); kernel_rfl) | with_reducible rfl | ((conv => whnf); first | (with_reducible exact trivial) | ((with_reducible refine and_ff ?_ ?_); · exact rfl) | ((with_reducible refine and_tt ?_ ?_); · exact rfl) | (with_reducible refine And.intro ?_ ?_) | intro _ | (with_reducible refine fin2 hk ?_) | ((with_reducible refine eq_leaf ?_); exact rfl) | exact trivial))
  · rename_i i j hi hj
    have hi' : i = 0 ∨ i = 1 ∨ i = 2 := by have : exT.ns = 3 := rfl; omega
    have hj' : j = 0 ∨ j = 1 ∨ j = 2 ∨ j = 3 ∨ j = 4 ∨ j = 5 ∨ j = 6 := by omega
    rcases hi' with rfl | rfl | rfl <;> rcases hj' with rfl | rfl | rfl | rfl | rfl | rfl | rfl <;> rfl
  · rename_i i j hi hj
    have hi' : i = 0 ∨ i = 1 ∨ i = 2 ∨ i = 3 := by have : exT.nx = 4 := rfl; omega
    have hj' : j = 0 ∨ j = 1 ∨ j = 2 ∨ j = 3 ∨ j = 4 := by omega
    rcases hi' with rfl | rfl | rfl | rfl <;> rcases hj' with rfl | rfl | rfl | rfl | rfl <;> rfl
  · rename_i i j hi hj
    have hi' : i = 0 ∨ i = 1 := by have : exT.nc = 2 := rfl; omega
    have hj' : j = 0 := by omega
    rcases hi' with rfl | rfl <;> obtain rfl := hj' <;> rfl
def winA : Nat → Nat → Int := tabI [[0, 200000, 600, 780, -150, 80], [200000, 1000000, 640, 740, -110, 240]]
theorem winds2_ok : PSound Go.Proofs.Try.prog 58 (mk (rConst (.rsl 6 2 (imD winA)))) := by
  refine psound_mk Try.func58 (by kernel_rfl) rfl (ctx (.nil _)) ?_
  (intro ds p d h; unfold rConst at h; split at h <;> first | (cases h; done) | skip; cases h; refine ⟨Nat.le_of_ble_eq_true rfl, fun hp k hk => ?_⟩)
  refine ⟨[], ?_⟩
  repeat' (first | ((with_reducible refine kok ?_); kernel_rfl) | ((with_reducible refine keq_mk ?_); kernel_rfl) | with_reducible rfl | ((conv => whnf); first | (with_reducible exact trivial) | ((with_reducible refine and_ff ?_ ?_); · exact rfl) | ((with_reducible refine and_tt ?_ ?_); · exact rfl) | (with_reducible refine And.intro ?_ ?_) | intro _ | (with_reducible refine fin2 hk ?_) | ((with_reducible refine eq_leaf ?_); exact rfl) | exact trivial))
  · rename_i i j hi hj
    have hi' : i = 0 ∨ i = 1 := by omega
    have hj' : j = 0 ∨ j = 1 ∨ j = 2 ∨ j = 3 ∨ j = 4 ∨ j = 5 := by omega
    rcases hi' with rfl | rfl <;> rcases hj' with rfl | rfl | rfl | rfl | rfl | rfl <;> rfl
end Go.Proofs.Ytbkehkiflfhpfaa
end
section
set_option linter.unusedVariables false
set_option linter.unusedSimpArgs false
set_option maxRecDepth 100000
set_option maxHeartbeats 4000000
namespace Go.Proofs.Ytbkehkiflfhpfaa
open Go.V
attribute [local irreducible] doubtS saysS leftS agreeS blameS answerS checkS begun nameS lowS answerN knownS
noncomputable def lib33 : Lib := (29, mk rSame) :: (56, mk (rConst exT.D)) :: (58, mk (rConst (.rsl 6 2 (imD winA)))) :: lib32
theorem lib33_ok : LibOK Go.Proofs.Try.prog lib33 := .cons same_ok (.cons example_ok (.cons winds2_ok lib32_ok))

def taskTop (e : Int) : V.D := .tup [.agg [.nilS, .nilS, .nilS, .int .i64 0, .int .i64 0], .int .i64 e]
def rNil (e : Int) : List V.D → Option (Prop × V.D) := fun ds => match ds with
  | [.nilS] => some (True, taskTop e)
  | _ => none
noncomputable def Lparse : Libs := ⟨lib33, [(114, inl (cxOf tab lib33) Go.Proofs.Try.f114)], [], [(113, inlD (cxOf tab lib33) Go.Proofs.Try.f113 (codeOf Go.Proofs.Try.f113))]⟩
theorem Lparse_ok : LibsOK Go.Proofs.Try.prog Lparse := ⟨lib33_ok,
  asGet_cons (csound_in Try.func114 (by kernel_rfl) rfl (ctx lib33_ok)) (fun g s h => by cases h), fun f r h => (by cases h),
  asGet_cons (dsound_of Try.func113 (by kernel_rfl) rfl rfl (ctx lib33_ok)) (fun g s h => by cases h)⟩
theorem parseNil_ok : PSound Go.Proofs.Try.prog 90 (mk (rNil 6)) := by
  refine psound_mk Try.func90 (by kernel_rfl) rfl (ctxA Lparse_ok) ?_
  (intro ds p d h; unfold rNil at h; split at h <;> first | (cases h; done) | skip; cases h; refine ⟨Nat.le_of_ble_eq_true rfl, fun hp k hk => ?_⟩)
  refine ⟨[.nilS], ?_⟩
  repeat' (first | ((with_reducible refine kok ?_); kernel_rfl) | ((with_reducible refine keq_mk ?_); kernel_rfl) | with_reducible rfl | ((conv => whnf); first | (with_reducible exact trivial) | ((with_reducible refine and_ff ?_ ?_); · exact rfl) | ((with_reducible refine and_tt ?_ ?_); · exact rfl) | (with_reducible refine And.intro ?_ ?_) | intro _ | (with_reducible refine fin2 hk ?_) | ((with_reducible refine eq_leaf ?_); exact rfl) | exact trivial))
noncomputable def lib34 : Lib := (90, mk (rNil 6)) :: lib33
theorem lib34_ok : LibOK Go.Proofs.Try.prog lib34 := .cons parseNil_ok lib33_ok
theorem readNil_ok : PSound Go.Proofs.Try.prog 45 (mk (rNil 6)) := by
  refine psound_mk Try.func45 (by kernel_rfl) rfl (ctx lib34_ok) ?_
  (intro ds p d h; unfold rNil at h; split at h <;> first | (cases h; done) | skip; cases h; refine ⟨Nat.le_of_ble_eq_true rfl, fun hp k hk => ?_⟩)
  refine ⟨[.nilS], ?_⟩
  repeat' (first | ((with_reducible refine kok ?_); kernel_rfl) | ((with_reducible refine keq_mk ?_); kernel_rfl) | with_reducible rfl | ((conv => whnf); first | (with_reducible exact trivial) | ((with_reducible refine and_ff ?_ ?_); · exact rfl) | ((with_reducible refine and_tt ?_ ?_); · exact rfl) | (with_reducible refine And.intro ?_ ?_) | intro _ | (with_reducible refine fin2 hk ?_) | ((with_reducible refine eq_leaf ?_); exact rfl) | exact trivial))
noncomputable def lib35 : Lib := (45, mk (rNil 6)) :: lib34
theorem lib35_ok : LibOK Go.Proofs.Try.prog lib35 := .cons readNil_ok lib34_ok
theorem ex_fits : exT.fits := fun i hi => by
  have hi' : i = 0 ∨ i = 1 ∨ i = 2 := by have : exT.ns = 3 := rfl; omega
  rcases hi' with rfl | rfl | rfl <;> exact Nat.le_of_ble_eq_true rfl
theorem ex_bands : bandsT exT 2200 2200 = (2, 0) := by decide +kernel
theorem ex_doubt : doubtT exT 2 0 1000 = (250, 0) := by decide +kernel
theorem ex_at : (atT exT 700000 2200 2200).2 = 9 := by decide +kernel
theorem ex_same : ∀ i, i < 2 → ∀ j, j < 6 → bandA exT 2200 2200 i j = winA i j := by decide +kernel
theorem ex_same2 : sameB 6 2 2 (bandA exT 2200 2200) winA = true := sameB_iff.mpr ⟨rfl, fun x _ hx j hj => ex_same x hx j hj⟩
theorem ex_n1 : nameS ⟨#[109, 97, 115, 116]⟩ = true := by decide +kernel
theorem ex_n2 : nameS ⟨#[77, 97, 115, 116]⟩ = false := by decide +kernel
attribute [local irreducible] exT bandsT doubtT atT bandA winA sameB
theorem awake_ok : PSound Go.Proofs.Try.prog 24 (mk (rConst .tt)) := by
  refine psound_mk Try.func24 (by kernel_rfl) rfl (ctx lib35_ok) ?_
  (intro ds p d h; unfold rConst at h; split at h <;> first | (cases h; done) | skip; cases h; refine ⟨Nat.le_of_ble_eq_true rfl, fun hp k hk => ?_⟩)
  refine ⟨[], ?_⟩
  repeat' (first | ((with_reducible refine kok ?_); kernel_rfl) | ((with_reducible refine keq_mk ?_); kernel_rfl) | with_reducible rfl | ((conv => whnf); first | (with_reducible exact trivial) | ((with_reducible refine and_ff ?_ ?_); · exact rfl) | ((with_reducible refine and_tt ?_ ?_); · exact rfl) | (with_reducible refine And.intro ?_ ?_) | intro _ | (with_reducible refine fin2 hk ?_) | ((with_reducible refine eq_leaf ?_); exact rfl) | exact trivial))
  all_goals try exact ex_fits _ (by assumption)
  all_goals try exact Nat.le_of_ble_eq_true rfl
  all_goals simp only [taskOf_agg, ↓Bool.not_eq_true', ↓Bool.not_eq_false', ↓decT, ↓decF, out_true, out_false, isin_true, isin_false, Int.toNat_natCast, Int.ofNat_lt, Nat.zero_add, Nat.add_zero, Nat.reduceAdd, Int.toNat_zero, Int.reduceToNat, ↓reduceIte, reduceCtorEq, Bool.or_eq_true, Bool.or_eq_false_iff, Bool.and_eq_true, Bool.and_eq_false_iff, ex_bands, ex_doubt, ex_at, ex_n1, ex_n2, im_imD, ex_same2, Bool.not_false] at *
  all_goals first | exact Nat.le_of_ble_eq_true rfl | omega | simp_all
end Go.Proofs.Ytbkehkiflfhpfaa
end
section
set_option linter.unusedVariables false
set_option linter.unusedSimpArgs false
set_option maxRecDepth 100000
set_option maxHeartbeats 4000000
namespace Go.Proofs.Ytbkehkiflfhpfaa
open Go.V
attribute [local irreducible] doubtS saysS leftS agreeS blameS answerS checkS begun nameS lowS answerN knownS exT bandsT doubtT atT bandA winA sameB saysT blameT knownT
noncomputable def lib36 : Lib := (24, mk (rConst .tt)) :: lib35
theorem lib36_ok : LibOK Go.Proofs.Try.prog lib36 := .cons awake_ok lib35_ok
theorem sameB_refl (s n : Nat) (a : Nat → Nat → Int) : sameB s n n a a = true := sameB_iff.mpr ⟨rfl, fun x _ _ j _ => rfl⟩

theorem blameFrom_length {t : Task} {low high a now : Int} : ∀ (k i : Nat) (l : List Int), (blameFrom t low high a now i l k).length ≤ l.length + k
  | 0, i, l => Nat.le_refl _
  | k + 1, i, l => by
    have h := blameFrom_length (t := t) (low := low) (high := high) (a := a) (now := now) k (i + 1) (blameStep t low high a now i l)
    have h2 : (blameStep t low high a now i l).length ≤ l.length + 1 := by
      unfold blameStep
      split
      · simp
      · omega
    show (blameFrom t low high a now (i + 1) (blameStep t low high a now i l) k).length ≤ _
    omega
theorem knownT_len (t : Task) (now : Int) : (knownT t now).1.length ≤ 60 := by
  unfold knownT
  split
  · exact Nat.zero_le _
  split
  · exact Nat.zero_le _
  rename_i h _
  have h1 := small_nx (t := t) (Classical.not_not.mp h)
  have h2 := knownUp_length t now t.nx
  show (knownUp t now t.nx).length ≤ 60
  omega
theorem blameT_len (t : Task) (b a now : Int) : (blameT t b a now).1.length ≤ 6 := by
  unfold blameT
  split
  · exact Nat.zero_le _
  split
  · exact Nat.zero_le _
  split
  · exact Nat.zero_le _
  rename_i h _ _
  have h1 := small_nx (t := t) (Classical.not_not.mp h)
  show (blameS t (lowS t b.toNat) (t.ca b.toNat 0 - 1) a now).length ≤ 6
  unfold blameS
  split
  · exact Nat.zero_le _
  · have := blameFrom_length (t := t) (low := lowS t b.toNat) (high := t.ca b.toNat 0 - 1) (a := a) (now := now) t.ns 0 []
    simp only [List.length_nil] at this
    omega
theorem bandsT_len (t : Task) (a now : Int) : (bandsT t a now).1 ≤ 20 := by
  unfold bandsT
  split
  · exact Nat.zero_le _
  split
  · exact Nat.zero_le _
  split
  · exact Nat.zero_le _
  rename_i h _ _
  have h1 := small_nx (t := t) (Classical.not_not.mp h)
  exact h1.2.2.2

def rLChecks : List V.D → Option (Prop × V.D) := fun ds => match ds with
  | [d, .str s] => some (TaskIs d ∧ (taskOf d).fits ∧ s.size ≤ 9223372036854775807, .tt)
  | _ => none
theorem lawChecks_ok : PSound Go.Proofs.Try.prog 3 (mk rLChecks) := by
  refine psound_mk Try.func3 (by kernel_rfl) rfl (ctx lib36_ok) ?_
  (intro ds p d h; unfold rLChecks at h; split at h <;> first | (cases h; done) | skip; cases h; refine ⟨Nat.le_of_ble_eq_true rfl, fun hp k hk => ?_⟩)
  rename_i d s
  obtain ⟨ht, hf, hs⟩ := hp
  refine ⟨[(taskOf d).D, .str s], task_imp ht ⟨rfl, ?_⟩⟩
  clear ht
  generalize taskOf d = t at *
  have B1 := knownT_len t
  have B2 := blameT_len t
  have B3 := bandsT_len t
  repeat' (first | ((with_reducible refine kok ?_); kernel_rfl) | ((with_reducible refine keq_mk ?_); kernel_rfl) | with_reducible rfl | ((conv => whnf); first | (with_reducible exact trivial) | ((with_reducible refine and_ff ?_ ?_); · exact rfl) | ((with_reducible refine and_tt ?_ ?_); · exact rfl) | (with_reducible refine And.intro ?_ ?_) | intro _ | (with_reducible refine fin2 hk ?_) | ((with_reducible refine eq_leaf ?_); exact rfl) | exact trivial))
  all_goals try exact hf _ (by assumption)
  all_goals clear hf hk
  all_goals try ((first | with_reducible refine (?_ : (_ : Int) ≤ _) | with_reducible refine (?_ : (_ : Int) < _) | with_reducible refine (?_ : (_ : Nat) ≤ _)); first | with_reducible exact hs | omega | (simp only [taskOf_agg, ↓Bool.not_eq_true', ↓Bool.not_eq_false', ↓decT, ↓decF, out_true, out_false, isin_true, isin_false, Int.toNat_natCast, Int.ofNat_lt, Nat.zero_add, Nat.add_zero, Nat.reduceAdd]; first | with_reducible exact Nat.le_trans (B1 _) (Nat.le_of_ble_eq_true rfl) | with_reducible exact Nat.le_trans (B2 _ _ _) (Nat.le_of_ble_eq_true rfl) | with_reducible exact Nat.le_trans (B3 _ _) (Nat.le_of_ble_eq_true rfl)))
  all_goals clear B1 B2 B3 hs
  all_goals simp only [taskOf_agg, ↓Bool.not_eq_true', ↓Bool.not_eq_false', ↓decT, ↓decF, out_true, out_false, isin_true, isin_false, Int.toNat_natCast, Int.ofNat_lt, Nat.zero_add, Nat.add_zero, Nat.reduceAdd, Int.toNat_zero, Int.reduceToNat, ↓reduceIte, reduceCtorEq, Bool.or_eq_true, Bool.or_eq_false_iff, Bool.and_eq_true, Bool.and_eq_false_iff, im_imD, sameB_refl, beq_self_eq_true, not_true_eq_false, and_true, false_or, or_false, or_self] at *

def rLKnows : List V.D → Option (Prop × V.D) := fun ds => match ds with
  | [d, .agg [.int .i64 x0, .int .i64 x1, .int .i64 x2, .int .i64 x3]] => some (TaskIs d ∧ (taskOf d).fits ∧ True, .tt)
  | _ => none
theorem lawKnows_ok : PSound Go.Proofs.Try.prog 5 (mk rLKnows) := by
  refine psound_mk Try.func5 (by kernel_rfl) rfl (ctx lib36_ok) ?_
  (intro ds p d h; unfold rLKnows at h; split at h <;> first | (cases h; done) | skip; cases h; refine ⟨Nat.le_of_ble_eq_true rfl, fun hp k hk => ?_⟩)
  rename_i d x0 x1 x2 x3
  obtain ⟨ht, hf, hs⟩ := hp
  refine ⟨[(taskOf d).D, .agg [.int .i64 x0, .int .i64 x1, .int .i64 x2, .int .i64 x3]], task_imp ht ⟨rfl, rfl, rfl, rfl, ?_⟩⟩
  clear ht
  generalize taskOf d = t at *
  have B1 := knownT_len t
  have B2 := blameT_len t
  have B3 := bandsT_len t
  repeat' (first | ((with_reducible refine kok ?_); kernel_rfl) | ((with_reducible refine keq_mk ?_); kernel_rfl) | with_reducible rfl | ((conv => whnf); first | (with_reducible exact trivial) | ((with_reducible refine and_ff ?_ ?_); · exact rfl) | ((with_reducible refine and_tt ?_ ?_); · exact rfl) | (with_reducible refine And.intro ?_ ?_) | intro _ | (with_reducible refine fin2 hk ?_) | ((with_reducible refine eq_leaf ?_); exact rfl) | exact trivial))
  all_goals try exact hf _ (by assumption)
  all_goals clear hf hk
  all_goals try ((first | with_reducible refine (?_ : (_ : Int) ≤ _) | with_reducible refine (?_ : (_ : Int) < _) | with_reducible refine (?_ : (_ : Nat) ≤ _)); first | with_reducible exact hs | omega | (simp only [taskOf_agg, ↓Bool.not_eq_true', ↓Bool.not_eq_false', ↓decT, ↓decF, out_true, out_false, isin_true, isin_false, Int.toNat_natCast, Int.ofNat_lt, Nat.zero_add, Nat.add_zero, Nat.reduceAdd]; first | with_reducible exact Nat.le_trans (B1 _) (Nat.le_of_ble_eq_true rfl) | with_reducible exact Nat.le_trans (B2 _ _ _) (Nat.le_of_ble_eq_true rfl) | with_reducible exact Nat.le_trans (B3 _ _) (Nat.le_of_ble_eq_true rfl)))
  all_goals clear B1 B2 B3 hs
  all_goals simp only [taskOf_agg, ↓Bool.not_eq_true', ↓Bool.not_eq_false', ↓decT, ↓decF, out_true, out_false, isin_true, isin_false, Int.toNat_natCast, Int.ofNat_lt, Nat.zero_add, Nat.add_zero, Nat.reduceAdd, Int.toNat_zero, Int.reduceToNat, ↓reduceIte, reduceCtorEq, Bool.or_eq_true, Bool.or_eq_false_iff, Bool.and_eq_true, Bool.and_eq_false_iff, im_imD, sameB_refl, beq_self_eq_true, not_true_eq_false, and_true, false_or, or_false, or_self] at *

def rLBlames : List V.D → Option (Prop × V.D) := fun ds => match ds with
  | [d, .agg [.int .i64 x0, .int .i64 x1, .int .i64 x2]] => some (TaskIs d ∧ (taskOf d).fits ∧ True, .tt)
  | _ => none
theorem lawBlames_ok : PSound Go.Proofs.Try.prog 6 (mk rLBlames) := by
  refine psound_mk Try.func6 (by kernel_rfl) rfl (ctx lib36_ok) ?_
  (intro ds p d h; unfold rLBlames at h; split at h <;> first | (cases h; done) | skip; cases h; refine ⟨Nat.le_of_ble_eq_true rfl, fun hp k hk => ?_⟩)
  rename_i d x0 x1 x2
  obtain ⟨ht, hf, hs⟩ := hp
  refine ⟨[(taskOf d).D, .agg [.int .i64 x0, .int .i64 x1, .int .i64 x2]], task_imp ht ⟨rfl, rfl, rfl, ?_⟩⟩
  clear ht
  generalize taskOf d = t at *
  have B1 := knownT_len t
  have B2 := blameT_len t
  have B3 := bandsT_len t
  repeat' (first | ((with_reducible refine kok ?_); kernel_rfl) | ((with_reducible refine keq_mk ?_); kernel_rfl) | with_reducible rfl | ((conv => whnf); first | (with_reducible exact trivial) | ((with_reducible refine and_ff ?_ ?_); · exact rfl) | ((with_reducible refine and_tt ?_ ?_); · exact rfl) | (with_reducible refine And.intro ?_ ?_) | intro _ | (with_reducible refine fin2 hk ?_) | ((with_reducible refine eq_leaf ?_); exact rfl) | exact trivial))
  all_goals try exact hf _ (by assumption)
  all_goals clear hf hk
  all_goals try ((first | with_reducible refine (?_ : (_ : Int) ≤ _) | with_reducible refine (?_ : (_ : Int) < _) | with_reducible refine (?_ : (_ : Nat) ≤ _)); first | with_reducible exact hs | omega | (simp only [taskOf_agg, ↓Bool.not_eq_true', ↓Bool.not_eq_false', ↓decT, ↓decF, out_true, out_false, isin_true, isin_false, Int.toNat_natCast, Int.ofNat_lt, Nat.zero_add, Nat.add_zero, Nat.reduceAdd]; first | with_reducible exact Nat.le_trans (B1 _) (Nat.le_of_ble_eq_true rfl) | with_reducible exact Nat.le_trans (B2 _ _ _) (Nat.le_of_ble_eq_true rfl) | with_reducible exact Nat.le_trans (B3 _ _) (Nat.le_of_ble_eq_true rfl)))
  all_goals clear B1 B2 B3 hs
  all_goals simp only [taskOf_agg, ↓Bool.not_eq_true', ↓Bool.not_eq_false', ↓decT, ↓decF, out_true, out_false, isin_true, isin_false, Int.toNat_natCast, Int.ofNat_lt, Nat.zero_add, Nat.add_zero, Nat.reduceAdd, Int.toNat_zero, Int.reduceToNat, ↓reduceIte, reduceCtorEq, Bool.or_eq_true, Bool.or_eq_false_iff, Bool.and_eq_true, Bool.and_eq_false_iff, im_imD, sameB_refl, beq_self_eq_true, not_true_eq_false, and_true, false_or, or_false, or_self] at *
end Go.Proofs.Ytbkehkiflfhpfaa
end
section
set_option linter.unusedVariables false
set_option linter.unusedSimpArgs false
set_option maxRecDepth 100000
namespace Go.Proofs.Ytbkehkiflfhpfaa
open Go.V

theorem own : ownKnob Go.Proofs.Try.prog.godebug = none := by kernel_rfl
theorem laid_ok : laidOutB Go.Proofs.Try.prog = true := by kernel_rfl
theorem tbool : Go.Proofs.Try.prog.underlying 4 = some .bool := by kernel_rfl
def taskK : AK := .agg [.sl [.str, .int .i64, .int .i64, .int .i64, .int .i64, .int .i64, .int .i64], .sl [.int .i64, .int .i64, .int .i64, .int .i64, .int .i64], .sl [.int .i64], .int .i64, .int .i64]
/-- What is read of a task is one. -/
theorem task_of_kinds {d : V.D} (h : IsA taskK d) : TaskIs d ∧ (taskOf d).fits := by
  obtain ⟨ds, rfl, hl, h⟩ := h
  match ds, hl with
  | [d0, d1, d2, d3, d4], _ =>
    obtain ⟨n0, g0, rfl, hn0, hg0⟩ := h 0 _ _ rfl rfl
    obtain ⟨n1, g1, rfl, hn1, hg1⟩ := h 1 _ _ rfl rfl
    obtain ⟨n2, g2, rfl, hn2, hg2⟩ := h 2 _ _ rfl rfl
    obtain ⟨n3, rfl, _⟩ := h 3 _ _ rfl rfl
    obtain ⟨n4, rfl, _⟩ := h 4 _ _ rfl rfl
    obtain ⟨s1, s2⟩ := SM_of hg0 rfl
    exact ⟨⟨s1, IM_of hg1 rfl, IM_of hg2 rfl⟩, s2⟩
theorem isAL1 {a : AK} {ds : List V.D} (h : IsAL [a] ds) : ∃ d, ds = [d] ∧ IsA a d := by
  match ds, h with
  | [d], h => exact ⟨d, rfl, h.1⟩
theorem isAL2 {a b : AK} {ds : List V.D} (h : IsAL [a, b] ds) : ∃ d e, ds = [d, e] ∧ IsA a d ∧ IsA b e := by
  match ds, h with
  | [d, e], h => exact ⟨d, e, rfl, h.1, h.2.1⟩
theorem isAL3 {a b c : AK} {ds : List V.D} (h : IsAL [a, b, c] ds) : ∃ d e f, ds = [d, e, f] ∧ IsA a d ∧ IsA b e ∧ IsA c f := by
  match ds, h with
  | [d, e, f], h => exact ⟨d, e, f, rfl, h.1, h.2.1, h.2.2.1⟩
def bandsK : CK := .sl [.int .i64, .int .i64, .int .i64, .int .i64, .int .i64, .int .i64]
theorem bands_of_kinds {f : Nat} {d : V.D} (h : Is (f + 2) bandsK d) : ∃ n g, d = .rsl 6 n g ∧ IM n 6 g := by
  obtain ⟨n, g, rfl, _, hg⟩ := h
  exact ⟨n, g, rfl, IM_of hg rfl⟩
theorem int_of_kinds {f : Nat} {k : IntKind} {d : V.D} (h : Is (f + 1) (.int k) d) : ∃ n, d = .int k n ∧ k.min ≤ n ∧ n ≤ k.max := h
end Go.Proofs.Ytbkehkiflfhpfaa
end
