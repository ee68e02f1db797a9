/-
  Contracts of the wind: Doubt and At (both).
-/
import Derived.Test.YtbkehkiflfhpfaaWt
set_option linter.unusedVariables false
set_option linter.unusedSimpArgs false
set_option maxRecDepth 100000
set_option maxHeartbeats 4000000
namespace Go.Proofs.Ytbkehkiflfhpfaa
open Go.V

def lib27 : Lib := (68, mk rViewAnswer) :: lib26
theorem lib27_ok : LibOK Go.Proofs.Try.prog lib27 := .cons viewAnswer_ok lib26_ok
def checkE (t : Task) : Int := (checkS t).2.2
theorem checkE_ok {t : Task} (h : checkE t = 0) : t.ok := check_ok h
def tickB (n : Int) : Bool := isin n 0 100000
def heightB (n : Int) : Bool := isin n 0 99999999

def doubtT (t : Task) (i h tick : Int) : Int × Int :=
  if checkE t ≠ 0 then (0, checkE t) else if isin i 0 (t.nx - 1) = false then (0, 4) else if (heightB h && tickB tick) = false then (0, 7) else (doubtS t i.toNat h tick, 0)
def rDoubtT : List V.D → Option (Prop × V.D) := fun ds => match ds with
  | [d, .int .i64 i, .int .i64 h, .int .i64 tick] => some (TaskIs d ∧ (taskOf d).fits, .tup [.int .i64 (doubtT (taskOf d) i h tick).1, .int .i64 (doubtT (taskOf d) i h tick).2])
  | _ => none
theorem doubtT_e {t : Task} {i h tick : Int} (h1 : checkE t ≠ 0) : doubtT t i h tick = (0, checkE t) := if_pos h1
theorem doubtT_4 {t : Task} {i h tick : Int} (h1 : checkE t = 0) (h2 : isin i 0 (t.nx - 1) = false) : doubtT t i h tick = (0, 4) := (if_neg (fun g => g h1)).trans (if_pos h2)
theorem doubtT_7 {t : Task} {i h tick : Int} (h1 : checkE t = 0) (h2 : isin i 0 (t.nx - 1) = true) (h3 : (heightB h && tickB tick) = false) : doubtT t i h tick = (0, 7) :=
  (if_neg (fun g => g h1)).trans ((if_neg (by rw [h2]; exact Bool.noConfusion)).trans (if_pos h3))
theorem doubtT_0 {t : Task} {i h tick : Int} (h1 : checkE t = 0) (h2 : isin i 0 (t.nx - 1) = true) (h3 : (heightB h && tickB tick) = true) : doubtT t i h tick = (doubtS t i.toNat h tick, 0) :=
  (if_neg (fun g => g h1)).trans ((if_neg (by rw [h2]; exact Bool.noConfusion)).trans (if_neg (by rw [h3]; exact Bool.noConfusion)))

theorem and_ff {b : Bool} {A B : Prop} (e : b = false) (h : B) : (b = true → A) ∧ (b = false → B) := ⟨fun h1 => (by rw [e] at h1; cases h1), fun _ => h⟩
theorem and_tt {b : Bool} {A B : Prop} (e : b = true) (h : A) : (b = true → A) ∧ (b = false → B) := ⟨fun _ => h, fun h1 => (by rw [e] at h1; cases h1)⟩
theorem fin2 {d d0 : V.D} {k : V.D → Prop} (h : k d0) (hi : impA noGh d d0 True) : ∃ d1, k d1 ∧ Imp d d1 := fin_of h hi
theorem eq_leaf {α : Type} {a b : α} (h : a = b) : a = b := h
theorem decT {p : Prop} {i : Decidable p} : (@decide p i = true) = p := by cases i <;> simp_all
theorem decF {p : Prop} {i : Decidable p} : (@decide p i = false) = ¬ p := by cases i <;> simp_all
theorem out_true (n a b : Int) : (out n a b = true) = (n < a ∨ b < n) := by simp [out]
theorem out_false (n a b : Int) : (out n a b = false) = (a ≤ n ∧ n ≤ b) := by simp [out]
theorem isin_true (n a b : Int) : (isin n a b = true) = (a ≤ n ∧ n ≤ b) := by simp [isin]
theorem isin_false (n a b : Int) : (isin n a b = false) = (n < a ∨ b < n) := by simp [isin]; omega
theorem ok_at {t : Task} (h : (checkS t).2.2 = 0) {i : Int} (h0 : 0 ≤ i) (h1 : i < t.nx) : (0 ≤ t.xa i.toNat 0 ∧ t.xa i.toNat 0 < t.ns) ∧ (0 ≤ t.xa i.toNat 1 ∧ t.xa i.toNat 1 ≤ 100000) ∧ (0 ≤ t.xa i.toNat 2 ∧ t.xa i.toNat 2 < 100000000) ∧
    (0 ≤ t.sa (t.xa i.toNat 0).toNat 1 ∧ t.sa (t.xa i.toNat 0).toNat 1 ≤ 5000) ∧ (0 ≤ t.age ∧ t.age ≤ 1000) ∧ (0 ≤ t.shear ∧ t.shear ≤ 1000) := by
  have hok := check_ok h
  have hi : i.toNat < t.nx := by omega
  have hs := hok.src _ hi
  exact ⟨hs, hok.tick _ hi, hok.height _ hi, hok.err _ (by omega), hok.age, hok.shear⟩
theorem small_nx {t : Task} (h : (checkS t).2.2 = 0) : t.nx ≤ 60 ∧ t.ns ≤ 6 ∧ 1 ≤ t.nc ∧ t.nc ≤ 20 := by
  have hok := check_ok h
  exact ⟨hok.nx, hok.ns, hok.nc.1, hok.nc.2⟩
theorem windDoubt_ok : PSound Go.Proofs.Try.prog 33 (mk rDoubtT) := by
  refine psound_mk Try.func33 (by kernel_rfl) rfl (ctx lib27_ok) ?_
  (intro ds p d h; unfold rDoubtT at h; split at h <;> first | (cases h; done) | skip; cases h; refine ⟨Nat.le_of_ble_eq_true rfl, fun hp k hk => ?_⟩)
  rename_i d i h tick
  obtain ⟨ht, hf⟩ := hp
  refine ⟨[(taskOf d).D, .int .i64 i, .int .i64 h, .int .i64 tick], task_imp ht ⟨rfl, rfl, rfl, ?_⟩⟩
  clear ht
  generalize taskOf d = t at *
  generalize hS : doubtT t i h tick = c at *
  repeat' (first | with_reducible rfl | ((conv => whnf); first | exact trivial | refine And.intro ?_ ?_ | intro _ | (with_reducible refine (?_ : _ = true); (conv => lhs; whnf); done) | exact rfl))
  all_goals try exact hf _ (by assumption)
  all_goals clear hf
  all_goals try ((first | with_reducible refine (?_ : (_ : Int) ≤ _) | with_reducible refine (?_ : (_ : Int) < _)); clear hS hk; simp only [taskOf_agg, ↓Bool.not_eq_true', ↓Bool.not_eq_false', ↓decT, ↓decF, out_true, out_false, isin_true, isin_false, Int.toNat_natCast, Int.ofNat_lt, Nat.zero_add, Nat.add_zero, Nat.reduceAdd] at *; have F1 := small_nx (t := t) (by assumption); first | omega | (have F2 := ok_at (t := t) (i := i) (by assumption) (by omega) (by omega); omega))
  all_goals refine fin_of hk ?_
  all_goals clear hk
  repeat' (first | with_reducible rfl | ((conv => whnf); first | exact trivial | refine And.intro ?_ ?_ | intro _ | (with_reducible refine (?_ : _ = true); (conv => lhs; whnf); done) | exact rfl))
  all_goals subst hS
  all_goals try simp only [taskOf_agg, ↓Bool.not_eq_true', ↓Bool.not_eq_false', ↓decT, ↓decF, out_true, out_false, isin_true, isin_false, Int.toNat_natCast, Int.ofNat_lt, Nat.zero_add, Nat.add_zero, Nat.reduceAdd] at *
  all_goals try simp only [doubtT, checkE, heightB, tickB, taskOf_agg, ↓Bool.not_eq_true', ↓Bool.not_eq_false', ↓decT, ↓decF, out_true, out_false, isin_true, isin_false, Int.toNat_natCast, Int.ofNat_lt, Nat.zero_add, Nat.add_zero, Nat.reduceAdd, Bool.and_eq_false_iff]
  all_goals repeat' split
  all_goals first | rfl | omega
theorem refDoubt_ok : PSound Go.Proofs.Try.prog 34 (mk rDoubtT) := by
  refine psound_mk Try.func34 (by kernel_rfl) rfl (ctx lib27_ok) ?_
  (intro ds p d h; unfold rDoubtT at h; split at h <;> first | (cases h; done) | skip; cases h; refine ⟨Nat.le_of_ble_eq_true rfl, fun hp k hk => ?_⟩)
  rename_i d i h tick
  obtain ⟨ht, hf⟩ := hp
  refine ⟨[(taskOf d).D, .int .i64 i, .int .i64 h, .int .i64 tick], task_imp ht ⟨rfl, rfl, rfl, ?_⟩⟩
  clear ht
  generalize taskOf d = t at *
  generalize hS : doubtT t i h tick = c at *
  repeat' (first | with_reducible rfl | ((conv => whnf); first | exact trivial | refine And.intro ?_ ?_ | intro _ | (with_reducible refine (?_ : _ = true); (conv => lhs; whnf); done) | exact rfl))
  all_goals try exact hf _ (by assumption)
  all_goals clear hf
  all_goals try ((first | with_reducible refine (?_ : (_ : Int) ≤ _) | with_reducible refine (?_ : (_ : Int) < _)); clear hS hk; simp only [taskOf_agg, ↓Bool.not_eq_true', ↓Bool.not_eq_false', ↓decT, ↓decF, out_true, out_false, isin_true, isin_false, Int.toNat_natCast, Int.ofNat_lt, Nat.zero_add, Nat.add_zero, Nat.reduceAdd] at *; have F1 := small_nx (t := t) (by assumption); first | omega | (have F2 := ok_at (t := t) (i := i) (by assumption) (by omega) (by omega); omega))
  all_goals refine fin_of hk ?_
  all_goals clear hk
  repeat' (first | with_reducible rfl | ((conv => whnf); first | exact trivial | refine And.intro ?_ ?_ | intro _ | (with_reducible refine (?_ : _ = true); (conv => lhs; whnf); done) | exact rfl))
  all_goals subst hS
  all_goals try simp only [taskOf_agg, ↓Bool.not_eq_true', ↓Bool.not_eq_false', ↓decT, ↓decF, out_true, out_false, isin_true, isin_false, Int.toNat_natCast, Int.ofNat_lt, Nat.zero_add, Nat.add_zero, Nat.reduceAdd] at *
  all_goals try simp only [doubtT, checkE, heightB, tickB, taskOf_agg, ↓Bool.not_eq_true', ↓Bool.not_eq_false', ↓decT, ↓decF, out_true, out_false, isin_true, isin_false, Int.toNat_natCast, Int.ofNat_lt, Nat.zero_add, Nat.add_zero, Nat.reduceAdd, Bool.and_eq_false_iff]
  all_goals repeat' split
  all_goals first | rfl | omega
end Go.Proofs.Ytbkehkiflfhpfaa
