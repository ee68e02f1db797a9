/-
  Contracts of the wind: what the sources leave, which are to blame, the answer (the reference).
-/
import Derived.Test.YtbkehkiflfhpfaaWf
set_option linter.unusedVariables false
set_option linter.unusedSimpArgs false
set_option maxRecDepth 100000
set_option maxHeartbeats 4000000
namespace Go.Proofs.Ytbkehkiflfhpfaa
open Go.V

theorem refLeft_ok : PSound Go.Proofs.Try.prog 101 (mk rLeft) := by
  refine psound_mk Try.func101 (by kernel_rfl) rfl (ctx lib7_ok) ?_
  (intro ds p d h; unfold rLeft at h; split at h <;> first | (cases h; done) | skip; cases h; refine ⟨Nat.le_of_ble_eq_true rfl, fun hp k hk => ?_⟩)
  rename_i d s low high a now
  obtain ⟨ht, hok, hl, hh, ha, hnow⟩ := hp
  refine ⟨[(taskOf d).D, .int .i64 s, .int .i64 low, .int .i64 high, .int .i64 a, .int .i64 now], task_imp ht ⟨rfl, rfl, rfl, rfl, rfl, ?_⟩⟩
  clear ht
  generalize taskOf d = t at *
  repeat' (first | with_reducible rfl | ((conv => whnf); first | exact trivial | refine And.intro ?_ ?_ | intro _ | (with_reducible refine (?_ : _ = true); (conv => lhs; whnf); done) | exact rfl))
  refine ⟨Nat × Left, fun g => [(1, .int .i64 s), (2, .int .i64 low), (3, .int .i64 high), (4, .int .i64 a), (5, .int .i64 now), (6, .ptr 0 0), (12, .ptr 1 0), (13, .ptr 2 0), (15, .ptr 3 0), (16, .ptr 4 0), (17, .int .i64 g.1)],
    fun g => [some (.row [.rsl 7 t.ns (smD t.nm t.sa), .rsl 5 t.nx (imD t.xa), .rsl 1 t.nc (imD t.ca), .int .i64 t.age, .int .i64 t.shear]), some (.row [.top, .top]), some (.row [.top, .top]), some (.row [.int .i64 g.2.xl, .int .i64 g.2.xh]), some (.row [.int .i64 g.2.yl, .int .i64 g.2.yh])],
    fun g => t.ns - g.1, fun g => g.1 ≤ t.ns ∧ leftS t s low high a now = leftFrom t s low high a now g.1 g.2 (t.ns - g.1), [], (0, left0), fun _ => ⟨rfl, rfl⟩, ?_, fun g hI => ?_⟩
  · repeat' (first | with_reducible rfl | ((conv => whnf); first | exact trivial | refine And.intro ?_ ?_ | intro _ | (with_reducible refine (?_ : _ = true); (conv => lhs; whnf); done) | exact rfl))
    all_goals simp_all [leftS, left0]
  · obtain ⟨i, l⟩ := g
    obtain ⟨hi, hc⟩ := hI
    simp only at hi hc
    have hns := hok.ns
    have key : i < t.ns → leftS t s low high a now = leftFrom t s low high a now (i + 1) (leftStep t s low high a now i l) (t.ns - (i + 1)) := fun h => by rw [hc, leftFrom_step h]
    have key2 : t.ns ≤ i → leftS t s low high a now = l := fun h => by rw [hc, show t.ns - i = 0 by omega]; rfl
    clear hc
    repeat' (first | with_reducible rfl | ((conv => whnf); first | exact trivial | refine And.intro ?_ ?_ | intro _ | (with_reducible refine (?_ : _ = true); (conv => lhs; whnf); done) | exact rfl))
    all_goals try refine fin_of hk ?_
    all_goals try refine ⟨(i + 1, leftStep t s low high a now i l), ?_⟩
    all_goals clear hk
    repeat' (first | with_reducible rfl | ((conv => whnf); first | exact trivial | refine And.intro ?_ ?_ | intro _ | (with_reducible refine (?_ : _ = true); (conv => lhs; whnf); done) | exact rfl))
    all_goals try exact hok
    all_goals clear hok
    all_goals try simp only [taskOf_agg, Int.toNat_natCast, Nat.zero_add, Nat.add_zero, Nat.reduceAdd, decide_eq_true_eq, decide_eq_false_iff_not, Bool.not_eq_true', Bool.not_eq_false', Int.ofNat_lt] at *
    all_goals try omega
    all_goals first
      | exact key (by assumption)
      | (rw [key2 (by omega)]; done)
      | (rw [key2 (by omega)]; simp_all [Left.agree]; done)
      | (rw [key2 (by omega)]; simp_all [Left.agree]; omega)
      | (clear key key2; simp [leftStep, *]; done)
end Go.Proofs.Ytbkehkiflfhpfaa
