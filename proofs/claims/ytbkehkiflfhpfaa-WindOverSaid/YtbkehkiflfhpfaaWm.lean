/-
  Contracts of the wind: whether bands are some.
-/
import Derived.Test.YtbkehkiflfhpfaaWl
set_option linter.unusedVariables false
set_option linter.unusedSimpArgs false
set_option maxRecDepth 100000
set_option maxHeartbeats 4000000
namespace Go.Proofs.Ytbkehkiflfhpfaa
open Go.V

def lib16 : Lib := (60, mk rWindSource) :: (95, mk rWindBand) :: lib15
theorem lib16_ok : LibOK Go.Proofs.Try.prog lib16 := .cons windSource_ok (.cons windBand_ok lib15_ok)
theorem bandE_zero {b0 b1 b2 b3 b4 b5 f : Int} (h : bandE b0 b1 b2 b3 b4 b5 f = 0) : f < b1 ∧ b1 ≤ 100000000 := by
  unfold bandE at h
  split at h
  · cases h
  split at h
  · cases h
  split at h
  · cases h
  omega
theorem windCheckBands_ok : PSound Go.Proofs.Try.prog 50 (mk rCheckBands) := by
  refine psound_mk Try.func50 (by kernel_rfl) rfl (ctx lib16_ok) ?_
  (intro ds p d h; unfold rCheckBands at h; split at h <;> first | (cases h; done) | skip; cases h; refine ⟨Nat.le_of_ble_eq_true rfl, fun hp k hk => ?_⟩)
  rename_i n g
  refine ⟨[.rsl 6 n (imD (im g))], rfl, hp, ?_⟩
  clear hp
  generalize im g = a at *
  generalize hS : checkBands n a = c at *
  have hS' : c = if isin n 1 20 = true then fe (bandErr a) 0 n else (0, 3) := hS.symm
  clear hS
  repeat' (first | with_reducible rfl | ((conv => whnf); first | exact trivial | refine And.intro ?_ ?_ | intro _ | (with_reducible refine (?_ : _ = true); (conv => lhs; whnf); done) | exact rfl))
  · rename_i g1
    rw [out_isin] at g1
    rw [if_neg (by rw [(Bool.not_eq_true' _).mp g1]; exact Bool.noConfusion)] at hS'
    subst hS'
    (refine fin_of hk ?_; clear hk; (conv => whnf); repeat' (first | exact trivial | refine And.intro ?_ ?_ | exact rfl))
  rename_i g1
  rw [out_isin] at g1
  have g2 := (Bool.not_eq_false' _).mp g1
  rw [if_pos g2] at hS'
  have hn : n ≤ 20 := by simp [isin] at g2; omega
  clear g1 g2
  refine ⟨Nat, fun i => [(0, .rsl 6 n (imD a)), (4, .int .i64 (fromOf a i)), (10, .rsl 6 n (imD a)), (11, .int .i64 n), (12, .int .i64 i)], fun _ => [], fun i => n - i, fun i => i ≤ n ∧ c = fe (bandErr a) i (n - i) ∧ 0 ≤ fromOf a i ∧ fromOf a i ≤ 100000000, [], 0, fun _ => ⟨rfl, rfl⟩, ?_, fun i hI => ?_⟩
  · repeat' (first | with_reducible rfl | ((conv => whnf); first | exact trivial | refine And.intro ?_ ?_ | intro _ | (with_reducible refine (?_ : _ = true); (conv => lhs; whnf); done) | exact rfl))
    · omega
    · exact hS'
    · exact Int.le_refl 0
    · exact Int.zero_le_ofNat 100000000
  obtain ⟨hi, hc, hf⟩ := hI
  clear hS'
  have f1 : decide ((i : Int) < n) = true → i < n := fun h => Int.ofNat_lt.mp (of_decide_eq_true h)
  repeat' (first | with_reducible rfl | ((conv => whnf); first | exact trivial | refine And.intro ?_ ?_ | intro _ | (with_reducible refine (?_ : _ = true); (conv => lhs; whnf); done) | exact rfl))
  · omega
  · exact of_decide_eq_true (by assumption)
  · exact hf.1
  · exact hf.2
  · rename_i g1 g2
    have e1 : bandErr a i ≠ 0 := of_decide_eq_false ((Bool.not_eq_true' _).mp g2)
    rw [fe_step _ _ _ (f1 g1), if_pos e1] at hc
    subst hc
    (refine fin_of hk ?_; clear hk; (conv => whnf); repeat' (first | exact trivial | refine And.intro ?_ ?_ | exact rfl))
  · omega
  · omega
  · rename_i g1 g2
    have e1 : bandErr a i = 0 := of_decide_eq_true ((Bool.not_eq_false' _).mp g2)
    have e0 := f1 g1
    rw [fe_step _ _ _ e0, if_neg (fun h => h e1)] at hc
    have e2 := bandE_zero (show bandE (a i 0) (a i 1) (a i 2) (a i 3) (a i 4) (a i 5) (fromOf a i) = 0 from e1)
    have e3 : fromOf a (i + 1) = a i 1 := by rw [fromOf, if_neg (by omega)]; rfl
    clear hk
    refine ⟨i + 1, ?_⟩
    repeat' (first | with_reducible rfl | ((conv => whnf); first | exact trivial | refine And.intro ?_ ?_ | intro _ | (with_reducible refine (?_ : _ = true); (conv => lhs; whnf); done) | exact rfl))
    · omega
    · exact hc
    · omega
    · omega
    · simp only; omega
  · rename_i g1
    rw [show n - i = 0 by have := of_decide_eq_false g1; omega] at hc
    subst hc
    (refine fin_of hk ?_; clear hk; (conv => whnf); repeat' (first | exact trivial | refine And.intro ?_ ?_ | exact rfl))
end Go.Proofs.Ytbkehkiflfhpfaa
