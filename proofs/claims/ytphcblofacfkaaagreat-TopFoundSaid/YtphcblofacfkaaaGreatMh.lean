/-
  Contracts of the wind: whether bands are some.
-/
import Derived.Test.YtphcblofacfkaaaGreatMg
set_option linter.unusedVariables false
set_option linter.unusedSimpArgs false
set_option maxRecDepth 100000
set_option maxHeartbeats 4000000
section
namespace Go.Proofs.YtphcblofacfkaaaGreat
open Go.V
def lib16 : Lib := (51, mk rWindBand) :: lib15
theorem lib16_ok : LibOK Go.Proofs.Tryz.prog lib16 := .cons windBand_ok lib15_ok
theorem bandE_zero {b0 b1 b2 b3 b4 b5 f : Int} (h : bandE b0 b1 b2 b3 b4 b5 f = 0) : f < b1 ∧ b1 ≤ 100000000 := by
  unfold bandE at h
  split at h
  · cases h
  split at h
  · cases h
  split at h
  · cases h
  omega
theorem windCheckBands_ok : PSound Go.Proofs.Tryz.prog 27 (mk rCheckBands) := by
  refine psound_mk Tryz.func27 (by kernel_rfl) rfl (ctx lib16_ok) ?_
  (intro ds p d h; unfold rCheckBands at h; split at h <;> first | (cases h; done) | skip; cases h; refine ⟨Nat.le_of_ble_eq_true rfl, fun hp k hk => ?_⟩)
  rename_i n g
  refine ⟨[.rsl 6 n (imD (im g))], rfl, hp, ?_⟩
  clear hp
  generalize im g = a at *
  generalize hS : checkBands n a = c at *
  have hS' : c = if isin n 1 20 = true then fe (bandErr a) 0 n else (0, 3) := hS.symm
  clear hS
  repeat' (first | ((with_reducible refine kok ?_); kernel_rfl) | ((with_reducible refine keq_mk ?_); kernel_rfl) | with_reducible rfl | ((conv => whnf); first | exact trivial | refine And.intro ?_ ?_ | intro _ | (with_reducible refine (?_ : _ = true); (conv => lhs; whnf); done) | exact rfl))
  · rename_i g1
    rw [out_isin] at g1
    rw [if_neg (by rw [(Bool.not_eq_true' _).mp g1]; exact Bool.noConfusion)] at hS'
    subst hS'
    (refine fin_of hk ?_; clear hk; (conv => whnf); repeat' (first | exact trivial | refine And.intro ?_ ?_ | exact rfl))
  rename_i g1
  rw [out_isin] at g1
  have g2 := (Bool.not_eq_false' _).mp g1
  rw [if_pos g2] at hS'
  have hn : n ≤ 20 := by simp [isin] at g2; omega
  clear g1 g2
  refine ⟨Nat, fun i => [(0, .rsl 6 n (imD a)), (4, .int .i64 (fromOf a i)), (10, .rsl 6 n (imD a)), (11, .int .i64 n), (12, .int .i64 i)], fun _ => [], fun i => n - i, fun i => i ≤ n ∧ c = fe (bandErr a) i (n - i) ∧ 0 ≤ fromOf a i ∧ fromOf a i ≤ 100000000, [], 0, fun _ => ⟨rfl, rfl⟩, ?_, fun i hI => ?_⟩
  · repeat' (first | ((with_reducible refine kok ?_); kernel_rfl) | ((with_reducible refine keq_mk ?_); kernel_rfl) | with_reducible rfl | ((conv => whnf); first | exact trivial | refine And.intro ?_ ?_ | intro _ | (with_reducible refine (?_ : _ = true); (conv => lhs; whnf); done) | exact rfl))
    · omega
    · exact hS'
    · exact Int.le_refl 0
    · exact Int.zero_le_ofNat 100000000
  obtain ⟨hi, hc, hf⟩ := hI
  clear hS'
  have f1 : decide ((i : Int) < n) = true → i < n := fun h => Int.ofNat_lt.mp (of_decide_eq_true h)
  repeat' (first | ((with_reducible refine kok ?_); kernel_rfl) | ((with_reducible refine keq_mk ?_); kernel_rfl) | with_reducible rfl | ((conv => whnf); first | exact trivial | refine And.intro ?_ ?_ | intro _ | (with_reducible refine (?_ : _ = true); (conv => lhs; whnf); done) | exact rfl))
  · omega
  · exact of_decide_eq_true (by assumption)
  · exact hf.1
  · exact hf.2
  · rename_i g1 g2
    have e1 : bandErr a i ≠ 0 := of_decide_eq_false ((Bool.not_eq_true' _).mp g2)
    rw [fe_step _ _ _ (f1 g1), if_pos e1] at hc
    subst hc
    (refine fin_of hk ?_; clear hk; (conv => whnf); repeat' (first | exact trivial | refine And.intro ?_ ?_ | exact rfl))
  · omega
  · omega
  · rename_i g1 g2
    have e1 : bandErr a i = 0 := of_decide_eq_true ((Bool.not_eq_false' _).mp g2)
    have e0 := f1 g1
    rw [fe_step _ _ _ e0, if_neg (fun h => h e1)] at hc
    have e2 := bandE_zero (show bandE (a i 0) (a i 1) (a i 2) (a i 3) (a i 4) (a i 5) (fromOf a i) = 0 from e1)
    have e3 : fromOf a (i + 1) = a i 1 := by rw [fromOf, if_neg (by omega)]; rfl
    clear hk
    refine ⟨i + 1, ?_⟩
    repeat' (first | ((with_reducible refine kok ?_); kernel_rfl) | ((with_reducible refine keq_mk ?_); kernel_rfl) | with_reducible rfl | ((conv => whnf); first | exact trivial | refine And.intro ?_ ?_ | intro _ | (with_reducible refine (?_ : _ = true); (conv => lhs; whnf); done) | exact rfl))
    · omega
    · exact hc
    · omega
    · omega
    · simp only; omega
  · rename_i g1
    rw [show n - i = 0 by have := of_decide_eq_false g1; omega] at hc
    subst hc
    (refine fin_of hk ?_; clear hk; (conv => whnf); repeat' (first | exact trivial | refine And.intro ?_ ?_ | exact rfl))
end Go.Proofs.YtphcblofacfkaaaGreat
end
section
namespace Go.Proofs.YtphcblofacfkaaaGreat
open Go.V
def lib17 : Lib := (27, mk rCheckBands) :: lib16
theorem lib17_ok : LibOK Go.Proofs.Tryz.prog lib17 := .cons windCheckBands_ok lib16_ok
end Go.Proofs.YtphcblofacfkaaaGreat
end
section
namespace Go.Proofs.YtphcblofacfkaaaGreat
open Go.V
theorem fe_zero {e : Nat → Int} : ∀ {n i : Nat}, (fe e i n).2 = 0 → ∀ j, i ≤ j → j < i + n → e j = 0
  | 0, i, _, j, h1, h2 => absurd h2 (by omega)
  | n + 1, i, h, j, h1, h2 => by
    simp only [fe] at h
    split at h
    · rename_i h3; exact absurd h h3
    · rename_i h3
      rcases Nat.eq_or_lt_of_le h1 with rfl | h4
      · exact Classical.not_not.mp h3
      · exact fe_zero h j h4 (by omega)
theorem pickE_zero {p : Int} {q : Int × Int} {r : Int × Int × Int} (h : (pickE p q r).2.2 = 0) : q.2 = 0 ∧ r.2.2 = 0 := by
  unfold pickE at h
  split at h
  · rename_i h1; exact absurd h h1
  · rename_i h1; exact ⟨Classical.not_not.mp h1, h⟩
end Go.Proofs.YtphcblofacfkaaaGreat
end
section
namespace Go.Proofs.YtphcblofacfkaaaGreat
open Go.V
def lib18 : Lib := lib17
theorem lib18_ok : LibOK Go.Proofs.Tryz.prog lib18 := lib17_ok
def Task.cells (t : Task) : List V.D := [.rsl 7 t.ns (smD t.nm t.sa), .rsl 5 t.nx (imD t.xa), .rsl 1 t.nc (imD t.ca), .int .i64 t.age, .int .i64 t.shear]
def lib19 : Lib := lib18
theorem lib19_ok : LibOK Go.Proofs.Tryz.prog lib19 := lib18_ok
end Go.Proofs.YtphcblofacfkaaaGreat
end
section
namespace Go.Proofs.YtphcblofacfkaaaGreat
open Go.V
def empty (a : Nat → Nat → Int) (i : Nat) : Bool := decide (a i 1 < a i 0)
def lib20 : Lib := lib19
theorem lib20_ok : LibOK Go.Proofs.Tryz.prog lib20 := lib19_ok
def lib21 : Lib := lib20
theorem lib21_ok : LibOK Go.Proofs.Tryz.prog lib21 := lib20_ok
def lib22 : Lib := lib21
theorem lib22_ok : LibOK Go.Proofs.Tryz.prog lib22 := lib21_ok
end Go.Proofs.YtphcblofacfkaaaGreat
end
section
namespace Go.Proofs.YtphcblofacfkaaaGreat
open Go.V
def lib23 : Lib := lib22
theorem lib23_ok : LibOK Go.Proofs.Tryz.prog lib23 := lib22_ok
end Go.Proofs.YtphcblofacfkaaaGreat
end
section
namespace Go.Proofs.YtphcblofacfkaaaGreat
open Go.V
def lib24 : Lib := lib23
theorem lib24_ok : LibOK Go.Proofs.Tryz.prog lib24 := lib23_ok
end Go.Proofs.YtphcblofacfkaaaGreat
end
section
namespace Go.Proofs.YtphcblofacfkaaaGreat
open Go.V
def lib25 : Lib := lib24
theorem lib25_ok : LibOK Go.Proofs.Tryz.prog lib25 := lib24_ok
def lib26 : Lib := lib25
theorem lib26_ok : LibOK Go.Proofs.Tryz.prog lib26 := lib25_ok
end Go.Proofs.YtphcblofacfkaaaGreat
end
section
namespace Go.Proofs.YtphcblofacfkaaaGreat
open Go.V
def lib27 : Lib := lib26
theorem lib27_ok : LibOK Go.Proofs.Tryz.prog lib27 := lib26_ok
theorem and_ff {b : Bool} {A B : Prop} (e : b = false) (h : B) : (b = true → A) ∧ (b = false → B) := ⟨fun h1 => (by rw [e] at h1; cases h1), fun _ => h⟩
theorem and_tt {b : Bool} {A B : Prop} (e : b = true) (h : A) : (b = true → A) ∧ (b = false → B) := ⟨fun _ => h, fun h1 => (by rw [e] at h1; cases h1)⟩
theorem fin2 {d d0 : V.D} {k : V.D → Prop} (h : k d0) (hi : impA noGh d d0 True) : ∃ d1, k d1 ∧ Imp d d1 := fin_of h hi
theorem eq_leaf {α : Type} {a b : α} (h : a = b) : a = b := h
theorem decT {p : Prop} {i : Decidable p} : (@decide p i = true) = p := by cases i <;> simp_all
theorem decF {p : Prop} {i : Decidable p} : (@decide p i = false) = ¬ p := by cases i <;> simp_all
theorem out_true (n a b : Int) : (out n a b = true) = (n < a ∨ b < n) := by simp [out]
theorem out_false (n a b : Int) : (out n a b = false) = (a ≤ n ∧ n ≤ b) := by simp [out]
theorem isin_true (n a b : Int) : (isin n a b = true) = (a ≤ n ∧ n ≤ b) := by simp [isin]
theorem isin_false (n a b : Int) : (isin n a b = false) = (n < a ∨ b < n) := by simp [isin]; omega
end Go.Proofs.YtphcblofacfkaaaGreat
end
section
namespace Go.Proofs.YtphcblofacfkaaaGreat
open Go.V
attribute [local irreducible] nameS
def lib28 : Lib := lib27
theorem lib28_ok : LibOK Go.Proofs.Tryz.prog lib28 := lib27_ok
end Go.Proofs.YtphcblofacfkaaaGreat
end
section
namespace Go.Proofs.YtphcblofacfkaaaGreat
open Go.V
attribute [local irreducible] nameS
def lib29 : Lib := lib28
theorem lib29_ok : LibOK Go.Proofs.Tryz.prog lib29 := lib28_ok
end Go.Proofs.YtphcblofacfkaaaGreat
end
section
namespace Go.Proofs.YtphcblofacfkaaaGreat
open Go.V
attribute [local irreducible] nameS
def lib30 : Lib := lib29
theorem lib30_ok : LibOK Go.Proofs.Tryz.prog lib30 := lib29_ok
end Go.Proofs.YtphcblofacfkaaaGreat
end
section
namespace Go.Proofs.YtphcblofacfkaaaGreat
open Go.V
attribute [local irreducible] nameS
def lib31 : Lib := lib30
theorem lib31_ok : LibOK Go.Proofs.Tryz.prog lib31 := lib30_ok
end Go.Proofs.YtphcblofacfkaaaGreat
end
