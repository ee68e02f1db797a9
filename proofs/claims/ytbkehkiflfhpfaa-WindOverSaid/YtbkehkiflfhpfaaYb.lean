/-
  Contracts of the wind's laws: Read of no bytes; Awake.
-/
import Derived.Test.YtbkehkiflfhpfaaYa
set_option linter.unusedVariables false
set_option linter.unusedSimpArgs false
set_option maxRecDepth 100000
set_option maxHeartbeats 4000000
namespace Go.Proofs.Ytbkehkiflfhpfaa
open Go.V
attribute [local irreducible] doubtS saysS leftS agreeS blameS answerS checkS begun nameS lowS answerN knownS
noncomputable def lib33 : Lib := (29, mk rSame) :: (56, mk (rConst exT.D)) :: (58, mk (rConst (.rsl 6 2 (imD winA)))) :: lib32
theorem lib33_ok : LibOK Go.Proofs.Try.prog lib33 := .cons same_ok (.cons example_ok (.cons winds2_ok lib32_ok))

def taskTop (e : Int) : V.D := .tup [.agg [.nilS, .nilS, .nilS, .int .i64 0, .int .i64 0], .int .i64 e]
def rNil (e : Int) : List V.D → Option (Prop × V.D) := fun ds => match ds with
  | [.nilS] => some (True, taskTop e)
  | _ => none
noncomputable def Lparse : Libs := ⟨lib33, [(114, inl (cxOf tab lib33) Go.Proofs.Try.f114)], [], [(113, inlD (cxOf tab lib33) Go.Proofs.Try.f113 (codeOf Go.Proofs.Try.f113))]⟩
theorem Lparse_ok : LibsOK Go.Proofs.Try.prog Lparse := ⟨lib33_ok,
  asGet_cons (csound_in Try.func114 (by kernel_rfl) rfl (ctx lib33_ok)) (fun g s h => by cases h), fun f r h => (by cases h),
  asGet_cons (dsound_of Try.func113 (by kernel_rfl) rfl rfl (ctx lib33_ok)) (fun g s h => by cases h)⟩
theorem parseNil_ok : PSound Go.Proofs.Try.prog 90 (mk (rNil 6)) := by
  refine psound_mk Try.func90 (by kernel_rfl) rfl (ctxA Lparse_ok) ?_
  (intro ds p d h; unfold rNil at h; split at h <;> first | (cases h; done) | skip; cases h; refine ⟨Nat.le_of_ble_eq_true rfl, fun hp k hk => ?_⟩)
  refine ⟨[.nilS], ?_⟩
  repeat' (first | with_reducible rfl | ((conv => whnf); first | (with_reducible exact trivial) | ((with_reducible refine and_ff ?_ ?_); · exact rfl) | ((with_reducible refine and_tt ?_ ?_); · exact rfl) | (with_reducible refine And.intro ?_ ?_) | intro _ | (with_reducible refine fin2 hk ?_) | ((with_reducible refine eq_leaf ?_); exact rfl) | exact trivial))
noncomputable def lib34 : Lib := (90, mk (rNil 6)) :: lib33
theorem lib34_ok : LibOK Go.Proofs.Try.prog lib34 := .cons parseNil_ok lib33_ok
theorem readNil_ok : PSound Go.Proofs.Try.prog 45 (mk (rNil 6)) := by
  refine psound_mk Try.func45 (by kernel_rfl) rfl (ctx lib34_ok) ?_
  (intro ds p d h; unfold rNil at h; split at h <;> first | (cases h; done) | skip; cases h; refine ⟨Nat.le_of_ble_eq_true rfl, fun hp k hk => ?_⟩)
  refine ⟨[.nilS], ?_⟩
  repeat' (first | with_reducible rfl | ((conv => whnf); first | (with_reducible exact trivial) | ((with_reducible refine and_ff ?_ ?_); · exact rfl) | ((with_reducible refine and_tt ?_ ?_); · exact rfl) | (with_reducible refine And.intro ?_ ?_) | intro _ | (with_reducible refine fin2 hk ?_) | ((with_reducible refine eq_leaf ?_); exact rfl) | exact trivial))
noncomputable def lib35 : Lib := (45, mk (rNil 6)) :: lib34
theorem lib35_ok : LibOK Go.Proofs.Try.prog lib35 := .cons readNil_ok lib34_ok
theorem ex_fits : exT.fits := fun i hi => by
  have hi' : i = 0 ∨ i = 1 ∨ i = 2 := by have : exT.ns = 3 := rfl; omega
  rcases hi' with rfl | rfl | rfl <;> exact Nat.le_of_ble_eq_true rfl
theorem ex_bands : bandsT exT 2200 2200 = (2, 0) := by decide +kernel
theorem ex_doubt : doubtT exT 2 0 1000 = (250, 0) := by decide +kernel
theorem ex_at : (atT exT 700000 2200 2200).2 = 9 := by decide +kernel
theorem ex_same : ∀ i, i < 2 → ∀ j, j < 6 → bandA exT 2200 2200 i j = winA i j := by decide +kernel
theorem ex_same2 : sameB 6 2 2 (bandA exT 2200 2200) winA = true := sameB_iff.mpr ⟨rfl, fun x _ hx j hj => ex_same x hx j hj⟩
theorem ex_n1 : nameS ⟨#[109, 97, 115, 116]⟩ = true := by decide +kernel
theorem ex_n2 : nameS ⟨#[77, 97, 115, 116]⟩ = false := by decide +kernel
attribute [local irreducible] exT bandsT doubtT atT bandA winA sameB
theorem awake_ok : PSound Go.Proofs.Try.prog 24 (mk (rConst .tt)) := by
  refine psound_mk Try.func24 (by kernel_rfl) rfl (ctx lib35_ok) ?_
  (intro ds p d h; unfold rConst at h; split at h <;> first | (cases h; done) | skip; cases h; refine ⟨Nat.le_of_ble_eq_true rfl, fun hp k hk => ?_⟩)
  refine ⟨[], ?_⟩
  repeat' (first | with_reducible rfl | ((conv => whnf); first | (with_reducible exact trivial) | ((with_reducible refine and_ff ?_ ?_); · exact rfl) | ((with_reducible refine and_tt ?_ ?_); · exact rfl) | (with_reducible refine And.intro ?_ ?_) | intro _ | (with_reducible refine fin2 hk ?_) | ((with_reducible refine eq_leaf ?_); exact rfl) | exact trivial))
  all_goals try exact ex_fits _ (by assumption)
  all_goals try exact Nat.le_of_ble_eq_true rfl
  all_goals simp only [taskOf_agg, ↓Bool.not_eq_true', ↓Bool.not_eq_false', ↓decT, ↓decF, out_true, out_false, isin_true, isin_false, Int.toNat_natCast, Int.ofNat_lt, Nat.zero_add, Nat.add_zero, Nat.reduceAdd, Int.toNat_zero, Int.reduceToNat, ↓reduceIte, reduceCtorEq, Bool.or_eq_true, Bool.or_eq_false_iff, Bool.and_eq_true, Bool.and_eq_false_iff, ex_bands, ex_doubt, ex_at, ex_n1, ex_n2, im_imD, ex_same2, Bool.not_false] at *
  all_goals first | exact Nat.le_of_ble_eq_true rfl | omega | simp_all
end Go.Proofs.Ytbkehkiflfhpfaa
