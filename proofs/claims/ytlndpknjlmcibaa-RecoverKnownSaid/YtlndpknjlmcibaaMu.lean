/-
  Found of the code, on the search's own plan.
-/
import Derived.Test.YtlndpknjlmcibaaMt
section
set_option linter.unusedVariables false
set_option linter.unusedSimpArgs false
set_option maxRecDepth 100000
set_option maxHeartbeats 4000000
namespace Go.Proofs.Ytlndpknjlmcibaa
open Go.V
def rFound1 : List V.D → Option (Prop × V.D) := fun ds => match ds with
  | [.agg [.int .i64 a, .int .i64 b, .int .i64 c], .eptr 1 e] => some (oneI e 0, .bool (decide (a = toI (e 0))))
  | _ => none
def oneE (a : Int) (j : Nat) : V.D := .int .i64 a
theorem found1_ok : PSound Go.Proofs.Try.prog 29 (mk rFound1) := by
  refine psound_mk Try.func29 (by kernel_rfl) rfl (ctx (.nil _)) ?_
  (intro ds p d h; unfold rFound1 at h; split at h <;> first | (cases h; done) | skip; cases h; refine ⟨Nat.le_of_ble_eq_true rfl, fun hp k hk => ?_⟩)
  rename_i a b c e
  have g0 : e 0 = .int .i64 (toI (e 0)) := hp
  generalize toI (e 0) = x at *
  refine ⟨[.agg [.int .i64 a, .int .i64 b, .int .i64 c], .eptr 1 (oneE x)], rfl, rfl, rfl, rfl, fun j hj => ?_, ?_⟩
  · obtain rfl : j = 0 := by omega
    exact g0
  clear g0
  repeat' (first | ((with_reducible refine kok ?_); kernel_rfl) | ((with_reducible refine keq_mk ?_); kernel_rfl) | with_reducible rfl | ((conv => whnf); first | (with_reducible exact trivial) | ((with_reducible refine and_ff ?_ ?_); · exact rfl) | ((with_reducible refine and_tt ?_ ?_); · exact rfl) | (with_reducible refine And.intro ?_ ?_) | intro _ | (with_reducible refine fin2 hk ?_) | ((with_reducible refine eq_leaf ?_); exact rfl) | exact trivial))
def atB (a : Nat → Nat → Int) (c : Int) (i : Nat) : Bool := decide (a i 0 = c)
noncomputable def lr49 : Lib := (29, mk rFound1) :: (27, mk rJudge) :: lr42
theorem lr49_ok : LibOK Go.Proofs.Try.prog lr49 := .cons found1_ok (.cons judge_ok lr42_ok)
def rIdxVisit : List V.D → Option (Prop × V.D) := fun ds => match ds with
  | [.rsl 3 n g, .fn 29 [] [.eptr 1 e]] => some ((IM n 3 g ∧ n ≤ 1099511627776) ∧ oneI e 0, .int .i64 (firstFrom (atB (im g) (toI (e 0))) 0 n))
  | _ => none
theorem idxVisit_ok : PSound Go.Proofs.Try.prog 28 (mk rIdxVisit) := by
  refine psound_mk Try.func28 (by kernel_rfl) rfl (ctx lr49_ok) ?_
  (intro ds p d h; unfold rIdxVisit at h; split at h <;> first | (cases h; done) | skip; cases h; refine ⟨Nat.le_of_ble_eq_true rfl, fun hp k hk => ?_⟩)
  rename_i n g e
  obtain ⟨⟨h1, h2⟩, g0⟩ := hp
  refine ⟨[.rsl 3 n (imD (im g)), .fn 29 [] [.eptr 1 e]], rfl, h1, ?_⟩
  clear h1
  generalize im g = a at *
  generalize hS : firstFrom (atB a (toI (e 0))) 0 n = c at *
  repeat' (first | ((with_reducible refine kok ?_); kernel_rfl) | ((with_reducible refine keq_mk ?_); kernel_rfl) | with_reducible rfl | ((conv => whnf); first | (with_reducible exact trivial) | ((with_reducible refine and_ff ?_ ?_); · exact rfl) | ((with_reducible refine and_tt ?_ ?_); · exact rfl) | (with_reducible refine And.intro ?_ ?_) | intro _ | (with_reducible refine fin2 hk ?_) | ((with_reducible refine eq_leaf ?_); exact rfl) | exact trivial))
  conv => whnf
  refine ⟨Nat, fun i => [(0, .rsl 3 n (imD a)), (1, .fn 29 [] [.eptr 1 e]), (7, .int .i64 n), (8, .int .i64 i)], fun _ => [], fun i => n - i, fun i => i ≤ n ∧ c = firstFrom (atB a (toI (e 0))) i (n - i), [], 0, fun _ => ⟨rfl, rfl⟩, ?_, fun i hI => ?_⟩
  · clear hk
    repeat' (first | ((with_reducible refine kok ?_); kernel_rfl) | ((with_reducible refine keq_mk ?_); kernel_rfl) | with_reducible rfl | ((conv => whnf); first | (with_reducible exact trivial) | ((with_reducible refine and_ff ?_ ?_); · exact rfl) | ((with_reducible refine and_tt ?_ ?_); · exact rfl) | (with_reducible refine And.intro ?_ ?_) | intro _ | (with_reducible refine fin2 hk ?_) | ((with_reducible refine eq_leaf ?_); exact rfl) | exact trivial))
    · exact Nat.zero_le n
    · exact hS.symm
  obtain ⟨hi, hc⟩ := hI
  have hi : i ≤ n := hi
  have hc : c = firstFrom (atB a (toI (e 0))) i (n - i) := hc
  clear hS
  have K1 : i < n → atB a (toI (e 0)) i = true → (i : Int) = c := fun h1 h2 => by
    rw [firstFrom_step h1, if_pos h2] at hc
    exact hc.symm
  have K2 : ¬ i < n → -1 = c := fun h1 => by
    rw [firstFrom_end (by omega)] at hc
    exact hc.symm
  have K3 : i < n → atB a (toI (e 0)) i = false → c = firstFrom (atB a (toI (e 0))) (i + 1) (n - (i + 1)) := fun h1 h2 => by
    rw [firstFrom_step h1, if_neg (by rw [h2]; exact Bool.noConfusion)] at hc
    exact hc
  repeat' (first | ((with_reducible refine kok ?_); kernel_rfl) | ((with_reducible refine keq_mk ?_); kernel_rfl) | with_reducible rfl | ((conv => whnf); first | (with_reducible exact trivial) | ((with_reducible refine and_ff ?_ ?_); · exact rfl) | ((with_reducible refine and_tt ?_ ?_); · exact rfl) | (with_reducible refine And.intro ?_ ?_) | intro _ | (with_reducible refine fin2 hk ?_) | ((with_reducible refine eq_leaf ?_); exact rfl) | exact trivial))
  all_goals try exact g0
  all_goals try ((first | with_reducible refine (?_ : (_ : Int) ≤ _) | with_reducible refine (?_ : (_ : Int) < _)); clear hk hc; simp only [taskOf_agg, ↓Bool.not_eq_true', ↓Bool.not_eq_false', ↓decT, ↓decF, out_true, out_false, isin_true, isin_false, Int.toNat_natCast, Int.ofNat_lt, Nat.zero_add, Nat.add_zero, Nat.reduceAdd] at *; omega)
  · rename_i q1 q2
    exact K1 (by clear hk hc; simp only [taskOf_agg, ↓Bool.not_eq_true', ↓Bool.not_eq_false', ↓decT, ↓decF, out_true, out_false, isin_true, isin_false, Int.toNat_natCast, Int.ofNat_lt, Nat.zero_add, Nat.add_zero, Nat.reduceAdd] at *; omega) q2
  · rename_i q1 q2
    have q4 : i < n := by clear hk hc; simp only [taskOf_agg, ↓Bool.not_eq_true', ↓Bool.not_eq_false', ↓decT, ↓decF, out_true, out_false, isin_true, isin_false, Int.toNat_natCast, Int.ofNat_lt, Nat.zero_add, Nat.add_zero, Nat.reduceAdd] at *; omega
    have q5 := K3 q4 q2
    conv => whnf
    clear hk K1 K2 K3
    refine ⟨i + 1, ?_⟩
    repeat' (first | ((with_reducible refine kok ?_); kernel_rfl) | ((with_reducible refine keq_mk ?_); kernel_rfl) | with_reducible rfl | ((conv => whnf); first | (with_reducible exact trivial) | ((with_reducible refine and_ff ?_ ?_); · exact rfl) | ((with_reducible refine and_tt ?_ ?_); · exact rfl) | (with_reducible refine And.intro ?_ ?_) | intro _ | (with_reducible refine fin2 hk ?_) | ((with_reducible refine eq_leaf ?_); exact rfl) | exact trivial))
    all_goals first | exact q4 | exact q5 | (simp only; omega)
  · rename_i q1
    exact K2 (by clear hk hc; simp only [taskOf_agg, ↓Bool.not_eq_true', ↓Bool.not_eq_false', ↓decT, ↓decF, out_true, out_false, isin_true, isin_false, Int.toNat_natCast, Int.ofNat_lt, Nat.zero_add, Nat.add_zero, Nat.reduceAdd] at *; omega)
noncomputable def lr50 : Lib := (28, mk rIdxVisit) :: lr49
theorem lr50_ok : LibOK Go.Proofs.Try.prog lr50 := .cons idxVisit_ok lr49_ok
def visAt (t : RTask) (c : Int) : Int := firstFrom (atB (visN t) c) 0 (visitsN t)
def foundT (t : RTask) (x y : Int) : Int × Int := if (checkR t).2.2 ≠ 0 then (0, (checkR t).2.2) else if (cellT t x y).2 ≠ 0 then (0, (cellT t x y).2) else if visAt t (cellT t x y).1 < 0 then (0, 9) else (visN t (visAt t (cellT t x y).1).toNat 2, 0)
def rFound : List V.D → Option (Prop × V.D) := fun ds => match ds with
  | [d, .agg [.rsl 3 n g, .rsl 2 m h], .agg [.int .i64 x, .int .i64 y]] => some ((RtIs d ∧ (rtOf d).fits) ∧ OwnPlan (rtOf d) n g m h, .tup [.int .i64 (foundT (rtOf d) x y).1, .int .i64 (foundT (rtOf d) x y).2])
  | _ => none
theorem firstFrom_in {p : Nat → Bool} : ∀ {n i : Nat}, firstFrom p i n < 0 ∨ (i ≤ (firstFrom p i n).toNat ∧ (firstFrom p i n).toNat < i + n)
  | 0, i => .inl (show (-1 : Int) < 0 by decide)
  | n + 1, i => by
    rw [show firstFrom p i (n + 1) = if p i then (i : Int) else firstFrom p (i + 1) n from rfl]
    split
    · right; omega
    · have := firstFrom_in (p := p) (n := n) (i := i + 1)
      omega
attribute [local irreducible] tripS manyS goneB openS checkR cellsL spX spY flOf cellM opC wrongS visF visU bestF firstFrom cellT
theorem found_ok : PSound Go.Proofs.Try.prog 10 (mk rFound) := by
  refine psound_mk Try.func10 (by kernel_rfl) rfl (ctx lr50_ok) ?_
  (intro ds p d h; unfold rFound at h; split at h <;> first | (cases h; done) | skip; cases h; refine ⟨Nat.le_of_ble_eq_true rfl, fun hp k hk => ?_⟩)
  rename_i d n g m h x y
  obtain ⟨⟨ht, hf⟩, hp⟩ := hp
  refine ⟨[(rtOf d).D, .agg [.rsl 3 n (imD (visN (rtOf d))), .rsl 2 m (imD (leftM (rtOf d) (leftsL (rtOf d))))], .agg [.int .i64 x, .int .i64 y]], rt_imp ht ⟨rfl, hp.2.1, rfl, hp.2.2.2, rfl, rfl, ?_⟩⟩
  clear ht
  obtain ⟨rfl, _, rfl, _⟩ := hp
  generalize rtOf d = t at *
  have hN : visitsN t ≤ 1099511627776 := by
    by_cases h : (checkR t).2.2 = 0
    · have := (going_all (rt_ok h)).1.mu
      have h1 := cellsL_len (rt_ok h)
      delta visitsN
      rw [if_pos h]
      unfold cellsM at this
      omega
    · delta visitsN
      rw [if_neg h]
      decide
  have F := firstFrom_in (p := atB (visN t) (cellT t x y).1) (n := visitsN t) (i := 0)
  have E1 : (checkR t).2.2 ≠ 0 → foundT t x y = (0, (checkR t).2.2) := fun h => if_pos h
  have E2 : (checkR t).2.2 = 0 → (cellT t x y).2 ≠ 0 → foundT t x y = (0, (cellT t x y).2) := fun h h2 => by unfold foundT; rw [if_neg (fun q => q h), if_pos h2]
  have E3 : (checkR t).2.2 = 0 → (cellT t x y).2 = 0 → foundT t x y = if firstFrom (atB (visN t) (cellT t x y).1) 0 (visitsN t) < 0 then (0, 9) else (visN t (firstFrom (atB (visN t) (cellT t x y).1) 0 (visitsN t)).toNat 2, 0) := fun h h2 => by
    unfold foundT; rw [if_neg (fun q => q h), if_neg (fun q => q h2)]; rfl
  generalize foundT t x y = c at *
  repeat' (first | ((with_reducible refine kok ?_); kernel_rfl) | ((with_reducible refine keq_mk ?_); kernel_rfl) | with_reducible rfl | ((conv => whnf); first | (with_reducible exact trivial) | ((with_reducible refine and_ff ?_ ?_); · exact rfl) | ((with_reducible refine and_tt ?_ ?_); · exact rfl) | (with_reducible refine And.intro ?_ ?_) | intro _ | (with_reducible refine fin2 hk ?_) | ((with_reducible refine eq_leaf ?_); exact rfl) | exact trivial))
  all_goals clear hk
  all_goals try exact hf _ (by assumption)
  all_goals try exact hN
  · rename_i q1
    have q1 : (checkR t).2.2 ≠ 0 := of_decide_eq_false ((Bool.not_eq_true' _).mp q1)
    rw [E1 q1]
  · rename_i q1
    have q1 : (checkR t).2.2 ≠ 0 := of_decide_eq_false ((Bool.not_eq_true' _).mp q1)
    rw [E1 q1]; rfl
  · rename_i q1 q2
    have q1 : (checkR t).2.2 = 0 := of_decide_eq_true ((Bool.not_eq_false' _).mp q1)
    have q2 : (cellT t x y).2 ≠ 0 := of_decide_eq_false ((Bool.not_eq_true' _).mp q2)
    rw [E2 q1 q2]
  · rename_i q1 q2
    have q1 : (checkR t).2.2 = 0 := of_decide_eq_true ((Bool.not_eq_false' _).mp q1)
    have q2 : (cellT t x y).2 ≠ 0 := of_decide_eq_false ((Bool.not_eq_true' _).mp q2)
    rw [E2 q1 q2]; rfl
  all_goals (
    rename_i q1 q2 q3
    have q1 : (checkR t).2.2 = 0 := of_decide_eq_true ((Bool.not_eq_false' _).mp q1)
    have q2 : (cellT t x y).2 = 0 := of_decide_eq_true ((Bool.not_eq_false' _).mp q2)
    have E := E3 q1 q2
    clear E1 E2 E3)
  · have q3 : firstFrom (atB (visN t) (cellT t x y).1) 0 (visitsN t) < 0 := of_decide_eq_true q3
    rw [if_pos q3] at E
    rw [E]
  · have q3 : firstFrom (atB (visN t) (cellT t x y).1) 0 (visitsN t) < 0 := of_decide_eq_true q3
    rw [if_pos q3] at E
    rw [E]
  · have q3 : ¬ firstFrom (atB (visN t) (cellT t x y).1) 0 (visitsN t) < 0 := of_decide_eq_false q3
    show 0 ≤ firstFrom (atB (visN t) (cellT t x y).1) 0 (visitsN t)
    omega
  · have q3 : ¬ firstFrom (atB (visN t) (cellT t x y).1) 0 (visitsN t) < 0 := of_decide_eq_false q3
    show firstFrom (atB (visN t) (cellT t x y).1) 0 (visitsN t) < _
    omega
  · have q3 : ¬ firstFrom (atB (visN t) (cellT t x y).1) 0 (visitsN t) < 0 := of_decide_eq_false q3
    rw [if_neg q3] at E
    rw [E]; rfl
  · have q3 : ¬ firstFrom (atB (visN t) (cellT t x y).1) 0 (visitsN t) < 0 := of_decide_eq_false q3
    rw [if_neg q3] at E
    rw [E]
end Go.Proofs.Ytlndpknjlmcibaa
end
