/-
  Found of the code, on the search's own plan.
-/
import Derived.Test.YtphcblofacfkaaaGreatMt
set_option linter.unusedVariables false
set_option linter.unusedSimpArgs false
set_option maxRecDepth 100000
set_option maxHeartbeats 4000000
section
namespace Go.Proofs.YtphcblofacfkaaaGreat
open Go.V
def rFound1 : List V.D → Option (Prop × V.D) := fun ds => match ds with
  | [.agg [.int .i64 a, .int .i64 b, .int .i64 c], .eptr 1 e] => some (oneI e 0, .bool (decide (a = toI (e 0))))
  | _ => none
def oneE (a : Int) (j : Nat) : V.D := .int .i64 a
theorem found1_ok : PSound Go.Proofs.Tryz.prog 41 (mk rFound1) := by
  refine psound_mk Tryz.func41 (by kernel_rfl) rfl (ctx (.nil _)) ?_
  (intro ds p d h; unfold rFound1 at h; split at h <;> first | (cases h; done) | skip; cases h; refine ⟨Nat.le_of_ble_eq_true rfl, fun hp k hk => ?_⟩)
  rename_i a b c e
  have g0 : e 0 = .int .i64 (toI (e 0)) := hp
  generalize toI (e 0) = x at *
  refine ⟨[.agg [.int .i64 a, .int .i64 b, .int .i64 c], .eptr 1 (oneE x)], rfl, rfl, rfl, rfl, fun j hj => ?_, ?_⟩
  · obtain rfl : j = 0 := by omega
    exact g0
  clear g0
  repeat' (first | ((with_reducible refine kok ?_); kernel_rfl) | ((with_reducible refine keq_mk ?_); kernel_rfl) | with_reducible rfl | ((conv => whnf); first | (with_reducible exact trivial) | ((with_reducible refine and_ff ?_ ?_); · exact rfl) | ((with_reducible refine and_tt ?_ ?_); · exact rfl) | (with_reducible refine And.intro ?_ ?_) | intro _ | (with_reducible refine fin2 hk ?_) | ((with_reducible refine eq_leaf ?_); exact rfl) | exact trivial))
def atB (a : Nat → Nat → Int) (c : Int) (i : Nat) : Bool := decide (a i 0 = c)
noncomputable def lr49 : Lib := (41, mk rFound1) :: (39, mk rJudge) :: lr42
theorem lr49_ok : LibOK Go.Proofs.Tryz.prog lr49 := .cons found1_ok (.cons judge_ok lr42_ok)
def rIdxVisit : List V.D → Option (Prop × V.D) := fun ds => match ds with
  | [.rsl 3 n g, .fn 41 [] [.eptr 1 e]] => some ((IM n 3 g ∧ n ≤ 1099511627776) ∧ oneI e 0, .int .i64 (firstFrom (atB (im g) (toI (e 0))) 0 n))
  | _ => none
theorem idxVisit_ok : PSound Go.Proofs.Tryz.prog 40 (mk rIdxVisit) := by
  refine psound_mk Tryz.func40 (by kernel_rfl) rfl (ctx lr49_ok) ?_
  (intro ds p d h; unfold rIdxVisit at h; split at h <;> first | (cases h; done) | skip; cases h; refine ⟨Nat.le_of_ble_eq_true rfl, fun hp k hk => ?_⟩)
  rename_i n g e
  obtain ⟨⟨h1, h2⟩, g0⟩ := hp
  refine ⟨[.rsl 3 n (imD (im g)), .fn 41 [] [.eptr 1 e]], rfl, h1, ?_⟩
  clear h1
  generalize im g = a at *
  generalize hS : firstFrom (atB a (toI (e 0))) 0 n = c at *
  repeat' (first | ((with_reducible refine kok ?_); kernel_rfl) | ((with_reducible refine keq_mk ?_); kernel_rfl) | with_reducible rfl | ((conv => whnf); first | (with_reducible exact trivial) | ((with_reducible refine and_ff ?_ ?_); · exact rfl) | ((with_reducible refine and_tt ?_ ?_); · exact rfl) | (with_reducible refine And.intro ?_ ?_) | intro _ | (with_reducible refine fin2 hk ?_) | ((with_reducible refine eq_leaf ?_); exact rfl) | exact trivial))
  conv => whnf
  refine ⟨Nat, fun i => [(0, .rsl 3 n (imD a)), (1, .fn 41 [] [.eptr 1 e]), (7, .int .i64 n), (8, .int .i64 i)], fun _ => [], fun i => n - i, fun i => i ≤ n ∧ c = firstFrom (atB a (toI (e 0))) i (n - i), [], 0, fun _ => ⟨rfl, rfl⟩, ?_, fun i hI => ?_⟩
  · clear hk
    repeat' (first | ((with_reducible refine kok ?_); kernel_rfl) | ((with_reducible refine keq_mk ?_); kernel_rfl) | with_reducible rfl | ((conv => whnf); first | (with_reducible exact trivial) | ((with_reducible refine and_ff ?_ ?_); · exact rfl) | ((with_reducible refine and_tt ?_ ?_); · exact rfl) | (with_reducible refine And.intro ?_ ?_) | intro _ | (with_reducible refine fin2 hk ?_) | ((with_reducible refine eq_leaf ?_); exact rfl) | exact trivial))
    · exact Nat.zero_le n
    · exact hS.symm
  obtain ⟨hi, hc⟩ := hI
  have hi : i ≤ n := hi
  have hc : c = firstFrom (atB a (toI (e 0))) i (n - i) := hc
  clear hS
  have K1 : i < n → atB a (toI (e 0)) i = true → (i : Int) = c := fun h1 h2 => by
    rw [firstFrom_step h1, if_pos h2] at hc
    exact hc.symm
  have K2 : ¬ i < n → -1 = c := fun h1 => by
    rw [firstFrom_end (by omega)] at hc
    exact hc.symm
  have K3 : i < n → atB a (toI (e 0)) i = false → c = firstFrom (atB a (toI (e 0))) (i + 1) (n - (i + 1)) := fun h1 h2 => by
    rw [firstFrom_step h1, if_neg (by rw [h2]; exact Bool.noConfusion)] at hc
    exact hc
  repeat' (first | ((with_reducible refine kok ?_); kernel_rfl) | ((with_reducible refine keq_mk ?_); kernel_rfl) | with_reducible rfl | ((conv => whnf); first | (with_reducible exact trivial) | ((with_reducible refine and_ff ?_ ?_); · exact rfl) | ((with_reducible refine and_tt ?_ ?_); · exact rfl) | (with_reducible refine And.intro ?_ ?_) | intro _ | (with_reducible refine fin2 hk ?_) | ((with_reducible refine eq_leaf ?_); exact rfl) | exact trivial))
  all_goals try exact g0
  all_goals try ((first | with_reducible refine (?_ : (_ : Int) ≤ _) | with_reducible refine (?_ : (_ : Int) < _)); clear hk hc; simp only [taskOf_agg, ↓Bool.not_eq_true', ↓Bool.not_eq_false', ↓decT, ↓decF, out_true, out_false, isin_true, isin_false, Int.toNat_natCast, Int.ofNat_lt, Nat.zero_add, Nat.add_zero, Nat.reduceAdd] at *; omega)
  · rename_i q1 q2
    exact K1 (by clear hk hc; simp only [taskOf_agg, ↓Bool.not_eq_true', ↓Bool.not_eq_false', ↓decT, ↓decF, out_true, out_false, isin_true, isin_false, Int.toNat_natCast, Int.ofNat_lt, Nat.zero_add, Nat.add_zero, Nat.reduceAdd] at *; omega) q2
  · rename_i q1 q2
    have q4 : i < n := by clear hk hc; simp only [taskOf_agg, ↓Bool.not_eq_true', ↓Bool.not_eq_false', ↓decT, ↓decF, out_true, out_false, isin_true, isin_false, Int.toNat_natCast, Int.ofNat_lt, Nat.zero_add, Nat.add_zero, Nat.reduceAdd] at *; omega
    have q5 := K3 q4 q2
    conv => whnf
    clear hk K1 K2 K3
    refine ⟨i + 1, ?_⟩
    repeat' (first | ((with_reducible refine kok ?_); kernel_rfl) | ((with_reducible refine keq_mk ?_); kernel_rfl) | with_reducible rfl | ((conv => whnf); first | (with_reducible exact trivial) | ((with_reducible refine and_ff ?_ ?_); · exact rfl) | ((with_reducible refine and_tt ?_ ?_); · exact rfl) | (with_reducible refine And.intro ?_ ?_) | intro _ | (with_reducible refine fin2 hk ?_) | ((with_reducible refine eq_leaf ?_); exact rfl) | exact trivial))
    all_goals first | exact q4 | exact q5 | (simp only; omega)
  · rename_i q1
    exact K2 (by clear hk hc; simp only [taskOf_agg, ↓Bool.not_eq_true', ↓Bool.not_eq_false', ↓decT, ↓decF, out_true, out_false, isin_true, isin_false, Int.toNat_natCast, Int.ofNat_lt, Nat.zero_add, Nat.add_zero, Nat.reduceAdd] at *; omega)
noncomputable def lr50 : Lib := (40, mk rIdxVisit) :: lr49
theorem lr50_ok : LibOK Go.Proofs.Tryz.prog lr50 := .cons idxVisit_ok lr49_ok
def visAt (t : RTask) (c : Int) : Int := firstFrom (atB (visN t) c) 0 (visitsN t)
def foundT (t : RTask) (x y : Int) : Int × Int := if (checkR t).2.2 ≠ 0 then (0, (checkR t).2.2) else if (cellT t x y).2 ≠ 0 then (0, (cellT t x y).2) else if visAt t (cellT t x y).1 < 0 then (0, 9) else (visN t (visAt t (cellT t x y).1).toNat 2, 0)
def rFound : List V.D → Option (Prop × V.D) := fun ds => match ds with
  | [d, .agg [.rsl 3 n g, .rsl 2 m h], .agg [.int .i64 x, .int .i64 y]] => some ((RtIs d ∧ (rtOf d).fits) ∧ OwnPlan (rtOf d) n g m h, .tup [.int .i64 (foundT (rtOf d) x y).1, .int .i64 (foundT (rtOf d) x y).2])
  | _ => none
theorem firstFrom_in {p : Nat → Bool} : ∀ {n i : Nat}, firstFrom p i n < 0 ∨ (i ≤ (firstFrom p i n).toNat ∧ (firstFrom p i n).toNat < i + n)
  | 0, i => .inl (show (-1 : Int) < 0 by decide)
  | n + 1, i => by
    rw [show firstFrom p i (n + 1) = if p i then (i : Int) else firstFrom p (i + 1) n from rfl]
    split
    · right; omega
    · have := firstFrom_in (p := p) (n := n) (i := i + 1)
      omega
attribute [local irreducible] tripS manyS goneB openS checkR cellsL spX spY flOf cellM opC wrongS visF visU bestF firstFrom cellT
theorem found_ok : PSound Go.Proofs.Tryz.prog 13 (mk rFound) := by
  refine psound_mk Tryz.func13 (by kernel_rfl) rfl (ctx lr50_ok) ?_
  (intro ds p d h; unfold rFound at h; split at h <;> first | (cases h; done) | skip; cases h; refine ⟨Nat.le_of_ble_eq_true rfl, fun hp k hk => ?_⟩)
  rename_i d n g m h x y
  obtain ⟨⟨ht, hf⟩, hp⟩ := hp
  refine ⟨[(rtOf d).D, .agg [.rsl 3 n (imD (visN (rtOf d))), .rsl 2 m (imD (leftM (rtOf d) (leftsL (rtOf d))))], .agg [.int .i64 x, .int .i64 y]], rt_imp ht ⟨rfl, hp.2.1, rfl, hp.2.2.2, rfl, rfl, ?_⟩⟩
  clear ht
  obtain ⟨rfl, _, rfl, _⟩ := hp
  generalize rtOf d = t at *
  have hN : visitsN t ≤ 1099511627776 := by
    by_cases h : (checkR t).2.2 = 0
    · have := (going_all (rt_ok h)).1.mu
      have h1 := cellsL_len (rt_ok h)
      delta visitsN
      rw [if_pos h]
      unfold cellsM at this
      omega
    · delta visitsN
      rw [if_neg h]
      decide
  have F := firstFrom_in (p := atB (visN t) (cellT t x y).1) (n := visitsN t) (i := 0)
  have E1 : (checkR t).2.2 ≠ 0 → foundT t x y = (0, (checkR t).2.2) := fun h => if_pos h
  have E2 : (checkR t).2.2 = 0 → (cellT t x y).2 ≠ 0 → foundT t x y = (0, (cellT t x y).2) := fun h h2 => by unfold foundT; rw [if_neg (fun q => q h), if_pos h2]
  have E3 : (checkR t).2.2 = 0 → (cellT t x y).2 = 0 → foundT t x y = if firstFrom (atB (visN t) (cellT t x y).1) 0 (visitsN t) < 0 then (0, 9) else (visN t (firstFrom (atB (visN t) (cellT t x y).1) 0 (visitsN t)).toNat 2, 0) := fun h h2 => by
    unfold foundT; rw [if_neg (fun q => q h), if_neg (fun q => q h2)]; rfl
  generalize foundT t x y = c at *
  repeat' (first | ((with_reducible refine kok ?_); kernel_rfl) | ((with_reducible refine keq_mk ?_); kernel_rfl) | with_reducible rfl | ((conv => whnf); first | (with_reducible exact trivial) | ((with_reducible refine and_ff ?_ ?_); · exact rfl) | ((with_reducible refine and_tt ?_ ?_); · exact rfl) | (with_reducible refine And.intro ?_ ?_) | intro _ | (with_reducible refine fin2 hk ?_) | ((with_reducible refine eq_leaf ?_); exact rfl) | exact trivial))
  all_goals clear hk
  all_goals try exact hf _ (by assumption)
  all_goals try exact hN
  · rename_i q1
    have q1 : (checkR t).2.2 ≠ 0 := of_decide_eq_false ((Bool.not_eq_true' _).mp q1)
    rw [E1 q1]
  · rename_i q1
    have q1 : (checkR t).2.2 ≠ 0 := of_decide_eq_false ((Bool.not_eq_true' _).mp q1)
    rw [E1 q1]; rfl
  · rename_i q1 q2
    have q1 : (checkR t).2.2 = 0 := of_decide_eq_true ((Bool.not_eq_false' _).mp q1)
    have q2 : (cellT t x y).2 ≠ 0 := of_decide_eq_false ((Bool.not_eq_true' _).mp q2)
    rw [E2 q1 q2]
  · rename_i q1 q2
    have q1 : (checkR t).2.2 = 0 := of_decide_eq_true ((Bool.not_eq_false' _).mp q1)
    have q2 : (cellT t x y).2 ≠ 0 := of_decide_eq_false ((Bool.not_eq_true' _).mp q2)
    rw [E2 q1 q2]; rfl
  all_goals (
    rename_i q1 q2 q3
    have q1 : (checkR t).2.2 = 0 := of_decide_eq_true ((Bool.not_eq_false' _).mp q1)
    have q2 : (cellT t x y).2 = 0 := of_decide_eq_true ((Bool.not_eq_false' _).mp q2)
    have E := E3 q1 q2
    clear E1 E2 E3)
  · have q3 : firstFrom (atB (visN t) (cellT t x y).1) 0 (visitsN t) < 0 := of_decide_eq_true q3
    rw [if_pos q3] at E
    rw [E]
  · have q3 : firstFrom (atB (visN t) (cellT t x y).1) 0 (visitsN t) < 0 := of_decide_eq_true q3
    rw [if_pos q3] at E
    rw [E]
  · have q3 : ¬ firstFrom (atB (visN t) (cellT t x y).1) 0 (visitsN t) < 0 := of_decide_eq_false q3
    show 0 ≤ firstFrom (atB (visN t) (cellT t x y).1) 0 (visitsN t)
    omega
  · have q3 : ¬ firstFrom (atB (visN t) (cellT t x y).1) 0 (visitsN t) < 0 := of_decide_eq_false q3
    show firstFrom (atB (visN t) (cellT t x y).1) 0 (visitsN t) < _
    omega
  · have q3 : ¬ firstFrom (atB (visN t) (cellT t x y).1) 0 (visitsN t) < 0 := of_decide_eq_false q3
    rw [if_neg q3] at E
    rw [E]; rfl
  · have q3 : ¬ firstFrom (atB (visN t) (cellT t x y).1) 0 (visitsN t) < 0 := of_decide_eq_false q3
    rw [if_neg q3] at E
    rw [E]
end Go.Proofs.YtphcblofacfkaaaGreat
end
section
namespace Go.Proofs.YtphcblofacfkaaaGreat
open Go.V
noncomputable def lr43 : Lib := lr42
theorem lr43_ok : LibOK Go.Proofs.Tryz.prog lr43 := lr42_ok
noncomputable def lr47 : Lib := lr43
theorem lr47_ok : LibOK Go.Proofs.Tryz.prog lr47 := lr43_ok
theorem cellT_any {t : RTask} {x y : Int} (h : (checkR t).2.2 = 0) : (anyBelow (hasB (cellM t (cellsL t)) x y) (cellsL t).length = true → (cellT t x y).2 = 0 ∧ (0 ≤ (cellT t x y).1 ∧ (cellT t x y).1 < ((cellsL t).length : Int)) ∧ hasB (cellM t (cellsL t)) x y (cellT t x y).1.toNat = true) ∧
    (anyBelow (hasB (cellM t (cellsL t)) x y) (cellsL t).length = false → (cellT t x y).2 = 4) := by
  have e : cellT t x y = if cellAt t x y < 0 then (0, 4) else (cellAt t x y, 0) := if_neg (fun g => g h)
  have hA : cellAt t x y = firstFrom (hasB (cellM t (cellsL t)) x y) 0 (cellsL t).length := rfl
  rcases firstFrom_spec (hasB (cellM t (cellsL t)) x y) (cellsL t).length 0 with ⟨g1, g2⟩ | ⟨m, g1, _, g3, g4, _⟩
  · refine ⟨fun q => ?_, fun _ => by rw [e, hA, g1]; rfl⟩
    obtain ⟨k, hk, e2⟩ := anyBelow_iff.1 q
    rw [g2 k (Nat.zero_le k) (by omega)] at e2
    cases e2
  · have hm : m < (cellsL t).length := by omega
    rw [e, hA, g1, if_neg (by omega)]
    refine ⟨fun _ => ⟨rfl, ⟨by show (0 : Int) ≤ m; omega, by show (m : Int) < _; omega⟩, g4⟩, fun q => ?_⟩
    rw [anyBelow_iff.mpr ⟨m, hm, g4⟩] at q
    cases q
attribute [local irreducible] checkR cellT cellsN cellM cellsL disB goneB manyS
end Go.Proofs.YtphcblofacfkaaaGreat
end
section
namespace Go.Proofs.YtphcblofacfkaaaGreat
open Go.V
theorem u_next {t : RTask} (h : RtOK t) {k : Nat} (hk : k < nVis t) : (simS t k).u ≤ visN t k 2 ∧ (simS t (k + 1)).u = visN t k 2 ∧ (0 ≤ visN t k 0 → (simS t k).u + t.look ≤ visN t k 2) := by
  obtain ⟨hs, _⟩ := far_at h k (by omega)
  have B := best_lt (t := t) (s := simS t k)
  have fl := flC_in h (a := (simS t k).c) (b := bestS t (simS t k)) hs.c.2 B.2
  have hlk := h.look
  have htn := h.turn
  have v0 : visN t k 0 = bestS t (simS t k) := rfl
  have v2 : visN t k 2 = visU t (simS t k).c (simS t k).u (bestS t (simS t k)) := rfl
  have e1 : visF t (simS t k).c (simS t k).u (bestS t (simS t k)) = if bestS t (simS t k) < 0 then (simS t k).u + flC t (simS t k).c (bestS t (simS t k)) else max ((simS t k).u + flC t (simS t k).c (bestS t (simS t k))) (opC t (bestS t (simS t k))) := rfl
  have e2 : visU t (simS t k).c (simS t k).u (bestS t (simS t k)) = if bestS t (simS t k) < 0 then visF t (simS t k).c (simS t k).u (bestS t (simS t k)) + t.turn else visF t (simS t k).c (simS t k).u (bestS t (simS t k)) + t.look := rfl
  refine ⟨?_, rfl, fun g => ?_⟩
  · rw [v2]
    split at e1 <;> split at e2 <;> omega
  · rw [v2]
    rw [v0] at g
    rw [if_neg (by omega)] at e1 e2
    omega
theorem u_le {t : RTask} (h : RtOK t) {i : Nat} : ∀ j, i ≤ j → j ≤ nVis t → (simS t i).u ≤ (simS t j).u
  | 0, h1, _ => by obtain rfl : i = 0 := by omega
                   exact Int.le_refl _
  | j + 1, h1, h2 => by
    by_cases e : i = j + 1
    · rw [e]; exact Int.le_refl _
    · have := u_le h (i := i) j (by omega) (by omega)
      have n := u_next h (k := j) (by omega)
      rw [n.2.1]
      omega
theorem vis_when {t : RTask} (h : RtOK t) {k : Nat} (hk : k < nVis t) (hc : 0 ≤ visN t k 0) : t.start + t.look ≤ visN t k 2 ∧ visN t k 2 ≤ visN t (nVis t - 1) 2 := by
  have n := u_next h hk
  have l := u_next h (k := nVis t - 1) (by omega)
  have a := u_le h (i := 0) k (by omega) (by omega)
  have b := u_le h (i := k + 1) (nVis t) (by omega) (by omega)
  have s0 : (simS t 0).u = t.start := rfl
  rw [show nVis t - 1 + 1 = nVis t by omega] at l
  have := n.2.2 hc
  omega
theorem left_of {t : RTask} (h : RtOK t) {c : Nat} (hc : c < cellsM t) (hv : ∀ k, k < nVis t → visN t k 0 ≠ (c : Int)) : ∃ i, i < (leftsL t).length ∧ (leftsL t).getD i 0 = c := by
  have hd : (endS t).done c = false := by
    have e := vis_cnt (t := t) (i := c) (nVis t)
    rw [cnt_none (fun k hk => decide_eq_false (hv k hk))] at e
    cases q : (endS t).done c with
    | false => rfl
    | true => rw [show simS t (nVis t) = endS t from rfl, q] at e; cases e
  have hm : c ∈ leftsL t := leftTo_mem.2 ⟨hc, hd⟩
  obtain ⟨i, hi, e⟩ := List.getElem_of_mem hm
  exact ⟨i, hi, by rw [List.getD_eq_getElem?_getD, List.getElem?_eq_getElem hi, Option.getD_some]; exact e⟩
theorem visAt_spec {t : RTask} (h : (checkR t).2.2 = 0) (c : Int) : (visAt t c < 0 ∧ ∀ k, k < nVis t → visN t k 0 ≠ c) ∨ (0 ≤ visAt t c ∧ (visAt t c).toNat < nVis t ∧ visN t (visAt t c).toNat 0 = c) := by
  have e : visitsN t = nVis t := if_pos h
  unfold visAt
  rw [e]
  rcases firstFrom_spec (atB (visN t) c) (nVis t) 0 with ⟨e1, e2⟩ | ⟨m, e1, _, e3, e4, _⟩
  · left
    rw [e1]
    exact ⟨by decide, fun k hk => of_decide_eq_false (e2 k (by omega) (by omega))⟩
  · right
    rw [e1, Int.toNat_natCast]
    exact ⟨by omega, by omega, of_decide_eq_true e4⟩
end Go.Proofs.YtphcblofacfkaaaGreat
end
section
namespace Go.Proofs.YtphcblofacfkaaaGreat
open Go.V
noncomputable def lr51 : Lib := (13, mk rFound) :: lr47
theorem lr51_ok : LibOK Go.Proofs.Tryz.prog lr51 := .cons found_ok lr47_ok
theorem lefts_le {t : RTask} (h : RtOK t) : (leftsL t).length ≤ 60 := Nat.le_trans (leftTo_len (endS t).done (cellsM t)) (cellsL_len h)
theorem found_facts {t : RTask} {x y : Int} (g1 : (checkR t).2.2 = 0) (hx : t.xl ≤ x ∧ x ≤ t.xh) (hy : t.yl ≤ y ∧ y ≤ t.yh) (ha : anyBelow (disB t x y) t.nf = false) :
    (cellT t x y).2 = 0 ∧ (((foundT t x y).2 = 9 ∧ ∃ i, i < leftsN t ∧ leftM t (leftsL t) i 0 = (cellT t x y).1) ∨ ((foundT t x y).2 = 0 ∧ 0 < visitsN t ∧ t.start + t.look ≤ (foundT t x y).1 ∧ (foundT t x y).1 ≤ visN t (visitsN t - 1) 2)) := by
  have hok := rt_ok g1
  obtain ⟨c0, ⟨c1, c2⟩, c3⟩ := (cellT_any (x := x) (y := y) g1).1 (heard hok hx hy ha)
  have hM : ((cellsL t).length : Int) = (cellsM t : Int) := rfl
  have e1 : leftsN t = (leftsL t).length := if_pos g1
  have e2 : visitsN t = nVis t := if_pos g1
  have E : foundT t x y = if visAt t (cellT t x y).1 < 0 then (0, 9) else (visN t (visAt t (cellT t x y).1).toNat 2, 0) := by
    unfold foundT; rw [if_neg (fun q => q g1), if_neg (fun q => q c0)]
  refine ⟨c0, ?_⟩
  rw [e1, e2, E]
  rcases visAt_spec g1 (cellT t x y).1 with ⟨v1, v2⟩ | ⟨v1, v2, v3⟩
  · left
    rw [if_pos v1]
    refine ⟨rfl, ?_⟩
    obtain ⟨i, hi, h2⟩ := left_of hok (c := (cellT t x y).1.toNat) (by omega) (fun k hk => by rw [Int.toNat_of_nonneg c1]; exact v2 k hk)
    refine ⟨i, hi, ?_⟩
    show (((leftsL t).getD i 0 : Nat) : Int) = _
    rw [h2]
    omega
  · right
    rw [if_neg (by omega)]
    have w := vis_when hok v2 (by omega)
    exact ⟨rfl, by omega, w.1, w.2⟩
theorem visits_le {t : RTask} (h : (checkR t).2.2 = 0) : visitsN t ≤ 121 := by
  have := (going_all (rt_ok h)).1.mu
  have h1 := cellsL_len (rt_ok h)
  unfold visitsN
  rw [if_pos h]
  unfold cellsM at this
  omega
attribute [local irreducible] checkR cellT cellsN cellM cellsL disB goneB manyS foundT visitsN leftsN leftsL leftM visN visAt
end Go.Proofs.YtphcblofacfkaaaGreat
end
