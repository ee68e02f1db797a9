/-
  The law RecoverPlans is proved: Judge returns OK for the search, it has at most as many visits of the base as of cells, and ends there, and each visit begins by the flight or when its cell opens, for any task. No condition.
-/
import Derived.Test.YtcnecjkcmjgakaaMu
import Derived.Test.YtcnecjkcmjgakaaMs
section
set_option linter.unusedVariables false
set_option linter.unusedSimpArgs false
set_option maxRecDepth 100000
set_option maxHeartbeats 4000000
namespace Go.Proofs.Ytcnecjkcmjgakaa
open Go.V
def rMiddle : List V.D → Option (Prop × V.D) := fun ds => match ds with
  | [.agg [.int .i64 a, .int .i64 b, .int .i64 c, .int .i64 d]] => some (((-100000000 ≤ a ∧ a ≤ 100000000) ∧ -100000000 ≤ b ∧ b ≤ 100000000) ∧ (-100000000 ≤ c ∧ c ≤ 100000000) ∧ -100000000 ≤ d ∧ d ≤ 100000000, .agg [.int .i64 ((a + b) / 2), .int .i64 ((c + d) / 2)])
  | _ => none
theorem middle_ok : PSound Go.Proofs.Try.prog 41 (mk rMiddle) := by
  refine psound_mk Try.func41 (by kernel_rfl) rfl (ctx (.nil _)) ?_
  (intro ds p d h; unfold rMiddle at h; split at h <;> first | (cases h; done) | skip; cases h; refine ⟨Nat.le_of_ble_eq_true rfl, fun hp k hk => ?_⟩)
  rename_i a b c d
  refine ⟨[.agg [.int .i64 a, .int .i64 b, .int .i64 c, .int .i64 d]], rfl, rfl, rfl, rfl, ?_⟩
  repeat' (first | ((with_reducible refine kok ?_); kernel_rfl) | ((with_reducible refine keq_mk ?_); kernel_rfl) | with_reducible rfl | ((conv => whnf); first | (with_reducible exact trivial) | ((with_reducible refine and_ff ?_ ?_); · exact rfl) | ((with_reducible refine and_tt ?_ ?_); · exact rfl) | (with_reducible refine And.intro ?_ ?_) | intro _ | (with_reducible refine fin2 hk ?_) | ((with_reducible refine eq_leaf ?_); exact rfl) | exact trivial))
  all_goals clear hk
  all_goals first | omega | exact shr1 _
noncomputable def lr52 : Lib := (41, mk rMiddle) :: (39, mk rJudge) :: lr51
theorem lr52_ok : LibOK Go.Proofs.Try.prog lr52 := .cons middle_ok (.cons judge_ok lr51_ok)
def rCoversP : List V.D → Option (Prop × V.D) := fun ds => match ds with
  | [d, .agg [.rsl 3 n g, .rsl 2 m h]] => some ((RtIs d ∧ (rtOf d).fits) ∧ (checkR (rtOf d)).2.2 = 0 ∧ OwnPlan (rtOf d) n g m h, .tt)
  | _ => none
theorem flight_ok {t : RTask} (h : (checkR t).2.2 = 0) {ax ay bx bz : Int} (h1 : -100000000 ≤ ax ∧ ax ≤ 100000000) (h2 : -100000000 ≤ ay ∧ ay ≤ 100000000) (h3 : -100000000 ≤ bx ∧ bx ≤ 100000000) (h4 : -100000000 ≤ bz ∧ bz ≤ 100000000) : flightT t ax ay bx bz = (flOf t ax ay bx bz, 0) := by
  unfold flightT
  rw [if_neg (fun q => q h), if_neg]
  rw [Bool.not_eq_false]
  simp only [Bool.and_eq_true, isin_true]
  exact ⟨⟨h1, h2⟩, h3, h4⟩
/-- The flight from the base to a cell, as the law has it. -/
theorem flight_cell {t : RTask} (h : (checkR t).2.2 = 0) {i : Nat} (hi : i < cellsM t) :
    (CellIn t (cxl t ((cellsL t).getD i 0)) (cxh t ((cellsL t).getD i 0)) (cyl t ((cellsL t).getD i 0)) (cyh t ((cellsL t).getD i 0))) ∧
    flightT t t.bx t.bz ((cellM t (cellsL t) i 0 + cellM t (cellsL t) i 1) / 2) ((cellM t (cellsL t) i 2 + cellM t (cellsL t) i 3) / 2) = (flC t (-1) i, 0) := by
  have hok := rt_ok h
  have C := cell_in hok (cellsL_get (t := t) (i := i) hi)
  refine ⟨C, ?_⟩
  have e : flC t (-1) i = flOf t t.bx t.bz ((cellM t (cellsL t) i 0 + cellM t (cellsL t) i 1) / 2) ((cellM t (cellsL t) i 2 + cellM t (cellsL t) i 3) / 2) := by
    unfold flC spX spY
    rw [if_pos (by decide), if_pos (by decide), if_neg (by omega), if_neg (by omega)]
    rfl
  have m0 : cellM t (cellsL t) i 0 = cxl t ((cellsL t).getD i 0) := rfl
  have m1 : cellM t (cellsL t) i 1 = cxh t ((cellsL t).getD i 0) := rfl
  have m2 : cellM t (cellsL t) i 2 = cyl t ((cellsL t).getD i 0) := rfl
  have m3 : cellM t (cellsL t) i 3 = cyh t ((cellsL t).getD i 0) := rfl
  rw [e]
  obtain ⟨C1, C2⟩ := C
  have hx := hok.ax
  have hy := hok.ay
  exact flight_ok h hok.bx hok.bz (by rw [m0, m1]; omega) (by rw [m2, m3]; omega)
attribute [local irreducible] checkR cellsN cellM cellsL goneB manyS visitsN leftsN leftsL leftM visN visAt flightT cntB opC flC
theorem covers_ok : PSound Go.Proofs.Try.prog 40 (mk rCoversP) := by
  refine psound_mk Try.func40 (by kernel_rfl) rfl (ctx lr52_ok) ?_
  (intro ds p d h; unfold rCoversP at h; split at h <;> first | (cases h; done) | skip; cases h; refine ⟨Nat.le_of_ble_eq_true rfl, fun hp k hk => ?_⟩)
  rename_i d n g m h
  obtain ⟨⟨ht, hf⟩, g1, hp⟩ := hp
  refine ⟨[(rtOf d).D, .agg [.rsl 3 n (imD (visN (rtOf d))), .rsl 2 m (imD (leftM (rtOf d) (leftsL (rtOf d))))]], rt_imp ht ⟨rfl, hp.2.1, rfl, hp.2.2.2, ?_⟩⟩
  clear ht
  obtain ⟨rfl, _, rfl, _⟩ := hp
  generalize rtOf d = t at *
  have hok := rt_ok g1
  have hM := cellsL_len hok
  have hV := visits_le g1
  have hN : cellsN t = cellsM t := by delta cellsN; exact if_pos g1
  have hNV : visitsN t = nVis t := by delta visitsN; exact if_pos g1
  have hcm : cellsM t = (cellsL t).length := rfl
  have hfu := hok.fuel
  have hlk := hok.look
  repeat' (first | ((with_reducible refine kok ?_); kernel_rfl) | ((with_reducible refine keq_mk ?_); kernel_rfl) | with_reducible rfl | ((conv => whnf); first | (with_reducible exact trivial) | ((with_reducible refine and_ff ?_ ?_); · exact rfl) | ((with_reducible refine and_tt ?_ ?_); · exact rfl) | (with_reducible refine And.intro ?_ ?_) | intro _ | (with_reducible refine fin2 hk ?_) | ((with_reducible refine eq_leaf ?_); exact rfl) | exact trivial))
  all_goals try exact hf _ (by assumption)
  · exfalso
    rename_i q
    exact of_decide_eq_false ((Bool.not_eq_true' _).mp q) g1
  conv => whnf
  refine ⟨Nat, fun i => [(2, .ptr 0 0), (3, .ptr 1 0), (5, .rsl 5 (cellsN t) (imD (cellM t (cellsL t)))), (7, .int .i64 i)],
    fun i => [some (.row t.cells), some (.row [.rsl 3 (visitsN t) (imD (visN t)), .rsl 2 (leftsN t) (imD (leftM t (leftsL t)))])], fun i => cellsN t - i, fun i => i ≤ cellsN t, [], 0, fun _ => ⟨rfl, rfl⟩, ?_, fun i hi => ?_⟩
  · clear hk
    repeat' (first | ((with_reducible refine kok ?_); kernel_rfl) | ((with_reducible refine keq_mk ?_); kernel_rfl) | with_reducible rfl | ((conv => whnf); first | (with_reducible exact trivial) | ((with_reducible refine and_ff ?_ ?_); · exact rfl) | ((with_reducible refine and_tt ?_ ?_); · exact rfl) | (with_reducible refine And.intro ?_ ?_) | intro _ | (with_reducible refine fin2 hk ?_) | ((with_reducible refine eq_leaf ?_); exact rfl) | exact trivial))
    all_goals first | exact Nat.zero_le _ | skip
  have hi : i ≤ cellsN t := hi
  conv => whnf
  refine ⟨fun g2 => ?_, fun g2 => ?_⟩
  rotate_left
  · repeat' (first | ((with_reducible refine kok ?_); kernel_rfl) | ((with_reducible refine keq_mk ?_); kernel_rfl) | with_reducible rfl | ((conv => whnf); first | (with_reducible exact trivial) | ((with_reducible refine and_ff ?_ ?_); · exact rfl) | ((with_reducible refine and_tt ?_ ?_); · exact rfl) | (with_reducible refine And.intro ?_ ?_) | intro _ | (with_reducible refine fin2 hk ?_) | ((with_reducible refine eq_leaf ?_); exact rfl) | exact trivial))
  have hlt : i < cellsM t := by have := of_decide_eq_true g2; omega
  obtain ⟨C, F⟩ := flight_cell g1 hlt
  have EC := end_cnt hok hlt
  have FL := flC_in hok (a := -1) (b := i) (by omega) (by omega)
  have OP : cellM t (cellsL t) i 4 = opC t i := by delta cellM opC; rfl
  have m0 : cellM t (cellsL t) i 0 = cxl t ((cellsL t).getD i 0) := by delta cellM; rfl
  have m1 : cellM t (cellsL t) i 1 = cxh t ((cellsL t).getD i 0) := by delta cellM; rfl
  have m2 : cellM t (cellsL t) i 2 = cyl t ((cellsL t).getD i 0) := by delta cellM; rfl
  have m3 : cellM t (cellsL t) i 3 = cyh t ((cellsL t).getD i 0) := by delta cellM; rfl
  have hx := hok.ax
  have hy := hok.ay
  repeat' (first | ((with_reducible refine kok ?_); kernel_rfl) | ((with_reducible refine keq_mk ?_); kernel_rfl) | with_reducible rfl | ((conv => whnf); first | (with_reducible exact trivial) | ((with_reducible refine and_ff ?_ ?_); · exact rfl) | ((with_reducible refine and_tt ?_ ?_); · exact rfl) | (with_reducible refine And.intro ?_ ?_) | intro _ | (with_reducible refine fin2 hk ?_) | ((with_reducible refine eq_leaf ?_); exact rfl) | exact trivial))
  conv => whnf
  refine ⟨Nat, fun k => [(2, .ptr 0 0), (3, .ptr 1 0), (5, .rsl 5 (cellsN t) (imD (cellM t (cellsL t)))), (7, .int .i64 i), (8, .int .i64 (cntB (fun k => decide (visN t k 0 = (i : Int))) k : Nat)), (9, .int .i64 k)],
    fun k => [some (.row t.cells), some (.row [.rsl 3 (visitsN t) (imD (visN t)), .rsl 2 (leftsN t) (imD (leftM t (leftsL t)))])], fun k => visitsN t - k, fun k => k ≤ visitsN t ∧ cntB (fun k => decide (visN t k 0 = (i : Int))) k ≤ k, [], 0, fun _ => ⟨rfl, rfl⟩, ?_, fun k hK => ?_⟩
  · clear hk
    repeat' (first | ((with_reducible refine kok ?_); kernel_rfl) | ((with_reducible refine keq_mk ?_); kernel_rfl) | with_reducible rfl | ((conv => whnf); first | (with_reducible exact trivial) | ((with_reducible refine and_ff ?_ ?_); · exact rfl) | ((with_reducible refine and_tt ?_ ?_); · exact rfl) | (with_reducible refine And.intro ?_ ?_) | intro _ | (with_reducible refine fin2 hk ?_) | ((with_reducible refine eq_leaf ?_); exact rfl) | exact trivial))
    all_goals first | exact Nat.zero_le _ | (delta cntB; rfl) | (delta cntB; exact Nat.le_refl _) | skip
  obtain ⟨hkv, hcn⟩ := hK
  have hkv : k ≤ visitsN t := hkv
  have hcn : cntB (fun k => decide (visN t k 0 = (i : Int))) k ≤ k := hcn
  conv => whnf
  refine ⟨fun g3 => ?_, fun g3 => ?_⟩
  · have hkl : k < visitsN t := by have := of_decide_eq_true g3; omega
    repeat' (first | ((with_reducible refine kok ?_); kernel_rfl) | ((with_reducible refine keq_mk ?_); kernel_rfl) | with_reducible rfl | ((conv => whnf); first | (with_reducible exact trivial) | ((with_reducible refine and_ff ?_ ?_); · exact rfl) | ((with_reducible refine and_tt ?_ ?_); · exact rfl) | (with_reducible refine And.intro ?_ ?_) | intro _ | (with_reducible refine fin2 hk ?_) | ((with_reducible refine eq_leaf ?_); exact rfl) | exact trivial))
    all_goals try (clear hk; (first | with_reducible refine (?_ : (_ : Int) ≤ _) | with_reducible refine (?_ : (_ : Int) < _)); simp only [taskOf_agg, ↓Bool.not_eq_true', ↓Bool.not_eq_false', ↓decT, ↓decF, out_true, out_false, isin_true, isin_false, Int.toNat_natCast, Int.ofNat_lt, Nat.zero_add, Nat.add_zero, Nat.reduceAdd] at *; omega)
    · rename_i q
      have cs : cntB (fun k => decide (visN t k 0 = (i : Int))) (k + 1) = cntB (fun k => decide (visN t k 0 = (i : Int))) k + 1 := by
        delta cntB
        show _ + (if _ then 1 else 0) = _
        rw [if_pos (by exact q)]
      clear hk
      conv => whnf
      refine ⟨k + 1, ?_⟩
      repeat' (first | ((with_reducible refine kok ?_); kernel_rfl) | ((with_reducible refine keq_mk ?_); kernel_rfl) | with_reducible rfl | ((conv => whnf); first | (with_reducible exact trivial) | ((with_reducible refine and_ff ?_ ?_); · exact rfl) | ((with_reducible refine and_tt ?_ ?_); · exact rfl) | (with_reducible refine And.intro ?_ ?_) | intro _ | (with_reducible refine fin2 hk ?_) | ((with_reducible refine eq_leaf ?_); exact rfl) | exact trivial))
      · rw [cs]; rfl
      · show k + 1 ≤ _
        omega
      · omega
      · show _ - (k + 1) < _ - k
        omega
    · rename_i q
      have cs : cntB (fun k => decide (visN t k 0 = (i : Int))) (k + 1) = cntB (fun k => decide (visN t k 0 = (i : Int))) k := by
        delta cntB
        show _ + (if _ then 1 else 0) = _
        rw [if_neg (fun g => by have g : decide (visN t k 0 = (i : Int)) = true := g; rw [show decide (visN t k 0 = (i : Int)) = false from q] at g; cases g)]
        rfl
      clear hk
      conv => whnf
      refine ⟨k + 1, ?_⟩
      repeat' (first | ((with_reducible refine kok ?_); kernel_rfl) | ((with_reducible refine keq_mk ?_); kernel_rfl) | with_reducible rfl | ((conv => whnf); first | (with_reducible exact trivial) | ((with_reducible refine and_ff ?_ ?_); · exact rfl) | ((with_reducible refine and_tt ?_ ?_); · exact rfl) | (with_reducible refine And.intro ?_ ?_) | intro _ | (with_reducible refine fin2 hk ?_) | ((with_reducible refine eq_leaf ?_); exact rfl) | exact trivial))
      · rw [cs]
      · show k + 1 ≤ _
        omega
      · omega
      · show _ - (k + 1) < _ - k
        omega
  · have hke : k = nVis t := by have := of_decide_eq_false g3; omega
    have hn : cntB (fun k => decide (visN t k 0 = (i : Int))) k = if near t i then 1 else 0 := by rw [hke]; exact EC
    have hn1 : cntB (fun k => decide (visN t k 0 = (i : Int))) k ≤ 1 := by rw [hn]; split <;> omega
    obtain ⟨C1, C2⟩ := C
    repeat' (first | ((with_reducible refine kok ?_); kernel_rfl) | ((with_reducible refine keq_mk ?_); kernel_rfl) | with_reducible rfl | ((conv => whnf); first | (with_reducible exact trivial) | ((with_reducible refine and_ff ?_ ?_); · exact rfl) | ((with_reducible refine and_tt ?_ ?_); · exact rfl) | (with_reducible refine And.intro ?_ ?_) | intro _ | (with_reducible refine fin2 hk ?_) | ((with_reducible refine eq_leaf ?_); exact rfl) | exact trivial))
    all_goals try exact hf _ (by assumption)
    all_goals try (clear hk; (first | with_reducible refine (?_ : (_ : Int) ≤ _) | with_reducible refine (?_ : (_ : Int) < _)); first | (simp only [taskOf_agg, ↓Bool.not_eq_true', ↓Bool.not_eq_false', ↓decT, ↓decF, out_true, out_false, isin_true, isin_false, Int.toNat_natCast, Int.ofNat_lt, Nat.zero_add, Nat.add_zero, Nat.reduceAdd, Nat.zero_add, m0, m1, m2, m3] at C1 C2 ⊢; omega) | (simp only [rtOf_agg, taskOf_agg, ↓Bool.not_eq_true', ↓Bool.not_eq_false', ↓decT, ↓decF, out_true, out_false, isin_true, isin_false, Int.toNat_natCast, Int.ofNat_lt, Nat.zero_add, Nat.add_zero, Nat.reduceAdd, F, Nat.zero_add] at *; omega))
    all_goals try (exfalso; clear hk; simp only [rtOf_agg, taskOf_agg, ↓Bool.not_eq_true', ↓Bool.not_eq_false', ↓decT, ↓decF, out_true, out_false, isin_true, isin_false, Int.toNat_natCast, Int.ofNat_lt, Nat.zero_add, Nat.add_zero, Nat.reduceAdd, Int.toNat_zero, Int.reduceToNat, ↓reduceIte, reduceCtorEq, Bool.or_eq_true, Bool.or_eq_false_iff, Bool.and_eq_true, Bool.and_eq_false_iff, F, OP, Nat.zero_add, not_true_eq_false] at *; done)
    all_goals try (
      exfalso
      clear hk
      simp only [rtOf_agg, taskOf_agg, ↓Bool.not_eq_true', ↓Bool.not_eq_false', ↓decT, ↓decF, out_true, out_false, isin_true, isin_false, Int.toNat_natCast, Int.ofNat_lt, Nat.zero_add, Nat.add_zero, Nat.reduceAdd, Int.toNat_zero, Int.reduceToNat, ↓reduceIte, reduceCtorEq, Bool.or_eq_true, Bool.or_eq_false_iff, Bool.and_eq_true, Bool.and_eq_false_iff, F, OP, Nat.zero_add] at *
      by_cases q : near t i
      · rw [if_pos q] at hn
        unfold near at q
        omega
      · rw [if_neg q] at hn
        unfold near at q
        omega)
    all_goals (
      clear hk
      conv => whnf
      refine ⟨i + 1, ?_⟩
      repeat' (first | ((with_reducible refine kok ?_); kernel_rfl) | ((with_reducible refine keq_mk ?_); kernel_rfl) | with_reducible rfl | ((conv => whnf); first | (with_reducible exact trivial) | ((with_reducible refine and_ff ?_ ?_); · exact rfl) | ((with_reducible refine and_tt ?_ ?_); · exact rfl) | (with_reducible refine And.intro ?_ ?_) | intro _ | (with_reducible refine fin2 hk ?_) | ((with_reducible refine eq_leaf ?_); exact rfl) | exact trivial))
      · show i + 1 ≤ _
        omega
      · show _ - (i + 1) < _ - i
        omega)
end Go.Proofs.Ytcnecjkcmjgakaa
end
section
set_option linter.unusedVariables false
set_option linter.unusedSimpArgs false
set_option maxRecDepth 100000
set_option maxHeartbeats 4000000
namespace Go.Proofs.Ytcnecjkcmjgakaa
open Go.V
def rLPlans : List V.D → Option (Prop × V.D) := fun ds => match ds with
  | [d] => some (RtIs d ∧ (rtOf d).fits, .tt)
  | _ => none
noncomputable def lr53 : Lib := (40, mk rCoversP) :: lr52
theorem lr53_ok : LibOK Go.Proofs.Try.prog lr53 := .cons covers_ok lr52_ok
/-- What the search's plan says of each visit, as the law has it. -/
theorem plan_at {t : RTask} (g1 : (checkR t).2.2 = 0) {k : Nat} (hk : k < nVis t) :
    (-1 ≤ visN t k 0 ∧ visN t k 0 < (cellsM t : Int)) ∧ flightT t (spX t (simS t k).c) (spY t (simS t k).c) (spX t (visN t k 0)) (spY t (visN t k 0)) = (flC t (simS t k).c (visN t k 0), 0) ∧
    (0 ≤ flC t (simS t k).c (visN t k 0) ∧ flC t (simS t k).c (visN t k 0) ≤ 402000000) ∧ (0 ≤ (simS t k).u ∧ (simS t k).u ≤ 500000000) ∧
    (visN t k 1 = (simS t k).u + flC t (simS t k).c (visN t k 0) ∨ 0 ≤ visN t k 0 ∧ visN t k 1 = opC t (visN t k 0)) ∧ (simS t k).u + flC t (simS t k).c (visN t k 0) ≤ visN t k 1 ∧
    spX t (simS t (k + 1)).c = spX t (visN t k 0) ∧ spY t (simS t (k + 1)).c = spY t (visN t k 0) ∧ (simS t (k + 1)).u = visN t k 2 := by
  have hok := rt_ok g1
  obtain ⟨hs, _⟩ := far_at hok k (by omega)
  have B := best_lt (t := t) (s := simS t k)
  have fl := flC_in hok (a := (simS t k).c) (b := bestS t (simS t k)) hs.c.2 B.2
  have s1 := spot_sp hok (c := (simS t k).c) hs.c.2
  have s2 := spot_sp hok (c := bestS t (simS t k)) B.2
  unfold spot at s1 s2
  have v0 : visN t k 0 = bestS t (simS t k) := rfl
  have e1 : visN t k 1 = if bestS t (simS t k) < 0 then (simS t k).u + flC t (simS t k).c (bestS t (simS t k)) else max ((simS t k).u + flC t (simS t k).c (bestS t (simS t k))) (opC t (bestS t (simS t k))) := rfl
  have mu := (going_all hok).1.mu
  have hM := cellsL_len hok
  have hcm : cellsM t = (cellsL t).length := rfl
  have hu := hs.u
  have ec : (simS t (k + 1)).c = if bestS t (simS t k) < 0 then -1 else bestS t (simS t k) := rfl
  have esp : (simS t (k + 1)).c = bestS t (simS t k) := by
    rw [ec]
    split
    · exact (best_neg (by assumption)).symm
    · rfl
  rw [v0, esp]
  refine ⟨B, flight_ok g1 s1.1 s1.2 s2.1 s2.2, fl, ⟨hu.1, by omega⟩, ?_, ?_, rfl, rfl, rfl⟩
  · split at e1
    · exact .inl e1
    · omega
  · split at e1 <;> omega
theorem plan_end {t : RTask} (g1 : (checkR t).2.2 = 0) : 2 * cntB (fun k => decide (visN t k 0 < 0)) (nVis t) ≤ nVis t ∧ (nVis t = 0 ∨ visN t (nVis t - 1) 0 = -1) := by
  have hok := rt_ok g1
  have b := base_cnt hok (nVis t) (Nat.le_refl _)
  obtain ⟨g, h2⟩ := going_all hok
  refine ⟨by split at b <;> omega, ?_⟩
  by_cases h : nVis t = 0
  · exact .inl h
  · right
    have hc : (endS t).c < 0 := by
      have h2 : stopB t (endS t) = true := h2
      simp only [stopB, Bool.and_eq_true, decide_eq_true_eq] at h2
      exact h2.1
    have e : endS t = simS t (nVis t - 1 + 1) := by rw [show nVis t - 1 + 1 = nVis t by omega]; rfl
    rw [e] at hc
    have ec : (simS t (nVis t - 1 + 1)).c = if bestS t (simS t (nVis t - 1)) < 0 then -1 else bestS t (simS t (nVis t - 1)) := rfl
    have v0 : visN t (nVis t - 1) 0 = bestS t (simS t (nVis t - 1)) := rfl
    rw [v0]
    by_cases q : bestS t (simS t (nVis t - 1)) < 0
    · exact best_neg q
    · rw [ec, if_neg q] at hc
      omega
attribute [local irreducible] checkR cellsN cellM cellsL goneB manyS visitsN leftsN leftsL leftM visN visAt flightT cntB opC flC spX spY
theorem lawPlans_ok : PSound Go.Proofs.Try.prog 12 (mk rLPlans) := by
  refine psound_mk Try.func12 (by kernel_rfl) rfl (ctx lr53_ok) ?_
  (intro ds p d h; unfold rLPlans at h; split at h <;> first | (cases h; done) | skip; cases h; refine ⟨Nat.le_of_ble_eq_true rfl, fun hp k hk => ?_⟩)
  rename_i d
  obtain ⟨ht, hf⟩ := hp
  refine ⟨[(rtOf d).D], rt_imp ht ?_⟩
  clear ht
  generalize rtOf d = t at *
  have hN0 : (checkR t).2.2 ≠ 0 → visitsN t = 0 ∧ leftsN t = 0 := fun h => ⟨by delta visitsN; exact if_neg h, by delta leftsN; exact if_neg h⟩
  repeat' (first | ((with_reducible refine kok ?_); kernel_rfl) | ((with_reducible refine keq_mk ?_); kernel_rfl) | with_reducible rfl | ((conv => whnf); first | (with_reducible exact trivial) | ((with_reducible refine and_ff ?_ ?_); · exact rfl) | ((with_reducible refine and_tt ?_ ?_); · exact rfl) | (with_reducible refine And.intro ?_ ?_) | intro _ | (with_reducible refine fin2 hk ?_) | ((with_reducible refine eq_leaf ?_); exact rfl) | exact trivial))
  all_goals try exact hf _ (by assumption)
  · exfalso
    rename_i q1 q2 q3
    have q1 : (checkR t).2.2 ≠ 0 := of_decide_eq_false ((Bool.not_eq_true' _).mp q1)
    exact of_decide_eq_false q3 (by have := (hN0 q1).2; exact Int.ofNat_eq_zero.2 this)
  · exfalso
    rename_i q1 q3
    have q1 : (checkR t).2.2 ≠ 0 := of_decide_eq_false ((Bool.not_eq_true' _).mp q1)
    exact of_decide_eq_false q3 (by have := (hN0 q1).1; exact Int.ofNat_eq_zero.2 this)
  · exfalso
    rename_i q1 q2
    exact absurd ((Bool.not_eq_true' _).mp q2) (by rw [(Bool.not_eq_false' _).mp q1]; decide)
  · exfalso
    rename_i q1 q2 q3
    exact absurd ((Bool.not_eq_true' _).mp q3) (by rw [(Bool.not_eq_false' _).mp q1]; decide)
  · rename_i q1 q2 q3
    exact of_decide_eq_true ((Bool.not_eq_false' _).mp q1)
  rename_i q1 q2 q3
  have g1 : (checkR t).2.2 = 0 := of_decide_eq_true ((Bool.not_eq_false' _).mp q1)
  clear q1 q2 q3 hN0
  have hok := rt_ok g1
  have hM := cellsL_len hok
  have hV := visits_le g1
  have hN : cellsN t = cellsM t := by delta cellsN; exact if_pos g1
  have hNV : visitsN t = nVis t := by delta visitsN; exact if_pos g1
  have hcm : cellsM t = (cellsL t).length := rfl
  have s0 : spX t (simS t 0).c = t.bx ∧ spY t (simS t 0).c = t.bz := by delta spX spY; exact ⟨rfl, rfl⟩
  obtain ⟨PE1, PE2⟩ := plan_end g1
  conv => whnf
  refine ⟨Nat, fun i => [(1, .ptr 0 0), (3, .ptr 1 0), (6, .rsl 5 (cellsN t) (imD (cellM t (cellsL t)))), (8, .int .i64 (cntB (fun k => decide (visN t k 0 < 0)) i : Nat)), (9, .ptr 2 0), (10, .int .i64 (simS t i).u), (11, .int .i64 i)],
    fun i => [some (.row t.cells), some (.row [.rsl 3 (visitsN t) (imD (visN t)), .rsl 2 (leftsN t) (imD (leftM t (leftsL t)))]), some (.row [.int .i64 (spX t (simS t i).c), .int .i64 (spY t (simS t i).c)]), none],
    fun i => visitsN t - i, fun i => i ≤ visitsN t ∧ cntB (fun k => decide (visN t k 0 < 0)) i ≤ i, [], 0, fun _ => ⟨rfl, rfl⟩, ?_, fun i hI => ?_⟩
  · clear hk
    repeat' (first | ((with_reducible refine kok ?_); kernel_rfl) | ((with_reducible refine keq_mk ?_); kernel_rfl) | with_reducible rfl | ((conv => whnf); first | (with_reducible exact trivial) | ((with_reducible refine and_ff ?_ ?_); · exact rfl) | ((with_reducible refine and_tt ?_ ?_); · exact rfl) | (with_reducible refine And.intro ?_ ?_) | intro _ | (with_reducible refine fin2 hk ?_) | ((with_reducible refine eq_leaf ?_); exact rfl) | exact trivial))
    all_goals first | exact Nat.zero_le _ | exact s0.1.symm | exact s0.2.symm | (delta cntB; rfl) | (delta cntB; exact Nat.le_refl _) | skip
  obtain ⟨hi, hcn⟩ := hI
  have hi : i ≤ visitsN t := hi
  have hcn : cntB (fun k => decide (visN t k 0 < 0)) i ≤ i := hcn
  conv => whnf
  refine ⟨fun g2 => ?_, fun g2 => ?_⟩
  · have hlt : i < nVis t := by have := of_decide_eq_true g2; omega
    obtain ⟨P1, P2, P3, P4, P5, P6, P7, P8, P9⟩ := plan_at g1 hlt
    have X0 : visN t i 0 < 0 → spX t (visN t i 0) = t.bx ∧ spY t (visN t i 0) = t.bz := fun h => by delta spX spY; exact ⟨if_pos h, if_pos h⟩
    have X1 : ¬ visN t i 0 < 0 → spX t (visN t i 0) = (cellM t (cellsL t) (visN t i 0).toNat 0 + cellM t (cellsL t) (visN t i 0).toNat 1) / 2 ∧ spY t (visN t i 0) = (cellM t (cellsL t) (visN t i 0).toNat 2 + cellM t (cellsL t) (visN t i 0).toNat 3) / 2 := fun h => by delta spX spY cellM; exact ⟨if_neg h, if_neg h⟩
    have OP : cellM t (cellsL t) (visN t i 0).toNat 4 = opC t (visN t i 0) := by delta cellM opC; rfl
    have CI : ¬ visN t i 0 < 0 → (-100000000 ≤ cellM t (cellsL t) (visN t i 0).toNat 0 ∧ cellM t (cellsL t) (visN t i 0).toNat 0 ≤ 100000000) ∧ (-100000000 ≤ cellM t (cellsL t) (visN t i 0).toNat 1 ∧ cellM t (cellsL t) (visN t i 0).toNat 1 ≤ 100000000) ∧ (-100000000 ≤ cellM t (cellsL t) (visN t i 0).toNat 2 ∧ cellM t (cellsL t) (visN t i 0).toNat 2 ≤ 100000000) ∧ -100000000 ≤ cellM t (cellsL t) (visN t i 0).toNat 3 ∧ cellM t (cellsL t) (visN t i 0).toNat 3 ≤ 100000000 := fun h => by
      obtain ⟨C1, C2⟩ := cell_in hok (cellsL_get (t := t) (i := (visN t i 0).toNat) (by omega))
      have hx := hok.ax
      have hy := hok.ay
      delta cellM
      refine ⟨?_, ?_, ?_, ?_⟩
      · show -100000000 ≤ cxl t _ ∧ cxl t _ ≤ 100000000
        omega
      · show -100000000 ≤ cxh t _ ∧ cxh t _ ≤ 100000000
        omega
      · show -100000000 ≤ cyl t _ ∧ cyl t _ ≤ 100000000
        omega
      · show -100000000 ≤ cyh t _ ∧ cyh t _ ≤ 100000000
        omega
    have cS : cntB (fun k => decide (visN t k 0 < 0)) (i + 1) = cntB (fun k => decide (visN t k 0 < 0)) i + if visN t i 0 < 0 then 1 else 0 := by
      delta cntB
      show _ + (if decide (visN t i 0 < 0) = true then 1 else 0) = _
      simp only [decide_eq_true_eq]
    by_cases hc : visN t i 0 < 0
    · have F : flightT t (spX t (simS t i).c) (spY t (simS t i).c) t.bx t.bz = (flC t (simS t i).c (visN t i 0), 0) := by
        rw [← (X0 hc).1, ← (X0 hc).2]; exact P2
      rw [if_pos hc] at cS
      repeat' (first | ((with_reducible refine kok ?_); kernel_rfl) | ((with_reducible refine keq_mk ?_); kernel_rfl) | with_reducible rfl | ((conv => whnf); first | (with_reducible exact trivial) | ((with_reducible refine and_ff ?_ ?_); · exact rfl) | ((with_reducible refine and_tt ?_ ?_); · exact rfl) | (with_reducible refine And.intro ?_ ?_) | intro _ | (with_reducible refine fin2 hk ?_) | ((with_reducible refine eq_leaf ?_); exact rfl) | exact trivial))
      all_goals try exact hf _ (by assumption)
      all_goals try (clear hk; (first | with_reducible refine (?_ : (_ : Int) ≤ _) | with_reducible refine (?_ : (_ : Int) < _)); simp only [rtOf_agg, taskOf_agg, ↓Bool.not_eq_true', ↓Bool.not_eq_false', ↓decT, ↓decF, out_true, out_false, isin_true, isin_false, Int.toNat_natCast, Int.ofNat_lt, Nat.zero_add, Nat.add_zero, Nat.reduceAdd, F, OP, Nat.zero_add] at *; omega)
      all_goals try (exfalso; clear hk; simp only [rtOf_agg, taskOf_agg, ↓Bool.not_eq_true', ↓Bool.not_eq_false', ↓decT, ↓decF, out_true, out_false, isin_true, isin_false, Int.toNat_natCast, Int.ofNat_lt, Nat.zero_add, Nat.add_zero, Nat.reduceAdd, F, OP, Nat.zero_add, not_true_eq_false] at *; done)
      all_goals try (exfalso; clear hk; simp only [rtOf_agg, taskOf_agg, ↓Bool.not_eq_true', ↓Bool.not_eq_false', ↓decT, ↓decF, out_true, out_false, isin_true, isin_false, Int.toNat_natCast, Int.ofNat_lt, Nat.zero_add, Nat.add_zero, Nat.reduceAdd, F, OP, Nat.zero_add, not_true_eq_false] at *; omega)
      all_goals (
        clear hk
        conv => whnf
        refine ⟨i + 1, ?_⟩
        repeat' (first | ((with_reducible refine kok ?_); kernel_rfl) | ((with_reducible refine keq_mk ?_); kernel_rfl) | with_reducible rfl | ((conv => whnf); first | (with_reducible exact trivial) | ((with_reducible refine and_ff ?_ ?_); · exact rfl) | ((with_reducible refine and_tt ?_ ?_); · exact rfl) | (with_reducible refine And.intro ?_ ?_) | intro _ | (with_reducible refine fin2 hk ?_) | ((with_reducible refine eq_leaf ?_); exact rfl) | exact trivial))
        all_goals first
          | (rw [cS]; rfl)
          | exact P9.symm
          | (rw [P7]; exact (X0 hc).1.symm)
          | (rw [P8]; exact (X0 hc).2.symm)
          | (show _ + 1 ≤ _; omega)
          | (show _ - (i + 1) < _ - i; omega)
          | omega
          | skip)
    · have F : flightT t (spX t (simS t i).c) (spY t (simS t i).c) ((cellM t (cellsL t) (visN t i 0).toNat 0 + cellM t (cellsL t) (visN t i 0).toNat 1) / 2) ((cellM t (cellsL t) (visN t i 0).toNat 2 + cellM t (cellsL t) (visN t i 0).toNat 3) / 2) = (flC t (simS t i).c (visN t i 0), 0) := by
        rw [← (X1 hc).1, ← (X1 hc).2]; exact P2
      rw [if_neg hc] at cS
      obtain ⟨I0, I1, I2, I3⟩ := CI hc
      clear CI
      repeat' (first | ((with_reducible refine kok ?_); kernel_rfl) | ((with_reducible refine keq_mk ?_); kernel_rfl) | with_reducible rfl | ((conv => whnf); first | (with_reducible exact trivial) | ((with_reducible refine and_ff ?_ ?_); · exact rfl) | ((with_reducible refine and_tt ?_ ?_); · exact rfl) | (with_reducible refine And.intro ?_ ?_) | intro _ | (with_reducible refine fin2 hk ?_) | ((with_reducible refine eq_leaf ?_); exact rfl) | exact trivial))
      all_goals try exact hf _ (by assumption)
      all_goals try (clear hk; (first | with_reducible refine (?_ : (_ : Int) ≤ _) | with_reducible refine (?_ : (_ : Int) < _)); simp only [rtOf_agg, taskOf_agg, ↓Bool.not_eq_true', ↓Bool.not_eq_false', ↓decT, ↓decF, out_true, out_false, isin_true, isin_false, Int.toNat_natCast, Int.ofNat_lt, Nat.zero_add, Nat.add_zero, Nat.reduceAdd, F, OP, Nat.zero_add] at *; omega)
      all_goals try (exfalso; clear hk; simp only [rtOf_agg, taskOf_agg, ↓Bool.not_eq_true', ↓Bool.not_eq_false', ↓decT, ↓decF, out_true, out_false, isin_true, isin_false, Int.toNat_natCast, Int.ofNat_lt, Nat.zero_add, Nat.add_zero, Nat.reduceAdd, F, OP, Nat.zero_add, not_true_eq_false] at *; done)
      all_goals try (exfalso; clear hk; simp only [rtOf_agg, taskOf_agg, ↓Bool.not_eq_true', ↓Bool.not_eq_false', ↓decT, ↓decF, out_true, out_false, isin_true, isin_false, Int.toNat_natCast, Int.ofNat_lt, Nat.zero_add, Nat.add_zero, Nat.reduceAdd, F, OP, Nat.zero_add, not_true_eq_false] at *; omega)
      all_goals (
        clear hk
        conv => whnf
        refine ⟨i + 1, ?_⟩
        repeat' (first | ((with_reducible refine kok ?_); kernel_rfl) | ((with_reducible refine keq_mk ?_); kernel_rfl) | with_reducible rfl | ((conv => whnf); first | (with_reducible exact trivial) | ((with_reducible refine and_ff ?_ ?_); · exact rfl) | ((with_reducible refine and_tt ?_ ?_); · exact rfl) | (with_reducible refine And.intro ?_ ?_) | intro _ | (with_reducible refine fin2 hk ?_) | ((with_reducible refine eq_leaf ?_); exact rfl) | exact trivial))
        all_goals first
          | (rw [cS]; rfl)
          | exact P9.symm
          | (rw [P7]; exact (X1 hc).1.symm)
          | (rw [P8]; exact (X1 hc).2.symm)
          | (show _ + 1 ≤ _; omega)
          | (show _ - (i + 1) < _ - i; omega)
          | omega
          | skip)
  · have hie : i = nVis t := by have := of_decide_eq_false g2; omega
    have hpr : (((visitsN t : Nat) : Int) - 1).toNat = nVis t - 1 := by omega
    have E1 : 2 * cntB (fun k => decide (visN t k 0 < 0)) i ≤ nVis t := by rw [hie]; exact PE1
    repeat' (first | ((with_reducible refine kok ?_); kernel_rfl) | ((with_reducible refine keq_mk ?_); kernel_rfl) | with_reducible rfl | ((conv => whnf); first | (with_reducible exact trivial) | ((with_reducible refine and_ff ?_ ?_); · exact rfl) | ((with_reducible refine and_tt ?_ ?_); · exact rfl) | (with_reducible refine And.intro ?_ ?_) | intro _ | (with_reducible refine fin2 hk ?_) | ((with_reducible refine eq_leaf ?_); exact rfl) | exact trivial))
    all_goals try (clear hk; (first | with_reducible refine (?_ : (_ : Int) ≤ _) | with_reducible refine (?_ : (_ : Int) < _)); simp only [taskOf_agg, ↓Bool.not_eq_true', ↓Bool.not_eq_false', ↓decT, ↓decF, out_true, out_false, isin_true, isin_false, Int.toNat_natCast, Int.ofNat_lt, Nat.zero_add, Nat.add_zero, Nat.reduceAdd] at *; omega)
    all_goals try (exfalso; clear hk; simp only [taskOf_agg, ↓Bool.not_eq_true', ↓Bool.not_eq_false', ↓decT, ↓decF, out_true, out_false, isin_true, isin_false, Int.toNat_natCast, Int.ofNat_lt, Nat.zero_add, Nat.add_zero, Nat.reduceAdd, hpr, Nat.zero_add] at *; omega)
end Go.Proofs.Ytcnecjkcmjgakaa
end
section
set_option linter.unusedVariables false
set_option linter.unusedSimpArgs false
set_option maxRecDepth 100000
namespace Go.Proofs.Ytcnecjkcmjgakaa
open Go.V

theorem recoverPlans_lifted (os : Os) (started : os.Started) (H : Type) (enc : TypeId × Value → H) :
    ReturnsInHanded {} Try.checked os 12 .any (Rows.recoverPlansSpec.pre6 enc Go.Proofs.Try.prog Try.f12 Rows.recoverPlansRow.domain false) (Rows.recoverPlansSpec.post enc Go.Proofs.Try.prog Try.f12 false Rows.recoverPlansRow.fresh Rows.recoverPlansRow.handsOn Rows.recoverPlansRow.again) := by
  refine returnsInHanded_of_change (C := Try.checked) own started (by kernel_rfl) Try.func12
    (ChangeSpec.witness6 (enc := enc) (C := Try.checked) false ⟨#[], #[.agg #[.int .i64 0, .int .i64 0, .int .i64 0, .int .i64 0, .int .i64 0, .slice none 0 0, .slice none 0 0, .int .i64 0, .int .i64 0, .int .i64 0, .int .i64 0, .int .i64 0, .int .i64 0, .int .i64 0]], []⟩ 8 (by kernel_rfl) (by kernel_rfl) (by kernel_rfl) (by kernel_rfl)) ?_
  intro W base args ds gs before hok hW _ _
  refine law_contract (l := [rtK]) (tb := 4) laid_ok lawPlans_ok (by kernel_rfl) (by kernel_rfl) rfl tbool (fun ds h => ?_) rfl (fun ds hd => ?_) W base args ds gs before hok hW
  · obtain ⟨d, rfl, h1⟩ := isAL1 h
    exact ⟨_, _, rfl, rt_of_kinds h1, .inl rfl⟩
  · match ds, hd with
    | [a], _ => exact ⟨rfl, rfl, rfl⟩
theorem recoverPlans_holds : Rows.RecoverPlansSaid :=
  OpenClaim.holds_of_wide 12 Try.f12 rfl rfl rfl rfl rfl rfl rfl ⟨rfl, rfl, rfl, rfl, rfl⟩ rfl rfl rfl rfl rfl (by kernel_rfl) Try.func12 (by kernel_rfl)
    (of_decide_eq_true (by kernel_rfl)) (by unfold Func.isWrapper; first | (rw [if_pos (by decide +kernel)]; kernel_rfl) | (rw [if_neg (by decide +kernel)]; exact ⟨rfl, rfl⟩))
    (fun os started H enc _ => recoverPlans_lifted os started H enc)
#print axioms recoverPlans_holds
end Go.Proofs.Ytcnecjkcmjgakaa
end
