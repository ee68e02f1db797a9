/-
  Contracts of the recovery: fixes that rule out; when an area opens.
-/
import Derived.Test.YtphcblofacfkaaaGreatMl
set_option linter.unusedVariables false
set_option linter.unusedSimpArgs false
set_option maxRecDepth 100000
set_option maxHeartbeats 4000000
section
namespace Go.Proofs.YtphcblofacfkaaaGreat
open Go.V
attribute [local irreducible] ruledB fixB checkR
def eFour (e : Nat → V.D) : Prop := e 0 = .int .i64 (toI (e 0)) ∧ e 1 = .int .i64 (toI (e 1)) ∧ e 2 = .int .i64 (toI (e 2)) ∧ e 3 = .int .i64 (toI (e 3))
def four (a b c d : Int) (j : Nat) : V.D := .int .i64 ([a, b, c, d].getD j 0)
def rCells1 : List V.D → Option (Prop × V.D) := fun ds => match ds with
  | [.agg [.int .i64 a, .int .i64 b, .int .i64 c, .int .i64 d, .int .i64 f], .eptr 4 e] => some (eFour e ∧ fixB a b c d f = true ∧ (spot (toI (e 0)) ∧ spot (toI (e 1))) ∧ spot (toI (e 2)) ∧ spot (toI (e 3)), .bool (ruledB a b c d f (toI (e 0)) (toI (e 1)) (toI (e 2)) (toI (e 3))))
  | _ => none
noncomputable def lr13 : Lib := (60, mk rRuled) :: lr11
theorem lr13_ok : LibOK Go.Proofs.Tryz.prog lr13 := .cons rRuled_ok lr11_ok
theorem cells1_ok : PSound Go.Proofs.Tryz.prog 59 (mk rCells1) := by
  refine psound_mk Tryz.func59 (by kernel_rfl) rfl (ctx lr13_ok) ?_
  (intro ds p d h; unfold rCells1 at h; split at h <;> first | (cases h; done) | skip; cases h; refine ⟨Nat.le_of_ble_eq_true rfl, fun hp k hk => ?_⟩)
  rename_i a b c d f g
  obtain ⟨⟨g0, g1, g2, g3⟩, h1, ⟨h2, h3⟩, h4, h5⟩ := hp
  generalize toI (g 0) = xl at *
  generalize toI (g 1) = xh at *
  generalize toI (g 2) = yl at *
  generalize toI (g 3) = yh at *
  refine ⟨[.agg [.int .i64 a, .int .i64 b, .int .i64 c, .int .i64 d, .int .i64 f], .eptr 4 (four xl xh yl yh)], rfl, rfl, rfl, rfl, rfl, rfl, fun j hj => ?_, ?_⟩
  · have : j = 0 ∨ j = 1 ∨ j = 2 ∨ j = 3 := by omega
    rcases this with rfl | rfl | rfl | rfl
    · exact g0
    · exact g1
    · exact g2
    · exact g3
  clear g0 g1 g2 g3
  unfold spot at h2 h3 h4 h5
  repeat' (first | ((with_reducible refine kok ?_); kernel_rfl) | ((with_reducible refine keq_mk ?_); kernel_rfl) | with_reducible rfl | ((conv => whnf); first | (with_reducible exact trivial) | ((with_reducible refine and_ff ?_ ?_); · exact rfl) | ((with_reducible refine and_tt ?_ ?_); · exact rfl) | (with_reducible refine And.intro ?_ ?_) | intro _ | (with_reducible refine fin2 hk ?_) | ((with_reducible refine eq_leaf ?_); exact rfl) | exact trivial))
  all_goals first
    | exact h1
    | (show _ ≤ _; simp only [four, Nat.zero_add, Nat.reduceAdd, List.getD_cons_zero, List.getD_cons_succ]; omega)
noncomputable def lr14 : Lib := (59, mk rCells1) :: lr13
theorem lr14_ok : LibOK Go.Proofs.Tryz.prog lr14 := .cons cells1_ok lr13_ok
def outB (a : Nat → Nat → Int) (xl xh yl yh : Int) (i : Nat) : Bool := ruledB (a i 0) (a i 1) (a i 2) (a i 3) (a i 4) xl xh yl yh
def fixOK (a : Nat → Nat → Int) (i : Nat) : Prop := fixB (a i 0) (a i 1) (a i 2) (a i 3) (a i 4) = true
def rIdxFix : List V.D → Option (Prop × V.D) := fun ds => match ds with
  | [.rsl 5 n g, .fn 59 [] [.eptr 4 e]] => some ((IM n 5 g ∧ n ≤ 1099511627776 ∧ ∀ i, i < n → fixOK (im g) i) ∧ eFour e ∧ (spot (toI (e 0)) ∧ spot (toI (e 1))) ∧ spot (toI (e 2)) ∧ spot (toI (e 3)),
      .int .i64 (firstFrom (outB (im g) (toI (e 0)) (toI (e 1)) (toI (e 2)) (toI (e 3))) 0 n))
  | _ => none
theorem idxFix_ok : PSound Go.Proofs.Tryz.prog 89 (mk rIdxFix) := by
  refine psound_mk Tryz.func89 (by kernel_rfl) rfl (ctx lr14_ok) ?_
  (intro ds p d h; unfold rIdxFix at h; split at h <;> first | (cases h; done) | skip; cases h; refine ⟨Nat.le_of_ble_eq_true rfl, fun hp k hk => ?_⟩)
  rename_i n g e
  obtain ⟨⟨h1, h2, h3⟩, he, hs⟩ := hp
  refine ⟨[.rsl 5 n (imD (im g)), .fn 59 [] [.eptr 4 e]], rfl, h1, ?_⟩
  clear h1
  generalize im g = a at *
  obtain ⟨g0, g1, g2, g3⟩ := he
  have H0 : toI (e 0) = toI (e 0) := rfl
  have H1 : toI (e 1) = toI (e 1) := rfl
  have H2 : toI (e 2) = toI (e 2) := rfl
  have H3 : toI (e 3) = toI (e 3) := rfl
  generalize hxl : toI (e 0) = xl at *
  generalize hxh : toI (e 1) = xh at *
  generalize hyl : toI (e 2) = yl at *
  generalize hyh : toI (e 3) = yh at *
  clear H0 H1 H2 H3
  obtain ⟨⟨s0, s1⟩, s2, s3⟩ := hs
  unfold spot at s0 s1 s2 s3
  generalize hS : firstFrom (outB a xl xh yl yh) 0 n = c at *
  repeat' (first | ((with_reducible refine kok ?_); kernel_rfl) | ((with_reducible refine keq_mk ?_); kernel_rfl) | with_reducible rfl | ((conv => whnf); first | (with_reducible exact trivial) | ((with_reducible refine and_ff ?_ ?_); · exact rfl) | ((with_reducible refine and_tt ?_ ?_); · exact rfl) | (with_reducible refine And.intro ?_ ?_) | intro _ | (with_reducible refine fin2 hk ?_) | ((with_reducible refine eq_leaf ?_); exact rfl) | exact trivial))
  conv => whnf
  refine ⟨Nat, fun i => [(0, .rsl 5 n (imD a)), (1, .fn 59 [] [.eptr 4 e]), (7, .int .i64 n), (8, .int .i64 i)], fun _ => [], fun i => n - i, fun i => i ≤ n ∧ c = firstFrom (outB a xl xh yl yh) i (n - i), [], 0, fun _ => ⟨rfl, rfl⟩, ?_, fun i hI => ?_⟩
  · clear hk
    repeat' (first | ((with_reducible refine kok ?_); kernel_rfl) | ((with_reducible refine keq_mk ?_); kernel_rfl) | with_reducible rfl | ((conv => whnf); first | (with_reducible exact trivial) | ((with_reducible refine and_ff ?_ ?_); · exact rfl) | ((with_reducible refine and_tt ?_ ?_); · exact rfl) | (with_reducible refine And.intro ?_ ?_) | intro _ | (with_reducible refine fin2 hk ?_) | ((with_reducible refine eq_leaf ?_); exact rfl) | exact trivial))
    · exact Nat.zero_le n
    · exact hS.symm
  obtain ⟨hi, hc⟩ := hI
  have hi : i ≤ n := hi
  have hc : c = firstFrom (outB a xl xh yl yh) i (n - i) := hc
  clear hS
  have h3i := h3 i
  repeat' (first | ((with_reducible refine kok ?_); kernel_rfl) | ((with_reducible refine keq_mk ?_); kernel_rfl) | with_reducible rfl | ((conv => whnf); first | (with_reducible exact trivial) | ((with_reducible refine and_ff ?_ ?_); · exact rfl) | ((with_reducible refine and_tt ?_ ?_); · exact rfl) | (with_reducible refine And.intro ?_ ?_) | intro _ | (with_reducible refine fin2 hk ?_) | ((with_reducible refine eq_leaf ?_); exact rfl) | exact trivial))
  all_goals try ((with_reducible refine (?_ : (_ : V.D) = _)); first | (rw [hxl]; exact g0) | (rw [hxh]; exact g1) | (rw [hyl]; exact g2) | (rw [hyh]; exact g3))
  all_goals try ((first | with_reducible refine (?_ : (_ : Int) ≤ _) | with_reducible refine (?_ : (_ : Int) < _)); clear hk hc; simp only [taskOf_agg, ↓Bool.not_eq_true', ↓Bool.not_eq_false', ↓decT, ↓decF, out_true, out_false, isin_true, isin_false, Int.toNat_natCast, Int.ofNat_lt, Nat.zero_add, Nat.add_zero, Nat.reduceAdd, hxl, hxh, hyl, hyh] at *; omega)
  · simp only [taskOf_agg, ↓Bool.not_eq_true', ↓Bool.not_eq_false', ↓decT, ↓decF, out_true, out_false, isin_true, isin_false, Int.toNat_natCast, Int.ofNat_lt, Nat.zero_add, Nat.add_zero, Nat.reduceAdd] at *
    exact h3i (by assumption)
  · rename_i g1' g2'
    clear hk
    simp only [taskOf_agg, ↓Bool.not_eq_true', ↓Bool.not_eq_false', ↓decT, ↓decF, out_true, out_false, isin_true, isin_false, Int.toNat_natCast, Int.ofNat_lt, Nat.zero_add, Nat.add_zero, Nat.reduceAdd, hxl, hxh, hyl, hyh] at g1' g2'
    rw [firstFrom_step g1', if_pos (by rw [outB]; exact g2')] at hc
    exact hc.symm
  · rename_i g1' g2'
    clear hk
    simp only [taskOf_agg, ↓Bool.not_eq_true', ↓Bool.not_eq_false', ↓decT, ↓decF, out_true, out_false, isin_true, isin_false, Int.toNat_natCast, Int.ofNat_lt, Nat.zero_add, Nat.add_zero, Nat.reduceAdd, hxl, hxh, hyl, hyh] at g1' g2'
    rw [firstFrom_step g1', if_neg (by rw [outB, g2']; exact Bool.noConfusion)] at hc
    conv => whnf
    refine ⟨i + 1, ?_⟩
    repeat' (first | ((with_reducible refine kok ?_); kernel_rfl) | ((with_reducible refine keq_mk ?_); kernel_rfl) | with_reducible rfl | ((conv => whnf); first | (with_reducible exact trivial) | ((with_reducible refine and_ff ?_ ?_); · exact rfl) | ((with_reducible refine and_tt ?_ ?_); · exact rfl) | (with_reducible refine And.intro ?_ ?_) | intro _ | (with_reducible refine fin2 hk ?_) | ((with_reducible refine eq_leaf ?_); exact rfl) | exact trivial))
    · exact g1'
    · exact hc
    · simp only; omega
  · rename_i g1'
    clear hk
    simp only [taskOf_agg, ↓Bool.not_eq_true', ↓Bool.not_eq_false', ↓decT, ↓decF, out_true, out_false, isin_true, isin_false, Int.toNat_natCast, Int.ofNat_lt, Nat.zero_add, Nat.add_zero, Nat.reduceAdd] at g1'
    rw [firstFrom_end (by omega)] at hc
    exact hc.symm
noncomputable def lr15 : Lib := (89, mk rIdxFix) :: lr14
theorem lr15_ok : LibOK Go.Proofs.Tryz.prog lr15 := .cons idxFix_ok lr14_ok
def rAnyFix : List V.D → Option (Prop × V.D) := fun ds => match ds with
  | [.rsl 5 n g, .fn 59 [] [.eptr 4 e]] => some ((IM n 5 g ∧ n ≤ 1099511627776 ∧ ∀ i, i < n → fixOK (im g) i) ∧ eFour e ∧ (spot (toI (e 0)) ∧ spot (toI (e 1))) ∧ spot (toI (e 2)) ∧ spot (toI (e 3)),
      .bool (anyBelow (outB (im g) (toI (e 0)) (toI (e 1)) (toI (e 2)) (toI (e 3))) n))
  | _ => none
theorem anyFix_ok : PSound Go.Proofs.Tryz.prog 58 (mk rAnyFix) := by
  refine psound_mk Tryz.func58 (by kernel_rfl) rfl (ctx lr15_ok) ?_
  (intro ds p d h; unfold rAnyFix at h; split at h <;> first | (cases h; done) | skip; cases h; refine ⟨Nat.le_of_ble_eq_true rfl, fun hp k hk => ?_⟩)
  rename_i n g e
  obtain ⟨⟨h1, h2, h3⟩, ⟨g0, g1, g2, g3⟩, ⟨⟨s0, s1⟩, s2, s3⟩⟩ := hp
  refine ⟨[.rsl 5 n (imD (im g)), .fn 59 [] [.eptr 4 e]], rfl, h1, ?_⟩
  clear h1
  generalize im g = a at *
  unfold spot at s0 s1 s2 s3
  repeat' (first | ((with_reducible refine kok ?_); kernel_rfl) | ((with_reducible refine keq_mk ?_); kernel_rfl) | with_reducible rfl | ((conv => whnf); first | (with_reducible exact trivial) | ((with_reducible refine and_ff ?_ ?_); · exact rfl) | ((with_reducible refine and_tt ?_ ?_); · exact rfl) | (with_reducible refine And.intro ?_ ?_) | intro _ | (with_reducible refine fin2 hk ?_) | ((with_reducible refine eq_leaf ?_); exact rfl) | exact trivial))
  all_goals first | exact h2 | exact g0 | exact g1 | exact g2 | exact g3 | exact firstFrom_any _ _ | exact h3 _ (by assumption) | omega
noncomputable def lr16 : Lib := (58, mk rAnyFix) :: lr15
theorem lr16_ok : LibOK Go.Proofs.Tryz.prog lr16 := .cons anyFix_ok lr15_ok
end Go.Proofs.YtphcblofacfkaaaGreat
end
section
namespace Go.Proofs.YtphcblofacfkaaaGreat
open Go.V
def apartB (a : Nat → Nat → Int) (xl xh yl yh : Int) (i : Nat) : Bool := (decide (xh < a i 0) || decide (a i 1 < xl)) || (decide (yh < a i 2) || decide (a i 3 < yl))
theorem apart_true (a : Nat → Nat → Int) (xl xh yl yh : Int) (i : Nat) : (apartB a xl xh yl yh i = true) = (xh < a i 0 ∨ a i 1 < xl ∨ yh < a i 2 ∨ a i 3 < yl) := by
  simp only [apartB, Bool.or_eq_true, decide_eq_true_eq, or_assoc]
def openG (a : Nat → Nat → Int) (xl xh yl yh : Int) (i : Nat) (n : Int) : Nat → Int
  | 0 => n
  | f + 1 => if apartB a xl xh yl yh i = true then openG a xl xh yl yh (i + 1) n f else if a i 4 < 0 then -1 else openG a xl xh yl yh (i + 1) (max n (a i 4)) f
theorem openG_step {a : Nat → Nat → Int} {xl xh yl yh : Int} {i m : Nat} {n : Int} (h : i < m) : openG a xl xh yl yh i n (m - i) = if apartB a xl xh yl yh i = true then openG a xl xh yl yh (i + 1) n (m - (i + 1)) else if a i 4 < 0 then -1 else openG a xl xh yl yh (i + 1) (max n (a i 4)) (m - (i + 1)) := by
  rw [show m - i = (m - (i + 1)) + 1 by omega, openG]
theorem openG_end {a : Nat → Nat → Int} {xl xh yl yh : Int} {i m : Nat} {n : Int} (h : m ≤ i) : openG a xl xh yl yh i n (m - i) = n := by
  rw [show m - i = 0 by omega, openG]
def openS (t : RTask) (xl xh yl yh : Int) : Int := openG t.oa xl xh yl yh 0 0 t.no
def grants (t : RTask) : Prop := t.no ≤ 6 ∧ ∀ i, i < t.no → -1 ≤ t.oa i 4 ∧ t.oa i 4 ≤ 100000
def rOpen : List V.D → Option (Prop × V.D) := fun ds => match ds with
  | [d, .agg [.int .i64 xl, .int .i64 xh, .int .i64 yl, .int .i64 yh]] => some (RtIs d ∧ grants (rtOf d), .int .i64 (openS (rtOf d) xl xh yl yh))
  | _ => none
theorem open_next {a : Nat → Nat → Int} {xl xh yl yh c : Int} {i m : Nat} {n : Int} (hc : c = openG a xl xh yl yh i n (m - i)) (h : i < m) (h1 : xh < a i 0 ∨ a i 1 < xl ∨ yh < a i 2 ∨ a i 3 < yl) : c = openG a xl xh yl yh (i + 1) n (m - (i + 1)) := by
  rw [openG_step h, if_pos (by rw [apart_true]; exact h1)] at hc; exact hc
theorem open_more {a : Nat → Nat → Int} {xl xh yl yh c : Int} {i m : Nat} {n : Int} (hc : c = openG a xl xh yl yh i n (m - i)) (h : i < m) (h1 : ¬ (xh < a i 0 ∨ a i 1 < xl ∨ yh < a i 2 ∨ a i 3 < yl)) (h2 : ¬ a i 4 < 0) : c = openG a xl xh yl yh (i + 1) (max n (a i 4)) (m - (i + 1)) := by
  rw [openG_step h, if_neg (by rw [apart_true]; exact h1), if_neg h2] at hc; exact hc
theorem open_shut {a : Nat → Nat → Int} {xl xh yl yh c : Int} {i m : Nat} {n : Int} (hc : c = openG a xl xh yl yh i n (m - i)) (h : i < m) (h1 : ¬ (xh < a i 0 ∨ a i 1 < xl ∨ yh < a i 2 ∨ a i 3 < yl)) (h2 : a i 4 < 0) : c = -1 := by
  rw [openG_step h, if_neg (by rw [apart_true]; exact h1), if_pos h2] at hc; exact hc
theorem open_done {a : Nat → Nat → Int} {xl xh yl yh c : Int} {i m : Nat} {n : Int} (hc : c = openG a xl xh yl yh i n (m - i)) (h : ¬ i < m) : c = n := by
  rw [openG_end (by omega)] at hc; exact hc
noncomputable def lr17 : Lib := lr16
theorem lr17_ok : LibOK Go.Proofs.Tryz.prog lr17 := lr16_ok
theorem rOpen_ok : PSound Go.Proofs.Tryz.prog 61 (mk rOpen) := by
  refine psound_mk Tryz.func61 (by kernel_rfl) rfl (ctx lr17_ok) ?_
  (intro ds p d h; unfold rOpen at h; split at h <;> first | (cases h; done) | skip; cases h; refine ⟨Nat.le_of_ble_eq_true rfl, fun hp k hk => ?_⟩)
  rename_i d xl xh yl yh
  obtain ⟨ht, hn, hg⟩ := hp
  refine ⟨[(rtOf d).D, .agg [.int .i64 xl, .int .i64 xh, .int .i64 yl, .int .i64 yh]], rt_imp ht ⟨rfl, rfl, rfl, rfl, ?_⟩⟩
  clear ht
  generalize rtOf d = t at *
  generalize hS : openS t xl xh yl yh = c at *
  repeat' (first | ((with_reducible refine kok ?_); kernel_rfl) | ((with_reducible refine keq_mk ?_); kernel_rfl) | with_reducible rfl | ((conv => whnf); first | (with_reducible exact trivial) | ((with_reducible refine and_ff ?_ ?_); · exact rfl) | ((with_reducible refine and_tt ?_ ?_); · exact rfl) | (with_reducible refine And.intro ?_ ?_) | intro _ | (with_reducible refine fin2 hk ?_) | ((with_reducible refine eq_leaf ?_); exact rfl) | exact trivial))
  conv => whnf
  refine ⟨Nat × Int, fun g => [(2, .ptr 0 0), (3, .ptr 1 0), (4, .int .i64 g.2), (8, .rsl 6 t.no (smD t.nm t.oa)), (9, .int .i64 t.no), (10, .int .i64 g.1)], fun _ => [some (.row t.cells), some (.row [.int .i64 xl, .int .i64 xh, .int .i64 yl, .int .i64 yh])],
    fun g => t.no - g.1, fun g => g.1 ≤ t.no ∧ (0 ≤ g.2 ∧ g.2 ≤ 100000) ∧ c = openG t.oa xl xh yl yh g.1 g.2 (t.no - g.1), [], (0, 0), fun _ => ⟨rfl, rfl⟩, ?_, fun g hI => ?_⟩
  · repeat' (first | ((with_reducible refine kok ?_); kernel_rfl) | ((with_reducible refine keq_mk ?_); kernel_rfl) | with_reducible rfl | ((conv => whnf); first | (with_reducible exact trivial) | ((with_reducible refine and_ff ?_ ?_); · exact rfl) | ((with_reducible refine and_tt ?_ ?_); · exact rfl) | (with_reducible refine And.intro ?_ ?_) | intro _ | (with_reducible refine fin2 hk ?_) | ((with_reducible refine eq_leaf ?_); exact rfl) | exact trivial))
    · exact Nat.zero_le _
    · exact Int.le_refl 0
    · show (0 : Int) ≤ 100000; decide
    · exact hS.symm
  obtain ⟨i, n⟩ := g
  obtain ⟨hi, hn2, hc⟩ := hI
  have hi : i ≤ t.no := hi
  have hn2 : 0 ≤ n ∧ n ≤ 100000 := hn2
  have hc : c = openG t.oa xl xh yl yh i n (t.no - i) := hc
  clear hS
  have hgi := hg i
  repeat' (first | ((with_reducible refine kok ?_); kernel_rfl) | ((with_reducible refine keq_mk ?_); kernel_rfl) | with_reducible rfl | ((conv => whnf); first | (with_reducible exact trivial) | ((with_reducible refine and_ff ?_ ?_); · exact rfl) | ((with_reducible refine and_tt ?_ ?_); · exact rfl) | (with_reducible refine And.intro ?_ ?_) | intro _ | (with_reducible refine fin2 hk ?_) | ((with_reducible refine eq_leaf ?_); exact rfl) | exact trivial))
  all_goals try ((first | with_reducible refine (?_ : (_ : Int) ≤ _) | with_reducible refine (?_ : (_ : Int) < _)); clear hk hc; simp only [taskOf_agg, ↓Bool.not_eq_true', ↓Bool.not_eq_false', ↓decT, ↓decF, out_true, out_false, isin_true, isin_false, Int.toNat_natCast, Int.ofNat_lt, Nat.zero_add, Nat.add_zero, Nat.reduceAdd] at *; omega)
  all_goals try ((with_reducible refine (?_ : (_ : Int) = _)); clear hk; simp only [taskOf_agg, ↓Bool.not_eq_true', ↓Bool.not_eq_false', ↓decT, ↓decF, out_true, out_false, isin_true, isin_false, Int.toNat_natCast, Int.ofNat_lt, Nat.zero_add, Nat.add_zero, Nat.reduceAdd] at *; first | (rw [open_shut hc (by omega) (by omega) (by omega)]) | (rw [open_done hc (by omega)]))
  all_goals first
    | (have e : c = openG t.oa xl xh yl yh (i + 1) n (t.no - (i + 1)) ∧ i < t.no := (by clear hk; simp only [taskOf_agg, ↓Bool.not_eq_true', ↓Bool.not_eq_false', ↓decT, ↓decF, out_true, out_false, isin_true, isin_false, Int.toNat_natCast, Int.ofNat_lt, Nat.zero_add, Nat.add_zero, Nat.reduceAdd] at *; exact ⟨open_next hc (by omega) (by omega), by omega⟩)
       conv => whnf
       clear hk hgi
       refine ⟨(i + 1, n), ?_⟩
       repeat' (first | ((with_reducible refine kok ?_); kernel_rfl) | ((with_reducible refine keq_mk ?_); kernel_rfl) | with_reducible rfl | ((conv => whnf); first | (with_reducible exact trivial) | ((with_reducible refine and_ff ?_ ?_); · exact rfl) | ((with_reducible refine and_tt ?_ ?_); · exact rfl) | (with_reducible refine And.intro ?_ ?_) | intro _ | (with_reducible refine fin2 hk ?_) | ((with_reducible refine eq_leaf ?_); exact rfl) | exact trivial))
       all_goals first | exact e.1 | exact e.2 | omega | (simp only; omega))
    | (have e : c = openG t.oa xl xh yl yh (i + 1) (max n (t.oa i 4)) (t.no - (i + 1)) ∧ i < t.no := (by clear hk; simp only [taskOf_agg, ↓Bool.not_eq_true', ↓Bool.not_eq_false', ↓decT, ↓decF, out_true, out_false, isin_true, isin_false, Int.toNat_natCast, Int.ofNat_lt, Nat.zero_add, Nat.add_zero, Nat.reduceAdd] at *; exact ⟨open_more hc (by omega) (by omega) (by omega), by omega⟩)
       have hgi := hgi e.2
       conv => whnf
       clear hk
       refine ⟨(i + 1, max n (t.oa i 4)), ?_⟩
       repeat' (first | ((with_reducible refine kok ?_); kernel_rfl) | ((with_reducible refine keq_mk ?_); kernel_rfl) | with_reducible rfl | ((conv => whnf); first | (with_reducible exact trivial) | ((with_reducible refine and_ff ?_ ?_); · exact rfl) | ((with_reducible refine and_tt ?_ ?_); · exact rfl) | (with_reducible refine And.intro ?_ ?_) | intro _ | (with_reducible refine fin2 hk ?_) | ((with_reducible refine eq_leaf ?_); exact rfl) | exact trivial))
       all_goals first | exact e.1 | exact e.2 | (show (0 : Int) ≤ max n (t.oa i 4); omega) | (show max n (t.oa i 4) ≤ 100000; omega) | omega | (simp only; omega))
end Go.Proofs.YtphcblofacfkaaaGreat
end
section
namespace Go.Proofs.YtphcblofacfkaaaGreat
open Go.V
def flOf (t : RTask) (ax ay bx by' : Int) : Int := flS t.speed (farS ax ay bx by')
def rFlight : List V.D → Option (Prop × V.D) := fun ds => match ds with
  | [d, .agg [.int .i64 ax, .int .i64 ay], .agg [.int .i64 bx, .int .i64 bz]] => some (RtIs d ∧ (1 ≤ (rtOf d).speed ∧ (rtOf d).speed ≤ 1000000) ∧ (spot ax ∧ spot ay) ∧ spot bx ∧ spot bz, .int .i64 (flOf (rtOf d) ax ay bx bz))
  | _ => none
theorem sq_in {x A : Int} (h : -A ≤ x ∧ x ≤ A) (hA : 0 ≤ A) : 0 ≤ x * x ∧ x * x ≤ A * A := by
  refine ⟨sq_nonneg x, ?_⟩
  rcases Int.le_total 0 x with g | g
  · exact Int.mul_le_mul h.2 h.2 g hA
  · have : (0 - x) * (0 - x) ≤ A * A := Int.mul_le_mul (by omega) (by omega) (by omega) hA
    have e : (0 - x) * (0 - x) = x * x := by grind
    omega
structure FlHi (s d h : Int) : Prop where
  yes : enough s d h = true
  lo : 1 ≤ h
  hi : h * s ≤ 402000000
  top : h ≤ 402000000
theorem flHi {s x y M : Int} (hs : 1 ≤ s ∧ s ≤ 1000000) (hM : 0 ≤ M ∧ M ≤ 200000000) (hx : -M ≤ x ∧ x ≤ M) (hy : -M ≤ y ∧ y ≤ M) : FlHi s (x * x + y * y) ((2 * M).tdiv s + 2) := by
  obtain ⟨_, _, h3, _⟩ := tdiv_facts (2 * M) (b := s) (by omega)
  obtain ⟨f1, f2, f3, f4⟩ := h3 (by omega)
  have f5 : 2 * M < ((2 * M).tdiv s + 1) * s := by
    have := Int.lt_ediv_add_one_mul_self (2 * M) (b := s) (by omega)
    rw [← Int.tdiv_eq_ediv_of_nonneg (by omega)] at this
    exact this
  generalize (2 * M).tdiv s = q at *
  have e1 : (q + 2) * s = q * s + 2 * s := by grind
  have e2 : (q + 1) * s = q * s + s := by grind
  have hx2 := sq_in hx hM.1
  have hy2 := sq_in hy hM.1
  have hl : 2 * M ≤ (q + 2) * s := by omega
  have h4 := Int.mul_le_mul hl hl (by omega) (by omega)
  have e3 : 2 * M * (2 * M) = 4 * (M * M) := by grind
  have h5 : 0 ≤ M * M := sq_nonneg M
  refine ⟨?_, by omega, by omega, ?_⟩
  · unfold enough
    rw [decide_eq_true_eq]
    omega
  · have h6 : (q + 2) * 1 ≤ (q + 2) * s := Int.mul_le_mul_of_nonneg_left hs.1 (by omega)
    omega
theorem fl_done {s d l h : Int} (hs : 1 ≤ s) (hd : 0 ≤ d ∧ d ≤ 1000000000000000000) (hh : enough s d h = true) (hl : enough s d l = false ∨ l = -1) (h0 : -1 ≤ l) (h1 : l < h) (h2 : h - l ≤ 1) : h = flS s d := by
  refine IsFl.unique (s := s) (d := d) ⟨by omega, hh, fun m hm hlt => ?_⟩ (flS_is hs hd.1 (by omega))
  by_cases g : enough s d m = true
  · rcases hl with hl | hl
    · have := enough_mono (by omega) hm (show m ≤ l by omega) g
      rw [this] at hl; cases hl
    · omega
  · simpa using g
attribute [local irreducible] flS
end Go.Proofs.YtphcblofacfkaaaGreat
end
section
namespace Go.Proofs.YtphcblofacfkaaaGreat
open Go.V
def oneI (e : Nat → V.D) (j : Nat) : Prop := e j = .int .i64 (toI (e j))
def atJ (j0 : Nat) (n : Int) (e : Nat → V.D) (j : Nat) : V.D := if Nat.beq j j0 then .int .i64 n else e j
def rFl1 : List V.D → Option (Prop × V.D) := fun ds => match ds with
  | [.int .i64 n, .eptr 14 e, .eptr 1 f] => some ((oneI e 10 ∧ oneI f 0) ∧ (0 ≤ n ∧ n ≤ 402000000) ∧ (0 ≤ n * toI (e 10) ∧ n * toI (e 10) ≤ 402000000), .bool (enough (toI (e 10)) (toI (f 0)) n))
  | _ => none
theorem fl1_ok : PSound Go.Proofs.Tryz.prog 120 (mk rFl1) := by
  refine psound_mk Tryz.func120 (by kernel_rfl) rfl (ctx (.nil _)) ?_
  (intro ds p d h; unfold rFl1 at h; split at h <;> first | (cases h; done) | skip; cases h; refine ⟨Nat.le_of_ble_eq_true rfl, fun hp k hk => ?_⟩)
  rename_i n e f
  obtain ⟨⟨g1, g2⟩, h1, h2⟩ := hp
  unfold oneI at g1 g2
  generalize toI (e 10) = s at *
  generalize toI (f 0) = d at *
  refine ⟨[.int .i64 n, .eptr 14 (atJ 10 s e), .eptr 1 (atJ 0 d f)], rfl, rfl, fun j hj => ?_, rfl, fun j hj => ?_, ?_⟩
  · unfold atJ
    cases h : Nat.beq j 10 with
    | true => rw [Nat.eq_of_beq_eq_true h]; exact g1
    | false => rfl
  · obtain rfl : j = 0 := by omega
    exact g2
  clear g1 g2
  have S := sq_in (x := n * s) (A := 402000000) (by omega) (by decide)
  repeat' (first | ((with_reducible refine kok ?_); kernel_rfl) | ((with_reducible refine keq_mk ?_); kernel_rfl) | with_reducible rfl | ((conv => whnf); first | (with_reducible exact trivial) | ((with_reducible refine and_ff ?_ ?_); · exact rfl) | ((with_reducible refine and_tt ?_ ?_); · exact rfl) | (with_reducible refine And.intro ?_ ?_) | intro _ | (with_reducible refine fin2 hk ?_) | ((with_reducible refine eq_leaf ?_); exact rfl) | exact trivial))
  all_goals omega
noncomputable def lr18 : Lib := (120, mk rFl1) :: lr17
theorem lr18_ok : LibOK Go.Proofs.Tryz.prog lr18 := .cons fl1_ok lr17_ok
theorem mid64 {x : Int} (h0 : 0 ≤ x) (h1 : x ≤ 1000000000000) : (IntKind.u64.wrap x).fdiv (2 ^ min (Int.toNat 1) IntKind.u64.bits) = x / 2 := by
  have e : IntKind.u64.wrap x = x := by
    unfold IntKind.wrap
    simp [IntKind.bits, IntKind.signed]
    omega
  have e2 : (2 : Int) ^ min (Int.toNat 1) IntKind.u64.bits = 2 := rfl
  rw [e, e2, Int.fdiv_eq_ediv_of_nonneg _ (by decide)]
def rSortFl : List V.D → Option (Prop × V.D) := fun ds => match ds with
  | [.int .i64 n, .fn 120 [] [.eptr 14 e, .eptr 1 f]] => some ((oneI e 10 ∧ oneI f 0) ∧ (0 ≤ n ∧ n ≤ 402000000) ∧ (1 ≤ toI (e 10) ∧ n * toI (e 10) ≤ 402000000) ∧ (0 ≤ toI (f 0) ∧ toI (f 0) ≤ 1000000000000000000) ∧ enough (toI (e 10)) (toI (f 0)) n = true, .int .i64 (flS (toI (e 10)) (toI (f 0))))
  | _ => none
theorem sortFl_ok : PSound Go.Proofs.Tryz.prog 119 (mk rSortFl) := by
  refine psound_mk Tryz.func119 (by kernel_rfl) rfl (ctx lr18_ok) ?_
  (intro ds p d h; unfold rSortFl at h; split at h <;> first | (cases h; done) | skip; cases h; refine ⟨Nat.le_of_ble_eq_true rfl, fun hp k hk => ?_⟩)
  rename_i n e f
  obtain ⟨⟨g1, g2⟩, hn, hs, hd, he⟩ := hp
  refine ⟨[.int .i64 n, .fn 120 [] [.eptr 14 e, .eptr 1 f]], rfl, ?_⟩
  generalize hS : flS (toI (e 10)) (toI (f 0)) = c at *
  repeat' (first | ((with_reducible refine kok ?_); kernel_rfl) | ((with_reducible refine keq_mk ?_); kernel_rfl) | with_reducible rfl | ((conv => whnf); first | (with_reducible exact trivial) | ((with_reducible refine and_ff ?_ ?_); · exact rfl) | ((with_reducible refine and_tt ?_ ?_); · exact rfl) | (with_reducible refine And.intro ?_ ?_) | intro _ | (with_reducible refine fin2 hk ?_) | ((with_reducible refine eq_leaf ?_); exact rfl) | exact trivial))
  conv => whnf
  refine ⟨Int × Int, fun g => [(1, .fn 120 [] [.eptr 14 e, .eptr 1 f]), (5, .int .i64 g.1), (6, .int .i64 g.2)], fun _ => [],
    fun g => (g.2 - g.1).toNat, fun g => (0 ≤ g.1 ∧ g.1 ≤ g.2 ∧ g.2 ≤ n) ∧ enough (toI (e 10)) (toI (f 0)) g.2 = true ∧ (enough (toI (e 10)) (toI (f 0)) (g.1 - 1) = false ∨ g.1 = 0), [], (0, n), fun _ => ⟨rfl, rfl⟩, ?_, fun g hI => ?_⟩
  · clear hk
    repeat' (first | ((with_reducible refine kok ?_); kernel_rfl) | ((with_reducible refine keq_mk ?_); kernel_rfl) | with_reducible rfl | ((conv => whnf); first | (with_reducible exact trivial) | ((with_reducible refine and_ff ?_ ?_); · exact rfl) | ((with_reducible refine and_tt ?_ ?_); · exact rfl) | (with_reducible refine And.intro ?_ ?_) | intro _ | (with_reducible refine fin2 hk ?_) | ((with_reducible refine eq_leaf ?_); exact rfl) | exact trivial))
    all_goals first | exact he | exact .inr rfl | (simp only; omega)
  obtain ⟨i, j⟩ := g
  obtain ⟨hb, hj, hi⟩ := hI
  have hb : 0 ≤ i ∧ i ≤ j ∧ j ≤ n := hb
  have hj : enough (toI (e 10)) (toI (f 0)) j = true := hj
  have hi : enough (toI (e 10)) (toI (f 0)) (i - 1) = false ∨ i = 0 := hi
  have hm : (IntKind.u64.wrap (i + j)).fdiv (2 ^ min (Int.toNat 1) IntKind.u64.bits) = (i + j) / 2 := mid64 (by omega) (by omega)
  have hp : i < j → 0 ≤ (i + j) / 2 * toI (e 10) ∧ (i + j) / 2 * toI (e 10) ≤ 402000000 := fun h => by
    have a1 : (i + j) / 2 * toI (e 10) ≤ n * toI (e 10) := Int.mul_le_mul_of_nonneg_right (by omega) (by omega)
    have a2 : 0 ≤ (i + j) / 2 * toI (e 10) := Int.mul_nonneg (by omega) (by omega)
    omega
  repeat' (first | ((with_reducible refine kok ?_); kernel_rfl) | ((with_reducible refine keq_mk ?_); kernel_rfl) | with_reducible rfl | ((conv => whnf); first | (with_reducible exact trivial) | ((with_reducible refine and_ff ?_ ?_); · exact rfl) | ((with_reducible refine and_tt ?_ ?_); · exact rfl) | (with_reducible refine And.intro ?_ ?_) | intro _ | (with_reducible refine fin2 hk ?_) | ((with_reducible refine eq_leaf ?_); exact rfl) | exact trivial))
  all_goals try exact g1
  all_goals try exact g2
  all_goals try ((first | with_reducible refine (?_ : (_ : Int) ≤ _) | with_reducible refine (?_ : (_ : Int) < _)); clear hk hS; simp only [taskOf_agg, ↓Bool.not_eq_true', ↓Bool.not_eq_false', ↓decT, ↓decF, out_true, out_false, isin_true, isin_false, Int.toNat_natCast, Int.ofNat_lt, Nat.zero_add, Nat.add_zero, Nat.reduceAdd, hm] at *; first | omega | (have := hp (by omega); omega))
  · rename_i q1 q2
    simp only [taskOf_agg, ↓Bool.not_eq_true', ↓Bool.not_eq_false', ↓decT, ↓decF, out_true, out_false, isin_true, isin_false, Int.toNat_natCast, Int.ofNat_lt, Nat.zero_add, Nat.add_zero, Nat.reduceAdd, hm] at q1 q2
    clear hk
    conv => whnf
    refine ⟨((i + j) / 2 + 1, j), ?_⟩
    repeat' (first | ((with_reducible refine kok ?_); kernel_rfl) | ((with_reducible refine keq_mk ?_); kernel_rfl) | with_reducible rfl | ((conv => whnf); first | (with_reducible exact trivial) | ((with_reducible refine and_ff ?_ ?_); · exact rfl) | ((with_reducible refine and_tt ?_ ?_); · exact rfl) | (with_reducible refine And.intro ?_ ?_) | intro _ | (with_reducible refine fin2 hk ?_) | ((with_reducible refine eq_leaf ?_); exact rfl) | exact trivial))
    all_goals first | exact hj | (left; show enough _ _ ((i + j) / 2 + 1 - 1) = false; rw [Int.add_sub_cancel]; exact q2) | (simp only; omega) | (simp only [hm])
  · rename_i q1 q2
    simp only [taskOf_agg, ↓Bool.not_eq_true', ↓Bool.not_eq_false', ↓decT, ↓decF, out_true, out_false, isin_true, isin_false, Int.toNat_natCast, Int.ofNat_lt, Nat.zero_add, Nat.add_zero, Nat.reduceAdd, hm] at q1 q2
    clear hk
    conv => whnf
    refine ⟨(i, (i + j) / 2), ?_⟩
    repeat' (first | ((with_reducible refine kok ?_); kernel_rfl) | ((with_reducible refine keq_mk ?_); kernel_rfl) | with_reducible rfl | ((conv => whnf); first | (with_reducible exact trivial) | ((with_reducible refine and_ff ?_ ?_); · exact rfl) | ((with_reducible refine and_tt ?_ ?_); · exact rfl) | (with_reducible refine And.intro ?_ ?_) | intro _ | (with_reducible refine fin2 hk ?_) | ((with_reducible refine eq_leaf ?_); exact rfl) | exact trivial))
    all_goals first | exact q2 | exact hi | (simp only; omega) | (simp only [hm])
  · rename_i q1
    simp only [taskOf_agg, ↓Bool.not_eq_true', ↓Bool.not_eq_false', ↓decT, ↓decF, out_true, out_false, isin_true, isin_false, Int.toNat_natCast, Int.ofNat_lt, Nat.zero_add, Nat.add_zero, Nat.reduceAdd] at q1
    rw [← hS]
    obtain rfl : i = j := by omega
    exact fl_done hs.1 hd hj (hi.imp id fun h => by omega) (by omega) (by omega) (by omega)
end Go.Proofs.YtphcblofacfkaaaGreat
end
section
namespace Go.Proofs.YtphcblofacfkaaaGreat
open Go.V
theorem flN {s x y A B : Int} (hs : 1 ≤ s ∧ s ≤ 1000000) (hA : 0 ≤ A ∧ A ≤ 200000000) (hB : 0 ≤ B ∧ B ≤ 200000000) (hx : -A ≤ x ∧ x ≤ A) (hy : -B ≤ y ∧ y ≤ B) :
    (0 ≤ (A + B).tdiv s ∧ (A + B).tdiv s ≤ 400000000) ∧ ((A + B).tdiv s + 1) * s ≤ 402000000 ∧ enough s (x * x + y * y) ((A + B).tdiv s + 1) = true := by
  obtain ⟨_, _, h3, _⟩ := tdiv_facts (A + B) (b := s) (by omega)
  obtain ⟨f1, f2, f3, f4⟩ := h3 (by omega)
  have f5 : A + B < ((A + B).tdiv s + 1) * s := by
    have := Int.lt_ediv_add_one_mul_self (A + B) (b := s) (by omega)
    rw [← Int.tdiv_eq_ediv_of_nonneg (by omega)] at this
    exact this
  generalize (A + B).tdiv s = q at *
  have e2 : (q + 1) * s = q * s + s := by grind
  have hx2 := sq_in hx hA.1
  have hy2 := sq_in hy hB.1
  have hl : A + B ≤ (q + 1) * s := by omega
  have h4 := Int.mul_le_mul hl hl (by omega) (by omega)
  have e3 : (A + B) * (A + B) = A * A + B * B + 2 * (A * B) := by grind
  have h5 : 0 ≤ A * B := Int.mul_nonneg hA.1 hB.1
  refine ⟨by omega, by omega, ?_⟩
  unfold enough
  rw [decide_eq_true_eq]
  omega
noncomputable def lr19 : Lib := (119, mk rSortFl) :: lr17
theorem lr19_ok : LibOK Go.Proofs.Tryz.prog lr19 := .cons sortFl_ok lr17_ok
attribute [local irreducible] flS enough
theorem rFlight_ok : PSound Go.Proofs.Tryz.prog 100 (mk rFlight) := by
  refine psound_mk Tryz.func100 (by kernel_rfl) rfl (ctx lr19_ok) ?_
  (intro ds p d h; unfold rFlight at h; split at h <;> first | (cases h; done) | skip; cases h; refine ⟨Nat.le_of_ble_eq_true rfl, fun hp k hk => ?_⟩)
  rename_i d ax ay bx bz
  obtain ⟨ht, hs, ⟨s0, s1⟩, s2, s3⟩ := hp
  refine ⟨[(rtOf d).D, .agg [.int .i64 ax, .int .i64 ay], .agg [.int .i64 bx, .int .i64 bz]], rt_imp ht ⟨rfl, rfl, rfl, rfl, ?_⟩⟩
  clear ht
  generalize rtOf d = t at *
  unfold spot at s0 s1 s2 s3
  have hc0 : flOf t ax ay bx bz = flS t.speed ((ax - bx) * (ax - bx) + (ay - bz) * (ay - bz)) := rfl
  generalize hS : flOf t ax ay bx bz = c at *
  clear hS
  have F := flN (s := t.speed) (x := ax - bx) (y := ay - bz) (A := max (ax - bx) (0 - (ax - bx))) (B := max (ay - bz) (0 - (ay - bz))) hs (by omega) (by omega) (by omega) (by omega)
  have X := sq_in (x := ax - bx) (A := 200000000) (by omega) (by decide)
  have Y := sq_in (x := ay - bz) (A := 200000000) (by omega) (by decide)
  have Z1 : 0 ≤ (ax - bx) * (ax - bx) + (ay - bz) * (ay - bz) := by omega
  have Z2 : (ax - bx) * (ax - bx) + (ay - bz) * (ay - bz) ≤ 1000000000000000000 := by omega
  repeat' (first | ((with_reducible refine kok ?_); kernel_rfl) | ((with_reducible refine keq_mk ?_); kernel_rfl) | with_reducible rfl | ((conv => whnf); first | (with_reducible exact trivial) | ((with_reducible refine and_ff ?_ ?_); · exact rfl) | ((with_reducible refine and_tt ?_ ?_); · exact rfl) | (with_reducible refine And.intro ?_ ?_) | intro _ | (with_reducible refine fin2 hk ?_) | ((with_reducible refine eq_leaf ?_); exact rfl) | exact trivial))
  all_goals try omega
  all_goals try exact F.2.2
  all_goals try exact hc0.symm
  · exact hs.1
  · exact F.2.1
  · exact Z1
  · exact Z2
end Go.Proofs.YtphcblofacfkaaaGreat
end
section
namespace Go.Proofs.YtphcblofacfkaaaGreat
open Go.V
noncomputable def lr20 : Lib := (61, mk rOpen) :: (100, mk rFlight) :: lr19
theorem lr20_ok : LibOK Go.Proofs.Tryz.prog lr20 := .cons rOpen_ok (.cons rFlight_ok lr19_ok)
end Go.Proofs.YtphcblofacfkaaaGreat
end
section
namespace Go.Proofs.YtphcblofacfkaaaGreat
open Go.V
def wideN (t : RTask) : Nat := (manyS t.xl t.xh t.size).toNat
def tallN (t : RTask) : Nat := (manyS t.yl t.yh t.size).toNat
def cxl (t : RTask) (g : Nat) : Int := t.xl + ((g % wideN t : Nat) : Int) * t.size
def cxh (t : RTask) (g : Nat) : Int := min t.xh (t.xl + (((g % wideN t : Nat) : Int) + 1) * t.size - 1)
def cyl (t : RTask) (g : Nat) : Int := t.yl + ((g / wideN t : Nat) : Int) * t.size
def cyh (t : RTask) (g : Nat) : Int := min t.yh (t.yl + (((g / wideN t : Nat) : Int) + 1) * t.size - 1)
def goneB (t : RTask) (g : Nat) : Bool := anyBelow (outB t.fx (cxl t g) (cxh t g) (cyl t g) (cyh t g)) t.nf
def cellsTo (t : RTask) : Nat → List Nat
  | 0 => []
  | n + 1 => if goneB t n = true then cellsTo t n else cellsTo t n ++ [n]
def cellsL (t : RTask) : List Nat := cellsTo t (wideN t * tallN t)
def cellN (t : RTask) (g j : Nat) : Int := [cxl t g, cxh t g, cyl t g, cyh t g, openS t (cxl t g) (cxh t g) (cyl t g) (cyh t g)].getD j 0
def cellM (t : RTask) (l : List Nat) (i j : Nat) : Int := cellN t (l.getD i 0) j
theorem cellsTo_len (t : RTask) : ∀ n, (cellsTo t n).length ≤ n
  | 0 => Nat.le_refl 0
  | n + 1 => by
    have := cellsTo_len t n
    simp only [cellsTo]
    split
    · omega
    · simp only [List.length_append, List.length_singleton]
      omega
theorem cellsTo_lt {t : RTask} : ∀ {n g}, g ∈ cellsTo t n → g < n
  | 0, g, h => by cases h
  | n + 1, g, h => by
    simp only [cellsTo] at h
    split at h
    · have := cellsTo_lt h
      omega
    · rcases List.mem_append.1 h with h | h
      · have := cellsTo_lt h
        omega
      · have := List.mem_singleton.1 h
        omega
end Go.Proofs.YtphcblofacfkaaaGreat
end
section
namespace Go.Proofs.YtphcblofacfkaaaGreat
open Go.V
structure RtOK (t : RTask) : Prop where
  ax : -100000000 ≤ t.xl ∧ t.xl ≤ t.xh ∧ t.xh ≤ 100000000
  ay : -100000000 ≤ t.yl ∧ t.yl ≤ t.yh ∧ t.yh ≤ 100000000
  size : 1 ≤ t.size ∧ t.size ≤ 100000000
  many : gridN t ≤ 60
  nf : t.nf ≤ 6
  fx : ∀ i, i < t.nf → fixOK t.fx i
  no : t.no ≤ 6
  oa : ∀ i, i < t.no → ownE t i = 0
  bx : -100000000 ≤ t.bx ∧ t.bx ≤ 100000000
  bz : -100000000 ≤ t.bz ∧ t.bz ≤ 100000000
  start : 0 ≤ t.start ∧ t.start ≤ 100000
  speed : 1 ≤ t.speed ∧ t.speed ≤ 1000000
  fuel : 1 ≤ t.fuel ∧ t.fuel ≤ 100000
  look : 1 ≤ t.look ∧ t.look ≤ 6000
  turn : 0 ≤ t.turn ∧ t.turn ≤ 6000
theorem ownE_zero {t : RTask} {i : Nat} (h : ownE t i = 0) : nameS (t.nm i) = true ∧ anyBelow (sameOwn t i) i = false ∧ areaB (t.oa i 0) (t.oa i 1) (t.oa i 2) (t.oa i 3) = true ∧ -1 ≤ t.oa i 4 ∧ t.oa i 4 ≤ 100000 := by
  unfold ownE at h
  split at h
  · exact absurd h (by decide)
  rename_i h1
  split at h
  · exact absurd h (by decide)
  rename_i h2
  split at h
  · exact absurd h (by decide)
  rename_i h3
  refine ⟨by simpa using h1, by simpa using h2, ?_⟩
  rw [← ownB_true]
  simpa using h3
theorem fixE_zero {x y dx dy tan : Int} (h : fixE x y dx dy tan = 0) : fixB x y dx dy tan = true ∧ ¬ (dx = 0 ∧ dy = 0) := by
  rw [fixE_iff] at h
  rcases h with h | h | h
  · exact absurd h.2 (by decide)
  · exact absurd h.2.2.2 (by decide)
  · exact ⟨h.1, h.2.1⟩
theorem rt_ok {t : RTask} (h : (checkR t).2.2 = 0) : RtOK t := by
  unfold checkR at h
  split at h
  · exact absurd h (by decide)
  rename_i h1
  split at h
  · exact absurd h (by decide)
  rename_i h2
  unfold chk2R at h
  split at h
  · exact absurd h (by decide)
  rename_i h3
  obtain ⟨f1, h⟩ := pickE_zero h
  unfold chk3R at h
  split at h
  · exact absurd h (by decide)
  rename_i h4
  obtain ⟨o1, h⟩ := pickE_zero h
  unfold chk4R at h
  split at h
  rotate_left
  · exact absurd h (by decide)
  rename_i h5
  have g : gridB t = true := by simpa using h1
  rw [gridB_true, areaB_true] at g
  rw [baseB_true] at h5
  exact { ax := g.1.1, ay := g.1.2, size := g.2, many := by omega, nf := by omega, no := by omega,
          fx := fun i hi => (fixE_zero (fe_zero f1 i (Nat.zero_le i) (by omega))).1,
          oa := fun i hi => fe_zero o1 i (Nat.zero_le i) (by omega),
          bx := h5.1, bz := h5.2.1, start := h5.2.2.1, speed := h5.2.2.2.1, fuel := h5.2.2.2.2.1, look := h5.2.2.2.2.2.1, turn := h5.2.2.2.2.2.2 }
theorem RtOK.grants {t : RTask} (h : RtOK t) : grants t := ⟨h.no, fun i hi => (ownE_zero (h.oa i hi)).2.2.2⟩
theorem RtOK.gridd {t : RTask} (h : RtOK t) : areaB t.xl t.xh t.yl t.yh = true ∧ 1 ≤ t.size ∧ t.size ≤ 100000000 := by
  rw [areaB_true]
  exact ⟨⟨h.ax, h.ay⟩, h.size⟩
theorem part_iff {lo hi s r : Int} (h1 : lo ≤ hi) (h2 : 1 ≤ s) (h3 : 0 ≤ r) : lo + r * s ≤ hi ↔ r < manyS lo hi s := by
  unfold manyS
  obtain ⟨_, _, g, _⟩ := tdiv_facts (hi - lo) (b := s) (by omega)
  obtain ⟨f1, f2, f3, f4⟩ := g (by omega)
  have f5 : hi - lo < ((hi - lo).tdiv s + 1) * s := by
    have := Int.lt_ediv_add_one_mul_self (hi - lo) (b := s) (by omega)
    rw [← Int.tdiv_eq_ediv_of_nonneg (by omega)] at this
    exact this
  generalize (hi - lo).tdiv s = q at *
  constructor
  · intro h
    have : ¬ (q + 1 ≤ r) := fun g => by
      have := Int.mul_le_mul_of_nonneg_right (c := s) g (by omega)
      omega
    omega
  · intro h
    have := Int.mul_le_mul_of_nonneg_right (c := s) (show r ≤ q by omega) (by omega)
    omega
theorem wide_pos {t : RTask} (h : RtOK t) : ((wideN t : Nat) : Int) = manyS t.xl t.xh t.size ∧ ((tallN t : Nat) : Int) = manyS t.yl t.yh t.size ∧ 0 < wideN t ∧ 0 < tallN t := by
  have := gridN_in h.gridd
  unfold wideN tallN
  omega
theorem grid_count {t : RTask} (h : RtOK t) : ((wideN t * tallN t : Nat) : Int) = gridN t ∧ wideN t * tallN t ≤ 60 := by
  have h1 := wide_pos h
  have h2 := h.many
  have e : ((wideN t * tallN t : Nat) : Int) = gridN t := by
    rw [Int.natCast_mul, h1.1, h1.2.1]; rfl
  omega
structure CellIn (t : RTask) (xl xh yl yh : Int) : Prop where
  x : t.xl ≤ xl ∧ xl ≤ xh ∧ xh ≤ t.xh ∧ xh - xl < t.size
  y : t.yl ≤ yl ∧ yl ≤ yh ∧ yh ≤ t.yh ∧ yh - yl < t.size
theorem div_lt_tall {t : RTask} {g : Nat} (h : g < wideN t * tallN t) : g / wideN t < tallN t := by
  apply Nat.div_lt_of_lt_mul
  exact h
theorem mod_lt_wide {t : RTask} (h : RtOK t) (g : Nat) : g % wideN t < wideN t := Nat.mod_lt _ (wide_pos h).2.2.1
theorem next_part (c s : Int) : (c + 1) * s = c * s + s := by rw [Int.add_mul, Int.one_mul]
theorem cell_in {t : RTask} (h : RtOK t) {g : Nat} (hg : g < wideN t * tallN t) : CellIn t (cxl t g) (cxh t g) (cyl t g) (cyh t g) := by
  have hw := wide_pos h
  have h1 := div_lt_tall hg
  have h2 := mod_lt_wide h g
  unfold cxl cxh cyl cyh
  generalize g % wideN t = c at *
  generalize g / wideN t = r at *
  clear hg
  have a1 := (part_iff (lo := t.xl) (hi := t.xh) (s := t.size) (r := (c : Int)) h.ax.2.1 h.size.1 (by omega)).2 (by omega)
  have a2 := (part_iff (lo := t.yl) (hi := t.yh) (s := t.size) (r := (r : Int)) h.ay.2.1 h.size.1 (by omega)).2 (by omega)
  have a3 : 0 ≤ (c : Int) * t.size := Int.mul_nonneg (by omega) (by have := h.size.1; omega)
  have a4 : 0 ≤ (r : Int) * t.size := Int.mul_nonneg (by omega) (by have := h.size.1; omega)
  have b1 := next_part (c : Int) t.size
  have b2 := next_part (r : Int) t.size
  have hs := h.size
  have hx := h.ax
  have hy := h.ay
  constructor <;> omega
theorem cells_gone {t : RTask} {n : Nat} (h : goneB t n = true) : cellsTo t (n + 1) = cellsTo t n := by simp only [cellsTo, if_pos h]
theorem cells_kept {t : RTask} {n : Nat} (h : goneB t n = false) : cellsTo t (n + 1) = cellsTo t n ++ [n] := by simp only [cellsTo]; rw [if_neg (by rw [h]; exact Bool.noConfusion)]
theorem cells_kept_len {t : RTask} {n : Nat} (h : goneB t n = false) : (cellsTo t (n + 1)).length = (cellsTo t n).length + 1 := by rw [cells_kept h, List.length_append]; rfl
theorem cell_snoc {t : RTask} {n i j : Nat} (h : goneB t n = false) {l : List V.D} (hl : l = [.int .i64 (cxl t n), .int .i64 (cxh t n), .int .i64 (cyl t n), .int .i64 (cyh t n), .int .i64 (openS t (cxl t n) (cxh t n) (cyl t n) (cyh t n))])
    (hi : i < (cellsTo t n).length + 1) (hj : j < 5) :
    (if i < (cellsTo t n).length then imD (cellM t (cellsTo t n)) i j else l.getD ((i - (cellsTo t n).length) * 5 + j) D.top) = imD (cellM t (cellsTo t (n + 1))) i j := by
  subst hl
  rw [cells_kept h]
  by_cases hlt : i < (cellsTo t n).length
  · rw [if_pos hlt]
    unfold imD cellM
    rw [List.getD_eq_getElem?_getD, List.getD_eq_getElem?_getD, List.getElem?_append_left hlt]
  · rw [if_neg hlt]
    obtain rfl : i = (cellsTo t n).length := by omega
    have e : (cellsTo t n ++ [n]).getD (cellsTo t n).length 0 = n := by simp [List.getD_eq_getElem?_getD]
    unfold imD cellM
    rw [e]
    have hj' : j = 0 ∨ j = 1 ∨ j = 2 ∨ j = 3 ∨ j = 4 := by omega
    rcases hj' with rfl | rfl | rfl | rfl | rfl <;> simp [cellN]
theorem cellsL_len {t : RTask} (h : RtOK t) : (cellsL t).length ≤ 60 := Nat.le_trans (cellsTo_len t _) (grid_count h).2
theorem cellsL_get {t : RTask} {i : Nat} (hi : i < (cellsL t).length) : (cellsL t).getD i 0 < wideN t * tallN t := by
  apply cellsTo_lt (t := t)
  rw [List.getD_eq_getElem?_getD, List.getElem?_eq_getElem hi]
  exact List.getElem_mem hi
end Go.Proofs.YtphcblofacfkaaaGreat
end
