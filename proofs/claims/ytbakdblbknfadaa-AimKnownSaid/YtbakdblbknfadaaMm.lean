/-
  Contracts of aiming: Best.
-/
import Derived.Test.YtbakdblbknfadaaMl
section
set_option linter.unusedVariables false
set_option linter.unusedSimpArgs false
set_option maxRecDepth 100000
set_option maxHeartbeats 4000000
namespace Go.Proofs.Ytbakdblbknfadaa
open Go.V
noncomputable def la21 : Lib := (65, mk rSo) :: la20
theorem la21_ok : LibOK Go.Proofs.Try.prog la21 := .cons qSo_ok la20_ok
noncomputable def Llook2 : Libs := ⟨la21, [(54, inl (cxOf tab la21) Go.Proofs.Try.f54)], [], []⟩
theorem Llook2_ok : LibsOK Go.Proofs.Try.prog Llook2 := ⟨la21_ok, asGet_cons (csound_in Try.func54 (by kernel_rfl) rfl (ctx la21_ok)) (fun g s h => by cases h), fun f r h => (by cases h), fun f r h => (by cases h)⟩
def bE (t : ATask) (n : Nat) (a : Nat → Nat → Int) : Int := if askE t n a ≠ 0 then askE t n a else if bestTo (weighS t n a) t.ns < 0 then 9 else 0
def bB (t : ATask) (n : Nat) (a : Nat → Nat → Int) : Int := bestTo (weighS t n a) t.ns
def bM (t : ATask) (n : Nat) (a : Nat → Nat → Int) : Int := missS (weighS t n a) (bB t n a).toNat
def bestT (t : ATask) (n : Nat) (a : Nat → Nat → Int) : V.D := .tup [.agg [.int .i64 (ifz (bE t n a) (bB t n a)), .int .i64 (ifz (bE t n a) (bM t n a)), .rsl 2 (ifn (bE t n a) t.ns) (imD (whyM (weighS t n a) (bB t n a) (bM t n a)))], .int .i64 (bE t n a)]
theorem sc_self (s : Scn) : ScIs s.e := ⟨⟨rfl, rfl, rfl, rfl, rfl⟩, ⟨rfl, rfl, rfl, rfl, rfl⟩, rfl, rfl, rfl, rfl, rfl⟩
theorem bE_1 {t : ATask} {n : Nat} {a : Nat → Nat → Int} (h : ¬ askE t n a = 0) : bE t n a = askE t n a := if_pos h
theorem bE_2 {t : ATask} {n : Nat} {a : Nat → Nat → Int} (h : askE t n a = 0) (h2 : bestTo (weighS t n a) t.ns < 0) : bE t n a = 9 := by simp [bE, h, h2]
theorem bE_3 {t : ATask} {n : Nat} {a : Nat → Nat → Int} (h : askE t n a = 0) (h2 : ¬ bestTo (weighS t n a) t.ns < 0) : bE t n a = 0 := by simp only [bE, h]; rw [if_neg (fun q => q rfl), if_neg h2]
theorem ff4 {p q : Nat → Bool} (h0 : p 0 = q 0) (h1 : p 1 = q 1) (h2 : p 2 = q 2) (h3 : p 3 = q 3) : firstFrom p 0 4 = firstFrom q 0 4 := by
  simp only [firstFrom, h0, h1, h2, h3]
theorem snoc2 {M : Nat → Nat → Int} {i i1 j : Nat} {x y : Int} (hx : M i 0 = x) (hy : M i 1 = y) (h1 : i1 < i + 1) (hj : j < 2) :
    (if i1 < i then imD M i1 j else [V.D.int .i64 x, V.D.int .i64 y].getD ((i1 - i) * 2 + j) .top) = imD M i1 j := by
  by_cases h : i1 < i
  · rw [if_pos h]
  · rw [if_neg h]
    obtain rfl : i1 = i := by omega
    rw [Nat.sub_self]
    subst hx hy
    match j, hj with
    | 0, _ => rfl
    | 1, _ => rfl
theorem whyM_own {s : Scn} {i : Nat} {b m : Int} (h : (i : Int) = b) : whyM s b m i 0 = 0 ∧ whyM s b m i 1 = 0 := by
  constructor
  · show whyK s i b = 0; unfold whyK; rw [if_pos h]
  · show whyA s i b m = 0; unfold whyA; rw [if_pos h]
theorem whyM_far {s : Scn} {i : Nat} {b m : Int} (h : ¬ (i : Int) = b) (q : alwB s i = true) : whyM s b m i 0 = 2 ∧ whyM s b m i 1 = firstFrom (fun k => farB s i b m k) 0 4 := by
  constructor
  · show whyK s i b = 2; unfold whyK; rw [if_neg h, if_pos q]
  · show whyA s i b m = _; unfold whyA; rw [if_neg h]; exact ff4 (if_pos q) (if_pos q) (if_pos q) (if_pos q)
theorem whyM_out {s : Scn} {i : Nat} {b m : Int} (h : ¬ (i : Int) = b) (q : alwB s i = false) : whyM s b m i 0 = 1 ∧ whyM s b m i 1 = firstFrom (fun k => sdB s i k) 0 4 := by
  have q : ¬ alwB s i = true := by rw [q]; exact Bool.noConfusion
  constructor
  · show whyK s i b = 1; unfold whyK; rw [if_neg h, if_neg q]
  · show whyA s i b m = _; unfold whyA; rw [if_neg h]; exact ff4 (if_neg q) (if_neg q) (if_neg q) (if_neg q)
attribute [local irreducible] weighS chkA checkBands lowB ScOK askE imp missS alwB sdB farB bestTo whyM ScIs
theorem aBestT_ok : PSound Go.Proofs.Try.prog 21 (mk (rTL bestT)) := by
  refine psound_mk Try.func21 (by kernel_rfl) rfl (ctxA Llook2_ok) ?_
  (intro ds p d h; unfold rTL at h; split at h <;> first | (cases h; done) | skip; cases h; refine ⟨Nat.le_of_ble_eq_true rfl, fun hp k hk => ?_⟩)
  rename_i d n g
  obtain ⟨ht, hg⟩ := hp
  have hf := at_fits ht
  refine ⟨[(atOf d).D, .rsl 6 n (imD (im g))], at_imp ht ⟨rfl, hg, ?_⟩⟩
  clear ht hg
  generalize atOf d = t at *
  generalize im g = a at *
  have J1 : ¬ (chkA t).2.2 = 0 → bE t n a = (chkA t).2.2 := fun h => by rw [bE_1 (by rw [ask_1 h]; exact h), ask_1 h]
  have J2 : (chkA t).2.2 = 0 → ¬ (checkBands n a).2 = 0 → bE t n a = (checkBands n a).2 := fun h h2 => by rw [bE_1 (by rw [ask_2 h h2]; exact h2), ask_2 h h2]
  have J3 : (chkA t).2.2 = 0 → (checkBands n a).2 = 0 → lowB t n a = true → bE t n a = 4 := fun h h2 h3 => by rw [bE_1 (by rw [ask_3 h h2 h3]; decide), ask_3 h h2 h3]
  have J4 : (chkA t).2.2 = 0 → (checkBands n a).2 = 0 → lowB t n a = false → bestTo (weighS t n a) t.ns < 0 → bE t n a = 9 := fun h h2 h3 h4 => bE_2 (ask_4 h h2 h3) h4
  unfold bestT at hk
  repeat' (first | ((with_reducible refine kok ?_); kernel_rfl) | ((with_reducible refine keq_mk ?_); kernel_rfl) | with_reducible rfl | ((conv => whnf); first | (with_reducible exact trivial) | ((with_reducible refine and_ff ?_ ?_); · exact rfl) | ((with_reducible refine and_tt ?_ ?_); · exact rfl) | (with_reducible refine And.intro ?_ ?_) | intro _ | (with_reducible refine fin2 hk ?_) | ((with_reducible refine eq_leaf ?_); exact rfl) | exact trivial))
  all_goals try (exfalso; clear hk; simp only [atOf_agg, im_imD, taskOf_agg, ↓Bool.not_eq_true', ↓Bool.not_eq_false', ↓decT, ↓decF, out_true, out_false, isin_true, isin_false, Int.toNat_natCast, Int.ofNat_lt, Nat.zero_add, Nat.add_zero, Nat.reduceAdd] at *; contradiction)
  all_goals try (clear hk; simp only [atOf_agg, im_imD, taskOf_agg, ↓Bool.not_eq_true', ↓Bool.not_eq_false', ↓decT, ↓decF, out_true, out_false, isin_true, isin_false, Int.toNat_natCast, Int.ofNat_lt, Nat.zero_add, Nat.add_zero, Nat.reduceAdd, id, scT_e, weighS_t] at *; (first | exact hf.1 | exact hf.2 | exact am_ok (by assumption) | exact bands_ok (by assumption) | exact weighS_ok (am_ok (by assumption)) (bands_ok (by assumption)) | exact (bands_ok (by assumption)).len.1 | exact (bands_ok (by assumption)).len.2 | exact (J1 (by assumption)).symm | exact (J2 (by assumption) (by assumption)).symm | exact (J3 (by assumption) (by assumption) (by assumption)).symm | exact (J4 (by assumption) (by assumption) (by assumption) (by omega)).symm | exact (J5 (by assumption) (by assumption) (by assumption) (by omega)).symm | (rw [J5 (by assumption) (by assumption) (by assumption) (by omega)]; assumption) | (rw [J5 (by assumption) (by assumption) (by assumption) (by omega), ifz_0]; done) | (rw [ifz_ne (by rw [J1 (by assumption)]; assumption)]; done) | (rw [ifz_ne (by rw [J2 (by assumption) (by assumption)]; assumption)]; done) | (rw [ifz_ne (by rw [J3 (by assumption) (by assumption) (by assumption)]; decide)]; done) | (rw [ifz_ne (by rw [J4 (by assumption) (by assumption) (by assumption) (by omega)]; decide)]; done)))
  all_goals try (clear hk; simp only [atOf_agg, im_imD, taskOf_agg, ↓Bool.not_eq_true', ↓Bool.not_eq_false', ↓decT, ↓decF, out_true, out_false, isin_true, isin_false, Int.toNat_natCast, Int.ofNat_lt, Nat.zero_add, Nat.add_zero, Nat.reduceAdd, id, scT_e, weighS_t] at *; first
    | (rw [ifn_ne (by rw [J1 (by assumption)]; assumption)]; done) | (rw [ifn_ne (by rw [J2 (by assumption) (by assumption)]; assumption)]; done) | (rw [ifn_ne (by rw [J3 (by assumption) (by assumption) (by assumption)]; decide)]; done) | (rw [ifn_ne (by rw [J4 (by assumption) (by assumption) (by assumption) (by omega)]; decide)]; done)
    | exact sc_self _)
  · clear hk
    exact hf.1
  · clear hk
    exact hf.2
  all_goals (
    rename_i g1 g2 g3 g4
    simp only [atOf_agg, im_imD, taskOf_agg, ↓Bool.not_eq_true', ↓Bool.not_eq_false', ↓decT, ↓decF, out_true, out_false, isin_true, isin_false, Int.toNat_natCast, Int.ofNat_lt, Nat.zero_add, Nat.add_zero, Nat.reduceAdd, id, scT_e, weighS_t] at g1 g2 g3 g4
    have e0 := ask_4 g1 g2 g3
    have ho := ask_ok e0
    have hsc := weighS_ok ho.1 ho.2.1
    have hbi := best_in (weighS t n a) t.ns
    have hbp : ¬ bestTo (weighS t n a) t.ns < 0 := by omega
    have hbC : bestC (weighS t n a) = bB t n a := by unfold bestC bB; rw [weighS_t, if_neg hbp])
  · clear hk
    simp only [atOf_agg, im_imD, taskOf_agg, ↓Bool.not_eq_true', ↓Bool.not_eq_false', ↓decT, ↓decF, out_true, out_false, isin_true, isin_false, Int.toNat_natCast, Int.ofNat_lt, Nat.zero_add, Nat.add_zero, Nat.reduceAdd, id, scT_e, weighS_t]
    rw [hbC]
    unfold bB
    omega
  · clear hk
    simp only [atOf_agg, im_imD, taskOf_agg, ↓Bool.not_eq_true', ↓Bool.not_eq_false', ↓decT, ↓decF, out_true, out_false, isin_true, isin_false, Int.toNat_natCast, Int.ofNat_lt, Nat.zero_add, Nat.add_zero, Nat.reduceAdd, id, scT_e, weighS_t]
    rw [hbC]
    unfold bB
    omega
  conv => whnf
  refine ⟨Nat, fun i => [(2, .ptr 0 0), (4, .ptr 1 0), (5, .int .i64 0), (6, .eptr 15 (weighS t n a).e), (7, .int .i64 (bB t n a)), (41, .int .i64 t.ns), (42, .int .i64 i)],
    fun i => [some (.row t.cells), some (.row [.int .i64 (bB t n a), .int .i64 (bM t n a), .own 3 i]), some (.row t.cells), some (.buf 106 2 i (imD (whyM (weighS t n a) (bB t n a) (bM t n a))))],
    fun i => t.ns - i, fun i => i ≤ t.ns, [(106, 2)], 0, fun _ => ⟨?_, ?_⟩, ?_, fun i hi => ?_⟩
  · conv => lhs; whnf
  · conv => lhs; whnf
  · clear hk
    repeat' (first | ((with_reducible refine kok ?_); kernel_rfl) | ((with_reducible refine keq_mk ?_); kernel_rfl) | with_reducible rfl | ((conv => whnf); first | (with_reducible exact trivial) | ((with_reducible refine and_ff ?_ ?_); · exact rfl) | ((with_reducible refine and_tt ?_ ?_); · exact rfl) | (with_reducible refine And.intro ?_ ?_) | intro _ | (with_reducible refine fin2 hk ?_) | ((with_reducible refine eq_leaf ?_); exact rfl) | exact trivial))
    all_goals first
      | exact Nat.zero_le _
      | (exact absurd (by assumption) (Nat.not_lt_zero _))
      | rfl
      | (simp only [atOf_agg, im_imD, taskOf_agg, ↓Bool.not_eq_true', ↓Bool.not_eq_false', ↓decT, ↓decF, out_true, out_false, isin_true, isin_false, Int.toNat_natCast, Int.ofNat_lt, Nat.zero_add, Nat.add_zero, Nat.reduceAdd, id, scT_e, weighS_t, hbC]; done)
      | (simp only [atOf_agg, im_imD, taskOf_agg, ↓Bool.not_eq_true', ↓Bool.not_eq_false', ↓decT, ↓decF, out_true, out_false, isin_true, isin_false, Int.toNat_natCast, Int.ofNat_lt, Nat.zero_add, Nat.add_zero, Nat.reduceAdd, id, scT_e, weighS_t, hbC]; rfl)
  have hi : i ≤ t.ns := hi
  have hns := ho.1.ns
  conv => whnf
  refine ⟨fun g1 => ?_, fun g1 => ?_⟩
  rotate_left
  · have e : i = t.ns := by have := of_decide_eq_false g1; omega
    subst e
    repeat' (first | ((with_reducible refine kok ?_); kernel_rfl) | ((with_reducible refine keq_mk ?_); kernel_rfl) | with_reducible rfl | ((conv => whnf); first | (with_reducible exact trivial) | ((with_reducible refine and_ff ?_ ?_); · exact rfl) | ((with_reducible refine and_tt ?_ ?_); · exact rfl) | (with_reducible refine And.intro ?_ ?_) | intro _ | (with_reducible refine fin2 hk ?_) | ((with_reducible refine eq_leaf ?_); exact rfl) | exact trivial))
    all_goals (clear hk; rw [bE_3 e0 hbp]; first | done | rfl)
  have hlt : i < t.ns := by have := of_decide_eq_true g1; omega
  have hmi := miss_in hsc (i := (bB t n a).toNat) (by unfold bB; rw [weighS_t]; omega)
  repeat' (first | ((with_reducible refine kok ?_); kernel_rfl) | ((with_reducible refine keq_mk ?_); kernel_rfl) | with_reducible rfl | ((conv => whnf); first | (with_reducible exact trivial) | ((with_reducible refine and_ff ?_ ?_); · exact rfl) | ((with_reducible refine and_tt ?_ ?_); · exact rfl) | (with_reducible refine And.intro ?_ ?_) | intro _ | (with_reducible refine fin2 hk ?_) | ((with_reducible refine eq_leaf ?_); exact rfl) | exact trivial))
  all_goals try exact sc_self _
  all_goals try exact hsc
  all_goals try exact Int.ofNat_lt.2 hlt
  all_goals try (clear hk; (first | with_reducible refine (?_ : (_ : Int) ≤ _) | with_reducible refine (?_ : (_ : Int) < _)); omega)
  all_goals try exact hmi.1
  all_goals try exact hmi.2
  all_goals try (clear hk; show (i + 1) * 16 ≤ 140737488355328; omega)
  all_goals try (clear hk; show 4 ≤ 1099511627776; decide)
  all_goals try (clear hk; show (i : Int) < ((weighS t n a).t.ns : Int); rw [weighS_t]; exact Int.ofNat_lt.2 hlt)
  all_goals try (
    clear hk
    rename_i q0 q1 q2 q3
    obtain rfl : q1 = 0 := by omega
    have q4 : q0 = 0 ∨ q0 = 1 ∨ q0 = 2 ∨ q0 = 3 := by omega
    rcases q4 with rfl | rfl | rfl | rfl <;> rfl)
  all_goals (
    clear hk
    rename_i q1 q2
    conv => whnf
    refine ⟨i + 1, ?_⟩
    repeat' (first | ((with_reducible refine kok ?_); kernel_rfl) | ((with_reducible refine keq_mk ?_); kernel_rfl) | with_reducible rfl | ((conv => whnf); first | (with_reducible exact trivial) | ((with_reducible refine and_ff ?_ ?_); · exact rfl) | ((with_reducible refine and_tt ?_ ?_); · exact rfl) | (with_reducible refine And.intro ?_ ?_) | intro _ | (with_reducible refine fin2 hk ?_) | ((with_reducible refine eq_leaf ?_); exact rfl) | exact trivial)))
  all_goals try exact hlt
  all_goals try (simp only; omega)
  · exact snoc2 (whyM_own (of_decide_eq_true q2)).1 (whyM_own (of_decide_eq_true q2)).2 (by assumption) (by assumption)
  · have F := whyM_far (m := bM t n a) (of_decide_eq_false q2) (q1 : alwB (weighS t n a) i = true)
    exact snoc2 F.1 (F.2.trans (ff4 rfl rfl rfl rfl)) (by assumption) (by assumption)
  · exact snoc2 (whyM_own (of_decide_eq_true q2)).1 (whyM_own (of_decide_eq_true q2)).2 (by assumption) (by assumption)
  · have F := whyM_out (m := bM t n a) (of_decide_eq_false q2) (q1 : alwB (weighS t n a) i = false)
    exact snoc2 F.1 (F.2.trans (ff4 rfl rfl rfl rfl)) (by assumption) (by assumption)
end Go.Proofs.Ytbakdblbknfadaa
end
section
set_option linter.unusedVariables false
set_option linter.unusedSimpArgs false
set_option maxRecDepth 100000
set_option maxHeartbeats 4000000
namespace Go.Proofs.Ytbakdblbknfadaa
open Go.V
theorem ff_first {p : Nat → Bool} {k : Nat} (hk : k ≤ 3) (h : ∀ j, j < k → p j = false) (hp : p k = true) : firstFrom p 0 4 = k := by
  have e : k = 0 ∨ k = 1 ∨ k = 2 ∨ k = 3 := by omega
  rcases e with rfl | rfl | rfl | rfl
  · simp only [firstFrom]; rw [if_pos hp]
  · simp only [firstFrom]; rw [if_neg (by rw [h 0 (by omega)]; exact Bool.noConfusion), if_pos hp]
  · simp only [firstFrom]; rw [if_neg (by rw [h 0 (by omega)]; exact Bool.noConfusion), if_neg (by rw [h 1 (by omega)]; exact Bool.noConfusion), if_pos hp]
  · simp only [firstFrom]; rw [if_neg (by rw [h 0 (by omega)]; exact Bool.noConfusion), if_neg (by rw [h 1 (by omega)]; exact Bool.noConfusion), if_neg (by rw [h 2 (by omega)]; exact Bool.noConfusion), if_pos hp]
theorem whyM_k {s : Scn} {i : Nat} {b m : Int} (h : ¬ (i : Int) = b) : whyM s b m i 1 = firstFrom (mkB s i b m) 0 4 := by
  show whyA s i b m = _; unfold whyA; rw [if_neg h]
attribute [local irreducible] weighS chkA checkBands lowB ScOK askE imp missS alwB sdB farB bestTo whyM ScIs soB mkB
theorem qBestT_ok : PSound Go.Proofs.Try.prog 22 (mk (rTL bestT)) := by
  refine psound_mk Try.func22 (by kernel_rfl) rfl (ctx la21_ok) ?_
  (intro ds p d h; unfold rTL at h; split at h <;> first | (cases h; done) | skip; cases h; refine ⟨Nat.le_of_ble_eq_true rfl, fun hp k hk => ?_⟩)
  rename_i d n g
  obtain ⟨ht, hg⟩ := hp
  have hf := at_fits ht
  refine ⟨[(atOf d).D, .rsl 6 n (imD (im g))], at_imp ht ⟨rfl, hg, ?_⟩⟩
  clear ht hg
  generalize atOf d = t at *
  generalize im g = a at *
  unfold bestT at hk
  repeat' (first | ((with_reducible refine kok ?_); kernel_rfl) | ((with_reducible refine keq_mk ?_); kernel_rfl) | with_reducible rfl | ((conv => whnf); first | (with_reducible exact trivial) | ((with_reducible refine and_ff ?_ ?_); · exact rfl) | ((with_reducible refine and_tt ?_ ?_); · exact rfl) | (with_reducible refine And.intro ?_ ?_) | intro _ | (with_reducible refine fin2 hk ?_) | ((with_reducible refine eq_leaf ?_); exact rfl) | exact trivial))
  all_goals try (clear hk; first | exact hf.1 | exact hf.2)
  all_goals try (
    clear hk
    simp only [atOf_agg, im_imD, taskOf_agg, ↓Bool.not_eq_true', ↓Bool.not_eq_false', ↓decT, ↓decF, out_true, out_false, isin_true, isin_false, Int.toNat_natCast, Int.ofNat_lt, Nat.zero_add, Nat.add_zero, Nat.reduceAdd, id, scT_e, weighS_t] at *
    first
    | (rw [bE_1 (by assumption)]; first | done | rw [ifz_ne (by assumption)] | rw [ifn_ne (by assumption)])
    | (rw [bE_2 (by assumption) (by assumption)]; first | done | rw [ifz_ne (by decide)] | rw [ifn_ne (by decide)])
    | exact (ask_ok (by assumption)).1
    | exact (ask_ok (by assumption)).2.1
    | (have hbi := best_in (weighS t n a) t.ns; omega))
  rename_i g3 g4
  simp only [atOf_agg, im_imD, taskOf_agg, ↓Bool.not_eq_true', ↓Bool.not_eq_false', ↓decT, ↓decF, out_true, out_false, isin_true, isin_false, Int.toNat_natCast, Int.ofNat_lt, Nat.zero_add, Nat.add_zero, Nat.reduceAdd, id, scT_e, weighS_t] at g3 g4
  have ho := ask_ok g3
  have hsc := weighS_ok ho.1 ho.2.1
  have hns := ho.1.ns
  have hbi := best_in (weighS t n a) t.ns
  have hbp : ¬ bestTo (weighS t n a) t.ns < 0 := by omega
  conv => whnf
  refine ⟨Nat, fun i => [(1, .rsl 6 n (imD a)), (2, .ptr 0 0), (4, .ptr 1 0), (7, .int .i64 (bB t n a)), (8, .ptr 2 0), (9, .int .i64 i)],
    fun i => [some (.row t.cells), some (.row [.top, .top, .top]), some (.row [.int .i64 (bB t n a), .int .i64 (bM t n a), .own 3 i]), some (.buf 106 2 i (imD (whyM (weighS t n a) (bB t n a) (bM t n a))))],
    fun i => t.ns - i, fun i => i ≤ t.ns, [(106, 2)], 0, fun _ => ⟨?_, ?_⟩, ?_, fun i hi => ?_⟩
  · conv => lhs; whnf
  · conv => lhs; whnf
  · clear hk
    repeat' (first | ((with_reducible refine kok ?_); kernel_rfl) | ((with_reducible refine keq_mk ?_); kernel_rfl) | with_reducible rfl | ((conv => whnf); first | (with_reducible exact trivial) | ((with_reducible refine and_ff ?_ ?_); · exact rfl) | ((with_reducible refine and_tt ?_ ?_); · exact rfl) | (with_reducible refine And.intro ?_ ?_) | intro _ | (with_reducible refine fin2 hk ?_) | ((with_reducible refine eq_leaf ?_); exact rfl) | exact trivial))
    all_goals first
      | exact Nat.zero_le _
      | (exact absurd (by assumption) (Nat.not_lt_zero _))
      | rfl
      | (simp only [atOf_agg, im_imD, taskOf_agg, ↓Bool.not_eq_true', ↓Bool.not_eq_false', ↓decT, ↓decF, out_true, out_false, isin_true, isin_false, Int.toNat_natCast, Int.ofNat_lt, Nat.zero_add, Nat.add_zero, Nat.reduceAdd, id, scT_e, weighS_t]; done)
      | (simp only [atOf_agg, im_imD, taskOf_agg, ↓Bool.not_eq_true', ↓Bool.not_eq_false', ↓decT, ↓decF, out_true, out_false, isin_true, isin_false, Int.toNat_natCast, Int.ofNat_lt, Nat.zero_add, Nat.add_zero, Nat.reduceAdd, id, scT_e, weighS_t]; rfl)
  have hi : i ≤ t.ns := hi
  conv => whnf
  refine ⟨fun g1 => ?_, fun g1 => ?_⟩
  rotate_left
  · have e : i = t.ns := by have := of_decide_eq_false g1; omega
    subst e
    repeat' (first | ((with_reducible refine kok ?_); kernel_rfl) | ((with_reducible refine keq_mk ?_); kernel_rfl) | with_reducible rfl | ((conv => whnf); first | (with_reducible exact trivial) | ((with_reducible refine and_ff ?_ ?_); · exact rfl) | ((with_reducible refine and_tt ?_ ?_); · exact rfl) | (with_reducible refine And.intro ?_ ?_) | intro _ | (with_reducible refine fin2 hk ?_) | ((with_reducible refine eq_leaf ?_); exact rfl) | exact trivial))
    all_goals (clear hk; rw [bE_3 g3 hbp]; first | done | rfl)
  have hlt : i < t.ns := by have := of_decide_eq_true g1; omega
  repeat' (first | ((with_reducible refine kok ?_); kernel_rfl) | ((with_reducible refine keq_mk ?_); kernel_rfl) | with_reducible rfl | ((conv => whnf); first | (with_reducible exact trivial) | ((with_reducible refine and_ff ?_ ?_); · exact rfl) | ((with_reducible refine and_tt ?_ ?_); · exact rfl) | (with_reducible refine And.intro ?_ ?_) | intro _ | (with_reducible refine fin2 hk ?_) | ((with_reducible refine eq_leaf ?_); exact rfl) | exact trivial))
  all_goals try (clear hk; first | exact hf.1 | exact hf.2)
  all_goals try (clear hk; simp only [atOf_agg, im_imD]; first | exact ho.1 | exact ho.2.1)
  all_goals try (clear hk; show (i + 1) * 16 ≤ 140737488355328; omega)
  all_goals try (clear hk; simp only [atOf_agg]; exact Int.ofNat_lt.2 hlt)
  all_goals try (clear hk; (first | with_reducible refine (?_ : (_ : Int) ≤ _) | with_reducible refine (?_ : (_ : Int) < _)); first | omega | (simp only [taskOf_agg, ↓Bool.not_eq_true', ↓Bool.not_eq_false', ↓decT, ↓decF, out_true, out_false, isin_true, isin_false, Int.toNat_natCast, Int.ofNat_lt, Nat.zero_add, Nat.add_zero, Nat.reduceAdd]; omega))
  · rename_i g5 g6
    have h5 : ¬ (i : Int) = bB t n a := by simpa using g5
    have q : alwB (weighS t n a) i = false := by simp only [atOf_agg, im_imD, Int.toNat_natCast] at g6; simpa using g6
    have hK : whyK (weighS t n a) i (bB t n a) = 1 := by unfold whyK; rw [if_neg h5, if_neg (by rw [q]; exact Bool.noConfusion)]
    have hx := mk_some (m := bM t n a) h5 (fun qa => by
      have := best_le (weighS t n a) t.ns i hlt qa
      exact ⟨this.2.1, this.2.2⟩)
    obtain ⟨k0, hk0, hm0⟩ := hx
    have hso := fun (k : Nat) (hk : k ≤ 3) => (so_mk (s := weighS t n a) (m := bM t n a) h5 hk)
    rw [hK] at hso
    conv => whnf
    refine ⟨Nat, fun k => [(1, .rsl 6 n (imD a)), (2, .ptr 0 0), (4, .ptr 1 0), (7, .int .i64 (bB t n a)), (8, .ptr 2 0), (9, .int .i64 i), (10, .ptr 4 0)],
      fun k => [some (.row t.cells), some (.row [.top, .top, .top]), some (.row [.int .i64 (bB t n a), .int .i64 (bM t n a), .own 3 i]), some (.buf 106 2 i (imD (whyM (weighS t n a) (bB t n a) (bM t n a)))), some (.row [.int .i64 1, .int .i64 k])],
      fun k => 4 - k, fun k => k ≤ 3 ∧ ∀ j, j < k → mkB (weighS t n a) i (bB t n a) (bM t n a) j = false, [], 0, fun _ => ⟨?_, ?_⟩, ?_, fun k hkk => ?_⟩
    · conv => lhs; whnf
    · conv => lhs; whnf
    · clear hk
      repeat' (first | ((with_reducible refine kok ?_); kernel_rfl) | ((with_reducible refine keq_mk ?_); kernel_rfl) | with_reducible rfl | ((conv => whnf); first | (with_reducible exact trivial) | ((with_reducible refine and_ff ?_ ?_); · exact rfl) | ((with_reducible refine and_tt ?_ ?_); · exact rfl) | (with_reducible refine And.intro ?_ ?_) | intro _ | (with_reducible refine fin2 hk ?_) | ((with_reducible refine eq_leaf ?_); exact rfl) | exact trivial))
      all_goals first
        | exact Nat.zero_le _
        | (exact absurd (by assumption) (Nat.not_lt_zero _))
        | rfl
    obtain ⟨hk3, hkf⟩ := hkk
    have hk3 : k ≤ 3 := hk3
    have hko := hso k hk3
    repeat' (first | ((with_reducible refine kok ?_); kernel_rfl) | ((with_reducible refine keq_mk ?_); kernel_rfl) | with_reducible rfl | ((conv => whnf); first | (with_reducible exact trivial) | ((with_reducible refine and_ff ?_ ?_); · exact rfl) | ((with_reducible refine and_tt ?_ ?_); · exact rfl) | (with_reducible refine And.intro ?_ ?_) | intro _ | (with_reducible refine fin2 hk ?_) | ((with_reducible refine eq_leaf ?_); exact rfl) | exact trivial))
    all_goals try (clear hk; first | exact hf.1 | exact hf.2)
    all_goals try (clear hk; simp only [atOf_agg, im_imD]; first | exact ho.1 | exact ho.2.1)
    all_goals try (clear hk; show (i + 1) * 16 ≤ 140737488355328; omega)
    all_goals try (clear hk; simp only [atOf_agg]; exact Int.ofNat_lt.2 hlt)
    all_goals try (clear hk; (first | with_reducible refine (?_ : (_ : Int) ≤ _) | with_reducible refine (?_ : (_ : Int) < _)); first | omega | (simp only [taskOf_agg, ↓Bool.not_eq_true', ↓Bool.not_eq_false', ↓decT, ↓decF, out_true, out_false, isin_true, isin_false, Int.toNat_natCast, Int.ofNat_lt, Nat.zero_add, Nat.add_zero, Nat.reduceAdd]; omega))
    all_goals (
      clear hk
      rename_i g7
      simp only [atOf_agg, im_imD, Int.toNat_natCast, taskOf_agg, ↓Bool.not_eq_true', ↓Bool.not_eq_false', ↓decT, ↓decF, out_true, out_false, isin_true, isin_false, Int.toNat_natCast, Int.ofNat_lt, Nat.zero_add, Nat.add_zero, Nat.reduceAdd] at g7)
    · rw [hko] at g7
      have hlt3 : k < 3 := by
        by_cases z : k = k0
        · rw [z, hm0] at g7; exact absurd g7 (by decide)
        · have : k < k0 := by
            by_cases y : k0 < k
            · rw [hkf k0 y] at hm0; exact absurd hm0 (by decide)
            · omega
          omega
      conv => whnf
      refine ⟨k + 1, ?_⟩
      repeat' (first | ((with_reducible refine kok ?_); kernel_rfl) | ((with_reducible refine keq_mk ?_); kernel_rfl) | with_reducible rfl | ((conv => whnf); first | (with_reducible exact trivial) | ((with_reducible refine and_ff ?_ ?_); · exact rfl) | ((with_reducible refine and_tt ?_ ?_); · exact rfl) | (with_reducible refine And.intro ?_ ?_) | intro _ | (with_reducible refine fin2 hk ?_) | ((with_reducible refine eq_leaf ?_); exact rfl) | exact trivial))
      all_goals first
        | exact hlt3
        | (rename_i j hj
           by_cases z : j = k
           · rw [z]; simpa using g7
           · exact hkf j (by omega))
        | (simp only; omega)
    · rw [hko] at g7
      have hff := ff_first hk3 hkf g7
      conv => whnf
      refine ⟨i + 1, ?_⟩
      repeat' (first | ((with_reducible refine kok ?_); kernel_rfl) | ((with_reducible refine keq_mk ?_); kernel_rfl) | with_reducible rfl | ((conv => whnf); first | (with_reducible exact trivial) | ((with_reducible refine and_ff ?_ ?_); · exact rfl) | ((with_reducible refine and_tt ?_ ?_); · exact rfl) | (with_reducible refine And.intro ?_ ?_) | intro _ | (with_reducible refine fin2 hk ?_) | ((with_reducible refine eq_leaf ?_); exact rfl) | exact trivial))
      all_goals first
        | exact snoc2 (whyM_out h5 q).1 ((whyM_k h5).trans hff) (by assumption) (by assumption)
        | exact hlt
        | (simp only; omega)
  · rename_i g5 g6
    have h5 : ¬ (i : Int) = bB t n a := by simpa using g5
    have q : alwB (weighS t n a) i = true := by simp only [atOf_agg, im_imD, Int.toNat_natCast] at g6; simpa using g6
    have hK : whyK (weighS t n a) i (bB t n a) = 2 := by unfold whyK; rw [if_neg h5, if_pos q]
    have hx := mk_some (m := bM t n a) h5 (fun qa => by
      have := best_le (weighS t n a) t.ns i hlt qa
      exact ⟨this.2.1, this.2.2⟩)
    obtain ⟨k0, hk0, hm0⟩ := hx
    have hso := fun (k : Nat) (hk : k ≤ 3) => (so_mk (s := weighS t n a) (m := bM t n a) h5 hk)
    rw [hK] at hso
    conv => whnf
    refine ⟨Nat, fun k => [(1, .rsl 6 n (imD a)), (2, .ptr 0 0), (4, .ptr 1 0), (7, .int .i64 (bB t n a)), (8, .ptr 2 0), (9, .int .i64 i), (10, .ptr 4 0)],
      fun k => [some (.row t.cells), some (.row [.top, .top, .top]), some (.row [.int .i64 (bB t n a), .int .i64 (bM t n a), .own 3 i]), some (.buf 106 2 i (imD (whyM (weighS t n a) (bB t n a) (bM t n a)))), some (.row [.int .i64 2, .int .i64 k])],
      fun k => 4 - k, fun k => k ≤ 3 ∧ ∀ j, j < k → mkB (weighS t n a) i (bB t n a) (bM t n a) j = false, [], 0, fun _ => ⟨?_, ?_⟩, ?_, fun k hkk => ?_⟩
    · conv => lhs; whnf
    · conv => lhs; whnf
    · clear hk
      repeat' (first | ((with_reducible refine kok ?_); kernel_rfl) | ((with_reducible refine keq_mk ?_); kernel_rfl) | with_reducible rfl | ((conv => whnf); first | (with_reducible exact trivial) | ((with_reducible refine and_ff ?_ ?_); · exact rfl) | ((with_reducible refine and_tt ?_ ?_); · exact rfl) | (with_reducible refine And.intro ?_ ?_) | intro _ | (with_reducible refine fin2 hk ?_) | ((with_reducible refine eq_leaf ?_); exact rfl) | exact trivial))
      all_goals first
        | exact Nat.zero_le _
        | (exact absurd (by assumption) (Nat.not_lt_zero _))
        | rfl
    obtain ⟨hk3, hkf⟩ := hkk
    have hk3 : k ≤ 3 := hk3
    have hko := hso k hk3
    repeat' (first | ((with_reducible refine kok ?_); kernel_rfl) | ((with_reducible refine keq_mk ?_); kernel_rfl) | with_reducible rfl | ((conv => whnf); first | (with_reducible exact trivial) | ((with_reducible refine and_ff ?_ ?_); · exact rfl) | ((with_reducible refine and_tt ?_ ?_); · exact rfl) | (with_reducible refine And.intro ?_ ?_) | intro _ | (with_reducible refine fin2 hk ?_) | ((with_reducible refine eq_leaf ?_); exact rfl) | exact trivial))
    all_goals try (clear hk; first | exact hf.1 | exact hf.2)
    all_goals try (clear hk; simp only [atOf_agg, im_imD]; first | exact ho.1 | exact ho.2.1)
    all_goals try (clear hk; show (i + 1) * 16 ≤ 140737488355328; omega)
    all_goals try (clear hk; simp only [atOf_agg]; exact Int.ofNat_lt.2 hlt)
    all_goals try (clear hk; (first | with_reducible refine (?_ : (_ : Int) ≤ _) | with_reducible refine (?_ : (_ : Int) < _)); first | omega | (simp only [taskOf_agg, ↓Bool.not_eq_true', ↓Bool.not_eq_false', ↓decT, ↓decF, out_true, out_false, isin_true, isin_false, Int.toNat_natCast, Int.ofNat_lt, Nat.zero_add, Nat.add_zero, Nat.reduceAdd]; omega))
    all_goals (
      clear hk
      rename_i g7
      simp only [atOf_agg, im_imD, Int.toNat_natCast, taskOf_agg, ↓Bool.not_eq_true', ↓Bool.not_eq_false', ↓decT, ↓decF, out_true, out_false, isin_true, isin_false, Int.toNat_natCast, Int.ofNat_lt, Nat.zero_add, Nat.add_zero, Nat.reduceAdd] at g7)
    · rw [hko] at g7
      have hlt3 : k < 3 := by
        by_cases z : k = k0
        · rw [z, hm0] at g7; exact absurd g7 (by decide)
        · have : k < k0 := by
            by_cases y : k0 < k
            · rw [hkf k0 y] at hm0; exact absurd hm0 (by decide)
            · omega
          omega
      conv => whnf
      refine ⟨k + 1, ?_⟩
      repeat' (first | ((with_reducible refine kok ?_); kernel_rfl) | ((with_reducible refine keq_mk ?_); kernel_rfl) | with_reducible rfl | ((conv => whnf); first | (with_reducible exact trivial) | ((with_reducible refine and_ff ?_ ?_); · exact rfl) | ((with_reducible refine and_tt ?_ ?_); · exact rfl) | (with_reducible refine And.intro ?_ ?_) | intro _ | (with_reducible refine fin2 hk ?_) | ((with_reducible refine eq_leaf ?_); exact rfl) | exact trivial))
      all_goals first
        | exact hlt3
        | (rename_i j hj
           by_cases z : j = k
           · rw [z]; simpa using g7
           · exact hkf j (by omega))
        | (simp only; omega)
    · rw [hko] at g7
      have hff := ff_first hk3 hkf g7
      conv => whnf
      refine ⟨i + 1, ?_⟩
      repeat' (first | ((with_reducible refine kok ?_); kernel_rfl) | ((with_reducible refine keq_mk ?_); kernel_rfl) | with_reducible rfl | ((conv => whnf); first | (with_reducible exact trivial) | ((with_reducible refine and_ff ?_ ?_); · exact rfl) | ((with_reducible refine and_tt ?_ ?_); · exact rfl) | (with_reducible refine And.intro ?_ ?_) | intro _ | (with_reducible refine fin2 hk ?_) | ((with_reducible refine eq_leaf ?_); exact rfl) | exact trivial))
      all_goals first
        | exact snoc2 (whyM_far h5 q).1 ((whyM_k h5).trans hff) (by assumption) (by assumption)
        | exact hlt
        | (simp only; omega)
  · clear hk
    rename_i g5
    have h5 : (i : Int) = bB t n a := by simpa using g5
    conv => whnf
    refine ⟨i + 1, ?_⟩
    repeat' (first | ((with_reducible refine kok ?_); kernel_rfl) | ((with_reducible refine keq_mk ?_); kernel_rfl) | with_reducible rfl | ((conv => whnf); first | (with_reducible exact trivial) | ((with_reducible refine and_ff ?_ ?_); · exact rfl) | ((with_reducible refine and_tt ?_ ?_); · exact rfl) | (with_reducible refine And.intro ?_ ?_) | intro _ | (with_reducible refine fin2 hk ?_) | ((with_reducible refine eq_leaf ?_); exact rfl) | exact trivial))
    all_goals first
      | exact snoc2 (whyM_own h5).1 (whyM_own h5).2 (by assumption) (by assumption)
      | exact hlt
      | (simp only; omega)
end Go.Proofs.Ytbakdblbknfadaa
end
section
set_option linter.unusedVariables false
set_option linter.unusedSimpArgs false
set_option maxRecDepth 100000
set_option maxHeartbeats 4000000
namespace Go.Proofs.Ytbakdblbknfadaa
open Go.V
def rSpan2 : List V.D → Option (Prop × V.D) := fun ds => match ds with
  | [.int .i64 a, .int .i64 b] => some (True, .agg [.int .i64 a, .int .i64 b])
  | _ => none
theorem lSpan_ok : PSound Go.Proofs.Try.prog 53 (mk rSpan2) := by
  refine psound_mk Try.func53 (by kernel_rfl) rfl (ctx la21_ok) ?_
  (intro ds p d h; unfold rSpan2 at h; split at h <;> first | (cases h; done) | skip; cases h; refine ⟨Nat.le_of_ble_eq_true rfl, fun hp k hk => ?_⟩)
  rename_i a b
  refine ⟨[.int .i64 a, .int .i64 b], rfl, rfl, ?_⟩
  repeat' (first | ((with_reducible refine kok ?_); kernel_rfl) | ((with_reducible refine keq_mk ?_); kernel_rfl) | with_reducible rfl | ((conv => whnf); first | (with_reducible exact trivial) | ((with_reducible refine and_ff ?_ ?_); · exact rfl) | ((with_reducible refine and_tt ?_ ?_); · exact rfl) | (with_reducible refine And.intro ?_ ?_) | intro _ | (with_reducible refine fin2 hk ?_) | ((with_reducible refine eq_leaf ?_); exact rfl) | exact trivial))
def rArea4 : List V.D → Option (Prop × V.D) := fun ds => match ds with
  | [.int .i64 a, .int .i64 b, .int .i64 c, .int .i64 d] => some (True, .agg [.int .i64 a, .int .i64 b, .int .i64 c, .int .i64 d])
  | _ => none
noncomputable def la22 : Lib := (53, mk rSpan2) :: (28, mk (rTL weighT)) :: (21, mk (rTL bestT)) :: la21
theorem la22_ok : LibOK Go.Proofs.Try.prog la22 := .cons lSpan_ok (.cons aWeighT_ok (.cons aBestT_ok la21_ok))
theorem lArea_ok : PSound Go.Proofs.Try.prog 46 (mk rArea4) := by
  refine psound_mk Try.func46 (by kernel_rfl) rfl (ctx la22_ok) ?_
  (intro ds p d h; unfold rArea4 at h; split at h <;> first | (cases h; done) | skip; cases h; refine ⟨Nat.le_of_ble_eq_true rfl, fun hp k hk => ?_⟩)
  rename_i a b c d
  refine ⟨[.int .i64 a, .int .i64 b, .int .i64 c, .int .i64 d], rfl, rfl, rfl, rfl, ?_⟩
  repeat' (first | ((with_reducible refine kok ?_); kernel_rfl) | ((with_reducible refine keq_mk ?_); kernel_rfl) | with_reducible rfl | ((conv => whnf); first | (with_reducible exact trivial) | ((with_reducible refine and_ff ?_ ?_); · exact rfl) | ((with_reducible refine and_tt ?_ ?_); · exact rfl) | (with_reducible refine And.intro ?_ ?_) | intro _ | (with_reducible refine fin2 hk ?_) | ((with_reducible refine eq_leaf ?_); exact rfl) | exact trivial))
noncomputable def la23 : Lib := (46, mk rArea4) :: la22
theorem la23_ok : LibOK Go.Proofs.Try.prog la23 := .cons lArea_ok la22_ok
def exA : ATask := ⟨2, tabI [[0, 200000, 2000, 3000], [200000, 1000000, -500, -400]], 3, tabI [[10000, 20000, -5000, 5000, 1000], [6000, 16000, -5000, 5000, 1500], [9000, 19000, -5000, 5000, 1000]], 15000, 0, 5000, 25000, -10000, 10000, 10, 50, 200⟩
theorem lExample_ok : PSound Go.Proofs.Try.prog 44 (mk (rConst exA.D)) := by
  refine psound_mk Try.func44 (by kernel_rfl) rfl (ctx la23_ok) ?_
  (intro ds p d h; unfold rConst at h; split at h <;> first | (cases h; done) | skip; cases h; refine ⟨Nat.le_of_ble_eq_true rfl, fun hp k hk => ?_⟩)
  refine ⟨[], ?_⟩
  repeat' (first | ((with_reducible refine kok ?_); kernel_rfl) | ((with_reducible refine keq_mk ?_); kernel_rfl) | with_reducible rfl | ((conv => whnf); first | (with_reducible exact trivial) | ((with_reducible refine and_ff ?_ ?_); · exact rfl) | ((with_reducible refine and_tt ?_ ?_); · exact rfl) | (with_reducible refine And.intro ?_ ?_) | intro _ | (with_reducible refine fin2 hk ?_) | ((with_reducible refine eq_leaf ?_); exact rfl) | exact trivial))
  · rename_i i j hi hj
    have hi' : i = 0 ∨ i = 1 := by have : exA.nr = 2 := rfl; omega
    have hj' : j = 0 ∨ j = 1 ∨ j = 2 ∨ j = 3 := by omega
    rcases hi' with rfl | rfl <;> rcases hj' with rfl | rfl | rfl | rfl <;> rfl
  · rename_i i j hi hj
    have hi' : i = 0 ∨ i = 1 ∨ i = 2 := by have : exA.ns = 3 := rfl; omega
    have hj' : j = 0 ∨ j = 1 ∨ j = 2 ∨ j = 3 ∨ j = 4 := by omega
    rcases hi' with rfl | rfl | rfl <;> rcases hj' with rfl | rfl | rfl | rfl | rfl <;> rfl
def rRoundsN : List V.D → Option (Prop × V.D) := fun ds => match ds with
  | [d, w, .int .i64 l, .nilS] => some (AtIs d ∧ TaskIs w ∧ (taskOf w).fits ∧ (chkA (atOf d)).2.2 = 0 ∧ (checkS (taskOf w)).2.2 = 0 ∧ l < 0, .tup [.rsl 5 0 (fun _ _ => .top), .int .i64 7])
  | _ => none
attribute [local irreducible] chkA checkS
theorem aRoundsN_ok : PSound Go.Proofs.Try.prog 24 (mk rRoundsN) := by
  refine psound_mk Try.func24 (by kernel_rfl) rfl (ctx la23_ok) ?_
  (intro ds p d h; unfold rRoundsN at h; split at h <;> first | (cases h; done) | skip; cases h; refine ⟨Nat.le_of_ble_eq_true rfl, fun hp k hk => ?_⟩)
  rename_i d w l
  obtain ⟨ht, hw, hwf, h1, h2, hl⟩ := hp
  have hf := at_fits ht
  refine ⟨[(atOf d).D, (taskOf w).D, .int .i64 l, .nilS], at_imp ht (task_imp hw ⟨rfl, ?_⟩)⟩
  clear ht hw
  generalize atOf d = t at *
  generalize taskOf w = u at *
  repeat' (first | ((with_reducible refine kok ?_); kernel_rfl) | ((with_reducible refine keq_mk ?_); kernel_rfl) | with_reducible rfl | ((conv => whnf); first | (with_reducible exact trivial) | ((with_reducible refine and_ff ?_ ?_); · exact rfl) | ((with_reducible refine and_tt ?_ ?_); · exact rfl) | (with_reducible refine And.intro ?_ ?_) | intro _ | (with_reducible refine fin2 hk ?_) | ((with_reducible refine eq_leaf ?_); exact rfl) | exact trivial))
  all_goals clear hk
  all_goals try first | exact hf.1 | exact hf.2 | exact hwf _ (by assumption)
  all_goals try (exfalso; simp only [atOf_agg, taskOf_agg, taskOf_agg, ↓Bool.not_eq_true', ↓Bool.not_eq_false', ↓decT, ↓decF, out_true, out_false, isin_true, isin_false, Int.toNat_natCast, Int.ofNat_lt, Nat.zero_add, Nat.add_zero, Nat.reduceAdd] at *; contradiction)
  all_goals try (exfalso; simp only [out] at *; simp at *; omega)
theorem exA_chk : chkA exA = (0, 0, 0) := by decide +kernel
theorem exA_ask : askE exA 2 winA = 0 := by decide +kernel
theorem exA_chkW : checkS exT = (0, 0, 0) := by decide +kernel
theorem exA_xl : (weighS exA 2 winA).xl = 830000 := by decide +kernel
theorem exA_xh : (weighS exA 2 winA).xh = 2084000 := by decide +kernel
theorem exA_yl : (weighS exA 2 winA).yl = -570000 := by decide +kernel
theorem exA_yh : (weighS exA 2 winA).yh = 295000 := by decide +kernel
theorem exA_b : bestTo (weighS exA 2 winA) exA.ns = 2 := by decide +kernel
theorem exA_m : missS (weighS exA 2 winA) 2 = 85 := by decide +kernel
theorem exA_bE : bE exA 2 winA = 0 := bE_3 exA_ask (by rw [exA_b]; decide)
theorem exA_bB : bB exA 2 winA = 2 := exA_b
theorem exA_bM : bM exA 2 winA = 85 := by unfold bM; rw [exA_bB]; exact exA_m
noncomputable def la24 : Lib := (24, mk rRoundsN) :: (44, mk (rConst exA.D)) :: la23
theorem la24_ok : LibOK Go.Proofs.Try.prog la24 := .cons aRoundsN_ok (.cons lExample_ok la23_ok)
theorem exA_fits : exA.fits := ⟨Nat.le_of_ble_eq_true rfl, Nat.le_of_ble_eq_true rfl⟩
theorem exA_at : atOf (.agg exA.cells) = exA := rfl
attribute [local irreducible] exA exT weighS askE bE bB bM winA
theorem awakeA_ok : PSound Go.Proofs.Try.prog 20 (mk (rConst .tt)) := by
  refine psound_mk Try.func20 (by kernel_rfl) rfl (ctx la24_ok) ?_
  (intro ds p d h; unfold rConst at h; split at h <;> first | (cases h; done) | skip; cases h; refine ⟨Nat.le_of_ble_eq_true rfl, fun hp k hk => ?_⟩)
  refine ⟨[], ?_⟩
  repeat' (first | ((with_reducible refine kok ?_); kernel_rfl) | ((with_reducible refine keq_mk ?_); kernel_rfl) | with_reducible rfl | ((conv => whnf); first | (with_reducible exact trivial) | ((with_reducible refine and_ff ?_ ?_); · exact rfl) | ((with_reducible refine and_tt ?_ ?_); · exact rfl) | (with_reducible refine And.intro ?_ ?_) | intro _ | (with_reducible refine fin2 hk ?_) | ((with_reducible refine eq_leaf ?_); exact rfl) | exact trivial))
  all_goals clear hk
  all_goals try first | exact exA_fits.1 | exact exA_fits.2 | exact ex_fits _ (by assumption) | exact (congrArg (fun x => x.2.2) exA_chk) | exact (congrArg (fun x => x.2.2) exA_chkW) | decide
  all_goals simp only [exA_at, im_imD, exA_ask, exA_bE, exA_bB, exA_bM, exA_xl, exA_xh, exA_yl, exA_yh, ifz_0, taskOf_agg, ↓Bool.not_eq_true', ↓Bool.not_eq_false', ↓decT, ↓decF, out_true, out_false, isin_true, isin_false, Int.toNat_natCast, Int.ofNat_lt, Nat.zero_add, Nat.add_zero, Nat.reduceAdd, Int.toNat_zero, Int.reduceToNat, ↓reduceIte, reduceCtorEq, Bool.or_eq_true, Bool.or_eq_false_iff, Bool.and_eq_true, Bool.and_eq_false_iff] at *
  all_goals first | rfl | trivial | simp_all
noncomputable def la25 : Lib := (20, mk (rConst .tt)) :: (44, mk (rConst exA.D)) :: la23
theorem la25_ok : LibOK Go.Proofs.Try.prog la25 := .cons awakeA_ok (.cons lExample_ok la23_ok)
end Go.Proofs.Ytbakdblbknfadaa
end
