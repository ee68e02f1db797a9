/-
  Contracts of aiming: Accept of the code.
-/
import Derived.Test.YtbakdblbknfadaaMn
section
set_option linter.unusedVariables false
set_option linter.unusedSimpArgs false
set_option maxRecDepth 100000
set_option maxHeartbeats 4000000
namespace Go.Proofs.Ytbakdblbknfadaa
open Go.V
def badI (s : Scn) (r : Nat → Nat → Int) (st m : Int) (i : Nat) : Bool := !soB s i (r i 0) (r i 1) st m
def accS (s : Scn) (st m : Int) (n : Nat) (r : Nat → Nat → Int) : Int × Int :=
  if 0 ≤ st ∧ st ≤ (s.t.ns : Int) - 1 ∧ alwB s st.toNat = true then
    if m = missS s st.toNat then
      if n = s.t.ns then (if firstFrom (badI s r st m) 0 n < 0 then (0, 0) else (firstFrom (badI s r st m) 0 n, 132))
      else (0, 2)
    else (0, 131)
  else (0, 130)
def accE (t : ATask) (n : Nat) (a : Nat → Nat → Int) (st m : Int) (k : Nat) (r : Nat → Nat → Int) : Int × Int := if askE t n a ≠ 0 then (0, askE t n a) else accS (weighS t n a) st m k r
def rAcc : List V.D → Option (Prop × V.D) := fun ds => match ds with
  | [d, .rsl 6 n g, .agg [.int .i64 st, .int .i64 m, .rsl 2 k h]] => some (AtIs d ∧ IM n 6 g ∧ IM k 2 h ∧ k ≤ 9223372036854775807, .tup [.int .i64 (accE (atOf d) n (im g) st m k (im h)).1, .int .i64 (accE (atOf d) n (im g) st m k (im h)).2])
  | _ => none
theorem accE_1 {t : ATask} {n : Nat} {a : Nat → Nat → Int} {st m : Int} {k : Nat} {r : Nat → Nat → Int} (h : ¬ askE t n a = 0) : accE t n a st m k r = (0, askE t n a) := if_pos h
theorem accE_2 {t : ATask} {n : Nat} {a : Nat → Nat → Int} {st m : Int} {k : Nat} {r : Nat → Nat → Int} (h : askE t n a = 0) : accE t n a st m k r = accS (weighS t n a) st m k r := by unfold accE; rw [h]; rfl
theorem acc_130 {s : Scn} {st m : Int} {n : Nat} {r : Nat → Nat → Int} (h : ¬ (0 ≤ st ∧ st ≤ (s.t.ns : Int) - 1 ∧ alwB s st.toNat = true)) : accS s st m n r = (0, 130) := if_neg h
theorem acc_131 {s : Scn} {st m : Int} {n : Nat} {r : Nat → Nat → Int} (h : 0 ≤ st ∧ st ≤ (s.t.ns : Int) - 1 ∧ alwB s st.toNat = true) (h2 : ¬ m = missS s st.toNat) : accS s st m n r = (0, 131) := by unfold accS; rw [if_pos h, if_neg h2]
theorem acc_2 {s : Scn} {st m : Int} {n : Nat} {r : Nat → Nat → Int} (h : 0 ≤ st ∧ st ≤ (s.t.ns : Int) - 1 ∧ alwB s st.toNat = true) (h2 : m = missS s st.toNat) (h3 : ¬ n = s.t.ns) : accS s st m n r = (0, 2) := by unfold accS; rw [if_pos h, if_pos h2, if_neg h3]
theorem acc_i {s : Scn} {st m : Int} {n : Nat} {r : Nat → Nat → Int} (h : 0 ≤ st ∧ st ≤ (s.t.ns : Int) - 1 ∧ alwB s st.toNat = true) (h2 : m = missS s st.toNat) (h3 : n = s.t.ns) : accS s st m n r = if firstFrom (badI s r st m) 0 n < 0 then (0, 0) else (firstFrom (badI s r st m) 0 n, 132) := by unfold accS; rw [if_pos h, if_pos h2, if_pos h3]
theorem bad_own {s : Scn} {r : Nat → Nat → Int} {st m : Int} {i : Nat} (h : (i : Int) = st) : badI s r st m i = !(decide (r i 0 = 0) && decide (r i 1 = 0)) := by
  unfold badI soB
  rw [if_pos (.inl h)]
  congr 1
  rw [Bool.eq_iff_iff]
  simp [h]
theorem bad_out {s : Scn} {r : Nat → Nat → Int} {st m : Int} {i : Nat} (h : ¬ (i : Int) = st) (h2 : ¬ (0 ≤ r i 1 ∧ r i 1 ≤ 3)) : badI s r st m i = true := by
  unfold badI soB
  by_cases q : r i 0 = 0
  · rw [if_pos (.inr q), decide_eq_false (by omega)]; rfl
  · rw [if_neg (by omega), if_neg h2]; rfl
theorem bad_1 {s : Scn} {r : Nat → Nat → Int} {st m : Int} {i : Nat} (h : ¬ (i : Int) = st) (h1 : r i 0 = 1) (h2 : 0 ≤ r i 1 ∧ r i 1 ≤ 3) : badI s r st m i = !sdB s i (r i 1) := by
  unfold badI soB
  rw [if_neg (by omega), if_pos h2, if_pos h1]
theorem bad_2 {s : Scn} {r : Nat → Nat → Int} {st m : Int} {i : Nat} (h : ¬ (i : Int) = st) (h1 : r i 0 = 2) (h2 : 0 ≤ r i 1 ∧ r i 1 ≤ 3) : badI s r st m i = !farB s i st m (r i 1) := by
  unfold badI soB farB
  rw [if_neg (by omega), if_pos h2, if_neg (by omega)]
  congr 1
  rw [decide_eq_decide]
  by_cases hl : (i : Int) < st
  · rw [if_pos hl]
    exact ⟨fun hh => by have := hh.2; omega, fun hh => ⟨h1, by omega⟩⟩
  · rw [if_neg hl]
    exact ⟨fun hh => by have := hh.2; omega, fun hh => ⟨h1, by omega⟩⟩
theorem bad_0 {s : Scn} {r : Nat → Nat → Int} {st m : Int} {i : Nat} (h : ¬ (i : Int) = st) (h1 : ¬ r i 0 = 1) (h3 : ¬ r i 0 = 2) : badI s r st m i = true := by
  unfold badI soB
  by_cases q : r i 0 = 0
  · rw [if_pos (.inr q), decide_eq_false (by omega)]; rfl
  · rw [if_neg (by omega), if_neg h1, decide_eq_false (by omega)]; split <;> rfl
theorem out_F {a lo hi : Int} (h : out a lo hi = false) : lo ≤ a ∧ a ≤ hi := by
  unfold out at h
  simp at h
  omega
theorem out_T {a lo hi : Int} (h : out a lo hi = true) : ¬ (lo ≤ a ∧ a ≤ hi) := by
  unfold out at h
  simp at h
  omega
attribute [local irreducible] weighS chkA checkBands lowB ScOK askE imp missS alwB sdB farB bestTo whyM ScIs soB accS accE badI
noncomputable def Lacc : Libs := ⟨la26, [(54, inl (cxOf tab la26) Go.Proofs.Try.f54), (81, inl (cxOf tab la26) Go.Proofs.Try.f81)], [], [(80, inlD (cxOf tab la26) Go.Proofs.Try.f80 (codeOf Go.Proofs.Try.f80))]⟩
theorem Lacc_ok : LibsOK Go.Proofs.Try.prog Lacc := ⟨la26_ok, asGet_cons (csound_in Try.func54 (by kernel_rfl) rfl (ctx la26_ok)) (asGet_cons (csound_in Try.func81 (by kernel_rfl) rfl (ctx la26_ok)) (fun g s h => by cases h)), fun f r h => (by cases h),
  asGet_cons (dsound_of Try.func80 (by kernel_rfl) rfl rfl (ctx la26_ok)) (fun g s h => by cases h)⟩
theorem aAccept_ok : PSound Go.Proofs.Try.prog 40 (mk rAcc) := by
  refine psound_mk Try.func40 (by kernel_rfl) rfl (ctxA Lacc_ok) ?_
  (intro ds p d h; unfold rAcc at h; split at h <;> first | (cases h; done) | skip; cases h; refine ⟨Nat.le_of_ble_eq_true rfl, fun hp k hk => ?_⟩)
  rename_i d n g st m c h
  obtain ⟨ht, hg, hh, hkm⟩ := hp
  have hf := at_fits ht
  refine ⟨[(atOf d).D, .rsl 6 n (imD (im g)), .agg [.int .i64 st, .int .i64 m, .rsl 2 c (imD (im h))]], at_imp ht ⟨rfl, hg, rfl, rfl, rfl, hh, ?_⟩⟩
  clear ht hg hh
  generalize atOf d = t at *
  generalize im g = a at *
  generalize im h = r at *
  have J1 : ¬ (chkA t).2.2 = 0 → accE t n a st m c r = (0, (chkA t).2.2) := fun h => by rw [accE_1 (by rw [ask_1 h]; exact h), ask_1 h]
  have J2 : (chkA t).2.2 = 0 → ¬ (checkBands n a).2 = 0 → accE t n a st m c r = (0, (checkBands n a).2) := fun h h2 => by rw [accE_1 (by rw [ask_2 h h2]; exact h2), ask_2 h h2]
  have J3 : (chkA t).2.2 = 0 → (checkBands n a).2 = 0 → lowB t n a = true → accE t n a st m c r = (0, 4) := fun h h2 h3 => by rw [accE_1 (by rw [ask_3 h h2 h3]; decide), ask_3 h h2 h3]
  repeat' (first | ((with_reducible refine kok ?_); kernel_rfl) | ((with_reducible refine keq_mk ?_); kernel_rfl) | with_reducible rfl | ((conv => whnf); first | (with_reducible exact trivial) | ((with_reducible refine and_ff ?_ ?_); · exact rfl) | ((with_reducible refine and_tt ?_ ?_); · exact rfl) | (with_reducible refine And.intro ?_ ?_) | intro _ | (with_reducible refine fin2 hk ?_) | ((with_reducible refine eq_leaf ?_); exact rfl) | exact trivial))
  all_goals try (exfalso; clear hk; simp only [atOf_agg, im_imD, taskOf_agg, ↓Bool.not_eq_true', ↓Bool.not_eq_false', ↓decT, ↓decF, out_true, out_false, isin_true, isin_false, Int.toNat_natCast, Int.ofNat_lt, Nat.zero_add, Nat.add_zero, Nat.reduceAdd] at *; contradiction)
  all_goals try (clear hk; first | exact hf.1 | exact hf.2)
  all_goals try (clear hk; simp only [atOf_agg, im_imD, taskOf_agg, ↓Bool.not_eq_true', ↓Bool.not_eq_false', ↓decT, ↓decF, out_true, out_false, isin_true, isin_false, Int.toNat_natCast, Int.ofNat_lt, Nat.zero_add, Nat.add_zero, Nat.reduceAdd, id, scT_e, weighS_t] at *; first
    | exact am_ok (by assumption)
    | exact bands_ok (by assumption)
    | exact (bands_ok (by assumption)).len.1
    | exact (bands_ok (by assumption)).len.2
    | exact weighS_ok (am_ok (by assumption)) (bands_ok (by assumption))
    | exact sc_self _
    | (rw [J1 (by assumption)]; done) | (rw [J2 (by assumption) (by assumption)]; done) | (rw [J3 (by assumption) (by assumption) (by assumption)]; done)
    | (have := (am_ok (by assumption : (chkA t).2.2 = 0)).ns; omega))
  all_goals try (
    clear hk
    simp only [atOf_agg, im_imD, taskOf_agg, ↓Bool.not_eq_true', ↓Bool.not_eq_false', ↓decT, ↓decF, out_true, out_false, isin_true, isin_false, Int.toNat_natCast, Int.ofNat_lt, Nat.zero_add, Nat.add_zero, Nat.reduceAdd, id, scT_e, weighS_t] at *
    rw [accE_2 (ask_4 (by assumption) (by assumption) (by assumption))]
    first
      | (rw [acc_130 (fun q => out_T (by assumption) ⟨q.1, by have := q.2.1; rw [weighS_t] at this; exact this⟩)]; done)
      | (rw [acc_130 (fun q => Bool.noConfusion ((by assumption : alwB (weighS t n a) st.toNat = false).symm.trans q.2.2))]; done)
      | (rw [acc_131 ⟨(out_F (by assumption)).1, by rw [weighS_t]; exact (out_F (by assumption)).2, by assumption⟩ (by assumption)]; done)
      | (rw [acc_2 ⟨(out_F (by assumption)).1, by rw [weighS_t]; exact (out_F (by assumption)).2, by assumption⟩ (by assumption) (by rw [weighS_t]; omega)]; done))
  · clear hk
    rename_i g1 g2 g3 g4 g5 g6
    simp only [atOf_agg, im_imD, taskOf_agg, ↓Bool.not_eq_true', ↓Bool.not_eq_false', ↓decT, ↓decF, out_true, out_false, isin_true, isin_false, Int.toNat_natCast, Int.ofNat_lt, Nat.zero_add, Nat.add_zero, Nat.reduceAdd, id, scT_e, weighS_t] at g1 g2 g3 g4 g5 g6
    have e0 := ask_4 g1 g2 g3
    have H : 0 ≤ st ∧ st ≤ ((weighS t n a).t.ns : Int) - 1 ∧ alwB (weighS t n a) st.toNat = true := ⟨g4.1, by rw [weighS_t]; exact g4.2, g5⟩
    rw [accE_2 e0, acc_131 H g6]
  · clear hk
    rename_i g1 g2 g3 g4 g5 g6
    simp only [atOf_agg, im_imD, taskOf_agg, ↓Bool.not_eq_true', ↓Bool.not_eq_false', ↓decT, ↓decF, out_true, out_false, isin_true, isin_false, Int.toNat_natCast, Int.ofNat_lt, Nat.zero_add, Nat.add_zero, Nat.reduceAdd, id, scT_e, weighS_t] at g1 g2 g3 g4 g5 g6
    have e0 := ask_4 g1 g2 g3
    have H : 0 ≤ st ∧ st ≤ ((weighS t n a).t.ns : Int) - 1 ∧ alwB (weighS t n a) st.toNat = true := ⟨g4.1, by rw [weighS_t]; exact g4.2, g5⟩
    rw [accE_2 e0, acc_131 H g6]
  · clear hk
    rename_i g1 g2 g3 g4 g5 g6 g7
    simp only [atOf_agg, im_imD, taskOf_agg, ↓Bool.not_eq_true', ↓Bool.not_eq_false', ↓decT, ↓decF, out_true, out_false, isin_true, isin_false, Int.toNat_natCast, Int.ofNat_lt, Nat.zero_add, Nat.add_zero, Nat.reduceAdd, id, scT_e, weighS_t] at g1 g2 g3 g4 g5 g6 g7
    have e0 := ask_4 g1 g2 g3
    have H : 0 ≤ st ∧ st ≤ ((weighS t n a).t.ns : Int) - 1 ∧ alwB (weighS t n a) st.toNat = true := ⟨g4.1, by rw [weighS_t]; exact g4.2, g5⟩
    rw [accE_2 e0, acc_2 H g6 (by rw [weighS_t]; omega)]
  · clear hk
    rename_i g1 g2 g3 g4 g5 g6 g7
    simp only [atOf_agg, im_imD, taskOf_agg, ↓Bool.not_eq_true', ↓Bool.not_eq_false', ↓decT, ↓decF, out_true, out_false, isin_true, isin_false, Int.toNat_natCast, Int.ofNat_lt, Nat.zero_add, Nat.add_zero, Nat.reduceAdd, id, scT_e, weighS_t] at g1 g2 g3 g4 g5 g6 g7
    have e0 := ask_4 g1 g2 g3
    have H : 0 ≤ st ∧ st ≤ ((weighS t n a).t.ns : Int) - 1 ∧ alwB (weighS t n a) st.toNat = true := ⟨g4.1, by rw [weighS_t]; exact g4.2, g5⟩
    rw [accE_2 e0, acc_2 H g6 (by rw [weighS_t]; omega)]
  rotate_left
  · clear hk
    rename_i g1 g2 g3 g4
    simp only [atOf_agg, im_imD, taskOf_agg, ↓Bool.not_eq_true', ↓Bool.not_eq_false', ↓decT, ↓decF, out_true, out_false, isin_true, isin_false, Int.toNat_natCast, Int.ofNat_lt, Nat.zero_add, Nat.add_zero, Nat.reduceAdd, id, scT_e, weighS_t] at g1 g2 g3 g4
    have e0 := ask_4 g1 g2 g3
    rw [accE_2 e0, acc_130 (fun q => by have h1 := q.1; have h2 := q.2.1; rw [weighS_t] at h2; omega)]
  · clear hk
    rename_i g1 g2 g3 g4
    simp only [atOf_agg, im_imD, taskOf_agg, ↓Bool.not_eq_true', ↓Bool.not_eq_false', ↓decT, ↓decF, out_true, out_false, isin_true, isin_false, Int.toNat_natCast, Int.ofNat_lt, Nat.zero_add, Nat.add_zero, Nat.reduceAdd, id, scT_e, weighS_t] at g1 g2 g3 g4
    have e0 := ask_4 g1 g2 g3
    rw [accE_2 e0, acc_130 (fun q => by have h1 := q.1; have h2 := q.2.1; rw [weighS_t] at h2; omega)]
  rename_i g1 g2 g3 g4 g5 g6 g7
  simp only [atOf_agg, im_imD, taskOf_agg, ↓Bool.not_eq_true', ↓Bool.not_eq_false', ↓decT, ↓decF, out_true, out_false, isin_true, isin_false, Int.toNat_natCast, Int.ofNat_lt, Nat.zero_add, Nat.add_zero, Nat.reduceAdd, id, scT_e, weighS_t] at g1 g2 g3 g4 g5 g6 g7
  have e0 := ask_4 g1 g2 g3
  have H : 0 ≤ st ∧ st ≤ ((weighS t n a).t.ns : Int) - 1 ∧ alwB (weighS t n a) st.toNat = true := ⟨g4.1, by rw [weighS_t]; exact g4.2, g5⟩
  have hcn : c = t.ns := by omega
  subst hcn
  have hacc := acc_i (r := r) H g6 (by rw [weighS_t] : t.ns = (weighS t n a).t.ns)
  have hsc := weighS_ok (ask_ok e0).1 (ask_ok e0).2.1
  have hns := (ask_ok e0).1.ns
  rw [accE_2 e0, hacc] at hk
  conv => whnf
  refine ⟨Nat, fun i => [(3, .ptr 0 0), (5, .ptr 1 0), (6, .ptr 2 0), (7, .ptr 3 0), (8, .eptr 15 (weighS t n a).e), (54, .rsl 2 t.ns (imD r)), (55, .int .i64 t.ns), (56, .int .i64 i)],
    fun i => [some (.row t.cells), some (.row [.int .i64 st, .int .i64 m, .rsl 2 t.ns (imD r)]), some (.row [.int .i64 0]), some (.row [.int .i64 0]), some (.row t.cells)],
    fun i => t.ns - i, fun i => i ≤ t.ns ∧ firstFrom (badI (weighS t n a) r st m) 0 t.ns = firstFrom (badI (weighS t n a) r st m) i (t.ns - i), [], 0, fun _ => ⟨?_, ?_⟩, ?_, fun i hI => ?_⟩
  · conv => lhs; whnf
  · conv => lhs; whnf
  · clear hk
    repeat' (first | ((with_reducible refine kok ?_); kernel_rfl) | ((with_reducible refine keq_mk ?_); kernel_rfl) | with_reducible rfl | ((conv => whnf); first | (with_reducible exact trivial) | ((with_reducible refine and_ff ?_ ?_); · exact rfl) | ((with_reducible refine and_tt ?_ ?_); · exact rfl) | (with_reducible refine And.intro ?_ ?_) | intro _ | (with_reducible refine fin2 hk ?_) | ((with_reducible refine eq_leaf ?_); exact rfl) | exact trivial))
    all_goals first
      | exact Nat.zero_le _
      | rfl
      | (simp only [atOf_agg, im_imD, taskOf_agg, ↓Bool.not_eq_true', ↓Bool.not_eq_false', ↓decT, ↓decF, out_true, out_false, isin_true, isin_false, Int.toNat_natCast, Int.ofNat_lt, Nat.zero_add, Nat.add_zero, Nat.reduceAdd, id, scT_e, weighS_t]; done)
      | (simp only [atOf_agg, im_imD, taskOf_agg, ↓Bool.not_eq_true', ↓Bool.not_eq_false', ↓decT, ↓decF, out_true, out_false, isin_true, isin_false, Int.toNat_natCast, Int.ofNat_lt, Nat.zero_add, Nat.add_zero, Nat.reduceAdd, id, scT_e, weighS_t]; rfl)
  obtain ⟨hi, hff⟩ := hI
  have hi : i ≤ t.ns := hi
  have hff : firstFrom (badI (weighS t n a) r st m) 0 t.ns = firstFrom (badI (weighS t n a) r st m) i (t.ns - i) := hff
  conv => whnf
  refine ⟨fun g1 => ?_, fun g1 => ?_⟩
  rotate_left
  · rw [firstFrom_end (by have := of_decide_eq_false g1; omega)] at hff
    rw [hff, if_pos (by decide)] at hk
    repeat' (first | ((with_reducible refine kok ?_); kernel_rfl) | ((with_reducible refine keq_mk ?_); kernel_rfl) | with_reducible rfl | ((conv => whnf); first | (with_reducible exact trivial) | ((with_reducible refine and_ff ?_ ?_); · exact rfl) | ((with_reducible refine and_tt ?_ ?_); · exact rfl) | (with_reducible refine And.intro ?_ ?_) | intro _ | (with_reducible refine fin2 hk ?_) | ((with_reducible refine eq_leaf ?_); exact rfl) | exact trivial))
  have hlt : i < t.ns := by have := of_decide_eq_true g1; omega
  have bad_y : badI (weighS t n a) r st m i = true → (if firstFrom (badI (weighS t n a) r st m) 0 t.ns < 0 then ((0 : Int), (0 : Int)) else (firstFrom (badI (weighS t n a) r st m) 0 t.ns, 132)) = ((i : Int), 132) := fun q => by
    rw [hff, firstFrom_step hlt, if_pos q, if_neg (by omega)]
  have bad_n : badI (weighS t n a) r st m i = false → firstFrom (badI (weighS t n a) r st m) 0 t.ns = firstFrom (badI (weighS t n a) r st m) (i + 1) (t.ns - (i + 1)) := fun q => by
    rw [hff, firstFrom_step hlt, if_neg (by rw [q]; exact Bool.noConfusion)]
  have hmi := miss_in hsc (i := st.toNat) (by rw [weighS_t]; omega)
  clear hff
  repeat' (first | ((with_reducible refine kok ?_); kernel_rfl) | ((with_reducible refine keq_mk ?_); kernel_rfl) | with_reducible rfl | ((conv => whnf); first | (with_reducible exact trivial) | ((with_reducible refine and_ff ?_ ?_); · exact rfl) | ((with_reducible refine and_tt ?_ ?_); · exact rfl) | (with_reducible refine And.intro ?_ ?_) | intro _ | (with_reducible refine fin2 hk ?_) | ((with_reducible refine eq_leaf ?_); exact rfl) | exact trivial))
  all_goals try (clear hk; (first | with_reducible refine (?_ : (_ : Int) ≤ _) | with_reducible refine (?_ : (_ : Int) < _)); first | omega | (simp only [scT_e, weighS_t]; omega) | (rw [g6]; first | exact hmi.1 | exact hmi.2))
  all_goals try exact sc_self _
  all_goals try exact hsc
  · clear hk
    rename_i q1 q2
    simp only [taskOf_agg, ↓Bool.not_eq_true', ↓Bool.not_eq_false', ↓decT, ↓decF, out_true, out_false, isin_true, isin_false, Int.toNat_natCast, Int.ofNat_lt, Nat.zero_add, Nat.add_zero, Nat.reduceAdd] at q1 q2
    rw [bad_y (by rw [bad_own q1]; first | (simp only [q2]; done) | (simp at q2 ⊢; omega))]
  · clear hk
    rename_i q1 q2
    simp only [taskOf_agg, ↓Bool.not_eq_true', ↓Bool.not_eq_false', ↓decT, ↓decF, out_true, out_false, isin_true, isin_false, Int.toNat_natCast, Int.ofNat_lt, Nat.zero_add, Nat.add_zero, Nat.reduceAdd] at q1 q2
    rw [bad_y (by rw [bad_own q1]; first | (simp only [q2]; done) | (simp at q2 ⊢; omega))]
  · clear hk
    rename_i q1 q2
    simp only [taskOf_agg, ↓Bool.not_eq_true', ↓Bool.not_eq_false', ↓decT, ↓decF, out_true, out_false, isin_true, isin_false, Int.toNat_natCast, Int.ofNat_lt, Nat.zero_add, Nat.add_zero, Nat.reduceAdd] at q1 q2
    have q3 := bad_n (by rw [bad_own q1]; simp at q2 ⊢; omega)
    conv => whnf
    refine ⟨i + 1, ?_⟩
    repeat' (first | ((with_reducible refine kok ?_); kernel_rfl) | ((with_reducible refine keq_mk ?_); kernel_rfl) | with_reducible rfl | ((conv => whnf); first | (with_reducible exact trivial) | ((with_reducible refine and_ff ?_ ?_); · exact rfl) | ((with_reducible refine and_tt ?_ ?_); · exact rfl) | (with_reducible refine And.intro ?_ ?_) | intro _ | (with_reducible refine fin2 hk ?_) | ((with_reducible refine eq_leaf ?_); exact rfl) | exact trivial))
    all_goals first | exact hlt | exact q3 | (simp only; omega)
  rotate_left
  · clear hk
    rename_i q1 q2 q3
    simp only [taskOf_agg, ↓Bool.not_eq_true', ↓Bool.not_eq_false', ↓decT, ↓decF, out_true, out_false, isin_true, isin_false, Int.toNat_natCast, Int.ofNat_lt, Nat.zero_add, Nat.add_zero, Nat.reduceAdd] at q1 q2 q3
    rw [bad_y (bad_out q1 (by omega))]
  · clear hk
    rename_i q1 q2 q3
    simp only [taskOf_agg, ↓Bool.not_eq_true', ↓Bool.not_eq_false', ↓decT, ↓decF, out_true, out_false, isin_true, isin_false, Int.toNat_natCast, Int.ofNat_lt, Nat.zero_add, Nat.add_zero, Nat.reduceAdd] at q1 q2 q3
    rw [bad_y (bad_out q1 (by omega))]
  rotate_left
  · clear hk
    rename_i q1 q2 q3 q4
    simp only [taskOf_agg, ↓Bool.not_eq_true', ↓Bool.not_eq_false', ↓decT, ↓decF, out_true, out_false, isin_true, isin_false, Int.toNat_natCast, Int.ofNat_lt, Nat.zero_add, Nat.add_zero, Nat.reduceAdd] at q1 q2 q3 q4
    rw [bad_y (bad_out q1 (by omega))]
  · clear hk
    rename_i q1 q2 q3 q4
    simp only [taskOf_agg, ↓Bool.not_eq_true', ↓Bool.not_eq_false', ↓decT, ↓decF, out_true, out_false, isin_true, isin_false, Int.toNat_natCast, Int.ofNat_lt, Nat.zero_add, Nat.add_zero, Nat.reduceAdd] at q1 q2 q3 q4
    rw [bad_y (bad_out q1 (by omega))]
  rotate_left
  · clear hk
    rename_i q1 q2 q3 q4
    simp only [taskOf_agg, ↓Bool.not_eq_true', ↓Bool.not_eq_false', ↓decT, ↓decF, out_true, out_false, isin_true, isin_false, Int.toNat_natCast, Int.ofNat_lt, Nat.zero_add, Nat.add_zero, Nat.reduceAdd] at q1 q2 q3 q4
    rw [bad_y (bad_out q1 (by omega))]
  · clear hk
    rename_i q1 q2 q3 q4
    simp only [taskOf_agg, ↓Bool.not_eq_true', ↓Bool.not_eq_false', ↓decT, ↓decF, out_true, out_false, isin_true, isin_false, Int.toNat_natCast, Int.ofNat_lt, Nat.zero_add, Nat.add_zero, Nat.reduceAdd] at q1 q2 q3 q4
    rw [bad_y (bad_out q1 (by omega))]
  · rename_i q1 q2 q3
    simp only [taskOf_agg, ↓Bool.not_eq_true', ↓Bool.not_eq_false', ↓decT, ↓decF, out_true, out_false, isin_true, isin_false, Int.toNat_natCast, Int.ofNat_lt, Nat.zero_add, Nat.add_zero, Nat.reduceAdd] at q1 q2 q3
    conv => whnf
    have e4 : r ((i : Int)).toNat 1 = 0 ∨ r ((i : Int)).toNat 1 = 1 ∨ r ((i : Int)).toNat 1 = 2 ∨ r ((i : Int)).toNat 1 = 3 := by
      show r i 1 = 0 ∨ r i 1 = 1 ∨ r i 1 = 2 ∨ r i 1 = 3
      omega
    have hB := bad_1 (s := weighS t n a) (m := m) q1 q2 q3
    rcases e4 with e4 | e4 | e4 | e4
    all_goals (
      rw [e4]
      rw [show r i 1 = _ from e4] at hB
      repeat' (first | ((with_reducible refine kok ?_); kernel_rfl) | ((with_reducible refine keq_mk ?_); kernel_rfl) | with_reducible rfl | ((conv => whnf); first | (with_reducible exact trivial) | ((with_reducible refine and_ff ?_ ?_); · exact rfl) | ((with_reducible refine and_tt ?_ ?_); · exact rfl) | (with_reducible refine And.intro ?_ ?_) | intro _ | (with_reducible refine fin2 hk ?_) | ((with_reducible refine eq_leaf ?_); exact rfl) | exact trivial)))
    all_goals try (clear hk; (first | with_reducible refine (?_ : (_ : Int) ≤ _) | with_reducible refine (?_ : (_ : Int) < _)); omega)
    all_goals clear hk
    all_goals first
      | (rw [bad_y hB]; done)
      | (rename_i q5; rw [bad_y (hB.trans q5)]; done)
      | (rename_i q5
         have q6 := bad_n (hB.trans q5)
         conv => whnf
         refine ⟨i + 1, ?_⟩
         repeat' (first | ((with_reducible refine kok ?_); kernel_rfl) | ((with_reducible refine keq_mk ?_); kernel_rfl) | with_reducible rfl | ((conv => whnf); first | (with_reducible exact trivial) | ((with_reducible refine and_ff ?_ ?_); · exact rfl) | ((with_reducible refine and_tt ?_ ?_); · exact rfl) | (with_reducible refine And.intro ?_ ?_) | intro _ | (with_reducible refine fin2 hk ?_) | ((with_reducible refine eq_leaf ?_); exact rfl) | exact trivial))
         all_goals first | exact hlt | exact q6 | (simp only; omega))
  · rename_i q1 q2 q3 q4
    simp only [taskOf_agg, ↓Bool.not_eq_true', ↓Bool.not_eq_false', ↓decT, ↓decF, out_true, out_false, isin_true, isin_false, Int.toNat_natCast, Int.ofNat_lt, Nat.zero_add, Nat.add_zero, Nat.reduceAdd] at q1 q2 q3 q4
    conv => whnf
    have e4 : r ((i : Int)).toNat 1 = 0 ∨ r ((i : Int)).toNat 1 = 1 ∨ r ((i : Int)).toNat 1 = 2 ∨ r ((i : Int)).toNat 1 = 3 := by
      show r i 1 = 0 ∨ r i 1 = 1 ∨ r i 1 = 2 ∨ r i 1 = 3
      omega
    have hB := bad_2 (s := weighS t n a) (m := m) q1 q3 q4
    rcases e4 with e4 | e4 | e4 | e4
    all_goals (
      rw [e4]
      rw [show r i 1 = _ from e4] at hB
      repeat' (first | ((with_reducible refine kok ?_); kernel_rfl) | ((with_reducible refine keq_mk ?_); kernel_rfl) | with_reducible rfl | ((conv => whnf); first | (with_reducible exact trivial) | ((with_reducible refine and_ff ?_ ?_); · exact rfl) | ((with_reducible refine and_tt ?_ ?_); · exact rfl) | (with_reducible refine And.intro ?_ ?_) | intro _ | (with_reducible refine fin2 hk ?_) | ((with_reducible refine eq_leaf ?_); exact rfl) | exact trivial)))
    all_goals try (clear hk; (first | with_reducible refine (?_ : (_ : Int) ≤ _) | with_reducible refine (?_ : (_ : Int) < _)); omega)
    all_goals clear hk
    all_goals first
      | (rw [bad_y hB]; done)
      | (rename_i q5; rw [bad_y (hB.trans q5)]; done)
      | (rename_i q5
         have q6 := bad_n (hB.trans q5)
         conv => whnf
         refine ⟨i + 1, ?_⟩
         repeat' (first | ((with_reducible refine kok ?_); kernel_rfl) | ((with_reducible refine keq_mk ?_); kernel_rfl) | with_reducible rfl | ((conv => whnf); first | (with_reducible exact trivial) | ((with_reducible refine and_ff ?_ ?_); · exact rfl) | ((with_reducible refine and_tt ?_ ?_); · exact rfl) | (with_reducible refine And.intro ?_ ?_) | intro _ | (with_reducible refine fin2 hk ?_) | ((with_reducible refine eq_leaf ?_); exact rfl) | exact trivial))
         all_goals first | exact hlt | exact q6 | (simp only; omega))
  · rename_i q1 q2 q3 q4
    simp only [taskOf_agg, ↓Bool.not_eq_true', ↓Bool.not_eq_false', ↓decT, ↓decF, out_true, out_false, isin_true, isin_false, Int.toNat_natCast, Int.ofNat_lt, Nat.zero_add, Nat.add_zero, Nat.reduceAdd] at q1 q2 q3 q4
    conv => whnf
    have e4 : r ((i : Int)).toNat 1 = 0 ∨ r ((i : Int)).toNat 1 = 1 ∨ r ((i : Int)).toNat 1 = 2 ∨ r ((i : Int)).toNat 1 = 3 := by
      show r i 1 = 0 ∨ r i 1 = 1 ∨ r i 1 = 2 ∨ r i 1 = 3
      omega
    have hB := bad_0 (s := weighS t n a) (m := m) q1 q2 q3
    rcases e4 with e4 | e4 | e4 | e4
    all_goals (
      rw [e4]
      repeat' (first | ((with_reducible refine kok ?_); kernel_rfl) | ((with_reducible refine keq_mk ?_); kernel_rfl) | with_reducible rfl | ((conv => whnf); first | (with_reducible exact trivial) | ((with_reducible refine and_ff ?_ ?_); · exact rfl) | ((with_reducible refine and_tt ?_ ?_); · exact rfl) | (with_reducible refine And.intro ?_ ?_) | intro _ | (with_reducible refine fin2 hk ?_) | ((with_reducible refine eq_leaf ?_); exact rfl) | exact trivial)))
    all_goals try (clear hk; (first | with_reducible refine (?_ : (_ : Int) ≤ _) | with_reducible refine (?_ : (_ : Int) < _)); omega)
    all_goals clear hk
    all_goals first
      | (rw [bad_y hB]; done)
      | (rename_i q5; rw [bad_y (hB.trans q5)]; done)
      | (rename_i q5
         have q6 := bad_n (hB.trans q5)
         conv => whnf
         refine ⟨i + 1, ?_⟩
         repeat' (first | ((with_reducible refine kok ?_); kernel_rfl) | ((with_reducible refine keq_mk ?_); kernel_rfl) | with_reducible rfl | ((conv => whnf); first | (with_reducible exact trivial) | ((with_reducible refine and_ff ?_ ?_); · exact rfl) | ((with_reducible refine and_tt ?_ ?_); · exact rfl) | (with_reducible refine And.intro ?_ ?_) | intro _ | (with_reducible refine fin2 hk ?_) | ((with_reducible refine eq_leaf ?_); exact rfl) | exact trivial))
         all_goals first | exact hlt | exact q6 | (simp only; omega))
end Go.Proofs.Ytbakdblbknfadaa
end
section
set_option linter.unusedVariables false
set_option linter.unusedSimpArgs false
set_option maxRecDepth 100000
set_option maxHeartbeats 4000000
namespace Go.Proofs.Ytbakdblbknfadaa
open Go.V
theorem badI_so {s : Scn} {r : Nat → Nat → Int} {st m : Int} {i : Nat} : badI s r st m i = !soB s i (r i 0) (r i 1) st m := rfl
attribute [local irreducible] weighS chkA checkBands lowB ScOK askE imp missS alwB sdB farB bestTo whyM ScIs soB accS accE badI
theorem qAccept_ok : PSound Go.Proofs.Try.prog 41 (mk rAcc) := by
  refine psound_mk Try.func41 (by kernel_rfl) rfl (ctx la26_ok) ?_
  (intro ds p d h; unfold rAcc at h; split at h <;> first | (cases h; done) | skip; cases h; refine ⟨Nat.le_of_ble_eq_true rfl, fun hp k hk => ?_⟩)
  rename_i d n g st m c h
  obtain ⟨ht, hg, hh, hkm⟩ := hp
  have hf := at_fits ht
  refine ⟨[(atOf d).D, .rsl 6 n (imD (im g)), .agg [.int .i64 st, .int .i64 m, .rsl 2 c (imD (im h))]], at_imp ht ⟨rfl, hg, rfl, rfl, rfl, hh, ?_⟩⟩
  clear ht hg hh
  generalize atOf d = t at *
  generalize im g = a at *
  generalize im h = r at *
  have IQ : isin st 0 ((t.ns : Int) - 1) = decide (0 ≤ st ∧ st ≤ (t.ns : Int) - 1) := by unfold isin; simp
  repeat' (first | ((with_reducible refine kok ?_); kernel_rfl) | ((with_reducible refine keq_mk ?_); kernel_rfl) | with_reducible rfl | ((conv => whnf); first | (with_reducible exact trivial) | ((with_reducible refine and_ff ?_ ?_); · exact rfl) | ((with_reducible refine and_tt ?_ ?_); · exact rfl) | (with_reducible refine And.intro ?_ ?_) | intro _ | (with_reducible refine fin2 hk ?_) | ((with_reducible refine eq_leaf ?_); exact rfl) | exact trivial))
  all_goals try (clear hk; first | exact hf.1 | exact hf.2)
  all_goals try (
    clear hk
    simp only [IQ] at *
    simp only [atOf_agg, im_imD, weighS_t, taskOf_agg, ↓Bool.not_eq_true', ↓Bool.not_eq_false', ↓decT, ↓decF, out_true, out_false, isin_true, isin_false, Int.toNat_natCast, Int.ofNat_lt, Nat.zero_add, Nat.add_zero, Nat.reduceAdd] at *
    first
      | (rw [accE_1 (by assumption)]; done)
      | exact (ask_ok (by assumption)).1
      | exact (ask_ok (by assumption)).2.1
      | (have hns := (ask_ok (by assumption : askE t n a = 0)).1.ns; omega)
      | (rw [accE_2 (by assumption), acc_130 (fun q => by have h1 := q.1; have h2 := q.2.1; rw [weighS_t] at h2; omega)]; done)
      | (rw [accE_2 (by assumption), acc_130 (fun q => Bool.noConfusion ((by assumption : alwB (weighS t n a) st.toNat = false).symm.trans q.2.2))]; done)
      | (rw [accE_2 (by assumption), acc_131 ⟨by omega, by rw [weighS_t]; omega, by assumption⟩ (by assumption)]; done)
      | (rw [accE_2 (by assumption), acc_2 ⟨by omega, by rw [weighS_t]; omega, by assumption⟩ (by assumption) (by rw [weighS_t]; omega)]; done))
  rename_i g1 g4 g5 g6 g7
  rw [IQ] at g4
  simp only [atOf_agg, im_imD, taskOf_agg, ↓Bool.not_eq_true', ↓Bool.not_eq_false', ↓decT, ↓decF, out_true, out_false, isin_true, isin_false, Int.toNat_natCast, Int.ofNat_lt, Nat.zero_add, Nat.add_zero, Nat.reduceAdd] at g1 g4 g5 g6 g7
  have hcn : c = t.ns := by omega
  subst hcn
  have H : 0 ≤ st ∧ st ≤ ((weighS t n a).t.ns : Int) - 1 ∧ alwB (weighS t n a) st.toNat = true := ⟨g4.1, by rw [weighS_t]; exact g4.2, g5⟩
  have hacc := acc_i (r := r) H g6 (by rw [weighS_t] : t.ns = (weighS t n a).t.ns)
  have ho := ask_ok g1
  have hns := ho.1.ns
  rw [accE_2 g1, hacc] at hk
  conv => whnf
  refine ⟨Nat, fun i => [(1, .rsl 6 n (imD a)), (3, .ptr 0 0), (5, .ptr 1 0), (9, .int .i64 i)],
    fun i => [some (.row t.cells), some (.row [.int .i64 st, .int .i64 m, .rsl 2 t.ns (imD r)])],
    fun i => t.ns - i, fun i => i ≤ t.ns ∧ firstFrom (badI (weighS t n a) r st m) 0 t.ns = firstFrom (badI (weighS t n a) r st m) i (t.ns - i), [], 0, fun _ => ⟨?_, ?_⟩, ?_, fun i hI => ?_⟩
  · conv => lhs; whnf
  · conv => lhs; whnf
  · clear hk
    repeat' (first | ((with_reducible refine kok ?_); kernel_rfl) | ((with_reducible refine keq_mk ?_); kernel_rfl) | with_reducible rfl | ((conv => whnf); first | (with_reducible exact trivial) | ((with_reducible refine and_ff ?_ ?_); · exact rfl) | ((with_reducible refine and_tt ?_ ?_); · exact rfl) | (with_reducible refine And.intro ?_ ?_) | intro _ | (with_reducible refine fin2 hk ?_) | ((with_reducible refine eq_leaf ?_); exact rfl) | exact trivial))
    all_goals first
      | exact Nat.zero_le _
      | rfl
  obtain ⟨hi, hff⟩ := hI
  have hi : i ≤ t.ns := hi
  have hff : firstFrom (badI (weighS t n a) r st m) 0 t.ns = firstFrom (badI (weighS t n a) r st m) i (t.ns - i) := hff
  conv => whnf
  refine ⟨fun g1 => ?_, fun g1 => ?_⟩
  rotate_left
  · rw [firstFrom_end (by have := of_decide_eq_false g1; omega)] at hff
    rw [hff, if_pos (by decide)] at hk
    repeat' (first | ((with_reducible refine kok ?_); kernel_rfl) | ((with_reducible refine keq_mk ?_); kernel_rfl) | with_reducible rfl | ((conv => whnf); first | (with_reducible exact trivial) | ((with_reducible refine and_ff ?_ ?_); · exact rfl) | ((with_reducible refine and_tt ?_ ?_); · exact rfl) | (with_reducible refine And.intro ?_ ?_) | intro _ | (with_reducible refine fin2 hk ?_) | ((with_reducible refine eq_leaf ?_); exact rfl) | exact trivial))
  have hlt : i < t.ns := by have := of_decide_eq_true g1; omega
  have bad_y : badI (weighS t n a) r st m i = true → (if firstFrom (badI (weighS t n a) r st m) 0 t.ns < 0 then ((0 : Int), (0 : Int)) else (firstFrom (badI (weighS t n a) r st m) 0 t.ns, 132)) = ((i : Int), 132) := fun q => by
    rw [hff, firstFrom_step hlt, if_pos q, if_neg (by omega)]
  have bad_n : badI (weighS t n a) r st m i = false → firstFrom (badI (weighS t n a) r st m) 0 t.ns = firstFrom (badI (weighS t n a) r st m) (i + 1) (t.ns - (i + 1)) := fun q => by
    rw [hff, firstFrom_step hlt, if_neg (by rw [q]; exact Bool.noConfusion)]
  clear hff
  repeat' (first | ((with_reducible refine kok ?_); kernel_rfl) | ((with_reducible refine keq_mk ?_); kernel_rfl) | with_reducible rfl | ((conv => whnf); first | (with_reducible exact trivial) | ((with_reducible refine and_ff ?_ ?_); · exact rfl) | ((with_reducible refine and_tt ?_ ?_); · exact rfl) | (with_reducible refine And.intro ?_ ?_) | intro _ | (with_reducible refine fin2 hk ?_) | ((with_reducible refine eq_leaf ?_); exact rfl) | exact trivial))
  all_goals try (clear hk; first | exact hf.1 | exact hf.2)
  all_goals try (clear hk; simp only [atOf_agg, im_imD]; first | exact ho.1 | exact ho.2.1)
  all_goals try (clear hk; (first | with_reducible refine (?_ : (_ : Int) ≤ _) | with_reducible refine (?_ : (_ : Int) < _)); first | omega | (simp only [atOf_agg]; omega))
  all_goals clear hk
  all_goals first
    | (rename_i q5; rw [bad_y (badI_so.trans q5)]; done)
    | (rename_i q5
       have q6 := bad_n (badI_so.trans q5)
       conv => whnf
       refine ⟨i + 1, ?_⟩
       repeat' (first | ((with_reducible refine kok ?_); kernel_rfl) | ((with_reducible refine keq_mk ?_); kernel_rfl) | with_reducible rfl | ((conv => whnf); first | (with_reducible exact trivial) | ((with_reducible refine and_ff ?_ ?_); · exact rfl) | ((with_reducible refine and_tt ?_ ?_); · exact rfl) | (with_reducible refine And.intro ?_ ?_) | intro _ | (with_reducible refine fin2 hk ?_) | ((with_reducible refine eq_leaf ?_); exact rfl) | exact trivial))
       all_goals first | exact hlt | exact q6 | (simp only; omega))
noncomputable def la27 : Lib := (40, mk rAcc) :: (41, mk rAcc) :: la26
theorem la27_ok : LibOK Go.Proofs.Try.prog la27 := .cons aAccept_ok (.cons qAccept_ok la26_ok)
def rLAcc : List V.D → Option (Prop × V.D) := fun ds => match ds with
  | [d, .rsl 6 n g, .agg [.int .i64 st, .int .i64 m, .rsl 2 k h]] => some (AtIs d ∧ IM n 6 g ∧ IM k 2 h ∧ k ≤ 9223372036854775807, .tt)
  | _ => none
theorem lawAAccepts_ok : PSound Go.Proofs.Try.prog 13 (mk rLAcc) := by
  refine psound_mk Try.func13 (by kernel_rfl) rfl (ctx la27_ok) ?_
  (intro ds p d h; unfold rLAcc at h; split at h <;> first | (cases h; done) | skip; cases h; refine ⟨Nat.le_of_ble_eq_true rfl, fun hp k hk => ?_⟩)
  rename_i d n g st m c h
  obtain ⟨ht, hg, hh, hkm⟩ := hp
  have hf := at_fits ht
  refine ⟨[(atOf d).D, .rsl 6 n (imD (im g)), .agg [.int .i64 st, .int .i64 m, .rsl 2 c (imD (im h))]], at_imp ht ⟨rfl, hg, rfl, rfl, rfl, hh, ?_⟩⟩
  clear ht hg hh
  generalize atOf d = t at *
  generalize im g = a at *
  generalize im h = r at *
  repeat' (first | ((with_reducible refine kok ?_); kernel_rfl) | ((with_reducible refine keq_mk ?_); kernel_rfl) | with_reducible rfl | ((conv => whnf); first | (with_reducible exact trivial) | ((with_reducible refine and_ff ?_ ?_); · exact rfl) | ((with_reducible refine and_tt ?_ ?_); · exact rfl) | (with_reducible refine And.intro ?_ ?_) | intro _ | (with_reducible refine fin2 hk ?_) | ((with_reducible refine eq_leaf ?_); exact rfl) | exact trivial))
  all_goals (clear hk; try first | exact hf.1 | exact hf.2 | exact hkm)
  all_goals first
    | (exfalso; simp_all; done)
    | simp
end Go.Proofs.Ytbakdblbknfadaa
end
section
set_option linter.unusedVariables false
set_option linter.unusedSimpArgs false
set_option maxRecDepth 100000
set_option maxHeartbeats 4000000
namespace Go.Proofs.Ytbakdblbknfadaa
open Go.V
theorem alw_side {s : Scn} {i : Nat} (h : alwB s i = true) : sdB s i 0 = false ∧ sdB s i 1 = false ∧ sdB s i 2 = false ∧ sdB s i 3 = false := by
  unfold alwB at h
  simp only [Bool.and_eq_true, Bool.not_eq_true'] at h
  exact ⟨h.1, h.2.1, h.2.2.1, h.2.2.2⟩
theorem crn_miss {s : Scn} {i : Nat} {k : Int} (hk : 0 ≤ k ∧ k ≤ 3) : crn s i k ≤ missS s i := by
  have e : k = 0 ∨ k = 1 ∨ k = 2 ∨ k = 3 := by omega
  unfold missS
  rcases e with rfl | rfl | rfl | rfl <;> omega
theorem ff_none {p : Nat → Bool} : ∀ n i, firstFrom p i n < 0 → ∀ j, i ≤ j → j < i + n → p j = false
  | 0, i, _, j, h1, h2 => absurd h2 (by omega)
  | n + 1, i, h, j, h1, h2 => by
    simp only [firstFrom] at h
    split at h
    · omega
    · rename_i q
      by_cases e : j = i
      · rw [e]; simpa using q
      · exact ff_none n (i + 1) h j (by omega) (by omega)
theorem ff_neg {p : Nat → Bool} : ∀ n i, (∀ j, i ≤ j → j < i + n → p j = false) → firstFrom p i n = -1
  | 0, i, _ => rfl
  | n + 1, i, h => by
    simp only [firstFrom]
    rw [if_neg (by rw [h i (Nat.le_refl _) (by omega)]; exact Bool.noConfusion)]
    exact ff_neg n (i + 1) (fun j h1 h2 => h j (by omega) (by omega))
/-- What Accept proves. -/
theorem acc_proves {s : Scn} {st m : Int} {n : Nat} {r : Nat → Nat → Int} (h : (accS s st m n r).2 = 0) : (accS s st m n r).1 = 0 ∧ st = bestTo s s.t.ns ∧ 0 ≤ st ∧ m = missS s st.toNat := by
  unfold accS at h ⊢
  by_cases h1 : 0 ≤ st ∧ st ≤ (s.t.ns : Int) - 1 ∧ alwB s st.toNat = true
  · rw [if_pos h1] at h ⊢
    by_cases h2 : m = missS s st.toNat
    · rw [if_pos h2] at h ⊢
      by_cases h3 : n = s.t.ns
      · rw [if_pos h3] at h ⊢
        by_cases h4 : firstFrom (badI s r st m) 0 n < 0
        · rw [if_pos h4]
          refine ⟨rfl, ?_, h1.1, h2⟩
          have hall := ff_none n 0 h4
          have hle := best_le s s.t.ns st.toNat (by omega) h1.2.2
          have hin := best_in s s.t.ns
          by_cases e : bestTo s s.t.ns = st
          · exact e.symm
          exfalso
          have hb := hall (bestTo s s.t.ns).toNat (Nat.zero_le _) (by omega)
          have ha := alw_side (best_alw s s.t.ns hle.1)
          have hcast : (((bestTo s s.t.ns).toNat : Nat) : Int) = bestTo s s.t.ns := Int.toNat_of_nonneg hle.1
          have hst : ((st.toNat : Nat) : Int) = st := Int.toNat_of_nonneg h1.1
          generalize (bestTo s s.t.ns).toNat = bi at *
          generalize hr0 : r bi 0 = kd at *
          generalize hr1 : r bi 1 = q at *
          unfold badI at hb
          rw [hr0, hr1] at hb
          have hs : soB s bi kd q st m = true := by simpa using hb
          unfold soB at hs
          by_cases g1 : (bi : Int) = st ∨ kd = 0
          · rw [if_pos g1] at hs
            have := of_decide_eq_true hs
            omega
          · rw [if_neg g1] at hs
            by_cases g2 : 0 ≤ q ∧ q ≤ 3
            · rw [if_pos g2] at hs
              by_cases g3 : kd = 1
              · rw [if_pos g3] at hs
                have e : q = 0 ∨ q = 1 ∨ q = 2 ∨ q = 3 := by omega
                rcases e with rfl | rfl | rfl | rfl
                · rw [ha.1] at hs; exact absurd hs (by decide)
                · rw [ha.2.1] at hs; exact absurd hs (by decide)
                · rw [ha.2.2.1] at hs; exact absurd hs (by decide)
                · rw [ha.2.2.2] at hs; exact absurd hs (by decide)
              · rw [if_neg g3] at hs
                have := of_decide_eq_true hs
                have hc := crn_miss (s := s) (i := bi) g2
                omega
            · rw [if_neg g2] at hs
              exact absurd hs (by decide)
        · rw [if_neg h4] at h
          exact absurd h (show ¬ (132 : Int) = 0 by decide)
      · rw [if_neg h3] at h
        exact absurd h (show ¬ (2 : Int) = 0 by decide)
    · rw [if_neg h2] at h
      exact absurd h (show ¬ (131 : Int) = 0 by decide)
  · rw [if_neg h1] at h
    exact absurd h (show ¬ (130 : Int) = 0 by decide)
/-- Accept accepts the best setting with its reasons. -/
theorem acc_best {s : Scn} (h : 0 ≤ bestTo s s.t.ns) : accS s (bestTo s s.t.ns) (missS s (bestTo s s.t.ns).toNat) s.t.ns (whyM s (bestTo s s.t.ns) (missS s (bestTo s s.t.ns).toNat)) = (0, 0) := by
  have hin := best_in s s.t.ns
  have ha := best_alw s s.t.ns h
  rw [acc_i ⟨h, by omega, ha⟩ rfl rfl, if_pos]
  rw [ff_neg s.t.ns 0 (fun i _ hi => ?_)]
  · decide
  have hle := best_le s s.t.ns i
  generalize hb : bestTo s s.t.ns = b at *
  generalize hm : missS s b.toNat = m at *
  show (!soB s i (whyK s i b) (whyA s i b m) b m) = false
  by_cases e : (i : Int) = b
  · have e1 : whyK s i b = 0 := by unfold whyK; rw [if_pos e]
    have e2 : whyA s i b m = 0 := by unfold whyA; rw [if_pos e]
    rw [e1, e2]
    unfold soB
    rw [if_pos (.inl e), decide_eq_true ⟨e, rfl, rfl⟩]
    rfl
  · have e2 : whyA s i b m = firstFrom (mkB s i b m) 0 4 := by unfold whyA; rw [if_neg e]
    obtain ⟨k0, hk0, hm0⟩ := mk_some (m := m) e (fun qa => by
      have := hle (by omega) qa
      exact ⟨this.2.1, this.2.2⟩)
    have hff : ¬ firstFrom (mkB s i b m) 0 4 < 0 := fun q => by
      have := ff_none 4 0 q k0 (Nat.zero_le _) (by omega)
      rw [hm0] at this
      exact absurd this (by decide)
    have hx : ∃ k : Nat, k ≤ 3 ∧ firstFrom (mkB s i b m) 0 4 = (k : Int) ∧ mkB s i b m k = true := by
      by_cases c0 : mkB s i b m 0 = true
      · exact ⟨0, by omega, by simp [firstFrom, c0], c0⟩
      by_cases c1 : mkB s i b m 1 = true
      · exact ⟨1, by omega, by simp [firstFrom, c0, c1], c1⟩
      by_cases c2 : mkB s i b m 2 = true
      · exact ⟨2, by omega, by simp [firstFrom, c0, c1, c2], c2⟩
      by_cases c3 : mkB s i b m 3 = true
      · exact ⟨3, by omega, by simp [firstFrom, c0, c1, c2, c3], c3⟩
      exact absurd (by simp [firstFrom, c0, c1, c2, c3]) hff
    obtain ⟨k, hk, h1, h2⟩ := hx
    rw [e2, h1, so_mk e hk, h2]
    rfl
def foundB (l : List Nat) (st : Int) : Nat → Bool
  | 0 => false
  | k + 1 => foundB l st k || decide (listM l k 0 = st)
theorem found_mem {l : List Nat} {st : Int} {i : Nat} (hl : listM l i 0 = st) : ∀ k, i < k → foundB l st k = true
  | 0, h => absurd h (Nat.not_lt_zero _)
  | k + 1, h => by
    by_cases e : i = k
    · subst e; simp [foundB, hl]
    · simp [foundB, found_mem hl k (by omega)]
theorem alw_at (s : Scn) {j : Nat} (h : alwB s j = true) : ∀ k, j < k → ∃ i, i < (alwTo s k).length ∧ listM (alwTo s k) i 0 = j
  | 0, q => absurd q (Nat.not_lt_zero _)
  | k + 1, q => by
    by_cases e : j = k
    · subst e
      rw [alw_yes h]
      exact ⟨(alwTo s j).length, by simp, listM_last _ _⟩
    · obtain ⟨i, h1, h2⟩ := alw_at s h k (by omega)
      by_cases g : alwB s k = true
      · rw [alw_yes g]
        exact ⟨i, by simp; omega, by rw [listM_app _ _ h1]; exact h2⟩
      · rw [alw_no (by simpa using g)]
        exact ⟨i, h1, h2⟩
theorem alw_is (s : Scn) : ∀ k i, i < (alwTo s k).length → alwB s (listM (alwTo s k) i 0).toNat = true
  | 0, i, h => absurd h (Nat.not_lt_zero _)
  | k + 1, i, h => by
    by_cases q : alwB s k = true
    · rw [alw_yes q] at h ⊢
      rw [List.length_append] at h
      by_cases hi : i < (alwTo s k).length
      · rw [listM_app _ _ hi]
        exact alw_is s k i hi
      · have : i = (alwTo s k).length := by simp at h; omega
        rw [this, listM_last]
        exact q
    · rw [alw_no (by simpa using q)] at h ⊢
      exact alw_is s k i h
end Go.Proofs.Ytbakdblbknfadaa
end
section
set_option linter.unusedVariables false
set_option linter.unusedSimpArgs false
set_option maxRecDepth 100000
set_option maxHeartbeats 4000000
namespace Go.Proofs.Ytbakdblbknfadaa
open Go.V
def rLeadsA : List V.D → Option (Prop × V.D) := fun ds => match ds with
  | [d, .rsl 6 n g, .int .i64 st, .int .i64 m] => some (AtIs d ∧ IM n 6 g ∧ askE (atOf d) n (im g) = 0 ∧ 0 ≤ st ∧ st = bB (atOf d) n (im g) ∧ m = bM (atOf d) n (im g), .tt)
  | _ => none
theorem bM_eq {t : ATask} {n : Nat} {a : Nat → Nat → Int} : bM t n a = missS (weighS t n a) (bB t n a).toNat := rfl
theorem bB_eq {t : ATask} {n : Nat} {a : Nat → Nat → Int} : bB t n a = bestTo (weighS t n a) t.ns := rfl
attribute [local irreducible] weighS chkA checkBands lowB ScOK askE askI imp missS alwB sdB farB bestTo whyM ScIs soB accS accE badI bB bM bE foundB listM
theorem lLeads_ok : PSound Go.Proofs.Try.prog 43 (mk rLeadsA) := by
  refine psound_mk Try.func43 (by kernel_rfl) rfl (ctx la27_ok) ?_
  (intro ds p d h; unfold rLeadsA at h; split at h <;> first | (cases h; done) | skip; cases h; refine ⟨Nat.le_of_ble_eq_true rfl, fun hp k hk => ?_⟩)
  rename_i d n g st m
  obtain ⟨ht, hg, h1, h2, h3, h4⟩ := hp
  have hf := at_fits ht
  refine ⟨[(atOf d).D, .rsl 6 n (imD (im g)), .int .i64 st, .int .i64 m], at_imp ht ⟨rfl, hg, rfl, rfl, ?_⟩⟩
  clear ht hg
  generalize atOf d = t at *
  generalize im g = a at *
  have ho := ask_ok h1
  have hns := ho.1.ns
  have hbi := best_in (weighS t n a) t.ns
  rw [← bB_eq, ← h3] at hbi
  have hN : alwN t n a = (alwTo (weighS t n a) t.ns).length := by unfold alwN; rw [h1, ifn_0]
  have hL := alwTo_len (weighS t n a) t.ns
  repeat' (first | ((with_reducible refine kok ?_); kernel_rfl) | ((with_reducible refine keq_mk ?_); kernel_rfl) | with_reducible rfl | ((conv => whnf); first | (with_reducible exact trivial) | ((with_reducible refine and_ff ?_ ?_); · exact rfl) | ((with_reducible refine and_tt ?_ ?_); · exact rfl) | (with_reducible refine And.intro ?_ ?_) | intro _ | (with_reducible refine fin2 hk ?_) | ((with_reducible refine eq_leaf ?_); exact rfl) | exact trivial))
  all_goals try (clear hk; first | exact hf.1 | exact hf.2)
  all_goals try (clear hk; exfalso; simp only [atOf_agg, im_imD, h1, taskOf_agg, ↓Bool.not_eq_true', ↓Bool.not_eq_false', ↓decT, ↓decF, out_true, out_false, isin_true, isin_false, Int.toNat_natCast, Int.ofNat_lt, Nat.zero_add, Nat.add_zero, Nat.reduceAdd] at *; contradiction)
  conv => whnf
  refine ⟨Nat, fun i => [(1, .rsl 6 n (imD a)), (2, .int .i64 st), (3, .int .i64 m), (4, .ptr 0 0), (9, .rsl 1 (alwN t n a) (imD (listM (alwTo (weighS t n a) t.ns)))), (11, .bool (foundB (alwTo (weighS t n a) t.ns) st i)), (12, .int .i64 i)],
    fun i => [some (.row t.cells)],
    fun i => alwN t n a - i, fun i => i ≤ alwN t n a, [], 0, fun _ => ⟨?_, ?_⟩, ?_, fun i hi => ?_⟩
  · conv => lhs; whnf
  · conv => lhs; whnf
  · clear hk
    repeat' (first | ((with_reducible refine kok ?_); kernel_rfl) | ((with_reducible refine keq_mk ?_); kernel_rfl) | with_reducible rfl | ((conv => whnf); first | (with_reducible exact trivial) | ((with_reducible refine and_ff ?_ ?_); · exact rfl) | ((with_reducible refine and_tt ?_ ?_); · exact rfl) | (with_reducible refine And.intro ?_ ?_) | intro _ | (with_reducible refine fin2 hk ?_) | ((with_reducible refine eq_leaf ?_); exact rfl) | exact trivial))
    all_goals first
      | exact Nat.zero_le _
      | rfl
      | (delta foundB; rfl)
  have hi : i ≤ alwN t n a := hi
  conv => whnf
  refine ⟨fun g1 => ?_, fun g1 => ?_⟩
  rotate_left
  · have e : i = alwN t n a := by have := of_decide_eq_false g1; omega
    have hfd : foundB (alwTo (weighS t n a) t.ns) st i = true := by
      obtain ⟨j, hj, hl⟩ := alw_at (weighS t n a) (j := st.toNat) (by rw [h3]; have := best_alw (weighS t n a) t.ns; rw [← bB_eq] at this; exact this (by omega)) t.ns (by omega)
      exact found_mem (i := j) (by rw [hl]; omega) i (by omega)
    repeat' (first | ((with_reducible refine kok ?_); kernel_rfl) | ((with_reducible refine keq_mk ?_); kernel_rfl) | with_reducible rfl | ((conv => whnf); first | (with_reducible exact trivial) | ((with_reducible refine and_ff ?_ ?_); · exact rfl) | ((with_reducible refine and_tt ?_ ?_); · exact rfl) | (with_reducible refine And.intro ?_ ?_) | intro _ | (with_reducible refine fin2 hk ?_) | ((with_reducible refine eq_leaf ?_); exact rfl) | exact trivial))
    all_goals (clear hk; first | exact hfd | (rw [hfd]) | skip)
  have hlt : i < alwN t n a := by have := of_decide_eq_true g1; omega
  have hx := alw_in (weighS t n a) t.ns i (by rw [← hN]; exact hlt)
  have hxa := alw_is (weighS t n a) t.ns i (by rw [← hN]; exact hlt)
  have hfs : foundB (alwTo (weighS t n a) t.ns) st (i + 1) = (foundB (alwTo (weighS t n a) t.ns) st i || decide (listM (alwTo (weighS t n a) t.ns) i 0 = st)) := by delta foundB; rfl
  have hA : askI t n a (listM (alwTo (weighS t n a) t.ns) i 0) = 0 := askI_0 h1 (by omega)
  have hF := best_le (weighS t n a) t.ns (listM (alwTo (weighS t n a) t.ns) i 0).toNat (by omega) hxa
  have hcast : (((listM (alwTo (weighS t n a) t.ns) i 0).toNat : Nat) : Int) = listM (alwTo (weighS t n a) t.ns) i 0 := Int.toNat_of_nonneg hx.1
  rw [← bB_eq, ← bM_eq, ← h4, ← h3, hcast] at hF
  have hS : listM (alwTo (weighS t n a) t.ns) i 0 = st → missS (weighS t n a) (listM (alwTo (weighS t n a) t.ns) i 0).toNat = m := fun q => by rw [q, h4, bM_eq, ← h3]
  generalize hX : listM (alwTo (weighS t n a) t.ns) i 0 = x at *
  repeat' (first | ((with_reducible refine kok ?_); kernel_rfl) | ((with_reducible refine keq_mk ?_); kernel_rfl) | with_reducible rfl | ((conv => whnf); first | (with_reducible exact trivial) | ((with_reducible refine and_ff ?_ ?_); · exact rfl) | ((with_reducible refine and_tt ?_ ?_); · exact rfl) | (with_reducible refine And.intro ?_ ?_) | intro _ | (with_reducible refine fin2 hk ?_) | ((with_reducible refine eq_leaf ?_); exact rfl) | exact trivial))
  all_goals try (clear hk; first | exact hf.1 | exact hf.2)
  all_goals try (clear hk; (first | with_reducible refine (?_ : (_ : Int) ≤ _) | with_reducible refine (?_ : (_ : Int) < _)); omega)
  all_goals try (exfalso; clear hk; simp only [atOf_agg, im_imD, Int.toNat_natCast, hX, hA, ifz_0, taskOf_agg, ↓Bool.not_eq_true', ↓Bool.not_eq_false', ↓decT, ↓decF, out_true, out_false, isin_true, isin_false, Int.toNat_natCast, Int.ofNat_lt, Nat.zero_add, Nat.add_zero, Nat.reduceAdd] at *; first | omega | (exact absurd trivial (by assumption)))
  all_goals (
    clear hk
    conv => whnf
    refine ⟨i + 1, ?_⟩
    repeat' (first | ((with_reducible refine kok ?_); kernel_rfl) | ((with_reducible refine keq_mk ?_); kernel_rfl) | with_reducible rfl | ((conv => whnf); first | (with_reducible exact trivial) | ((with_reducible refine and_ff ?_ ?_); · exact rfl) | ((with_reducible refine and_tt ?_ ?_); · exact rfl) | (with_reducible refine And.intro ?_ ?_) | intro _ | (with_reducible refine fin2 hk ?_) | ((with_reducible refine eq_leaf ?_); exact rfl) | exact trivial)))
  all_goals try exact hlt
  all_goals try (show alwN t n a - (i + 1) < alwN t n a - i; omega)
  all_goals try (rw [hfs]; clear hfs; simp only [atOf_agg, im_imD, Int.toNat_natCast, hX, hA, ifz_0, taskOf_agg, ↓Bool.not_eq_true', ↓Bool.not_eq_false', ↓decT, ↓decF, out_true, out_false, isin_true, isin_false, Int.toNat_natCast, Int.ofNat_lt, Nat.zero_add, Nat.add_zero, Nat.reduceAdd] at *; simp_all; done)
noncomputable def la28 : Lib := (43, mk rLeadsA) :: la27
theorem la28_ok : LibOK Go.Proofs.Try.prog la28 := .cons lLeads_ok la27_ok
theorem lawABest_ok : PSound Go.Proofs.Try.prog 15 (mk rLA2) := by
  refine psound_mk Try.func15 (by kernel_rfl) rfl (ctx la28_ok) ?_
  (intro ds p d h; unfold rLA2 at h; split at h <;> first | (cases h; done) | skip; cases h; refine ⟨Nat.le_of_ble_eq_true rfl, fun hp k hk => ?_⟩)
  rename_i d n g
  obtain ⟨ht, hg⟩ := hp
  have hf := at_fits ht
  refine ⟨[(atOf d).D, .rsl 6 n (imD (im g))], at_imp ht ⟨rfl, hg, ?_⟩⟩
  clear ht hg
  generalize atOf d = t at *
  generalize im g = a at *
  have hE1 : ¬ askE t n a = 0 → bE t n a = askE t n a := bE_1
  have hE2 : askE t n a = 0 → ¬ bE t n a = 0 → bE t n a = 9 ∧ alwN t n a = 0 := fun h1 h2 => by
    have hb : bestTo (weighS t n a) t.ns < 0 := by
      by_cases q : bestTo (weighS t n a) t.ns < 0
      · exact q
      · exact absurd (bE_3 h1 q) h2
    refine ⟨bE_2 h1 hb, ?_⟩
    unfold alwN
    rw [h1, ifn_0]
    exact (least_best (weighS t n a) t.ns).1.2 hb
  have hE3 : askE t n a = 0 → bE t n a = 0 → 0 ≤ bB t n a ∧ accE t n a (bB t n a) (bM t n a) t.ns (whyM (weighS t n a) (bB t n a) (bM t n a)) = (0, 0) := fun h1 h2 => by
    have hb : 0 ≤ bestTo (weighS t n a) t.ns := by
      by_cases q : bestTo (weighS t n a) t.ns < 0
      · rw [bE_2 h1 q] at h2; exact absurd h2 (by decide)
      · omega
    rw [accE_2 h1, bM_eq, bB_eq]
    have q := acc_best (s := weighS t n a)
    rw [weighS_t] at q
    exact ⟨hb, q hb⟩
  repeat' (first | ((with_reducible refine kok ?_); kernel_rfl) | ((with_reducible refine keq_mk ?_); kernel_rfl) | with_reducible rfl | ((conv => whnf); first | (with_reducible exact trivial) | ((with_reducible refine and_ff ?_ ?_); · exact rfl) | ((with_reducible refine and_tt ?_ ?_); · exact rfl) | (with_reducible refine And.intro ?_ ?_) | intro _ | (with_reducible refine fin2 hk ?_) | ((with_reducible refine eq_leaf ?_); exact rfl) | exact trivial))
  all_goals try (clear hk; first | exact hf.1 | exact hf.2)
  all_goals clear hk
  all_goals try simp only [atOf_agg, im_imD, taskOf_agg, ↓Bool.not_eq_true', ↓Bool.not_eq_false', ↓decT, ↓decF, out_true, out_false, isin_true, isin_false, Int.toNat_natCast, Int.ofNat_lt, Nat.zero_add, Nat.add_zero, Nat.reduceAdd] at *
  all_goals try (exfalso; simp_all; done)
  all_goals (
    have e1 : askE t n a = 0 := by assumption
    have e2 : bE t n a = 0 := by assumption
    have e3 := hE3 e1 e2
    clear hE1 hE2 hE3
    simp only [e2, ifz_0, ifn_0, e3.2] at * <;> first | rfl | exact e3.1 | exact e1 | (have := (ask_ok e1).1.ns; omega) | (exfalso; simp_all; done) | simp_all)
theorem lawAProves_ok : PSound Go.Proofs.Try.prog 16 (mk rLAcc) := by
  refine psound_mk Try.func16 (by kernel_rfl) rfl (ctx la28_ok) ?_
  (intro ds p d h; unfold rLAcc at h; split at h <;> first | (cases h; done) | skip; cases h; refine ⟨Nat.le_of_ble_eq_true rfl, fun hp k hk => ?_⟩)
  rename_i d n g st m c h
  obtain ⟨ht, hg, hh, hkm⟩ := hp
  have hf := at_fits ht
  refine ⟨[(atOf d).D, .rsl 6 n (imD (im g)), .agg [.int .i64 st, .int .i64 m, .rsl 2 c (imD (im h))]], at_imp ht ⟨rfl, hg, rfl, rfl, rfl, hh, ?_⟩⟩
  clear ht hg hh
  generalize atOf d = t at *
  generalize im g = a at *
  generalize im h = r at *
  have hP : (accE t n a st m c r).2 = 0 → askE t n a = 0 ∧ (accE t n a st m c r).1 = 0 ∧ bE t n a = 0 ∧ 0 ≤ st ∧ st = bB t n a ∧ m = bM t n a := fun q => by
    by_cases h1 : askE t n a = 0
    · rw [accE_2 h1] at q ⊢
      have := acc_proves q
      rw [weighS_t] at this
      obtain ⟨p1, p2, p3, p4⟩ := this
      exact ⟨h1, p1, bE_3 h1 (by omega), p3, by rw [bB_eq]; exact p2, by rw [bM_eq, bB_eq, ← p2]; exact p4⟩
    · rw [accE_1 h1] at q
      exact absurd q h1
  repeat' (first | ((with_reducible refine kok ?_); kernel_rfl) | ((with_reducible refine keq_mk ?_); kernel_rfl) | with_reducible rfl | ((conv => whnf); first | (with_reducible exact trivial) | ((with_reducible refine and_ff ?_ ?_); · exact rfl) | ((with_reducible refine and_tt ?_ ?_); · exact rfl) | (with_reducible refine And.intro ?_ ?_) | intro _ | (with_reducible refine fin2 hk ?_) | ((with_reducible refine eq_leaf ?_); exact rfl) | exact trivial))
  all_goals try (clear hk; first | exact hf.1 | exact hf.2 | exact hkm)
  all_goals clear hk
  all_goals try simp only [atOf_agg, im_imD, taskOf_agg, ↓Bool.not_eq_true', ↓Bool.not_eq_false', ↓decT, ↓decF, out_true, out_false, isin_true, isin_false, Int.toNat_natCast, Int.ofNat_lt, Nat.zero_add, Nat.add_zero, Nat.reduceAdd] at *
  all_goals try (
    have e := hP (by assumption)
    clear hP
    obtain ⟨p1, p2, p3, p4, p5, p6⟩ := e
    simp only [p3, ifz_0, ifn_0] at * <;> first | assumption | exact p1 | exact p5 | exact p6 | exact p4 | omega | (exfalso; omega))
  all_goals (
    exfalso
    have e := hP (by assumption)
    exact absurd e.2.2.1 (by assumption))
end Go.Proofs.Ytbakdblbknfadaa
end
