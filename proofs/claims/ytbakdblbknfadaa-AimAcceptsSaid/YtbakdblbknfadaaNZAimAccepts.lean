/-
  The law AimAccepts is proved: Accept returns what the document says, for any task, bands and choice. No condition.
-/
import Derived.Test.YtbakdblbknfadaaMn
section
set_option linter.unusedVariables false
set_option linter.unusedSimpArgs false
set_option maxRecDepth 100000
set_option maxHeartbeats 4000000
namespace Go.Proofs.Ytbakdblbknfadaa
open Go.V
def badI (s : Scn) (r : Nat → Nat → Int) (st m : Int) (i : Nat) : Bool := !soB s i (r i 0) (r i 1) st m
def accS (s : Scn) (st m : Int) (n : Nat) (r : Nat → Nat → Int) : Int × Int :=
  if 0 ≤ st ∧ st ≤ (s.t.ns : Int) - 1 ∧ alwB s st.toNat = true then
    if m = missS s st.toNat then
      if n = s.t.ns then (if firstFrom (badI s r st m) 0 n < 0 then (0, 0) else (firstFrom (badI s r st m) 0 n, 132))
      else (0, 2)
    else (0, 131)
  else (0, 130)
def accE (t : ATask) (n : Nat) (a : Nat → Nat → Int) (st m : Int) (k : Nat) (r : Nat → Nat → Int) : Int × Int := if askE t n a ≠ 0 then (0, askE t n a) else accS (weighS t n a) st m k r
def rAcc : List V.D → Option (Prop × V.D) := fun ds => match ds with
  | [d, .rsl 6 n g, .agg [.int .i64 st, .int .i64 m, .rsl 2 k h]] => some (AtIs d ∧ IM n 6 g ∧ IM k 2 h ∧ k ≤ 9223372036854775807, .tup [.int .i64 (accE (atOf d) n (im g) st m k (im h)).1, .int .i64 (accE (atOf d) n (im g) st m k (im h)).2])
  | _ => none
theorem accE_1 {t : ATask} {n : Nat} {a : Nat → Nat → Int} {st m : Int} {k : Nat} {r : Nat → Nat → Int} (h : ¬ askE t n a = 0) : accE t n a st m k r = (0, askE t n a) := if_pos h
theorem accE_2 {t : ATask} {n : Nat} {a : Nat → Nat → Int} {st m : Int} {k : Nat} {r : Nat → Nat → Int} (h : askE t n a = 0) : accE t n a st m k r = accS (weighS t n a) st m k r := by unfold accE; rw [h]; rfl
theorem acc_130 {s : Scn} {st m : Int} {n : Nat} {r : Nat → Nat → Int} (h : ¬ (0 ≤ st ∧ st ≤ (s.t.ns : Int) - 1 ∧ alwB s st.toNat = true)) : accS s st m n r = (0, 130) := if_neg h
theorem acc_131 {s : Scn} {st m : Int} {n : Nat} {r : Nat → Nat → Int} (h : 0 ≤ st ∧ st ≤ (s.t.ns : Int) - 1 ∧ alwB s st.toNat = true) (h2 : ¬ m = missS s st.toNat) : accS s st m n r = (0, 131) := by unfold accS; rw [if_pos h, if_neg h2]
theorem acc_2 {s : Scn} {st m : Int} {n : Nat} {r : Nat → Nat → Int} (h : 0 ≤ st ∧ st ≤ (s.t.ns : Int) - 1 ∧ alwB s st.toNat = true) (h2 : m = missS s st.toNat) (h3 : ¬ n = s.t.ns) : accS s st m n r = (0, 2) := by unfold accS; rw [if_pos h, if_pos h2, if_neg h3]
theorem acc_i {s : Scn} {st m : Int} {n : Nat} {r : Nat → Nat → Int} (h : 0 ≤ st ∧ st ≤ (s.t.ns : Int) - 1 ∧ alwB s st.toNat = true) (h2 : m = missS s st.toNat) (h3 : n = s.t.ns) : accS s st m n r = if firstFrom (badI s r st m) 0 n < 0 then (0, 0) else (firstFrom (badI s r st m) 0 n, 132) := by unfold accS; rw [if_pos h, if_pos h2, if_pos h3]
theorem bad_own {s : Scn} {r : Nat → Nat → Int} {st m : Int} {i : Nat} (h : (i : Int) = st) : badI s r st m i = !(decide (r i 0 = 0) && decide (r i 1 = 0)) := by
  unfold badI soB
  rw [if_pos (.inl h)]
  congr 1
  rw [Bool.eq_iff_iff]
  simp [h]
theorem bad_out {s : Scn} {r : Nat → Nat → Int} {st m : Int} {i : Nat} (h : ¬ (i : Int) = st) (h2 : ¬ (0 ≤ r i 1 ∧ r i 1 ≤ 3)) : badI s r st m i = true := by
  unfold badI soB
  by_cases q : r i 0 = 0
  · rw [if_pos (.inr q), decide_eq_false (by omega)]; rfl
  · rw [if_neg (by omega), if_neg h2]; rfl
theorem bad_1 {s : Scn} {r : Nat → Nat → Int} {st m : Int} {i : Nat} (h : ¬ (i : Int) = st) (h1 : r i 0 = 1) (h2 : 0 ≤ r i 1 ∧ r i 1 ≤ 3) : badI s r st m i = !sdB s i (r i 1) := by
  unfold badI soB
  rw [if_neg (by omega), if_pos h2, if_pos h1]
theorem bad_2 {s : Scn} {r : Nat → Nat → Int} {st m : Int} {i : Nat} (h : ¬ (i : Int) = st) (h1 : r i 0 = 2) (h2 : 0 ≤ r i 1 ∧ r i 1 ≤ 3) : badI s r st m i = !farB s i st m (r i 1) := by
  unfold badI soB farB
  rw [if_neg (by omega), if_pos h2, if_neg (by omega)]
  congr 1
  rw [decide_eq_decide]
  by_cases hl : (i : Int) < st
  · rw [if_pos hl]
    exact ⟨fun hh => by have := hh.2; omega, fun hh => ⟨h1, by omega⟩⟩
  · rw [if_neg hl]
    exact ⟨fun hh => by have := hh.2; omega, fun hh => ⟨h1, by omega⟩⟩
theorem bad_0 {s : Scn} {r : Nat → Nat → Int} {st m : Int} {i : Nat} (h : ¬ (i : Int) = st) (h1 : ¬ r i 0 = 1) (h3 : ¬ r i 0 = 2) : badI s r st m i = true := by
  unfold badI soB
  by_cases q : r i 0 = 0
  · rw [if_pos (.inr q), decide_eq_false (by omega)]; rfl
  · rw [if_neg (by omega), if_neg h1, decide_eq_false (by omega)]; split <;> rfl
theorem out_F {a lo hi : Int} (h : out a lo hi = false) : lo ≤ a ∧ a ≤ hi := by
  unfold out at h
  simp at h
  omega
theorem out_T {a lo hi : Int} (h : out a lo hi = true) : ¬ (lo ≤ a ∧ a ≤ hi) := by
  unfold out at h
  simp at h
  omega
attribute [local irreducible] weighS chkA checkBands lowB ScOK askE imp missS alwB sdB farB bestTo whyM ScIs soB accS accE badI
noncomputable def Lacc : Libs := ⟨la26, [(54, inl (cxOf tab la26) Go.Proofs.Try.f54), (81, inl (cxOf tab la26) Go.Proofs.Try.f81)], [], [(80, inlD (cxOf tab la26) Go.Proofs.Try.f80 (codeOf Go.Proofs.Try.f80))]⟩
theorem Lacc_ok : LibsOK Go.Proofs.Try.prog Lacc := ⟨la26_ok, asGet_cons (csound_in Try.func54 (by kernel_rfl) rfl (ctx la26_ok)) (asGet_cons (csound_in Try.func81 (by kernel_rfl) rfl (ctx la26_ok)) (fun g s h => by cases h)), fun f r h => (by cases h),
  asGet_cons (dsound_of Try.func80 (by kernel_rfl) rfl rfl (ctx la26_ok)) (fun g s h => by cases h)⟩
theorem aAccept_ok : PSound Go.Proofs.Try.prog 40 (mk rAcc) := by
  refine psound_mk Try.func40 (by kernel_rfl) rfl (ctxA Lacc_ok) ?_
  (intro ds p d h; unfold rAcc at h; split at h <;> first | (cases h; done) | skip; cases h; refine ⟨Nat.le_of_ble_eq_true rfl, fun hp k hk => ?_⟩)
  rename_i d n g st m c h
  obtain ⟨ht, hg, hh, hkm⟩ := hp
  have hf := at_fits ht
  refine ⟨[(atOf d).D, .rsl 6 n (imD (im g)), .agg [.int .i64 st, .int .i64 m, .rsl 2 c (imD (im h))]], at_imp ht ⟨rfl, hg, rfl, rfl, rfl, hh, ?_⟩⟩
  clear ht hg hh
  generalize atOf d = t at *
  generalize im g = a at *
  generalize im h = r at *
  have J1 : ¬ (chkA t).2.2 = 0 → accE t n a st m c r = (0, (chkA t).2.2) := fun h => by rw [accE_1 (by rw [ask_1 h]; exact h), ask_1 h]
  have J2 : (chkA t).2.2 = 0 → ¬ (checkBands n a).2 = 0 → accE t n a st m c r = (0, (checkBands n a).2) := fun h h2 => by rw [accE_1 (by rw [ask_2 h h2]; exact h2), ask_2 h h2]
  have J3 : (chkA t).2.2 = 0 → (checkBands n a).2 = 0 → lowB t n a = true → accE t n a st m c r = (0, 4) := fun h h2 h3 => by rw [accE_1 (by rw [ask_3 h h2 h3]; decide), ask_3 h h2 h3]
  repeat' (first | ((with_reducible refine kok ?_); kernel_rfl) | ((with_reducible refine keq_mk ?_); kernel_rfl) | with_reducible rfl | ((conv => whnf); first | (with_reducible exact trivial) | ((with_reducible refine and_ff ?_ ?_); · exact rfl) | ((with_reducible refine and_tt ?_ ?_); · exact rfl) | (with_reducible refine And.intro ?_ ?_) | intro _ | (with_reducible refine fin2 hk ?_) | ((with_reducible refine eq_leaf ?_); exact rfl) | exact trivial))
  all_goals try (exfalso; clear hk; simp only [atOf_agg, im_imD, taskOf_agg, ↓Bool.not_eq_true', ↓Bool.not_eq_false', ↓decT, ↓decF, out_true, out_false, isin_true, isin_false, Int.toNat_natCast, Int.ofNat_lt, Nat.zero_add, Nat.add_zero, Nat.reduceAdd] at *; contradiction)
  all_goals try (clear hk; first | exact hf.1 | exact hf.2)
  all_goals try (clear hk; simp only [atOf_agg, im_imD, taskOf_agg, ↓Bool.not_eq_true', ↓Bool.not_eq_false', ↓decT, ↓decF, out_true, out_false, isin_true, isin_false, Int.toNat_natCast, Int.ofNat_lt, Nat.zero_add, Nat.add_zero, Nat.reduceAdd, id, scT_e, weighS_t] at *; first
    | exact am_ok (by assumption)
    | exact bands_ok (by assumption)
    | exact (bands_ok (by assumption)).len.1
    | exact (bands_ok (by assumption)).len.2
    | exact weighS_ok (am_ok (by assumption)) (bands_ok (by assumption))
    | exact sc_self _
    | (rw [J1 (by assumption)]; done) | (rw [J2 (by assumption) (by assumption)]; done) | (rw [J3 (by assumption) (by assumption) (by assumption)]; done)
    | (have := (am_ok (by assumption : (chkA t).2.2 = 0)).ns; omega))
  all_goals try (
    clear hk
    simp only [atOf_agg, im_imD, taskOf_agg, ↓Bool.not_eq_true', ↓Bool.not_eq_false', ↓decT, ↓decF, out_true, out_false, isin_true, isin_false, Int.toNat_natCast, Int.ofNat_lt, Nat.zero_add, Nat.add_zero, Nat.reduceAdd, id, scT_e, weighS_t] at *
    rw [accE_2 (ask_4 (by assumption) (by assumption) (by assumption))]
    first
      | (rw [acc_130 (fun q => out_T (by assumption) ⟨q.1, by have := q.2.1; rw [weighS_t] at this; exact this⟩)]; done)
      | (rw [acc_130 (fun q => Bool.noConfusion ((by assumption : alwB (weighS t n a) st.toNat = false).symm.trans q.2.2))]; done)
      | (rw [acc_131 ⟨(out_F (by assumption)).1, by rw [weighS_t]; exact (out_F (by assumption)).2, by assumption⟩ (by assumption)]; done)
      | (rw [acc_2 ⟨(out_F (by assumption)).1, by rw [weighS_t]; exact (out_F (by assumption)).2, by assumption⟩ (by assumption) (by rw [weighS_t]; omega)]; done))
  · clear hk
    rename_i g1 g2 g3 g4 g5 g6
    simp only [atOf_agg, im_imD, taskOf_agg, ↓Bool.not_eq_true', ↓Bool.not_eq_false', ↓decT, ↓decF, out_true, out_false, isin_true, isin_false, Int.toNat_natCast, Int.ofNat_lt, Nat.zero_add, Nat.add_zero, Nat.reduceAdd, id, scT_e, weighS_t] at g1 g2 g3 g4 g5 g6
    have e0 := ask_4 g1 g2 g3
    have H : 0 ≤ st ∧ st ≤ ((weighS t n a).t.ns : Int) - 1 ∧ alwB (weighS t n a) st.toNat = true := ⟨g4.1, by rw [weighS_t]; exact g4.2, g5⟩
    rw [accE_2 e0, acc_131 H g6]
  · clear hk
    rename_i g1 g2 g3 g4 g5 g6
    simp only [atOf_agg, im_imD, taskOf_agg, ↓Bool.not_eq_true', ↓Bool.not_eq_false', ↓decT, ↓decF, out_true, out_false, isin_true, isin_false, Int.toNat_natCast, Int.ofNat_lt, Nat.zero_add, Nat.add_zero, Nat.reduceAdd, id, scT_e, weighS_t] at g1 g2 g3 g4 g5 g6
    have e0 := ask_4 g1 g2 g3
    have H : 0 ≤ st ∧ st ≤ ((weighS t n a).t.ns : Int) - 1 ∧ alwB (weighS t n a) st.toNat = true := ⟨g4.1, by rw [weighS_t]; exact g4.2, g5⟩
    rw [accE_2 e0, acc_131 H g6]
  · clear hk
    rename_i g1 g2 g3 g4 g5 g6 g7
    simp only [atOf_agg, im_imD, taskOf_agg, ↓Bool.not_eq_true', ↓Bool.not_eq_false', ↓decT, ↓decF, out_true, out_false, isin_true, isin_false, Int.toNat_natCast, Int.ofNat_lt, Nat.zero_add, Nat.add_zero, Nat.reduceAdd, id, scT_e, weighS_t] at g1 g2 g3 g4 g5 g6 g7
    have e0 := ask_4 g1 g2 g3
    have H : 0 ≤ st ∧ st ≤ ((weighS t n a).t.ns : Int) - 1 ∧ alwB (weighS t n a) st.toNat = true := ⟨g4.1, by rw [weighS_t]; exact g4.2, g5⟩
    rw [accE_2 e0, acc_2 H g6 (by rw [weighS_t]; omega)]
  · clear hk
    rename_i g1 g2 g3 g4 g5 g6 g7
    simp only [atOf_agg, im_imD, taskOf_agg, ↓Bool.not_eq_true', ↓Bool.not_eq_false', ↓decT, ↓decF, out_true, out_false, isin_true, isin_false, Int.toNat_natCast, Int.ofNat_lt, Nat.zero_add, Nat.add_zero, Nat.reduceAdd, id, scT_e, weighS_t] at g1 g2 g3 g4 g5 g6 g7
    have e0 := ask_4 g1 g2 g3
    have H : 0 ≤ st ∧ st ≤ ((weighS t n a).t.ns : Int) - 1 ∧ alwB (weighS t n a) st.toNat = true := ⟨g4.1, by rw [weighS_t]; exact g4.2, g5⟩
    rw [accE_2 e0, acc_2 H g6 (by rw [weighS_t]; omega)]
  rotate_left
  · clear hk
    rename_i g1 g2 g3 g4
    simp only [atOf_agg, im_imD, taskOf_agg, ↓Bool.not_eq_true', ↓Bool.not_eq_false', ↓decT, ↓decF, out_true, out_false, isin_true, isin_false, Int.toNat_natCast, Int.ofNat_lt, Nat.zero_add, Nat.add_zero, Nat.reduceAdd, id, scT_e, weighS_t] at g1 g2 g3 g4
    have e0 := ask_4 g1 g2 g3
    rw [accE_2 e0, acc_130 (fun q => by have h1 := q.1; have h2 := q.2.1; rw [weighS_t] at h2; omega)]
  · clear hk
    rename_i g1 g2 g3 g4
    simp only [atOf_agg, im_imD, taskOf_agg, ↓Bool.not_eq_true', ↓Bool.not_eq_false', ↓decT, ↓decF, out_true, out_false, isin_true, isin_false, Int.toNat_natCast, Int.ofNat_lt, Nat.zero_add, Nat.add_zero, Nat.reduceAdd, id, scT_e, weighS_t] at g1 g2 g3 g4
    have e0 := ask_4 g1 g2 g3
    rw [accE_2 e0, acc_130 (fun q => by have h1 := q.1; have h2 := q.2.1; rw [weighS_t] at h2; omega)]
  rename_i g1 g2 g3 g4 g5 g6 g7
  simp only [atOf_agg, im_imD, taskOf_agg, ↓Bool.not_eq_true', ↓Bool.not_eq_false', ↓decT, ↓decF, out_true, out_false, isin_true, isin_false, Int.toNat_natCast, Int.ofNat_lt, Nat.zero_add, Nat.add_zero, Nat.reduceAdd, id, scT_e, weighS_t] at g1 g2 g3 g4 g5 g6 g7
  have e0 := ask_4 g1 g2 g3
  have H : 0 ≤ st ∧ st ≤ ((weighS t n a).t.ns : Int) - 1 ∧ alwB (weighS t n a) st.toNat = true := ⟨g4.1, by rw [weighS_t]; exact g4.2, g5⟩
  have hcn : c = t.ns := by omega
  subst hcn
  have hacc := acc_i (r := r) H g6 (by rw [weighS_t] : t.ns = (weighS t n a).t.ns)
  have hsc := weighS_ok (ask_ok e0).1 (ask_ok e0).2.1
  have hns := (ask_ok e0).1.ns
  rw [accE_2 e0, hacc] at hk
  conv => whnf
  refine ⟨Nat, fun i => [(3, .ptr 0 0), (5, .ptr 1 0), (6, .ptr 2 0), (7, .ptr 3 0), (8, .eptr 15 (weighS t n a).e), (54, .rsl 2 t.ns (imD r)), (55, .int .i64 t.ns), (56, .int .i64 i)],
    fun i => [some (.row t.cells), some (.row [.int .i64 st, .int .i64 m, .rsl 2 t.ns (imD r)]), some (.row [.int .i64 0]), some (.row [.int .i64 0]), some (.row t.cells)],
    fun i => t.ns - i, fun i => i ≤ t.ns ∧ firstFrom (badI (weighS t n a) r st m) 0 t.ns = firstFrom (badI (weighS t n a) r st m) i (t.ns - i), [], 0, fun _ => ⟨?_, ?_⟩, ?_, fun i hI => ?_⟩
  · conv => lhs; whnf
  · conv => lhs; whnf
  · clear hk
    repeat' (first | ((with_reducible refine kok ?_); kernel_rfl) | ((with_reducible refine keq_mk ?_); kernel_rfl) | with_reducible rfl | ((conv => whnf); first | (with_reducible exact trivial) | ((with_reducible refine and_ff ?_ ?_); · exact rfl) | ((with_reducible refine and_tt ?_ ?_); · exact rfl) | (with_reducible refine And.intro ?_ ?_) | intro _ | (with_reducible refine fin2 hk ?_) | ((with_reducible refine eq_leaf ?_); exact rfl) | exact trivial))
    all_goals first
      | exact Nat.zero_le _
      | rfl
      | (simp only [atOf_agg, im_imD, taskOf_agg, ↓Bool.not_eq_true', ↓Bool.not_eq_false', ↓decT, ↓decF, out_true, out_false, isin_true, isin_false, Int.toNat_natCast, Int.ofNat_lt, Nat.zero_add, Nat.add_zero, Nat.reduceAdd, id, scT_e, weighS_t]; done)
      | (simp only [atOf_agg, im_imD, taskOf_agg, ↓Bool.not_eq_true', ↓Bool.not_eq_false', ↓decT, ↓decF, out_true, out_false, isin_true, isin_false, Int.toNat_natCast, Int.ofNat_lt, Nat.zero_add, Nat.add_zero, Nat.reduceAdd, id, scT_e, weighS_t]; rfl)
  obtain ⟨hi, hff⟩ := hI
  have hi : i ≤ t.ns := hi
  have hff : firstFrom (badI (weighS t n a) r st m) 0 t.ns = firstFrom (badI (weighS t n a) r st m) i (t.ns - i) := hff
  conv => whnf
  refine ⟨fun g1 => ?_, fun g1 => ?_⟩
  rotate_left
  · rw [firstFrom_end (by have := of_decide_eq_false g1; omega)] at hff
    rw [hff, if_pos (by decide)] at hk
    repeat' (first | ((with_reducible refine kok ?_); kernel_rfl) | ((with_reducible refine keq_mk ?_); kernel_rfl) | with_reducible rfl | ((conv => whnf); first | (with_reducible exact trivial) | ((with_reducible refine and_ff ?_ ?_); · exact rfl) | ((with_reducible refine and_tt ?_ ?_); · exact rfl) | (with_reducible refine And.intro ?_ ?_) | intro _ | (with_reducible refine fin2 hk ?_) | ((with_reducible refine eq_leaf ?_); exact rfl) | exact trivial))
  have hlt : i < t.ns := by have := of_decide_eq_true g1; omega
  have bad_y : badI (weighS t n a) r st m i = true → (if firstFrom (badI (weighS t n a) r st m) 0 t.ns < 0 then ((0 : Int), (0 : Int)) else (firstFrom (badI (weighS t n a) r st m) 0 t.ns, 132)) = ((i : Int), 132) := fun q => by
    rw [hff, firstFrom_step hlt, if_pos q, if_neg (by omega)]
  have bad_n : badI (weighS t n a) r st m i = false → firstFrom (badI (weighS t n a) r st m) 0 t.ns = firstFrom (badI (weighS t n a) r st m) (i + 1) (t.ns - (i + 1)) := fun q => by
    rw [hff, firstFrom_step hlt, if_neg (by rw [q]; exact Bool.noConfusion)]
  have hmi := miss_in hsc (i := st.toNat) (by rw [weighS_t]; omega)
  clear hff
  repeat' (first | ((with_reducible refine kok ?_); kernel_rfl) | ((with_reducible refine keq_mk ?_); kernel_rfl) | with_reducible rfl | ((conv => whnf); first | (with_reducible exact trivial) | ((with_reducible refine and_ff ?_ ?_); · exact rfl) | ((with_reducible refine and_tt ?_ ?_); · exact rfl) | (with_reducible refine And.intro ?_ ?_) | intro _ | (with_reducible refine fin2 hk ?_) | ((with_reducible refine eq_leaf ?_); exact rfl) | exact trivial))
  all_goals try (clear hk; (first | with_reducible refine (?_ : (_ : Int) ≤ _) | with_reducible refine (?_ : (_ : Int) < _)); first | omega | (simp only [scT_e, weighS_t]; omega) | (rw [g6]; first | exact hmi.1 | exact hmi.2))
  all_goals try exact sc_self _
  all_goals try exact hsc
  · clear hk
    rename_i q1 q2
    simp only [taskOf_agg, ↓Bool.not_eq_true', ↓Bool.not_eq_false', ↓decT, ↓decF, out_true, out_false, isin_true, isin_false, Int.toNat_natCast, Int.ofNat_lt, Nat.zero_add, Nat.add_zero, Nat.reduceAdd] at q1 q2
    rw [bad_y (by rw [bad_own q1]; first | (simp only [q2]; done) | (simp at q2 ⊢; omega))]
  · clear hk
    rename_i q1 q2
    simp only [taskOf_agg, ↓Bool.not_eq_true', ↓Bool.not_eq_false', ↓decT, ↓decF, out_true, out_false, isin_true, isin_false, Int.toNat_natCast, Int.ofNat_lt, Nat.zero_add, Nat.add_zero, Nat.reduceAdd] at q1 q2
    rw [bad_y (by rw [bad_own q1]; first | (simp only [q2]; done) | (simp at q2 ⊢; omega))]
  · clear hk
    rename_i q1 q2
    simp only [taskOf_agg, ↓Bool.not_eq_true', ↓Bool.not_eq_false', ↓decT, ↓decF, out_true, out_false, isin_true, isin_false, Int.toNat_natCast, Int.ofNat_lt, Nat.zero_add, Nat.add_zero, Nat.reduceAdd] at q1 q2
    have q3 := bad_n (by rw [bad_own q1]; simp at q2 ⊢; omega)
    conv => whnf
    refine ⟨i + 1, ?_⟩
    repeat' (first | ((with_reducible refine kok ?_); kernel_rfl) | ((with_reducible refine keq_mk ?_); kernel_rfl) | with_reducible rfl | ((conv => whnf); first | (with_reducible exact trivial) | ((with_reducible refine and_ff ?_ ?_); · exact rfl) | ((with_reducible refine and_tt ?_ ?_); · exact rfl) | (with_reducible refine And.intro ?_ ?_) | intro _ | (with_reducible refine fin2 hk ?_) | ((with_reducible refine eq_leaf ?_); exact rfl) | exact trivial))
    all_goals first | exact hlt | exact q3 | (simp only; omega)
  rotate_left
  · clear hk
    rename_i q1 q2 q3
    simp only [taskOf_agg, ↓Bool.not_eq_true', ↓Bool.not_eq_false', ↓decT, ↓decF, out_true, out_false, isin_true, isin_false, Int.toNat_natCast, Int.ofNat_lt, Nat.zero_add, Nat.add_zero, Nat.reduceAdd] at q1 q2 q3
    rw [bad_y (bad_out q1 (by omega))]
  · clear hk
    rename_i q1 q2 q3
    simp only [taskOf_agg, ↓Bool.not_eq_true', ↓Bool.not_eq_false', ↓decT, ↓decF, out_true, out_false, isin_true, isin_false, Int.toNat_natCast, Int.ofNat_lt, Nat.zero_add, Nat.add_zero, Nat.reduceAdd] at q1 q2 q3
    rw [bad_y (bad_out q1 (by omega))]
  rotate_left
  · clear hk
    rename_i q1 q2 q3 q4
    simp only [taskOf_agg, ↓Bool.not_eq_true', ↓Bool.not_eq_false', ↓decT, ↓decF, out_true, out_false, isin_true, isin_false, Int.toNat_natCast, Int.ofNat_lt, Nat.zero_add, Nat.add_zero, Nat.reduceAdd] at q1 q2 q3 q4
    rw [bad_y (bad_out q1 (by omega))]
  · clear hk
    rename_i q1 q2 q3 q4
    simp only [taskOf_agg, ↓Bool.not_eq_true', ↓Bool.not_eq_false', ↓decT, ↓decF, out_true, out_false, isin_true, isin_false, Int.toNat_natCast, Int.ofNat_lt, Nat.zero_add, Nat.add_zero, Nat.reduceAdd] at q1 q2 q3 q4
    rw [bad_y (bad_out q1 (by omega))]
  rotate_left
  · clear hk
    rename_i q1 q2 q3 q4
    simp only [taskOf_agg, ↓Bool.not_eq_true', ↓Bool.not_eq_false', ↓decT, ↓decF, out_true, out_false, isin_true, isin_false, Int.toNat_natCast, Int.ofNat_lt, Nat.zero_add, Nat.add_zero, Nat.reduceAdd] at q1 q2 q3 q4
    rw [bad_y (bad_out q1 (by omega))]
  · clear hk
    rename_i q1 q2 q3 q4
    simp only [taskOf_agg, ↓Bool.not_eq_true', ↓Bool.not_eq_false', ↓decT, ↓decF, out_true, out_false, isin_true, isin_false, Int.toNat_natCast, Int.ofNat_lt, Nat.zero_add, Nat.add_zero, Nat.reduceAdd] at q1 q2 q3 q4
    rw [bad_y (bad_out q1 (by omega))]
  · rename_i q1 q2 q3
    simp only [taskOf_agg, ↓Bool.not_eq_true', ↓Bool.not_eq_false', ↓decT, ↓decF, out_true, out_false, isin_true, isin_false, Int.toNat_natCast, Int.ofNat_lt, Nat.zero_add, Nat.add_zero, Nat.reduceAdd] at q1 q2 q3
    conv => whnf
    have e4 : r ((i : Int)).toNat 1 = 0 ∨ r ((i : Int)).toNat 1 = 1 ∨ r ((i : Int)).toNat 1 = 2 ∨ r ((i : Int)).toNat 1 = 3 := by
      show r i 1 = 0 ∨ r i 1 = 1 ∨ r i 1 = 2 ∨ r i 1 = 3
      omega
    have hB := bad_1 (s := weighS t n a) (m := m) q1 q2 q3
    rcases e4 with e4 | e4 | e4 | e4
    all_goals (
      rw [e4]
      rw [show r i 1 = _ from e4] at hB
      repeat' (first | ((with_reducible refine kok ?_); kernel_rfl) | ((with_reducible refine keq_mk ?_); kernel_rfl) | with_reducible rfl | ((conv => whnf); first | (with_reducible exact trivial) | ((with_reducible refine and_ff ?_ ?_); · exact rfl) | ((with_reducible refine and_tt ?_ ?_); · exact rfl) | (with_reducible refine And.intro ?_ ?_) | intro _ | (with_reducible refine fin2 hk ?_) | ((with_reducible refine eq_leaf ?_); exact rfl) | exact trivial)))
    all_goals try (clear hk; (first | with_reducible refine (?_ : (_ : Int) ≤ _) | with_reducible refine (?_ : (_ : Int) < _)); omega)
    all_goals clear hk
    all_goals first
      | (rw [bad_y hB]; done)
      | (rename_i q5; rw [bad_y (hB.trans q5)]; done)
      | (rename_i q5
         have q6 := bad_n (hB.trans q5)
         conv => whnf
         refine ⟨i + 1, ?_⟩
         repeat' (first | ((with_reducible refine kok ?_); kernel_rfl) | ((with_reducible refine keq_mk ?_); kernel_rfl) | with_reducible rfl | ((conv => whnf); first | (with_reducible exact trivial) | ((with_reducible refine and_ff ?_ ?_); · exact rfl) | ((with_reducible refine and_tt ?_ ?_); · exact rfl) | (with_reducible refine And.intro ?_ ?_) | intro _ | (with_reducible refine fin2 hk ?_) | ((with_reducible refine eq_leaf ?_); exact rfl) | exact trivial))
         all_goals first | exact hlt | exact q6 | (simp only; omega))
  · rename_i q1 q2 q3 q4
    simp only [taskOf_agg, ↓Bool.not_eq_true', ↓Bool.not_eq_false', ↓decT, ↓decF, out_true, out_false, isin_true, isin_false, Int.toNat_natCast, Int.ofNat_lt, Nat.zero_add, Nat.add_zero, Nat.reduceAdd] at q1 q2 q3 q4
    conv => whnf
    have e4 : r ((i : Int)).toNat 1 = 0 ∨ r ((i : Int)).toNat 1 = 1 ∨ r ((i : Int)).toNat 1 = 2 ∨ r ((i : Int)).toNat 1 = 3 := by
      show r i 1 = 0 ∨ r i 1 = 1 ∨ r i 1 = 2 ∨ r i 1 = 3
      omega
    have hB := bad_2 (s := weighS t n a) (m := m) q1 q3 q4
    rcases e4 with e4 | e4 | e4 | e4
    all_goals (
      rw [e4]
      rw [show r i 1 = _ from e4] at hB
      repeat' (first | ((with_reducible refine kok ?_); kernel_rfl) | ((with_reducible refine keq_mk ?_); kernel_rfl) | with_reducible rfl | ((conv => whnf); first | (with_reducible exact trivial) | ((with_reducible refine and_ff ?_ ?_); · exact rfl) | ((with_reducible refine and_tt ?_ ?_); · exact rfl) | (with_reducible refine And.intro ?_ ?_) | intro _ | (with_reducible refine fin2 hk ?_) | ((with_reducible refine eq_leaf ?_); exact rfl) | exact trivial)))
    all_goals try (clear hk; (first | with_reducible refine (?_ : (_ : Int) ≤ _) | with_reducible refine (?_ : (_ : Int) < _)); omega)
    all_goals clear hk
    all_goals first
      | (rw [bad_y hB]; done)
      | (rename_i q5; rw [bad_y (hB.trans q5)]; done)
      | (rename_i q5
         have q6 := bad_n (hB.trans q5)
         conv => whnf
         refine ⟨i + 1, ?_⟩
         repeat' (first | ((with_reducible refine kok ?_); kernel_rfl) | ((with_reducible refine keq_mk ?_); kernel_rfl) | with_reducible rfl | ((conv => whnf); first | (with_reducible exact trivial) | ((with_reducible refine and_ff ?_ ?_); · exact rfl) | ((with_reducible refine and_tt ?_ ?_); · exact rfl) | (with_reducible refine And.intro ?_ ?_) | intro _ | (with_reducible refine fin2 hk ?_) | ((with_reducible refine eq_leaf ?_); exact rfl) | exact trivial))
         all_goals first | exact hlt | exact q6 | (simp only; omega))
  · rename_i q1 q2 q3 q4
    simp only [taskOf_agg, ↓Bool.not_eq_true', ↓Bool.not_eq_false', ↓decT, ↓decF, out_true, out_false, isin_true, isin_false, Int.toNat_natCast, Int.ofNat_lt, Nat.zero_add, Nat.add_zero, Nat.reduceAdd] at q1 q2 q3 q4
    conv => whnf
    have e4 : r ((i : Int)).toNat 1 = 0 ∨ r ((i : Int)).toNat 1 = 1 ∨ r ((i : Int)).toNat 1 = 2 ∨ r ((i : Int)).toNat 1 = 3 := by
      show r i 1 = 0 ∨ r i 1 = 1 ∨ r i 1 = 2 ∨ r i 1 = 3
      omega
    have hB := bad_0 (s := weighS t n a) (m := m) q1 q2 q3
    rcases e4 with e4 | e4 | e4 | e4
    all_goals (
      rw [e4]
      repeat' (first | ((with_reducible refine kok ?_); kernel_rfl) | ((with_reducible refine keq_mk ?_); kernel_rfl) | with_reducible rfl | ((conv => whnf); first | (with_reducible exact trivial) | ((with_reducible refine and_ff ?_ ?_); · exact rfl) | ((with_reducible refine and_tt ?_ ?_); · exact rfl) | (with_reducible refine And.intro ?_ ?_) | intro _ | (with_reducible refine fin2 hk ?_) | ((with_reducible refine eq_leaf ?_); exact rfl) | exact trivial)))
    all_goals try (clear hk; (first | with_reducible refine (?_ : (_ : Int) ≤ _) | with_reducible refine (?_ : (_ : Int) < _)); omega)
    all_goals clear hk
    all_goals first
      | (rw [bad_y hB]; done)
      | (rename_i q5; rw [bad_y (hB.trans q5)]; done)
      | (rename_i q5
         have q6 := bad_n (hB.trans q5)
         conv => whnf
         refine ⟨i + 1, ?_⟩
         repeat' (first | ((with_reducible refine kok ?_); kernel_rfl) | ((with_reducible refine keq_mk ?_); kernel_rfl) | with_reducible rfl | ((conv => whnf); first | (with_reducible exact trivial) | ((with_reducible refine and_ff ?_ ?_); · exact rfl) | ((with_reducible refine and_tt ?_ ?_); · exact rfl) | (with_reducible refine And.intro ?_ ?_) | intro _ | (with_reducible refine fin2 hk ?_) | ((with_reducible refine eq_leaf ?_); exact rfl) | exact trivial))
         all_goals first | exact hlt | exact q6 | (simp only; omega))
end Go.Proofs.Ytbakdblbknfadaa
end
section
set_option linter.unusedVariables false
set_option linter.unusedSimpArgs false
set_option maxRecDepth 100000
set_option maxHeartbeats 4000000
namespace Go.Proofs.Ytbakdblbknfadaa
open Go.V
theorem badI_so {s : Scn} {r : Nat → Nat → Int} {st m : Int} {i : Nat} : badI s r st m i = !soB s i (r i 0) (r i 1) st m := rfl
attribute [local irreducible] weighS chkA checkBands lowB ScOK askE imp missS alwB sdB farB bestTo whyM ScIs soB accS accE badI
theorem qAccept_ok : PSound Go.Proofs.Try.prog 41 (mk rAcc) := by
  refine psound_mk Try.func41 (by kernel_rfl) rfl (ctx la26_ok) ?_
  (intro ds p d h; unfold rAcc at h; split at h <;> first | (cases h; done) | skip; cases h; refine ⟨Nat.le_of_ble_eq_true rfl, fun hp k hk => ?_⟩)
  rename_i d n g st m c h
  obtain ⟨ht, hg, hh, hkm⟩ := hp
  have hf := at_fits ht
  refine ⟨[(atOf d).D, .rsl 6 n (imD (im g)), .agg [.int .i64 st, .int .i64 m, .rsl 2 c (imD (im h))]], at_imp ht ⟨rfl, hg, rfl, rfl, rfl, hh, ?_⟩⟩
  clear ht hg hh
  generalize atOf d = t at *
  generalize im g = a at *
  generalize im h = r at *
  have IQ : isin st 0 ((t.ns : Int) - 1) = decide (0 ≤ st ∧ st ≤ (t.ns : Int) - 1) := by unfold isin; simp
  repeat' (first | ((with_reducible refine kok ?_); kernel_rfl) | ((with_reducible refine keq_mk ?_); kernel_rfl) | with_reducible rfl | ((conv => whnf); first | (with_reducible exact trivial) | ((with_reducible refine and_ff ?_ ?_); · exact rfl) | ((with_reducible refine and_tt ?_ ?_); · exact rfl) | (with_reducible refine And.intro ?_ ?_) | intro _ | (with_reducible refine fin2 hk ?_) | ((with_reducible refine eq_leaf ?_); exact rfl) | exact trivial))
  all_goals try (clear hk; first | exact hf.1 | exact hf.2)
  all_goals try (
    clear hk
    simp only [IQ] at *
    simp only [atOf_agg, im_imD, weighS_t, taskOf_agg, ↓Bool.not_eq_true', ↓Bool.not_eq_false', ↓decT, ↓decF, out_true, out_false, isin_true, isin_false, Int.toNat_natCast, Int.ofNat_lt, Nat.zero_add, Nat.add_zero, Nat.reduceAdd] at *
    first
      | (rw [accE_1 (by assumption)]; done)
      | exact (ask_ok (by assumption)).1
      | exact (ask_ok (by assumption)).2.1
      | (have hns := (ask_ok (by assumption : askE t n a = 0)).1.ns; omega)
      | (rw [accE_2 (by assumption), acc_130 (fun q => by have h1 := q.1; have h2 := q.2.1; rw [weighS_t] at h2; omega)]; done)
      | (rw [accE_2 (by assumption), acc_130 (fun q => Bool.noConfusion ((by assumption : alwB (weighS t n a) st.toNat = false).symm.trans q.2.2))]; done)
      | (rw [accE_2 (by assumption), acc_131 ⟨by omega, by rw [weighS_t]; omega, by assumption⟩ (by assumption)]; done)
      | (rw [accE_2 (by assumption), acc_2 ⟨by omega, by rw [weighS_t]; omega, by assumption⟩ (by assumption) (by rw [weighS_t]; omega)]; done))
  rename_i g1 g4 g5 g6 g7
  rw [IQ] at g4
  simp only [atOf_agg, im_imD, taskOf_agg, ↓Bool.not_eq_true', ↓Bool.not_eq_false', ↓decT, ↓decF, out_true, out_false, isin_true, isin_false, Int.toNat_natCast, Int.ofNat_lt, Nat.zero_add, Nat.add_zero, Nat.reduceAdd] at g1 g4 g5 g6 g7
  have hcn : c = t.ns := by omega
  subst hcn
  have H : 0 ≤ st ∧ st ≤ ((weighS t n a).t.ns : Int) - 1 ∧ alwB (weighS t n a) st.toNat = true := ⟨g4.1, by rw [weighS_t]; exact g4.2, g5⟩
  have hacc := acc_i (r := r) H g6 (by rw [weighS_t] : t.ns = (weighS t n a).t.ns)
  have ho := ask_ok g1
  have hns := ho.1.ns
  rw [accE_2 g1, hacc] at hk
  conv => whnf
  refine ⟨Nat, fun i => [(1, .rsl 6 n (imD a)), (3, .ptr 0 0), (5, .ptr 1 0), (9, .int .i64 i)],
    fun i => [some (.row t.cells), some (.row [.int .i64 st, .int .i64 m, .rsl 2 t.ns (imD r)])],
    fun i => t.ns - i, fun i => i ≤ t.ns ∧ firstFrom (badI (weighS t n a) r st m) 0 t.ns = firstFrom (badI (weighS t n a) r st m) i (t.ns - i), [], 0, fun _ => ⟨?_, ?_⟩, ?_, fun i hI => ?_⟩
  · conv => lhs; whnf
  · conv => lhs; whnf
  · clear hk
    repeat' (first | ((with_reducible refine kok ?_); kernel_rfl) | ((with_reducible refine keq_mk ?_); kernel_rfl) | with_reducible rfl | ((conv => whnf); first | (with_reducible exact trivial) | ((with_reducible refine and_ff ?_ ?_); · exact rfl) | ((with_reducible refine and_tt ?_ ?_); · exact rfl) | (with_reducible refine And.intro ?_ ?_) | intro _ | (with_reducible refine fin2 hk ?_) | ((with_reducible refine eq_leaf ?_); exact rfl) | exact trivial))
    all_goals first
      | exact Nat.zero_le _
      | rfl
  obtain ⟨hi, hff⟩ := hI
  have hi : i ≤ t.ns := hi
  have hff : firstFrom (badI (weighS t n a) r st m) 0 t.ns = firstFrom (badI (weighS t n a) r st m) i (t.ns - i) := hff
  conv => whnf
  refine ⟨fun g1 => ?_, fun g1 => ?_⟩
  rotate_left
  · rw [firstFrom_end (by have := of_decide_eq_false g1; omega)] at hff
    rw [hff, if_pos (by decide)] at hk
    repeat' (first | ((with_reducible refine kok ?_); kernel_rfl) | ((with_reducible refine keq_mk ?_); kernel_rfl) | with_reducible rfl | ((conv => whnf); first | (with_reducible exact trivial) | ((with_reducible refine and_ff ?_ ?_); · exact rfl) | ((with_reducible refine and_tt ?_ ?_); · exact rfl) | (with_reducible refine And.intro ?_ ?_) | intro _ | (with_reducible refine fin2 hk ?_) | ((with_reducible refine eq_leaf ?_); exact rfl) | exact trivial))
  have hlt : i < t.ns := by have := of_decide_eq_true g1; omega
  have bad_y : badI (weighS t n a) r st m i = true → (if firstFrom (badI (weighS t n a) r st m) 0 t.ns < 0 then ((0 : Int), (0 : Int)) else (firstFrom (badI (weighS t n a) r st m) 0 t.ns, 132)) = ((i : Int), 132) := fun q => by
    rw [hff, firstFrom_step hlt, if_pos q, if_neg (by omega)]
  have bad_n : badI (weighS t n a) r st m i = false → firstFrom (badI (weighS t n a) r st m) 0 t.ns = firstFrom (badI (weighS t n a) r st m) (i + 1) (t.ns - (i + 1)) := fun q => by
    rw [hff, firstFrom_step hlt, if_neg (by rw [q]; exact Bool.noConfusion)]
  clear hff
  repeat' (first | ((with_reducible refine kok ?_); kernel_rfl) | ((with_reducible refine keq_mk ?_); kernel_rfl) | with_reducible rfl | ((conv => whnf); first | (with_reducible exact trivial) | ((with_reducible refine and_ff ?_ ?_); · exact rfl) | ((with_reducible refine and_tt ?_ ?_); · exact rfl) | (with_reducible refine And.intro ?_ ?_) | intro _ | (with_reducible refine fin2 hk ?_) | ((with_reducible refine eq_leaf ?_); exact rfl) | exact trivial))
  all_goals try (clear hk; first | exact hf.1 | exact hf.2)
  all_goals try (clear hk; simp only [atOf_agg, im_imD]; first | exact ho.1 | exact ho.2.1)
  all_goals try (clear hk; (first | with_reducible refine (?_ : (_ : Int) ≤ _) | with_reducible refine (?_ : (_ : Int) < _)); first | omega | (simp only [atOf_agg]; omega))
  all_goals clear hk
  all_goals first
    | (rename_i q5; rw [bad_y (badI_so.trans q5)]; done)
    | (rename_i q5
       have q6 := bad_n (badI_so.trans q5)
       conv => whnf
       refine ⟨i + 1, ?_⟩
       repeat' (first | ((with_reducible refine kok ?_); kernel_rfl) | ((with_reducible refine keq_mk ?_); kernel_rfl) | with_reducible rfl | ((conv => whnf); first | (with_reducible exact trivial) | ((with_reducible refine and_ff ?_ ?_); · exact rfl) | ((with_reducible refine and_tt ?_ ?_); · exact rfl) | (with_reducible refine And.intro ?_ ?_) | intro _ | (with_reducible refine fin2 hk ?_) | ((with_reducible refine eq_leaf ?_); exact rfl) | exact trivial))
       all_goals first | exact hlt | exact q6 | (simp only; omega))
noncomputable def la27 : Lib := (40, mk rAcc) :: (41, mk rAcc) :: la26
theorem la27_ok : LibOK Go.Proofs.Try.prog la27 := .cons aAccept_ok (.cons qAccept_ok la26_ok)
def rLAcc : List V.D → Option (Prop × V.D) := fun ds => match ds with
  | [d, .rsl 6 n g, .agg [.int .i64 st, .int .i64 m, .rsl 2 k h]] => some (AtIs d ∧ IM n 6 g ∧ IM k 2 h ∧ k ≤ 9223372036854775807, .tt)
  | _ => none
theorem lawAAccepts_ok : PSound Go.Proofs.Try.prog 13 (mk rLAcc) := by
  refine psound_mk Try.func13 (by kernel_rfl) rfl (ctx la27_ok) ?_
  (intro ds p d h; unfold rLAcc at h; split at h <;> first | (cases h; done) | skip; cases h; refine ⟨Nat.le_of_ble_eq_true rfl, fun hp k hk => ?_⟩)
  rename_i d n g st m c h
  obtain ⟨ht, hg, hh, hkm⟩ := hp
  have hf := at_fits ht
  refine ⟨[(atOf d).D, .rsl 6 n (imD (im g)), .agg [.int .i64 st, .int .i64 m, .rsl 2 c (imD (im h))]], at_imp ht ⟨rfl, hg, rfl, rfl, rfl, hh, ?_⟩⟩
  clear ht hg hh
  generalize atOf d = t at *
  generalize im g = a at *
  generalize im h = r at *
  repeat' (first | ((with_reducible refine kok ?_); kernel_rfl) | ((with_reducible refine keq_mk ?_); kernel_rfl) | with_reducible rfl | ((conv => whnf); first | (with_reducible exact trivial) | ((with_reducible refine and_ff ?_ ?_); · exact rfl) | ((with_reducible refine and_tt ?_ ?_); · exact rfl) | (with_reducible refine And.intro ?_ ?_) | intro _ | (with_reducible refine fin2 hk ?_) | ((with_reducible refine eq_leaf ?_); exact rfl) | exact trivial))
  all_goals (clear hk; try first | exact hf.1 | exact hf.2 | exact hkm)
  all_goals first
    | (exfalso; simp_all; done)
    | simp
end Go.Proofs.Ytbakdblbknfadaa
end
section
set_option linter.unusedVariables false
set_option linter.unusedSimpArgs false
set_option maxRecDepth 100000
namespace Go.Proofs.Ytbakdblbknfadaa
open Go.V

theorem aimAccepts_lifted (os : Os) (started : os.Started) (H : Type) (enc : TypeId × Value → H) :
    ReturnsInHanded {} Try.checked os 13 .any (Rows.aimAcceptsSpec.pre6 enc Go.Proofs.Try.prog Try.f13 Rows.aimAcceptsRow.domain false) (Rows.aimAcceptsSpec.post enc Go.Proofs.Try.prog Try.f13 false Rows.aimAcceptsRow.fresh Rows.aimAcceptsRow.handsOn Rows.aimAcceptsRow.again) := by
  refine returnsInHanded_of_change (C := Try.checked) own started (by kernel_rfl) Try.func13
    (ChangeSpec.witness6 (enc := enc) (C := Try.checked) false ⟨#[], #[.agg #[.slice none 0 0, .slice none 0 0, .int .i64 0, .int .i64 0, .int .i64 0, .int .i64 0, .int .i64 0, .int .i64 0, .int .i64 0, .int .i64 0, .int .i64 0], .slice none 0 0, .agg #[.int .i64 0, .int .i64 0, .slice none 0 0]], []⟩ 8 (by kernel_rfl) (by kernel_rfl) (by kernel_rfl) (by kernel_rfl)) ?_
  intro W base args ds gs before hok hW _ _
  refine law_contract (l := [atK, .one bandsK, .agg [.int .i64, .int .i64, .sl [.int .i64, .int .i64]]]) (tb := 4) laid_ok lawAAccepts_ok (by kernel_rfl) (by kernel_rfl) rfl tbool (fun ds h => ?_) rfl (fun ds hd => ?_) W base args ds gs before hok hW
  · obtain ⟨d, e, f, rfl, h1, h2, h3⟩ := isAL3 h
    obtain ⟨n, g, rfl, hg⟩ := bands_of_kinds (f := 6) h2
    obtain ⟨ds, rfl, hl, h3⟩ := h3
    match ds, hl with
    | [d0, d1, d2], _ =>
      obtain ⟨n0, rfl, _⟩ := h3 0 _ _ rfl rfl
      obtain ⟨n1, rfl, _⟩ := h3 1 _ _ rfl rfl
      obtain ⟨n2, g2, rfl, hn2, hg2⟩ := h3 2 _ _ rfl rfl
      exact ⟨_, _, rfl, ⟨at_of_kinds h1, hg, IM_of hg2 rfl, by omega⟩, .inl rfl⟩
  · match ds, hd with
    | [a, b, c], _ => exact ⟨rfl, rfl, rfl⟩
theorem aimAccepts_holds : Rows.AimAcceptsSaid :=
  OpenClaim.holds_of_wide 13 Try.f13 rfl rfl rfl rfl rfl rfl rfl ⟨rfl, rfl, rfl, rfl, rfl⟩ rfl rfl rfl rfl rfl (by kernel_rfl) Try.func13 (by kernel_rfl)
    (of_decide_eq_true (by kernel_rfl)) (by unfold Func.isWrapper; first | (rw [if_pos (by decide +kernel)]; kernel_rfl) | (rw [if_neg (by decide +kernel)]; exact ⟨rfl, rfl⟩))
    (fun os started H enc _ => aimAccepts_lifted os started H enc)
#print axioms aimAccepts_holds
end Go.Proofs.Ytbakdblbknfadaa
end
