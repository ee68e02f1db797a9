/-
  The law AimRounds is proved: Rounds returns what the document says, for any task, winds and ticks. No condition.
-/
import Derived.Test.YtbakdblbknfadaaGreatMq
section
set_option linter.unusedVariables false
set_option linter.unusedSimpArgs false
set_option maxRecDepth 100000
set_option maxHeartbeats 4000000
namespace Go.Proofs.YtbakdblbknfadaaGreat
open Go.V
/-- The errors of rounds, step by step. -/
def e0v (t : ATask) (u : Task) (la : Int) (n : Nat) : Int := if (chkA t).2.2 ≠ 0 then (chkA t).2.2 else if checkE u ≠ 0 then checkE u else if out la 0 100000 = true then 7 else if 40 < n then 3 else 0
def eA (t : ATask) (u : Task) (la : Int) (n : Nat) (w : Nat → Nat → Int) (i : Nat) : Int := if e0v t u la n ≠ 0 then e0v t u la n else if anyBelow (outN la w) i = true then 7 else 0
def eB (t : ATask) (u : Task) (la : Int) (n : Nat) (w : Nat → Nat → Int) (i : Nat) : Int := if eA t u la n w n ≠ 0 then eA t u la n w n else if anyBelow (descB w) i = true then 2 else 0
section
variable {t : ATask} {u : Task} {la : Int} {n : Nat} {w : Nat → Nat → Int}
theorem e0v_1 (h : ¬ (chkA t).2.2 = 0) : e0v t u la n = (chkA t).2.2 := if_pos h
theorem e0v_2 (h : (chkA t).2.2 = 0) (h2 : ¬ checkE u = 0) : e0v t u la n = checkE u := (if_neg (fun g => g h)).trans (if_pos h2)
theorem e0v_3 (h : (chkA t).2.2 = 0) (h2 : checkE u = 0) (h3 : out la 0 100000 = true) : e0v t u la n = 7 := ((if_neg (fun g => g h)).trans (if_neg (fun g => g h2))).trans (if_pos h3)
theorem e0v_4 (h : (chkA t).2.2 = 0) (h2 : checkE u = 0) (h3 : out la 0 100000 = false) (h4 : 40 < n) : e0v t u la n = 3 := (((if_neg (fun g => g h)).trans (if_neg (fun g => g h2))).trans (if_neg (by rw [h3]; exact Bool.noConfusion))).trans (if_pos h4)
theorem e0v_5 (h : (chkA t).2.2 = 0) (h2 : checkE u = 0) (h3 : out la 0 100000 = false) (h4 : ¬ 40 < n) : e0v t u la n = 0 := (((if_neg (fun g => g h)).trans (if_neg (fun g => g h2))).trans (if_neg (by rw [h3]; exact Bool.noConfusion))).trans (if_neg h4)
theorem eA_0 : eA t u la n w 0 = e0v t u la n := by
  unfold eA
  by_cases h : e0v t u la n = 0
  · rw [if_neg (fun g => g h), h]; rfl
  · rw [if_pos h]
theorem eA_i {i : Nat} (h : eA t u la n w i = 0) : e0v t u la n = 0 ∧ anyBelow (outN la w) i = false := by
  unfold eA at h
  by_cases q : e0v t u la n = 0
  · rw [if_neg (fun g => g q)] at h
    refine ⟨q, ?_⟩
    cases r : anyBelow (outN la w) i with
    | false => rfl
    | true => rw [r, if_pos rfl] at h; exact absurd h (by decide)
  · rw [if_pos q] at h; exact absurd h q
theorem eA_y {i : Nat} (h : eA t u la n w i = 0) (h2 : outN la w i = true) : eA t u la n w (i + 1) = 7 := by
  have z := eA_i h
  unfold eA
  rw [if_neg (fun g => g z.1), anyBelow_succ, h2, Bool.or_true, if_pos rfl]
theorem eA_n {i : Nat} (h : eA t u la n w i = 0) (h2 : outN la w i = false) : eA t u la n w (i + 1) = eA t u la n w i := by
  have z := eA_i h
  rw [h]
  unfold eA
  rw [if_neg (fun g => g z.1), anyBelow_succ, h2, z.2]
  rfl
theorem eA_stop {i : Nat} (hi : i ≤ n) (h : ¬ eA t u la n w i = 0) : eA t u la n w i = eA t u la n w n := by
  unfold eA at h ⊢
  by_cases q : e0v t u la n = 0
  · have nq : ¬ (e0v t u la n ≠ 0) := fun g => g q
    rw [if_neg nq] at h
    rw [if_neg nq, if_neg nq]
    cases r : anyBelow (outN la w) i with
    | false => rw [r] at h; exact absurd rfl h
    | true =>
      obtain ⟨j, j1, j2⟩ := anyBelow_iff.mp r
      rw [anyBelow_iff.mpr ⟨j, by omega, j2⟩]
  · rw [if_pos q, if_pos q]
theorem eB_0 : eB t u la n w 0 = eA t u la n w n := by
  unfold eB
  by_cases h : eA t u la n w n = 0
  · rw [if_neg (fun g => g h), h]; rfl
  · rw [if_pos h]
theorem eB_i {i : Nat} (h : eB t u la n w i = 0) : eA t u la n w n = 0 ∧ anyBelow (descB w) i = false := by
  unfold eB at h
  by_cases q : eA t u la n w n = 0
  · rw [if_neg (fun g => g q)] at h
    refine ⟨q, ?_⟩
    cases r : anyBelow (descB w) i with
    | false => rfl
    | true => rw [r, if_pos rfl] at h; exact absurd h (by decide)
  · rw [if_pos q] at h; exact absurd h q
theorem eB_y {i : Nat} (h : eB t u la n w i = 0) (h2 : descB w i = true) : eB t u la n w (i + 1) = 2 := by
  have z := eB_i h
  unfold eB
  rw [if_neg (fun g => g z.1), anyBelow_succ, h2, Bool.or_true, if_pos rfl]
theorem eB_n {i : Nat} (h : eB t u la n w i = 0) (h2 : descB w i = false) : eB t u la n w (i + 1) = eB t u la n w i := by
  have z := eB_i h
  rw [h]
  unfold eB
  rw [if_neg (fun g => g z.1), anyBelow_succ, h2, z.2]
  rfl
theorem eB_stop {i : Nat} (hi : i ≤ n - 1) (h : ¬ eB t u la n w i = 0) : eB t u la n w i = eB t u la n w (n - 1) := by
  unfold eB at h ⊢
  by_cases q : eA t u la n w n = 0
  · have nq : ¬ (eA t u la n w n ≠ 0) := fun g => g q
    rw [if_neg nq] at h
    rw [if_neg nq, if_neg nq]
    cases r : anyBelow (descB w) i with
    | false => rw [r] at h; exact absurd rfl h
    | true =>
      obtain ⟨j, j1, j2⟩ := anyBelow_iff.mp r
      rw [anyBelow_iff.mpr ⟨j, by omega, j2⟩]
  · rw [if_pos q, if_pos q]
theorem eAB {x : Int} (h : e0v t u la n = x) (hx : ¬ x = 0) : eB t u la n w (n - 1) = x := by
  have a : eA t u la n w n = x := by unfold eA; rw [h, if_pos hx]
  unfold eB
  rw [a, if_pos hx]
theorem eB_rnd : eB t u la n w (n - 1) = rndE t u la n w := by
  by_cases h1 : (chkA t).2.2 = 0
  rotate_left
  · rw [rnd_e1 h1]
    exact eAB (e0v_1 h1) h1
  by_cases h2 : checkE u = 0
  rotate_left
  · rw [rnd_e2 h1 h2]
    exact eAB (e0v_2 h1 h2) h2
  rw [rnd_e3 h1 h2]
  cases h3 : out la 0 100000 with
  | true =>
    rw [if_pos rfl]
    exact eAB (e0v_3 h1 h2 h3) (by decide)
  | false =>
    rw [if_neg (by decide)]
    by_cases h4 : 40 < n
    · rw [if_pos h4]
      exact eAB (e0v_4 h1 h2 h3 h4) (by decide)
    · rw [if_neg h4]
      have z := e0v_5 h1 h2 h3 h4
      cases h5 : anyBelow (outN la w) n with
      | true =>
        rw [if_pos rfl]
        have a : eA t u la n w n = 7 := by unfold eA; rw [z, h5]; rfl
        unfold eB
        rw [a]
        rfl
      | false =>
        rw [if_neg (by decide)]
        have a : eA t u la n w n = 0 := by unfold eA; rw [z, h5]; rfl
        unfold eB
        rw [a]
        rfl
end
def rRoundQ : List V.D → Option (Prop × V.D) := fun ds => match ds with
  | [d, x, .int .i64 la, .int .i64 now, .int .i64 k] => some (AtIs d ∧ TaskIs x ∧ (taskOf x).fits ∧ AmOK (atOf d) ∧ (-1 ≤ k ∧ k < (atOf d).ns) ∧ (0 ≤ now ∧ now ≤ 100000) ∧ 0 ≤ la ∧ la ≤ 100000, .agg (rndRow (atOf d) (taskOf x) la now k))
  | _ => none
attribute [local irreducible] weighS chkA checkS bandsT bandA lowB ScOK imp missS alwB bestTo rndE noB scR keepR canR stR nextR setR misR setTo anyBelow checkBands mssR
theorem qRound_ok : PSound Go.Proofs.Tryz.prog 18 (mk rRoundQ) := by
  refine psound_mk Tryz.func18 (by kernel_rfl) rfl (ctx la36_ok) ?_
  (intro ds p d h; unfold rRoundQ at h; split at h <;> first | (cases h; done) | skip; cases h; refine ⟨Nat.le_of_ble_eq_true rfl, fun hp k hk => ?_⟩)
  rename_i d x la now k0
  obtain ⟨ht, hx, hwf, ho, ⟨hk1, hk2⟩, hnow, hla⟩ := hp
  have hf := at_fits ht
  refine ⟨[(atOf d).D, (taskOf x).D, .int .i64 la, .int .i64 now, .int .i64 k0], at_imp ht (task_imp hx ⟨rfl, rfl, rfl, ?_⟩)⟩
  clear ht hx
  generalize atOf d = t at *
  generalize taskOf x = u at *
  have hns := ho.ns
  have hnr := ho.nr
  have R := ho.rest
  unfold RestOK at R
  have hB := @bandsT_B u la now
  have hbi := best_in (weighS t (bandsT u la now).1 (bandA u la now)) t.ns
  repeat' (first | ((with_reducible refine kok ?_); kernel_rfl) | ((with_reducible refine keq_mk ?_); kernel_rfl) | with_reducible rfl | ((conv => whnf); first | (with_reducible exact trivial) | ((with_reducible refine and_ff ?_ ?_); · exact rfl) | ((with_reducible refine and_tt ?_ ?_); · exact rfl) | (with_reducible refine And.intro ?_ ?_) | intro _ | (with_reducible refine fin2 hk ?_) | ((with_reducible refine eq_leaf ?_); exact rfl) | exact trivial))
  all_goals try exact hwf _ (by assumption)
  all_goals try first | exact hf.1 | exact hf.2
  all_goals try exact ho
  all_goals try (
    have hb0 : (!decide ((bandsT u la now).2 = 0)) = false := (by assumption)
    have hb1 := hB (by simpa using hb0)
    have hlen := hb1.len
    have hsc := weighS_ok ho hb1)
  all_goals try exact hb1
  all_goals try exact hlen.1
  all_goals try exact hlen.2
  all_goals try (
    have hmk : 0 ≤ k0 → 0 ≤ missS (weighS t (bandsT u la now).1 (bandA u la now)) k0.toNat ∧ missS (weighS t (bandsT u la now).1 (bandA u la now)) k0.toNat ≤ 20000000400000002 := fun h => miss_in hsc (by rw [weighS_t]; omega))
  all_goals try (
    have hmb : 0 ≤ bestTo (weighS t (bandsT u la now).1 (bandA u la now)) t.ns → 0 ≤ missS (weighS t (bandsT u la now).1 (bandA u la now)) (bestTo (weighS t (bandsT u la now).1 (bandA u la now)) t.ns).toNat ∧ missS (weighS t (bandsT u la now).1 (bandA u la now)) (bestTo (weighS t (bandsT u la now).1 (bandA u la now)) t.ns).toNat ≤ 20000000400000002 := fun h => miss_in hsc (by rw [weighS_t]; omega))
  all_goals try ((first | with_reducible refine (?_ : (_ : Int) ≤ _) | with_reducible refine (?_ : (_ : Int) < _)); clear hk; simp only [atOf_agg, taskOf_agg, im_imD, scT_e, weighS_t, Int.toNat_natCast, taskOf_agg, ↓Bool.not_eq_true', ↓Bool.not_eq_false', ↓decT, ↓decF, out_true, out_false, isin_true, isin_false, Int.toNat_natCast, Int.ofNat_lt, Nat.zero_add, Nat.add_zero, Nat.reduceAdd] at *; omega)
  all_goals clear hk
  all_goals try (
    have N := nx_no (k := k0) (noB_t (t := t) (u := u) (la := la) (now := now) (fun h => absurd h (by simpa using (by assumption : (!decide ((bandsT u la now).2 = 0)) = true))))
    first | exact N.1.symm | exact N.2.1.symm | exact N.2.2.symm)
  all_goals try (
    have N := nx_no (k := k0) (noB_t (t := t) (u := u) (la := la) (now := now) (fun h => by simpa using (by assumption : (!(!lowB t (bandsT u la now).1 (bandA u la now))) = true)))
    first | exact N.1.symm | exact N.2.1.symm | exact N.2.2.symm)
  all_goals (
    have nb : noB t u la now = false := noB_f (by simpa using hb0) (by simpa using (by assumption : (!(!lowB t (bandsT u la now).1 (bandA u la now))) = false))
    have hs : scR t u la now = weighS t (bandsT u la now).1 (bandA u la now) := by delta scR; rfl
    clear hB hwf hf hlen hb1 hsc hb0
    simp only [atOf_agg, taskOf_agg, im_imD, scT_e, weighS_t, Int.toNat_natCast, taskOf_agg, ↓Bool.not_eq_true', ↓Bool.not_eq_false', ↓decT, ↓decF, out_true, out_false, isin_true, isin_false, Int.toNat_natCast, Int.ofNat_lt, Nat.zero_add, Nat.add_zero, Nat.reduceAdd, id] at *)
  all_goals (
    have ht := weighS_t t (bandsT u la now).1 (bandA u la now)
    generalize weighS t (bandsT u la now).1 (bandA u la now) = s at *
    first
      | have K := keep_1 (s := s) (k := k0) (by assumption) (by assumption)
      | have K := keep_2 (s := s) (k := k0) (by assumption)
      | have K := keep_3 (s := s) (k := k0) (by omega)
    by_cases hb : 0 ≤ bestTo s t.ns
    · by_cases c : canR s la now (keepR s k0) = true
      · have N := nx_set nb hs c
        have c' := can_iff.1 c
        rw [K] at c'
        rw [ht] at c' N
        first
          | exact N.1.symm
          | exact N.2.2.symm
          | (exfalso; omega)
          | (rw [N.2.1, mss_p (by omega)])
          | (rw [N.2.1, mss_n (by omega)])
      · have N := nx_keep nb hs (by simpa using c)
        have c' : ¬ (0 ≤ bestTo s s.t.ns ∧ now + s.t.turn + s.t.freeze ≤ la ∧ (keepR s k0 < 0 ∨ missS s (bestTo s s.t.ns).toNat + s.t.gain ≤ missS s (keepR s k0).toNat)) := fun h => c (can_iff.2 h)
        rw [K] at N c'
        rw [ht] at c'
        first
          | exact N.1.symm
          | exact N.2.2.symm
          | (exfalso; omega)
          | (rw [N.2.1, mss_p (by omega)])
          | (rw [N.2.1, mss_n (by omega)])
    · have c : canR s la now (keepR s k0) = false := can_f (by rw [ht]; omega)
      have N := nx_keep nb hs c
      rw [K] at N
      first
          | exact N.1.symm
          | exact N.2.2.symm
          | (exfalso; omega)
          | (rw [N.2.1, mss_p (by omega)])
          | (rw [N.2.1, mss_n (by omega)]))
noncomputable def la37 : Lib := (18, mk rRoundQ) :: la36
theorem la37_ok : LibOK Go.Proofs.Tryz.prog la37 := .cons qRound_ok la36_ok
end Go.Proofs.YtbakdblbknfadaaGreat
end
section
set_option linter.unusedVariables false
set_option linter.unusedSimpArgs false
set_option maxRecDepth 100000
set_option maxHeartbeats 4000000
namespace Go.Proofs.YtbakdblbknfadaaGreat
open Go.V
attribute [local irreducible] weighS chkA checkS bandsT bandA lowB ScOK imp missS alwB bestTo rndE noB scR keepR canR stR nextR setR misR setTo anyBelow checkBands mssR
attribute [local irreducible] eA eB e0v
theorem qRounds_ok : PSound Go.Proofs.Tryz.prog 5 (mk rRoundsT) := by
  refine psound_mk Tryz.func5 (by kernel_rfl) rfl (ctx la37_ok) ?_
  (intro ds p d h; unfold rRoundsT at h; split at h <;> first | (cases h; done) | skip; cases h; refine ⟨Nat.le_of_ble_eq_true rfl, fun hp k hk => ?_⟩)
  rename_i d x la n g
  obtain ⟨ht, hw, hwf, hg⟩ := hp
  have hf := at_fits ht
  refine ⟨[(atOf d).D, (taskOf x).D, .int .i64 la, .rsl 1 n (imD (im g))], at_imp ht (task_imp hw ⟨rfl, rfl, hg, ?_⟩)⟩
  clear ht hw hg
  generalize atOf d = t at *
  generalize taskOf x = u at *
  generalize im g = w at *
  unfold roundsT at hk
  have Z1 := @e0v_1 t u la n
  have Z2 := @e0v_2 t u la n
  have Z3 := @e0v_3 t u la n
  have Z4 := @e0v_4 t u la n
  have Z5 := @e0v_5 t u la n
  have ZR := @eB_rnd t u la n w
  have IO := out_isin la 0 100000
  have N40 : eA t u la n w 0 = 0 → n ≤ 40 := fun h => by
    rw [eA_0] at h
    by_cases q : n ≤ 40
    · exact q
    · exfalso
      by_cases h1 : (chkA t).2.2 = 0
      · by_cases h2 : checkE u = 0
        · cases h3 : out la 0 100000 with
          | true => rw [Z3 h1 h2 h3] at h; exact absurd h (by decide)
          | false => rw [Z4 h1 h2 h3 (by omega)] at h; exact absurd h (by decide)
        · rw [Z2 h1 h2] at h; exact h2 h
      · rw [Z1 h1] at h; exact h1 h
  repeat' (first | ((with_reducible refine kok ?_); kernel_rfl) | ((with_reducible refine keq_mk ?_); kernel_rfl) | with_reducible rfl | ((conv => whnf); first | (with_reducible exact trivial) | ((with_reducible refine and_ff ?_ ?_); · exact rfl) | ((with_reducible refine and_tt ?_ ?_); · exact rfl) | (with_reducible refine And.intro ?_ ?_) | intro _ | (with_reducible refine fin2 hk ?_) | ((with_reducible refine eq_leaf ?_); exact rfl) | exact trivial))
  all_goals try (clear hk; first | exact hf.1 | exact hf.2 | exact hwf _ (by assumption))
  all_goals try (exfalso; have a := (by assumption : decide ((chkA t).2.2 = 0) = true); have b := (by assumption : decide ((chkA t).2.2 = 0) = false); rw [a] at b; exact absurd b (by decide))
  all_goals try (exfalso; have a := (by assumption : decide ((checkS u).2.2 = 0) = true); have b := (by assumption : decide ((checkS u).2.2 = 0) = false); rw [a] at b; exact absurd b (by decide))
  all_goals (
    conv => whnf
    refine ⟨Nat, fun i => [(2, .int .i64 la), (3, .rsl 1 n (imD w)), (4, .ptr 0 0), (5, .ptr 1 0), (12, .int .i64 (eA t u la n w i)), (13, .int .i64 i)], fun _ => [some (.row t.cells), some (taskRow u)], fun i => n - i, fun i => i ≤ n, [], 0, fun _ => ⟨rfl, rfl⟩, ?_, fun i hi => ?_⟩)
  all_goals try (
    (with_reducible refine (?_ : impE _ _ _ _))
    clear hk
    repeat' (first | ((with_reducible refine kok ?_); kernel_rfl) | ((with_reducible refine keq_mk ?_); kernel_rfl) | with_reducible rfl | ((conv => whnf); first | (with_reducible exact trivial) | ((with_reducible refine and_ff ?_ ?_); · exact rfl) | ((with_reducible refine and_tt ?_ ?_); · exact rfl) | (with_reducible refine And.intro ?_ ?_) | intro _ | (with_reducible refine fin2 hk ?_) | ((with_reducible refine eq_leaf ?_); exact rfl) | exact trivial))
    all_goals first
      | exact Nat.zero_le _
      | (rw [eA_0]
         first
           | exact (Z1 (of_decide_eq_false (by assumption : decide ((chkA t).2.2 = 0) = false))).symm
           | exact (Z2 (of_decide_eq_true (by assumption : decide ((chkA t).2.2 = 0) = true)) (of_decide_eq_false (by assumption : decide ((checkS u).2.2 = 0) = false))).symm
           | exact (Z3 (of_decide_eq_true (by assumption : decide ((chkA t).2.2 = 0) = true)) (of_decide_eq_true (by assumption : decide ((checkS u).2.2 = 0) = true)) (by rw [IO]; assumption)).symm
           | exact (Z4 (of_decide_eq_true (by assumption : decide ((chkA t).2.2 = 0) = true)) (of_decide_eq_true (by assumption : decide ((checkS u).2.2 = 0) = true)) (by rw [IO]; assumption) (by have z := of_decide_eq_true (by assumption : decide ((40 : Int) < (n : Int)) = true); omega)).symm
           | exact Eq.trans (of_decide_eq_true (by assumption : decide ((checkS u).2.2 = 0) = true)) (Z5 (of_decide_eq_true (by assumption : decide ((chkA t).2.2 = 0) = true)) (of_decide_eq_true (by assumption : decide ((checkS u).2.2 = 0) = true)) (by rw [IO]; assumption) (by have z := of_decide_eq_false (by assumption : decide ((40 : Int) < (n : Int)) = false); omega)).symm))
  all_goals (
    have hi : i ≤ n := hi
    clear Z1 Z2 Z3 Z4 Z5 IO)
  all_goals (
    repeat' (first | ((with_reducible refine kok ?_); kernel_rfl) | ((with_reducible refine keq_mk ?_); kernel_rfl) | with_reducible rfl | ((conv => whnf); first | (with_reducible exact trivial) | ((with_reducible refine and_ff ?_ ?_); · exact rfl) | ((with_reducible refine and_tt ?_ ?_); · exact rfl) | (with_reducible refine And.intro ?_ ?_) | intro _ | (with_reducible refine fin2 hk ?_) | ((with_reducible refine eq_leaf ?_); exact rfl) | exact trivial))
    all_goals try ((first | with_reducible refine (?_ : (_ : Int) ≤ _) | with_reducible refine (?_ : (_ : Int) < _)); clear hk; first | omega | (have z := of_decide_eq_true (by assumption : decide ((i : Int) < (n : Int)) = true); first | omega | (have z2 : eA t u la n w i = 0 := of_decide_eq_true (by assumption : decide (eA t u la n w i = 0) = true); have z3 := N40 (by rw [eA_0]; exact (eA_i z2).1); omega)))
    all_goals try (
      have z1 := of_decide_eq_true (by assumption : decide ((i : Int) < (n : Int)) = true)
      have z2 : eA t u la n w i = 0 := of_decide_eq_true (by assumption : decide (eA t u la n w i = 0) = true)
      have z3 : outN la w i = true := by
        show out (w i 0) 0 la = true
        rw [out_isin]
        exact (by assumption : (!isin (w i 0) 0 la) = true)
      clear hk
      conv => whnf
      refine ⟨i + 1, ?_⟩
      repeat' (first | ((with_reducible refine kok ?_); kernel_rfl) | ((with_reducible refine keq_mk ?_); kernel_rfl) | with_reducible rfl | ((conv => whnf); first | (with_reducible exact trivial) | ((with_reducible refine and_ff ?_ ?_); · exact rfl) | ((with_reducible refine and_tt ?_ ?_); · exact rfl) | (with_reducible refine And.intro ?_ ?_) | intro _ | (with_reducible refine fin2 hk ?_) | ((with_reducible refine eq_leaf ?_); exact rfl) | exact trivial))
      all_goals first
        | exact (eA_y z2 z3).symm
        | (show i + 1 ≤ n; omega)
        | (show n - (i + 1) < n - i; omega))
    all_goals try (
      have z1 := of_decide_eq_true (by assumption : decide ((i : Int) < (n : Int)) = true)
      have z2 : eA t u la n w i = 0 := of_decide_eq_true (by assumption : decide (eA t u la n w i = 0) = true)
      have z3 : outN la w i = false := by
        show out (w i 0) 0 la = false
        rw [out_isin]
        exact (by assumption : (!isin (w i 0) 0 la) = false)
      clear hk
      conv => whnf
      refine ⟨i + 1, ?_⟩
      repeat' (first | ((with_reducible refine kok ?_); kernel_rfl) | ((with_reducible refine keq_mk ?_); kernel_rfl) | with_reducible rfl | ((conv => whnf); first | (with_reducible exact trivial) | ((with_reducible refine and_ff ?_ ?_); · exact rfl) | ((with_reducible refine and_tt ?_ ?_); · exact rfl) | (with_reducible refine And.intro ?_ ?_) | intro _ | (with_reducible refine fin2 hk ?_) | ((with_reducible refine eq_leaf ?_); exact rfl) | exact trivial))
      all_goals first
        | exact (eA_n z2 z3).symm
        | (show i + 1 ≤ n; omega)
        | (show n - (i + 1) < n - i; omega))
    all_goals (
      have hE : eA t u la n w i = eA t u la n w n := by
        first
          | exact eA_stop hi (of_decide_eq_false (by assumption : decide (eA t u la n w i = 0) = false))
          | (have z := of_decide_eq_false (by assumption : decide ((i : Int) < (n : Int)) = false); rw [show i = n by omega])
      conv => whnf
      refine ⟨Nat, fun j => [(2, .int .i64 la), (3, .rsl 1 n (imD w)), (4, .ptr 0 0), (5, .ptr 1 0), (12, .int .i64 (eB t u la n w j)), (14, .int .i64 ((j : Int) + 1))], fun _ => [some (.row t.cells), some (taskRow u)], fun j => n - j, fun j => j ≤ n - 1, [], 0, fun _ => ⟨rfl, rfl⟩, ?_, fun j hj => ?_⟩)
    all_goals try (
      (with_reducible refine (?_ : impE _ _ _ _))
      clear hk
      repeat' (first | ((with_reducible refine kok ?_); kernel_rfl) | ((with_reducible refine keq_mk ?_); kernel_rfl) | with_reducible rfl | ((conv => whnf); first | (with_reducible exact trivial) | ((with_reducible refine and_ff ?_ ?_); · exact rfl) | ((with_reducible refine and_tt ?_ ?_); · exact rfl) | (with_reducible refine And.intro ?_ ?_) | intro _ | (with_reducible refine fin2 hk ?_) | ((with_reducible refine eq_leaf ?_); exact rfl) | exact trivial))
      all_goals first
        | exact Nat.zero_le _
        | exact hE.trans eB_0.symm
        | rfl)
    all_goals (
      have hj : j ≤ n - 1 := hj
      have N40B : eB t u la n w j = 0 → n ≤ 40 := fun h => by
        have a := (eB_i h).1
        exact N40 (by rw [eA_0]; exact (eA_i a).1)
      have ej : ((j : Int) + 1).toNat = j + 1 := by omega
      have ej2 : ((j : Int) + 1 - 1).toNat = j := by omega
      clear hE)
    all_goals (
      repeat' (first | ((with_reducible refine kok ?_); kernel_rfl) | ((with_reducible refine keq_mk ?_); kernel_rfl) | with_reducible rfl | ((conv => whnf); first | (with_reducible exact trivial) | ((with_reducible refine and_ff ?_ ?_); · exact rfl) | ((with_reducible refine and_tt ?_ ?_); · exact rfl) | (with_reducible refine And.intro ?_ ?_) | intro _ | (with_reducible refine fin2 hk ?_) | ((with_reducible refine eq_leaf ?_); exact rfl) | exact trivial))
      all_goals try ((first | with_reducible refine (?_ : (_ : Int) ≤ _) | with_reducible refine (?_ : (_ : Int) < _)); clear hk; first | omega | (have z := of_decide_eq_true (by assumption : decide ((j : Int) + 1 < (n : Int)) = true); first | omega | (have z2 : eB t u la n w j = 0 := of_decide_eq_true (by assumption : decide (eB t u la n w j = 0) = true); have z3 := N40B z2; omega)))
      all_goals try (
        have z1 := of_decide_eq_true (by assumption : decide ((j : Int) + 1 < (n : Int)) = true)
        have z2 : eB t u la n w j = 0 := of_decide_eq_true (by assumption : decide (eB t u la n w j = 0) = true)
        have z4 := (by assumption : decide (w ((j : Int) + 1).toNat 0 < w ((j : Int) + 1 - 1).toNat 0) = true)
        rw [ej, ej2] at z4
        have z3 : descB w j = true := z4
        clear hk
        conv => whnf
        refine ⟨j + 1, ?_⟩
        repeat' (first | ((with_reducible refine kok ?_); kernel_rfl) | ((with_reducible refine keq_mk ?_); kernel_rfl) | with_reducible rfl | ((conv => whnf); first | (with_reducible exact trivial) | ((with_reducible refine and_ff ?_ ?_); · exact rfl) | ((with_reducible refine and_tt ?_ ?_); · exact rfl) | (with_reducible refine And.intro ?_ ?_) | intro _ | (with_reducible refine fin2 hk ?_) | ((with_reducible refine eq_leaf ?_); exact rfl) | exact trivial))
        all_goals first
          | exact (eB_y z2 z3).symm
          | (show j + 1 ≤ n - 1; omega)
          | (show n - (j + 1) < n - j; omega)
          | omega)
      all_goals try (
        have z1 := of_decide_eq_true (by assumption : decide ((j : Int) + 1 < (n : Int)) = true)
        have z2 : eB t u la n w j = 0 := of_decide_eq_true (by assumption : decide (eB t u la n w j = 0) = true)
        have z4 := (by assumption : decide (w ((j : Int) + 1).toNat 0 < w ((j : Int) + 1 - 1).toNat 0) = false)
        rw [ej, ej2] at z4
        have z3 : descB w j = false := z4
        clear hk
        conv => whnf
        refine ⟨j + 1, ?_⟩
        repeat' (first | ((with_reducible refine kok ?_); kernel_rfl) | ((with_reducible refine keq_mk ?_); kernel_rfl) | with_reducible rfl | ((conv => whnf); first | (with_reducible exact trivial) | ((with_reducible refine and_ff ?_ ?_); · exact rfl) | ((with_reducible refine and_tt ?_ ?_); · exact rfl) | (with_reducible refine And.intro ?_ ?_) | intro _ | (with_reducible refine fin2 hk ?_) | ((with_reducible refine eq_leaf ?_); exact rfl) | exact trivial))
        all_goals first
          | exact (eB_n z2 z3).symm
          | (show j + 1 ≤ n - 1; omega)
          | (show n - (j + 1) < n - j; omega)
          | omega)
      all_goals try (
        exfalso
        have z1 := (by assumption : decide (eB t u la n w j = 0) = false)
        have z2 := (by assumption : (!decide (eB t u la n w j = 0)) = false)
        rw [z1] at z2
        exact absurd z2 (by decide))
      all_goals (
        have hB : eB t u la n w j = rndE t u la n w := by
          rw [← ZR]
          first
            | exact eB_stop hj (of_decide_eq_false (by assumption : decide (eB t u la n w j = 0) = false))
            | (have z := of_decide_eq_false (by assumption : decide ((j : Int) + 1 < (n : Int)) = false); rw [show j = n - 1 by omega]))
      all_goals try exact hB
      all_goals try (
        have z := (by assumption : (!decide (eB t u la n w j = 0)) = true)
        rw [hB] at z
        exact (ifn_ne (by simpa using z)).symm)
      all_goals (
        have e0 : rndE t u la n w = 0 := by
          have z := (by assumption : (!decide (eB t u la n w j = 0)) = false)
          rw [hB] at z
          simpa using z
        have o := rnd_ok e0
        have hns := o.am.ns
        have hn := o.len
        have hla := o.la0
        rw [e0] at hk
        clear ZR N40 N40B
        conv => whnf
        refine ⟨Nat, fun k => [(2, .int .i64 la), (3, .rsl 1 n (imD w)), (4, .ptr 0 0), (5, .ptr 1 0), (15, .own 2 k), (16, .int .i64 (setTo t u la w k)), (17, .int .i64 k)],
          fun k => [some (.row t.cells), some (taskRow u), some (.buf 58 4 k (rndA t u la w))], fun k => n - k, fun k => k ≤ n, [(58, 4)], 0, fun _ => ⟨?_, ?_⟩, ?_, fun k hkn => ?_⟩)
      · conv => lhs; whnf
      · conv => lhs; whnf
      · clear hk
        repeat' (first | ((with_reducible refine kok ?_); kernel_rfl) | ((with_reducible refine keq_mk ?_); kernel_rfl) | with_reducible rfl | ((conv => whnf); first | (with_reducible exact trivial) | ((with_reducible refine and_ff ?_ ?_); · exact rfl) | ((with_reducible refine and_tt ?_ ?_); · exact rfl) | (with_reducible refine And.intro ?_ ?_) | intro _ | (with_reducible refine fin2 hk ?_) | ((with_reducible refine eq_leaf ?_); exact rfl) | exact trivial))
        all_goals first
          | exact Nat.zero_le _
          | (exact absurd (by assumption) (Nat.not_lt_zero _))
          | (show (-1 : Int) = setTo t u la w 0; delta setTo; rfl)
          | rfl
          | skip
      have hkn : k ≤ n := hkn
      conv => whnf
      refine ⟨fun g1 => ?_, fun g1 => ?_⟩
      rotate_left
      · obtain rfl : k = n := by have := of_decide_eq_false g1; omega
        repeat' (first | ((with_reducible refine kok ?_); kernel_rfl) | ((with_reducible refine keq_mk ?_); kernel_rfl) | with_reducible rfl | ((conv => whnf); first | (with_reducible exact trivial) | ((with_reducible refine and_ff ?_ ?_); · exact rfl) | ((with_reducible refine and_tt ?_ ?_); · exact rfl) | (with_reducible refine And.intro ?_ ?_) | intro _ | (with_reducible refine fin2 hk ?_) | ((with_reducible refine eq_leaf ?_); exact rfl) | exact trivial))
        skip
      have hlt : k < n := by have := of_decide_eq_true g1; omega
      have hnow := o.now k hlt
      have hst := setTo_in (t := t) u la w k
      have hS1 : setTo t u la w (k + 1) = nextR t u la (w k 0) (setTo t u la w k) := by delta setTo; rfl
      repeat' (first | ((with_reducible refine kok ?_); kernel_rfl) | ((with_reducible refine keq_mk ?_); kernel_rfl) | with_reducible rfl | ((conv => whnf); first | (with_reducible exact trivial) | ((with_reducible refine and_ff ?_ ?_); · exact rfl) | ((with_reducible refine and_tt ?_ ?_); · exact rfl) | (with_reducible refine And.intro ?_ ?_) | intro _ | (with_reducible refine fin2 hk ?_) | ((with_reducible refine eq_leaf ?_); exact rfl) | exact trivial))
      all_goals try ((first | with_reducible refine (?_ : (_ : Int) ≤ _) | with_reducible refine (?_ : (_ : Int) < _) | with_reducible refine (?_ : (_ : Nat) ≤ _)); clear hk; first | omega | (simp only [atOf_agg, Int.toNat_natCast]; omega))
      all_goals try first | exact hf.1 | exact hf.2 | exact hwf _ (by assumption) | exact o.am
      clear hk
      conv => whnf
      refine ⟨k + 1, ?_⟩
      repeat' (first | ((with_reducible refine kok ?_); kernel_rfl) | ((with_reducible refine keq_mk ?_); kernel_rfl) | with_reducible rfl | ((conv => whnf); first | (with_reducible exact trivial) | ((with_reducible refine and_ff ?_ ?_); · exact rfl) | ((with_reducible refine and_tt ?_ ?_); · exact rfl) | (with_reducible refine And.intro ?_ ?_) | intro _ | (with_reducible refine fin2 hk ?_) | ((with_reducible refine eq_leaf ?_); exact rfl) | exact trivial))
      all_goals first
        | exact rnd_snoc rfl (by assumption) (by assumption)
        | exact hS1.symm
        | exact hlt
        | (simp only; omega)))
end Go.Proofs.YtbakdblbknfadaaGreat
end
section
set_option linter.unusedVariables false
set_option linter.unusedSimpArgs false
set_option maxRecDepth 100000
set_option maxHeartbeats 4000000
namespace Go.Proofs.YtbakdblbknfadaaGreat
open Go.V
noncomputable def la38 : Lib := (5, mk rRoundsT) :: la37
theorem la38_ok : LibOK Go.Proofs.Tryz.prog la38 := .cons qRounds_ok la37_ok
attribute [local irreducible] weighS chkA checkS bandsT bandA lowB ScOK imp missS alwB bestTo rndE noB scR keepR canR stR nextR setR misR setTo anyBelow checkBands
theorem rndN_le (t : ATask) (u : Task) (la : Int) (n : Nat) (w : Nat → Nat → Int) : ifn (rndE t u la n w) n ≤ 40 := by
  by_cases h : rndE t u la n w = 0
  · rw [h]
    exact (rnd_ok h).len
  · rw [ifn_ne h]
    omega
theorem lawARounds_ok : PSound Go.Proofs.Tryz.prog 3 (mk rLWin) := by
  refine psound_mk Tryz.func3 (by kernel_rfl) rfl (ctx la38_ok) ?_
  (intro ds p d h; unfold rLWin at h; split at h <;> first | (cases h; done) | skip; cases h; refine ⟨Nat.le_of_ble_eq_true rfl, fun hp k hk => ?_⟩)
  rename_i d x
  obtain ⟨ht, hx⟩ := hp
  have hf := at_fits ht
  have hwf := win_fits hx
  refine ⟨[(atOf d).D, winD (wTask x) (wLa x) (wN x) (wA x)], at_imp ht (win_imp hx ?_)⟩
  clear ht hx
  generalize atOf d = t at *
  generalize wTask x = u at *
  generalize wLa x = la at *
  generalize wN x = n at *
  generalize wA x = w at *
  have hN := rndN_le t u la n w
  repeat' (first | ((with_reducible refine kok ?_); kernel_rfl) | ((with_reducible refine keq_mk ?_); kernel_rfl) | with_reducible rfl | ((conv => whnf); first | (with_reducible exact trivial) | ((with_reducible refine and_ff ?_ ?_); · exact rfl) | ((with_reducible refine and_tt ?_ ?_); · exact rfl) | (with_reducible refine And.intro ?_ ?_) | intro _ | (with_reducible refine fin2 hk ?_) | ((with_reducible refine eq_leaf ?_); exact rfl) | exact trivial))
  all_goals clear hk
  all_goals try first | exact hf.1 | exact hf.2 | exact hwf.1 _ (by assumption)
  all_goals first
    | exact Nat.le_trans hN (by decide)
    | (simp; done)
    | (exfalso; simp at *; done)
    | skip
end Go.Proofs.YtbakdblbknfadaaGreat
end
section
set_option linter.unusedVariables false
set_option linter.unusedSimpArgs false
set_option maxRecDepth 100000
namespace Go.Proofs.YtbakdblbknfadaaGreat
open Go.V

theorem aimRounds_lifted (os : Os) (started : os.Started) (H : Type) (enc : TypeId × Value → H) :
    ReturnsInHanded {} Tryz.checked os 3 .any (Rows.aimRoundsSpec.pre6 enc Go.Proofs.Tryz.prog Tryz.f3 Rows.aimRoundsRow.domain false) (Rows.aimRoundsSpec.post enc Go.Proofs.Tryz.prog Tryz.f3 false Rows.aimRoundsRow.fresh Rows.aimRoundsRow.handsOn Rows.aimRoundsRow.again) := by
  refine returnsInHanded_of_change (C := Tryz.checked) own started (by kernel_rfl) Tryz.func3
    (ChangeSpec.witness6 (enc := enc) (C := Tryz.checked) false ⟨#[], #[.agg #[.slice none 0 0, .slice none 0 0, .int .i64 0, .int .i64 0, .int .i64 0, .int .i64 0, .int .i64 0, .int .i64 0, .int .i64 0, .int .i64 0, .int .i64 0], .agg #[.slice none 0 0, .slice none 0 0, .slice none 0 0, .int .i64 0, .int .i64 0, .int .i64 0, .slice none 0 0]], []⟩ 8 (by kernel_rfl) (by kernel_rfl) (by kernel_rfl) (by kernel_rfl)) ?_
  intro W base args ds gs before hok hW _ _
  refine law_contract (l := [atK, winK]) (tb := 4) laid_ok lawARounds_ok (by kernel_rfl) (by kernel_rfl) rfl tbool (fun ds h => ?_) rfl (fun ds hd => ?_) W base args ds gs before hok hW
  · obtain ⟨d, e, rfl, h1, h2⟩ := isAL2 h
    exact ⟨_, _, rfl, ⟨at_of_kinds h1, win_of_kinds h2⟩, .inl rfl⟩
  · match ds, hd with
    | [a, b], _ => exact ⟨rfl, rfl, rfl⟩
theorem aimRounds_holds : Rows.AimRoundsSaid :=
  OpenClaim.holds_of_wide 3 Tryz.f3 rfl rfl rfl rfl rfl rfl rfl ⟨rfl, rfl, rfl, rfl, rfl⟩ rfl rfl rfl rfl rfl (by kernel_rfl) Tryz.func3 (by kernel_rfl)
    (of_decide_eq_true (by kernel_rfl)) (by unfold Func.isWrapper; first | (rw [if_pos (by decide +kernel)]; kernel_rfl) | (rw [if_neg (by decide +kernel)]; exact ⟨rfl, rfl⟩))
    (fun os started H enc _ => aimRounds_lifted os started H enc)
#print axioms aimRounds_holds
end Go.Proofs.YtbakdblbknfadaaGreat
end
