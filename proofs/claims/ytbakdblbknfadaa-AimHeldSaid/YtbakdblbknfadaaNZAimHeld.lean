/-
  The law AimHeld is proved: a setting behind a round whose miss is told is allowed by the bands then, with this miss; and no allowed one is better by Gain or more, unless the launcher could not be set in time; without a setting none is allowed then, or it could not be set, for any task and winds. No condition.
-/
import Derived.Test.YtbakdblbknfadaaMq
section
set_option linter.unusedVariables false
set_option linter.unusedSimpArgs false
set_option maxRecDepth 100000
set_option maxHeartbeats 4000000
namespace Go.Proofs.Ytbakdblbknfadaa
open Go.V
def fndR (l : Nat → Nat → Int) (v : Int) : Nat → Bool
  | 0 => false
  | k + 1 => fndR l v k || decide (l k 0 = v)
theorem fndR_mem {l : Nat → Nat → Int} {v : Int} {i : Nat} (hl : l i 0 = v) : ∀ k, i < k → fndR l v k = true
  | 0, h => absurd h (Nat.not_lt_zero _)
  | k + 1, h => by
    by_cases e : i = k
    · subst e; simp [fndR, hl]
    · simp [fndR, fndR_mem hl k (by omega)]
/-- What the law asks of a round. -/
structure HeldF (t : ATask) (u : Task) (la now k : Int) : Prop where
  bad : ¬ (bandsT u la now).2 = 0 → nextR t u la now k = k ∧ misR t u la now k = -1 ∧ setR t u la now k = false
  none' : (bE t (bandsT u la now).1 (bandA u la now) = 0 ∨ bE t (bandsT u la now).1 (bandA u la now) = 9) → (bandsT u la now).2 = 0 → nextR t u la now k < 0 → misR t u la now k = -1 ∧ setR t u la now k = false ∧ (bE t (bandsT u la now).1 (bandA u la now) = 0 → ¬ now + t.turn + t.freeze ≤ la)
  some' : (bE t (bandsT u la now).1 (bandA u la now) = 0 ∨ bE t (bandsT u la now).1 (bandA u la now) = 9) → (bandsT u la now).2 = 0 → 0 ≤ nextR t u la now k →
    askE t (bandsT u la now).1 (bandA u la now) = 0 ∧ askI t (bandsT u la now).1 (bandA u la now) (nextR t u la now k) = 0 ∧ bE t (bandsT u la now).1 (bandA u la now) = 0 ∧
    misR t u la now k = missS (weighS t (bandsT u la now).1 (bandA u la now)) (nextR t u la now k).toNat ∧
    alwB (weighS t (bandsT u la now).1 (bandA u la now)) (nextR t u la now k).toNat = true ∧
    (now + t.turn + t.freeze ≤ la → 0 < t.gain → ¬ bM t (bandsT u la now).1 (bandA u la now) + t.gain ≤ missS (weighS t (bandsT u la now).1 (bandA u la now)) (nextR t u la now k).toNat)
theorem held_ok {t : ATask} {u : Task} {la now k : Int} (ho : AmOK t) (hk : -1 ≤ k ∧ k < t.ns) : HeldF t u la now k := by
  have hc : (chkA t).2.2 = 0 := by rw [ho.check]
  have key : (bE t (bandsT u la now).1 (bandA u la now) = 0 ∨ bE t (bandsT u la now).1 (bandA u la now) = 9) → (bandsT u la now).2 = 0 → noB t u la now = false ∧ askE t (bandsT u la now).1 (bandA u la now) = 0 := fun h1 h2 => by
    have hb := bandsT_chk h2
    cases q : lowB t (bandsT u la now).1 (bandA u la now) with
    | true =>
      have e := ask_3 hc hb q
      rw [bE_1 (by rw [e]; decide), e] at h1
      omega
    | false => exact ⟨noB_f h2 q, ask_4 hc hb q⟩
  have hsc : scR t u la now = weighS t (bandsT u la now).1 (bandA u la now) := rfl
  have hst := weighS_t t (bandsT u la now).1 (bandA u la now)
  refine ⟨fun h => nx_no (noB_t (fun g => absurd g h)), fun h1 h2 h3 => ?_, fun h1 h2 h3 => ?_⟩
  · obtain ⟨nb, ha⟩ := key h1 h2
    have e : nextR t u la now k = stR (weighS t (bandsT u la now).1 (bandA u la now)) la now k := if_neg (by rw [nb]; exact Bool.noConfusion)
    rw [e] at h3
    have z := st_none h3
    have N := nx_keep nb hsc z.1
    rw [e] at N
    refine ⟨?_, N.2.2, fun h4 h5 => z.2 ⟨?_, ?_⟩⟩
    · rw [N.2.1, ← N.1]
      exact mss_n h3
    · by_cases q : bestTo (weighS t (bandsT u la now).1 (bandA u la now)) t.ns < 0
      · rw [bE_2 ha q] at h4; exact absurd h4 (by decide)
      · rw [hst]; omega
    · rw [hst]; exact h5
  · obtain ⟨nb, ha⟩ := key h1 h2
    have e : nextR t u la now k = stR (weighS t (bandsT u la now).1 (bandA u la now)) la now k := if_neg (by rw [nb]; exact Bool.noConfusion)
    have hin := next_in (u := u) (la := la) (now := now) hk
    have em : misR t u la now k = mssR (weighS t (bandsT u la now).1 (bandA u la now)) (nextR t u la now k) := if_neg (by rw [nb]; exact Bool.noConfusion)
    have z := st_held (s := weighS t (bandsT u la now).1 (bandA u la now)) (la := la) (now := now) (k := k) (by rw [hst]; exact hk.2) (by rw [← e]; exact h3)
    rw [← e, hst] at z
    refine ⟨ha, askI_0 ha (by omega), bE_3 ha (by omega), by rw [em]; exact mss_p (by omega), z.1, fun h4 h5 => ?_⟩
    rw [bM_eq, bB_eq]
    exact z.2.2 h4 h5
attribute [local irreducible] weighS chkA checkS bandsT bandA lowB ScOK imp missS alwB bestTo rndE noB scR keepR canR stR nextR setR misR setTo anyBelow checkBands askE askI bE bB bM whyM alwN
theorem lawAHeld_ok : PSound Go.Proofs.Try.prog 11 (mk rLWin) := by
  refine psound_mk Try.func11 (by kernel_rfl) rfl (ctx la36_ok) ?_
  (intro ds p d h; unfold rLWin at h; split at h <;> first | (cases h; done) | skip; cases h; refine ⟨Nat.le_of_ble_eq_true rfl, fun hp k hk => ?_⟩)
  rename_i d x
  obtain ⟨ht, hx⟩ := hp
  have hf := at_fits ht
  have hwf := win_fits hx
  refine ⟨[(atOf d).D, winD (wTask x) (wLa x) (wN x) (wA x)], at_imp ht (win_imp hx ?_)⟩
  clear ht hx
  generalize atOf d = t at *
  generalize wTask x = u at *
  generalize wLa x = la at *
  generalize wN x = n at *
  generalize wA x = w at *
  by_cases e0 : rndE t u la n w = 0
  rotate_left
  · repeat' (first | ((with_reducible refine kok ?_); kernel_rfl) | ((with_reducible refine keq_mk ?_); kernel_rfl) | with_reducible rfl | ((conv => whnf); first | (with_reducible exact trivial) | ((with_reducible refine and_ff ?_ ?_); · exact rfl) | ((with_reducible refine and_tt ?_ ?_); · exact rfl) | (with_reducible refine And.intro ?_ ?_) | intro _ | (with_reducible refine fin2 hk ?_) | ((with_reducible refine eq_leaf ?_); exact rfl) | exact trivial))
    all_goals clear hk
    all_goals try first | exact hf.1 | exact hf.2 | exact hwf.1 _ (by assumption)
    all_goals (exfalso; simp only [atOf_agg, taskOf_agg, im_imD, taskOf_agg, ↓Bool.not_eq_true', ↓Bool.not_eq_false', ↓decT, ↓decF, out_true, out_false, isin_true, isin_false, Int.toNat_natCast, Int.ofNat_lt, Nat.zero_add, Nat.add_zero, Nat.reduceAdd] at *; contradiction)
  have o := rnd_ok e0
  have hR := o.am.rest
  unfold RestOK at hR
  have hla := o.la0
  have hn := o.len
  have E : ifn (rndE t u la n w) n = n := by rw [e0]; rfl
  repeat' (first | ((with_reducible refine kok ?_); kernel_rfl) | ((with_reducible refine keq_mk ?_); kernel_rfl) | with_reducible rfl | ((conv => whnf); first | (with_reducible exact trivial) | ((with_reducible refine and_ff ?_ ?_); · exact rfl) | ((with_reducible refine and_tt ?_ ?_); · exact rfl) | (with_reducible refine And.intro ?_ ?_) | intro _ | (with_reducible refine fin2 hk ?_) | ((with_reducible refine eq_leaf ?_); exact rfl) | exact trivial))
  all_goals try first | exact hf.1 | exact hf.2 | exact hwf.1 _ (by assumption)
  conv => whnf
  refine ⟨Nat, fun i => [(2, .ptr 0 0), (3, .ptr 1 0), (5, .rsl 4 n (rndA t u la w)), (7, .int .i64 i)],
    fun i => [some (.row t.cells), some (.row [.rsl 7 u.ns (smD u.nm u.sa), .rsl 5 u.nx (imD u.xa), .rsl 1 u.nc (imD u.ca), .int .i64 u.age, .int .i64 u.shear, .int .i64 la, .rsl 1 n (imD w)])],
    fun i => n - i, fun i => i ≤ n, [], 0, fun _ => ⟨rfl, rfl⟩, ?_, fun i hi => ?_⟩
  · clear hk
    repeat' (first | ((with_reducible refine kok ?_); kernel_rfl) | ((with_reducible refine keq_mk ?_); kernel_rfl) | with_reducible rfl | ((conv => whnf); first | (with_reducible exact trivial) | ((with_reducible refine and_ff ?_ ?_); · exact rfl) | ((with_reducible refine and_tt ?_ ?_); · exact rfl) | (with_reducible refine And.intro ?_ ?_) | intro _ | (with_reducible refine fin2 hk ?_) | ((with_reducible refine eq_leaf ?_); exact rfl) | exact trivial))
    all_goals first
      | exact Nat.zero_le _
      | exact E
      | rfl
      | skip
  have hi : i ≤ n := hi
  conv => whnf
  refine ⟨fun g1 => ?_, fun g1 => ?_⟩
  rotate_left
  · repeat' (first | ((with_reducible refine kok ?_); kernel_rfl) | ((with_reducible refine keq_mk ?_); kernel_rfl) | with_reducible rfl | ((conv => whnf); first | (with_reducible exact trivial) | ((with_reducible refine and_ff ?_ ?_); · exact rfl) | ((with_reducible refine and_tt ?_ ?_); · exact rfl) | (with_reducible refine And.intro ?_ ?_) | intro _ | (with_reducible refine fin2 hk ?_) | ((with_reducible refine eq_leaf ?_); exact rfl) | exact trivial))
    skip
  have hlt : i < n := by have := of_decide_eq_true g1; omega
  have hnow := o.now i hlt
  have S := setTo_in (t := t) u la w i
  have S1 : setTo t u la w (i + 1) = nextR t u la (w i 0) (setTo t u la w i) := by delta setTo; rfl
  have S0 : setTo t u la w 0 = -1 := by delta setTo; rfl
  have H := held_ok (u := u) (la := la) (now := w i 0) o.am S
  have SN := setTo_in (t := t) u la w (i + 1)
  have eI : (0 : Int) < (i : Int) → ((i : Int) - 1).toNat + 1 = i := fun h => by omega
  repeat' (first | ((with_reducible refine kok ?_); kernel_rfl) | ((with_reducible refine keq_mk ?_); kernel_rfl) | with_reducible rfl | ((conv => whnf); first | (with_reducible exact trivial) | ((with_reducible refine and_ff ?_ ?_); · exact rfl) | ((with_reducible refine and_tt ?_ ?_); · exact rfl) | (with_reducible refine And.intro ?_ ?_) | intro _ | (with_reducible refine fin2 hk ?_) | ((with_reducible refine eq_leaf ?_); exact rfl) | exact trivial))
  all_goals try ((first | with_reducible refine (?_ : (_ : Int) ≤ _) | with_reducible refine (?_ : (_ : Int) < _)); clear hk; first | omega | (simp only [Int.toNat_natCast]; omega))
  all_goals try first | exact hf.1 | exact hf.2 | exact hwf.1 _ (by assumption)
  all_goals try (
    have b := (by assumption : (!decide ((bandsT u la (w i 0)).2 = 0)) = true)
    have N := H.bad (by simpa using b)
    rw [← S1] at N
    (with_reducible refine (?_ : impA _ _ _ _))
    exfalso
    clear hk H hR hf hwf
    simp only [Int.toNat_natCast, taskOf_agg, ↓Bool.not_eq_true', ↓Bool.not_eq_false', ↓decT, ↓decF, out_true, out_false, isin_true, isin_false, Int.toNat_natCast, Int.ofNat_lt, Nat.zero_add, Nat.add_zero, Nat.reduceAdd] at *
    first
      | exact absurd N.2.1 (by assumption)
      | exact absurd (N.2.2.symm.trans (by assumption)) (by decide)
      | (rw [eI (by omega)] at *; exact absurd N.1 (by assumption))
      | (obtain rfl : i = 0 := (by omega); rw [S0] at N; exact absurd N.1 (by assumption)))
  all_goals try (have z := of_decide_eq_true (by assumption : decide ((0 : Int) < (i : Int)) = true); clear hk; omega)
  all_goals try (
    have b := (by assumption : (!decide ((bandsT u la (w i 0)).2 = 0)) = false)
    have b3 := (by assumption : decide (setTo t u la w (((i : Int)).toNat + 1) < 0) = true)
    have h3 : nextR t u la (w i 0) (setTo t u la w i) < 0 := by rw [← S1]; exact of_decide_eq_true b3
    have h1 : bE t (bandsT u la (w i 0)).1 (bandA u la (w i 0)) = 0 ∨ bE t (bandsT u la (w i 0)).1 (bandA u la (w i 0)) = 9 := by
      first
        | exact .inl (by simpa using (by assumption : (!decide (bE t (bandsT u la (w i 0)).1 (bandA u la (w i 0)) = 0)) = false))
        | exact .inr (by simpa using (by assumption : (!decide (bE t (bandsT u la (w i 0)).1 (bandA u la (w i 0)) = 9)) = false))
    have N := H.none' h1 (by simpa using b) h3
    (with_reducible refine (?_ : impA _ _ _ _))
    exfalso
    clear hk H hf hwf hR
    simp only [atOf_agg, taskOf_agg, im_imD, Int.toNat_natCast, taskOf_agg, ↓Bool.not_eq_true', ↓Bool.not_eq_false', ↓decT, ↓decF, out_true, out_false, isin_true, isin_false, Int.toNat_natCast, Int.ofNat_lt, Nat.zero_add, Nat.add_zero, Nat.reduceAdd] at *
    first
      | exact absurd N.1 (by assumption)
      | exact absurd (N.2.1.symm.trans (by assumption)) (by decide)
      | (have z := N.2.2 (by assumption); omega))
  all_goals try (
    have b := (by assumption : (!decide ((bandsT u la (w i 0)).2 = 0)) = false)
    have b3 := (by assumption : decide (setTo t u la w (((i : Int)).toNat + 1) < 0) = false)
    have h3 : 0 ≤ nextR t u la (w i 0) (setTo t u la w i) := by rw [← S1]; have z : ¬ setTo t u la w (i + 1) < 0 := of_decide_eq_false b3; omega
    have h1 := (by assumption : (!decide (bE t (bandsT u la (w i 0)).1 (bandA u la (w i 0)) = 9)) = false)
    have N := H.some' (.inr (by simpa using h1)) (by simpa using b) h3
    exfalso
    rw [N.2.2.1] at h1
    exact absurd h1 (by decide))
  all_goals try (
    clear hk
    conv => whnf
    refine ⟨i + 1, ?_⟩
    repeat' (first | ((with_reducible refine kok ?_); kernel_rfl) | ((with_reducible refine keq_mk ?_); kernel_rfl) | with_reducible rfl | ((conv => whnf); first | (with_reducible exact trivial) | ((with_reducible refine and_ff ?_ ?_); · exact rfl) | ((with_reducible refine and_tt ?_ ?_); · exact rfl) | (with_reducible refine And.intro ?_ ?_) | intro _ | (with_reducible refine fin2 hk ?_) | ((with_reducible refine eq_leaf ?_); exact rfl) | exact trivial))
    all_goals first | exact hlt | (simp only; omega)
    done)
  have b := (by assumption : (!decide ((bandsT u la (w i 0)).2 = 0)) = false)
  have b2 : (bandsT u la (w i 0)).2 = 0 := by simpa using b
  have b3 := (by assumption : decide (setTo t u la w (((i : Int)).toNat + 1) < 0) = false)
  have h3 : 0 ≤ nextR t u la (w i 0) (setTo t u la w i) := by rw [← S1]; have z : ¬ setTo t u la w (i + 1) < 0 := of_decide_eq_false b3; omega
  have h1 := (by assumption : (!decide (bE t (bandsT u la (w i 0)).1 (bandA u la (w i 0)) = 0)) = false)
  have N := H.some' (.inl (by simpa using h1)) b2 h3
  rw [← S1] at N h3
  obtain ⟨n1, n2, n3, n4, n5, n6⟩ := N
  have hle := alwN_le t (bandsT u la (w i 0)).1 (bandA u la (w i 0))
  have hN : alwN t (bandsT u la (w i 0)).1 (bandA u la (w i 0)) = (alwTo (weighS t (bandsT u la (w i 0)).1 (bandA u la (w i 0))) t.ns).length := by delta alwN; rw [n1]; rfl
  obtain ⟨q, q1, q2⟩ := alw_at (weighS t (bandsT u la (w i 0)).1 (bandA u la (w i 0))) n5 t.ns (by omega)
  rw [← hN] at q1
  have q3 : listM (alwTo (weighS t (bandsT u la (w i 0)).1 (bandA u la (w i 0))) t.ns) q 0 = setTo t u la w (i + 1) := by rw [q2]; omega
  have hM := miss_in (weighS_ok o.am (bandsT_B b2)) (i := (setTo t u la w (i + 1)).toNat) (by rw [weighS_t]; omega)
  have hbM : 0 ≤ bM t (bandsT u la (w i 0)).1 (bandA u la (w i 0)) ∧ bM t (bandsT u la (w i 0)).1 (bandA u la (w i 0)) ≤ 20000000400000002 := by
    have hb := best_in (weighS t (bandsT u la (w i 0)).1 (bandA u la (w i 0))) t.ns
    have z := miss_in (weighS_ok o.am (bandsT_B b2)) (i := (bestTo (weighS t (bandsT u la (w i 0)).1 (bandA u la (w i 0))) t.ns).toNat) (by rw [weighS_t]; omega)
    rw [bM_eq, bB_eq]
    exact z
  conv => whnf
  refine ⟨Nat, fun k => [(2, .ptr 0 0), (3, .ptr 1 0), (5, .rsl 4 n (rndA t u la w)), (7, .int .i64 i), (9, .int .i64 0), (10, .ptr 2 0), (11, .int .i64 0), (12, .bool (decide (la < w i 0 + t.turn + t.freeze))), (13, .int .i64 (missS (weighS t (bandsT u la (w i 0)).1 (bandA u la (w i 0))) (setTo t u la w (i + 1)).toNat)),
      (14, .rsl 1 (alwN t (bandsT u la (w i 0)).1 (bandA u la (w i 0))) (imD (listM (alwTo (weighS t (bandsT u la (w i 0)).1 (bandA u la (w i 0))) t.ns)))), (15, .int .i64 0), (16, .bool (fndR (listM (alwTo (weighS t (bandsT u la (w i 0)).1 (bandA u la (w i 0))) t.ns)) (setTo t u la w (i + 1)) k)), (17, .int .i64 k)],
    fun _ => [some (.row t.cells), some (.row [.rsl 7 u.ns (smD u.nm u.sa), .rsl 5 u.nx (imD u.xa), .rsl 1 u.nc (imD u.ca), .int .i64 u.age, .int .i64 u.shear, .int .i64 la, .rsl 1 n (imD w)]), some (.row [.top, .int .i64 (bM t (bandsT u la (w i 0)).1 (bandA u la (w i 0))), .top])],
    fun k => alwN t (bandsT u la (w i 0)).1 (bandA u la (w i 0)) - k, fun k => k ≤ alwN t (bandsT u la (w i 0)).1 (bandA u la (w i 0)), [], 0, fun _ => ⟨rfl, rfl⟩, ?_, fun k hkk => ?_⟩
  · clear hk
    repeat' (first | ((with_reducible refine kok ?_); kernel_rfl) | ((with_reducible refine keq_mk ?_); kernel_rfl) | with_reducible rfl | ((conv => whnf); first | (with_reducible exact trivial) | ((with_reducible refine and_ff ?_ ?_); · exact rfl) | ((with_reducible refine and_tt ?_ ?_); · exact rfl) | (with_reducible refine And.intro ?_ ?_) | intro _ | (with_reducible refine fin2 hk ?_) | ((with_reducible refine eq_leaf ?_); exact rfl) | exact trivial))
    all_goals first
      | exact n1
      | exact n2
      | exact n3
      | (show ifz (askI t (bandsT u la (w i 0)).1 (bandA u la (w i 0)) (setTo t u la w (i + 1))) _ = _; rw [n2]; rfl)
      | (show ifz (bE t (bandsT u la (w i 0)).1 (bandA u la (w i 0))) _ = _; rw [n3]; rfl)
      | exact Nat.zero_le _
      | (conv => whnf
         exact Nat.zero_le _)
      | skip
  have hkk : k ≤ alwN t (bandsT u la (w i 0)).1 (bandA u la (w i 0)) := hkk
  have F1 := fun h => fndR_mem q3 (alwN t (bandsT u la (w i 0)).1 (bandA u la (w i 0))) h
  have F1 := F1 q1
  conv => whnf
  refine ⟨fun g2 => ?_, fun g2 => ?_⟩
  · have hkl : k < alwN t (bandsT u la (w i 0)).1 (bandA u la (w i 0)) := by have := of_decide_eq_true g2; omega
    repeat' (first | ((with_reducible refine kok ?_); kernel_rfl) | ((with_reducible refine keq_mk ?_); kernel_rfl) | with_reducible rfl | ((conv => whnf); first | (with_reducible exact trivial) | ((with_reducible refine and_ff ?_ ?_); · exact rfl) | ((with_reducible refine and_tt ?_ ?_); · exact rfl) | (with_reducible refine And.intro ?_ ?_) | intro _ | (with_reducible refine fin2 hk ?_) | ((with_reducible refine eq_leaf ?_); exact rfl) | exact trivial))
    all_goals try ((first | with_reducible refine (?_ : (_ : Int) ≤ _) | with_reducible refine (?_ : (_ : Int) < _)); clear hk; omega)
    all_goals clear hk
    all_goals (
      rename_i z
      conv => whnf
      refine ⟨k + 1, ?_⟩
      repeat' (first | ((with_reducible refine kok ?_); kernel_rfl) | ((with_reducible refine keq_mk ?_); kernel_rfl) | with_reducible rfl | ((conv => whnf); first | (with_reducible exact trivial) | ((with_reducible refine and_ff ?_ ?_); · exact rfl) | ((with_reducible refine and_tt ?_ ?_); · exact rfl) | (with_reducible refine And.intro ?_ ?_) | intro _ | (with_reducible refine fin2 hk ?_) | ((with_reducible refine eq_leaf ?_); exact rfl) | exact trivial))
      all_goals first
        | exact hkl
        | (simp only; omega)
        | (simp only [fndR, z, Bool.true_or]; done)
        | (simp only [fndR, z, Bool.false_or]; rfl)
        | skip)
  · obtain rfl : k = alwN t (bandsT u la (w i 0)).1 (bandA u la (w i 0)) := by have := of_decide_eq_false g2; omega
    repeat' (first | ((with_reducible refine kok ?_); kernel_rfl) | ((with_reducible refine keq_mk ?_); kernel_rfl) | with_reducible rfl | ((conv => whnf); first | (with_reducible exact trivial) | ((with_reducible refine and_ff ?_ ?_); · exact rfl) | ((with_reducible refine and_tt ?_ ?_); · exact rfl) | (with_reducible refine And.intro ?_ ?_) | intro _ | (with_reducible refine fin2 hk ?_) | ((with_reducible refine eq_leaf ?_); exact rfl) | exact trivial))
    all_goals try ((first | with_reducible refine (?_ : (_ : Int) ≤ _) | with_reducible refine (?_ : (_ : Int) < _)); clear hk; omega)
    all_goals clear hk
    all_goals try (
      (with_reducible refine (?_ : impA _ _ _ _))
      exfalso
      clear H hf hwf hR F1
      have F1 := fndR_mem q3 (alwN t (bandsT u la (w i 0)).1 (bandA u la (w i 0))) q1
      simp only [Int.toNat_natCast, taskOf_agg, ↓Bool.not_eq_true', ↓Bool.not_eq_false', ↓decT, ↓decF, out_true, out_false, isin_true, isin_false, Int.toNat_natCast, Int.ofNat_lt, Nat.zero_add, Nat.add_zero, Nat.reduceAdd] at *
      first
        | exact absurd n4.symm (by assumption)
        | exact absurd (F1.symm.trans (by assumption)) (by decide)
        | (have z := n6 (by omega) (by assumption); omega))
    all_goals (
      conv => whnf
      refine ⟨i + 1, ?_⟩
      repeat' (first | ((with_reducible refine kok ?_); kernel_rfl) | ((with_reducible refine keq_mk ?_); kernel_rfl) | with_reducible rfl | ((conv => whnf); first | (with_reducible exact trivial) | ((with_reducible refine and_ff ?_ ?_); · exact rfl) | ((with_reducible refine and_tt ?_ ?_); · exact rfl) | (with_reducible refine And.intro ?_ ?_) | intro _ | (with_reducible refine fin2 hk ?_) | ((with_reducible refine eq_leaf ?_); exact rfl) | exact trivial))
      all_goals first | exact hlt | (simp only; omega))
end Go.Proofs.Ytbakdblbknfadaa
end
section
set_option linter.unusedVariables false
set_option linter.unusedSimpArgs false
set_option maxRecDepth 100000
namespace Go.Proofs.Ytbakdblbknfadaa
open Go.V

theorem aimHeld_lifted (os : Os) (started : os.Started) (H : Type) (enc : TypeId × Value → H) :
    ReturnsInHanded {} Try.checked os 11 .any (Rows.aimHeldSpec.pre6 enc Go.Proofs.Try.prog Try.f11 Rows.aimHeldRow.domain false) (Rows.aimHeldSpec.post enc Go.Proofs.Try.prog Try.f11 false Rows.aimHeldRow.fresh Rows.aimHeldRow.handsOn Rows.aimHeldRow.again) := by
  refine returnsInHanded_of_change (C := Try.checked) own started (by kernel_rfl) Try.func11
    (ChangeSpec.witness6 (enc := enc) (C := Try.checked) false ⟨#[], #[.agg #[.slice none 0 0, .slice none 0 0, .int .i64 0, .int .i64 0, .int .i64 0, .int .i64 0, .int .i64 0, .int .i64 0, .int .i64 0, .int .i64 0, .int .i64 0], .agg #[.slice none 0 0, .slice none 0 0, .slice none 0 0, .int .i64 0, .int .i64 0, .int .i64 0, .slice none 0 0]], []⟩ 8 (by kernel_rfl) (by kernel_rfl) (by kernel_rfl) (by kernel_rfl)) ?_
  intro W base args ds gs before hok hW _ _
  refine law_contract (l := [atK, winK]) (tb := 4) laid_ok lawAHeld_ok (by kernel_rfl) (by kernel_rfl) rfl tbool (fun ds h => ?_) rfl (fun ds hd => ?_) W base args ds gs before hok hW
  · obtain ⟨d, e, rfl, h1, h2⟩ := isAL2 h
    exact ⟨_, _, rfl, ⟨at_of_kinds h1, win_of_kinds h2⟩, .inl rfl⟩
  · match ds, hd with
    | [a, b], _ => exact ⟨rfl, rfl, rfl⟩
theorem aimHeld_holds : Rows.AimHeldSaid :=
  OpenClaim.holds_of_wide 11 Try.f11 rfl rfl rfl rfl rfl rfl rfl ⟨rfl, rfl, rfl, rfl, rfl⟩ rfl rfl rfl rfl rfl (by kernel_rfl) Try.func11 (by kernel_rfl)
    (of_decide_eq_true (by kernel_rfl)) (by unfold Func.isWrapper; first | (rw [if_pos (by decide +kernel)]; kernel_rfl) | (rw [if_neg (by decide +kernel)]; exact ⟨rfl, rfl⟩))
    (fun os started H enc _ => aimHeld_lifted os started H enc)
#print axioms aimHeld_holds
end Go.Proofs.Ytbakdblbknfadaa
end
