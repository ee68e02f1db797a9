/-
  TopFound: parts of spans, gusts, quotients; the law's calls.
-/
import Derived.Test.YtphcblofacfkaaaGreatNg
import Derived.Test.YtphcblofacfkaaaGreatMu
import Derived.Test.YtphcblofacfkaaaGreatNh
set_option linter.unusedVariables false
set_option linter.unusedSimpArgs false
set_option maxRecDepth 100000
set_option maxHeartbeats 4000000
section
namespace Go.Proofs.YtphcblofacfkaaaGreat
open Go.V
def impK (K : Res → Prop) (r : Res) : Prop := match r with
  | .ret d => imp1 d fun d => K (.ret d)
  | .pan d => K (.pan d)
theorem qsound_imp {P : Program} {f : Nat} {q q' : QRule} (hs : QSound P f q) (h : ∀ ds K, q' ds K → q ds (impK K)) : QSound P f q' := by
  refine ⟨hs.enters, fun ds K hk S w vs hS hRL => (hs.calls ds _ (h ds K hk) S w vs hS hRL).mono ?_⟩
  rintro e w' ⟨S', r, h1, h2, hg⟩
  cases r with
  | ret d =>
    obtain ⟨d0, k1, k2⟩ := h1
    cases e with
    | returned v => exact ⟨S', .ret d0, k1, k2 _ _ _ h2, hg⟩
    | _ => exact h2.elim
  | pan d => exact ⟨S', .pan d, h1, h2, hg⟩
def rImpacts2 : QRule := fun ds K => match ds with
  | [d, .agg [.int .i64 x, .int .i64 y, .int .i64 z], .rsl 6 n g] => (VehIs d ∧ (vehOf d).fits ∧ IM n 6 g) ∧ (∀ e : Int, e ≠ 0 → K (.ret (.tup [.nilS, .int .i64 e]))) ∧ ∀ (n : Nat) (p : Nat → Nat → Int), n ≤ 1000 → K (.ret (.tup [.rsl 7 n (imD p), .int .i64 0]))
  | _ => False
theorem fImpacts2_ok : QSound Go.Proofs.Tryz.prog 4 rImpacts2 := by
  refine qsound_imp fImpacts_ok fun ds K h => ?_
  unfold rImpacts2 at h
  split at h <;> first | exact h.elim | skip
  rename_i d x y z n g
  obtain ⟨h1, hE, hK⟩ := h
  exact ⟨h1, fun e he => fin_of (k := fun d => K (.ret d)) (hE e he) ⟨rfl, trivial⟩, fun n f hf hn => fin_of (k := fun d => K (.ret d)) (hK n (im f) hn) ⟨rfl, hf, rfl, trivial⟩⟩
def shareS (m : Nat) (w : Nat → Int) (lo hi : Int) (i : Nat) : Int := if m = 0 then lo else partS lo hi (w (i % m))
def rShare : List V.D → Option (Prop × V.D) := fun ds => match ds with
  | [.agg [.int .i64 lo, .int .i64 hi], .rsl 1 m g, .int .i64 i] => some ((U8 m g ∧ (∀ j, j < m → 0 ≤ toI (g j 0) ∧ toI (g j 0) ≤ 255)) ∧ (m ≤ 9223372036854775807 ∧ 0 ≤ i ∧ i ≤ 1000000) ∧ (-4000000000 ≤ lo ∧ lo ≤ hi ∧ hi ≤ 4000000000), .int .i64 (shareS m (fun i => toI (g i 0)) lo hi i.toNat))
  | _ => none
theorem share_ok : PSound Go.Proofs.Tryz.prog 7 (mk rShare) := by
  refine psound_mk Tryz.func7 (by kernel_rfl) rfl (ctx (.nil _)) ?_
  (intro ds p d h; unfold rShare at h; split at h <;> first | (cases h; done) | skip; cases h; refine ⟨Nat.le_of_ble_eq_true rfl, fun hp k hk => ?_⟩)
  rename_i lo hi m g i
  obtain ⟨⟨h1, h2⟩, ⟨h3, h4⟩, h5⟩ := hp
  refine ⟨[.agg [.int .i64 lo, .int .i64 hi], .rsl 1 m (u8D (fun i => toI (g i 0))), .int .i64 i], rfl, rfl, rfl, h1, rfl, ?_⟩
  clear h1
  have h2' : ∀ j, j < m → 0 ≤ (fun i => toI (g i 0)) j ∧ (fun i => toI (g i 0)) j ≤ 255 := h2
  clear h2
  generalize (fun i => toI (g i 0)) = w at *
  obtain ⟨k, rfl⟩ := Int.eq_ofNat_of_zero_le h4.1
  rw [Int.toNat_natCast] at hk
  have e : ((k : Int)).tmod (m : Int) = ((k % m : Nat) : Int) := rfl
  have W0 : m = 0 → lo = shareS m w lo hi k := fun h => (if_pos h).symm
  have W1 : m ≠ 0 → partS lo hi (w (k % m)) = shareS m w lo hi k := fun h => (if_neg h).symm
  have hm : m ≠ 0 → k % m < m := fun h => Nat.mod_lt _ (by omega)
  have hw := h2' (k % m)
  have B := fun h => mul_in (x := hi - lo) (y := w (k % m)) (A := 8000000000) (B := 255) (by omega) (hw (hm h)) (by decide)
  have I := fun h => partS_in h5.2.1 (hw (hm h))
  have e2 : partS lo hi (w (k % m)) = lo + ((hi - lo) * w (k % m)).tdiv 255 := rfl
  have T := fun h : m ≠ 0 => (show -2040000000000 ≤ ((hi - lo) * w (k % m)).tdiv 255 ∧ ((hi - lo) * w (k % m)).tdiv 255 ≤ 2040000000000 by have := B h; omega)
  generalize shareS m w lo hi k = c at *
  generalize partS lo hi (w (k % m)) = p at *
  generalize k % m = q at *
  repeat' (first | ((with_reducible refine kok ?_); kernel_rfl) | ((with_reducible refine keq_mk ?_); kernel_rfl) | with_reducible rfl | ((conv => whnf); first | (with_reducible exact trivial) | ((with_reducible refine and_ff ?_ ?_); · exact rfl) | ((with_reducible refine and_tt ?_ ?_); · exact rfl) | (with_reducible refine And.intro ?_ ?_) | intro _ | (with_reducible refine fin2 hk ?_) | ((with_reducible refine eq_leaf ?_); exact rfl) | exact trivial))
  all_goals (clear hk; simp only [taskOf_agg, ↓Bool.not_eq_true', ↓Bool.not_eq_false', ↓decT, ↓decF, out_true, out_false, isin_true, isin_false, Int.toNat_natCast, Int.ofNat_lt, Nat.zero_add, Nat.add_zero, Nat.reduceAdd, e] at *)
  all_goals first
    | omega
    | exact W0 (by omega)
    | (rw [← e2]; exact W1 (by omega))
    | (have h1 := hm (by omega); have h2 := hw h1; omega)
    | (have h1 := hm (by omega); have h2 := hw h1; have h3 := B (by omega); have h4 := T (by omega); omega)
noncomputable def lu1 : Lib := (7, mk rShare) :: []
theorem lu1_ok : LibOK Go.Proofs.Tryz.prog lu1 := .cons share_ok (.nil _)
def rGust : List V.D → Option (Prop × V.D) := fun ds => match ds with
  | [.agg [.int .u8 x, .int .u8 y, .int .u8 at', .int .u8 fall, .rsl 1 m g], .agg [.int .i64 lo, .int .i64 hi], .int .i64 i] => some ((U8 m g ∧ (∀ j, j < m → 0 ≤ toI (g j 0) ∧ toI (g j 0) ≤ 255)) ∧ (m ≤ 9223372036854775807 ∧ 0 ≤ i ∧ i ≤ 1000000) ∧ (-4000000000 ≤ lo ∧ lo ≤ hi ∧ hi ≤ 4000000000), .int .i64 (windS m (fun i => toI (g i 0)) lo hi i.toNat))
  | _ => none
theorem gust_ok : PSound Go.Proofs.Tryz.prog 8 (mk rGust) := by
  refine psound_mk Tryz.func8 (by kernel_rfl) rfl (ctx lu1_ok) ?_
  (intro ds p d h; unfold rGust at h; split at h <;> first | (cases h; done) | skip; cases h; refine ⟨Nat.le_of_ble_eq_true rfl, fun hp k hk => ?_⟩)
  rename_i x y at' fall m g lo hi i
  obtain ⟨⟨h1, h2⟩, ⟨h3, h4⟩, h5⟩ := hp
  refine ⟨[driftD x y at' fall m (fun i => toI (g i 0)), .agg [.int .i64 lo, .int .i64 hi], .int .i64 i], rfl, rfl, rfl, rfl, rfl, h1, rfl, rfl, rfl, ?_⟩
  clear h1
  have h2' : ∀ j, j < m → 0 ≤ (fun i => toI (g i 0)) j ∧ (fun i => toI (g i 0)) j ≤ 255 := h2
  clear h2
  generalize (fun i => toI (g i 0)) = w at *
  have W0 : m = 0 → hi = windS m w lo hi i.toNat := fun h => (if_pos h).symm
  have W1 : m ≠ 0 → shareS m w lo hi i.toNat = windS m w lo hi i.toNat := fun h => by unfold shareS windS; rw [if_neg h, if_neg h]
  have eu : (fun i => toI (u8D w i 0)) = w := rfl
  generalize windS m w lo hi i.toNat = c at *
  repeat' (first | ((with_reducible refine kok ?_); kernel_rfl) | ((with_reducible refine keq_mk ?_); kernel_rfl) | with_reducible rfl | ((conv => whnf); first | (with_reducible exact trivial) | ((with_reducible refine and_ff ?_ ?_); · exact rfl) | ((with_reducible refine and_tt ?_ ?_); · exact rfl) | (with_reducible refine And.intro ?_ ?_) | intro _ | (with_reducible refine fin2 hk ?_) | ((with_reducible refine eq_leaf ?_); exact rfl) | exact trivial))
  all_goals try exact h3
  all_goals try exact (h2' _ (by assumption)).1
  all_goals try exact (h2' _ (by assumption)).2
  all_goals (clear hk; simp only [taskOf_agg, ↓Bool.not_eq_true', ↓Bool.not_eq_false', ↓decT, ↓decF, out_true, out_false, isin_true, isin_false, Int.toNat_natCast, Int.ofNat_lt, Nat.zero_add, Nat.add_zero, Nat.reduceAdd, eu] at *)
  all_goals first
    | omega
    | exact W0 (by omega)
    | exact W1 (by omega)
    | (obtain rfl : _ = 0 := by omega; rfl)
    | skip
theorem under_ok : PSound Go.Proofs.Tryz.prog 9 (mk rFloor) := by
  refine psound_mk Tryz.func9 (by kernel_rfl) rfl (ctx (.nil _)) ?_
  (intro ds p d h; unfold rFloor at h; split at h <;> first | (cases h; done) | skip; cases h; refine ⟨Nat.le_of_ble_eq_true rfl, fun hp k hk => ?_⟩)
  rename_i a b
  obtain ⟨h1, h2, h3⟩ := hp
  refine ⟨[.int .i64 a, .int .i64 b], rfl, rfl, ?_⟩
  obtain ⟨f1, f2, f3, f4⟩ := tdiv_facts a h1
  have f5 : a.tdiv b ≤ 4611686018427387904 ∧ -4611686018427387904 ≤ a.tdiv b ∧ a.tdiv b * b ≤ 4611686018427387904 ∧ -4611686018427387904 ≤ a.tdiv b * b := by
    rcases Int.le_total 0 a with ha | ha
    · have := f3 ha; omega
    · have := f4 ha; omega
  clear f3 f4
  generalize hS : a / b = c at *
  repeat' (first | ((with_reducible refine kok ?_); kernel_rfl) | ((with_reducible refine keq_mk ?_); kernel_rfl) | with_reducible rfl | ((conv => whnf); first | (with_reducible exact trivial) | ((with_reducible refine and_ff ?_ ?_); · exact rfl) | ((with_reducible refine and_tt ?_ ?_); · exact rfl) | (with_reducible refine And.intro ?_ ?_) | intro _ | (with_reducible refine fin2 hk ?_) | ((with_reducible refine eq_leaf ?_); exact rfl) | exact trivial))
  all_goals try (clear hk; omega)
  · rename_i g; exact f1 (of_decide_eq_true g)
  · rename_i g; exact f2 (of_decide_eq_false g)
def rHasT : List V.D → Option (Prop × V.D) := fun ds => match ds with
  | [.agg [.int .i64 a, .int .i64 b], .int .i64 n] => some (True, .bool (isin n a b))
  | _ => none
theorem hasT_ok : PSound Go.Proofs.Tryz.prog 10 (mk rHasT) := by
  refine psound_mk Tryz.func10 (by kernel_rfl) rfl (ctx (.nil _)) ?_
  (intro ds p d h; unfold rHasT at h; split at h <;> first | (cases h; done) | skip; cases h; refine ⟨Nat.le_of_ble_eq_true rfl, fun hp k hk => ?_⟩)
  rename_i a b n
  refine ⟨[.agg [.int .i64 a, .int .i64 b], .int .i64 n], rfl, rfl, rfl, ?_⟩
  generalize hS : isin n a b = c at *
  have hT : c = true ↔ a ≤ n ∧ n ≤ b := by rw [← hS, isin_true]
  clear hS
  repeat' (first | ((with_reducible refine kok ?_); kernel_rfl) | ((with_reducible refine keq_mk ?_); kernel_rfl) | with_reducible rfl | ((conv => whnf); first | (with_reducible exact trivial) | ((with_reducible refine and_ff ?_ ?_); · exact rfl) | ((with_reducible refine and_tt ?_ ?_); · exact rfl) | (with_reducible refine And.intro ?_ ?_) | intro _ | (with_reducible refine fin2 hk ?_) | ((with_reducible refine eq_leaf ?_); exact rfl) | exact trivial))
  all_goals (clear hk; simp only [taskOf_agg, ↓Bool.not_eq_true', ↓Bool.not_eq_false', ↓decT, ↓decF, out_true, out_false, isin_true, isin_false, Int.toNat_natCast, Int.ofNat_lt, Nat.zero_add, Nat.add_zero, Nat.reduceAdd] at *)
  all_goals first
    | (symm; rw [Bool.eq_false_iff, Ne, hT]; omega)
    | (rw [Bool.eq_iff_iff, hT]; simp only [decide_eq_true_eq]; omega)
noncomputable def lu2 : Lib := (7, mk rShare) :: (8, mk rGust) :: (9, mk rFloor) :: (10, mk rHasT) :: lr51
theorem lu2_ok : LibOK Go.Proofs.Tryz.prog lu2 := .cons share_ok (.cons gust_ok (.cons under_ok (.cons hasT_ok lr51_ok)))
noncomputable def Ltop : Libs := ⟨lu2, [(4, qC rImpacts2)], [], []⟩
theorem Ltop_ok : LibsOK Go.Proofs.Tryz.prog Ltop := ⟨lu2_ok, asGet_cons (csound_q fImpacts2_ok) (fun g s h => by cases h), fun f r h => (by cases h), fun f r h => (by cases h)⟩
theorem share1 (w : Nat → Int) (lo hi : Int) (i : Nat) : shareS 1 w lo hi i = partS lo hi (w 0) := by
  unfold shareS
  rw [if_neg (by decide), Nat.mod_one]
end Go.Proofs.YtphcblofacfkaaaGreat
end
