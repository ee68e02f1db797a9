/-
  Contracts of the wind: whether a task is one.
-/
import Derived.Test.YtbkehkiflfhpfaaWn
set_option linter.unusedVariables false
set_option linter.unusedSimpArgs false
set_option maxRecDepth 100000
set_option maxHeartbeats 4000000
namespace Go.Proofs.Ytbkehkiflfhpfaa
open Go.V

def Lsnd : Libs := ⟨lib17, [(61, rWindSounding)], [], []⟩
theorem Lsnd_ok : LibsOK Go.Proofs.Try.prog Lsnd := ⟨lib17_ok, asGet_cons windSounding_ok (fun g s h => by cases h), fun f r h => (by cases h), fun f r h => (by cases h)⟩
theorem cutErr_7 {t : Task} {i : Nat} (h : out (t.ca i 0) 1 100000000 = true) : cutErr t i = 7 := by
  rw [out_isin] at h
  exact if_pos ((Bool.not_eq_true' _).mp h)
theorem cutErr_low {t : Task} {i : Nat} (h : out (t.ca i 0) 1 100000000 = false) : cutErr t i = if t.ca i 0 ≤ lowS t i then 2 else 0 := by
  rw [out_isin] at h
  have h1 := (Bool.not_eq_false' _).mp h
  unfold cutErr
  rw [if_neg (by rw [h1]; exact Bool.noConfusion)]
  unfold lowS
  by_cases h0 : i = 0
  · subst h0
    simp only [isin, Bool.and_eq_true, decide_eq_true_eq] at h1
    rw [if_neg (by omega), if_pos rfl, if_neg (by omega)]
  · rw [if_neg h0]
    by_cases h2 : t.ca i 0 ≤ t.ca (i - 1) 0
    · rw [if_pos ⟨by omega, h2⟩, if_pos h2]
    · rw [if_neg (fun h => h2 h.2), if_neg h2]
theorem windCheck_ok : PSound Go.Proofs.Try.prog 20 (mk rCheck) := by
  refine psound_mk Try.func20 (by kernel_rfl) rfl (ctxA Lsnd_ok) ?_
  (intro ds p d h; unfold rCheck at h; split at h <;> first | (cases h; done) | skip; cases h; refine ⟨Nat.le_of_ble_eq_true rfl, fun hp k hk => ?_⟩)
  rename_i d
  obtain ⟨ht, hf⟩ := hp
  refine ⟨[(taskOf d).D], task_imp ht ?_⟩
  clear ht
  generalize taskOf d = t at *
  generalize hS : checkS t = c at *
  have hS' : c = if tooLong t = true then (1, 0, 3) else pickE 2 (fe (srcErr t) 0 t.ns) (check2 t) := hS.symm
  clear hS
  repeat' (first | with_reducible rfl | ((conv => whnf); first | exact trivial | refine And.intro ?_ ?_ | intro _ | (with_reducible refine (?_ : _ = true); (conv => lhs; whnf); done) | exact rfl))
  all_goals try (refine fin_of hk ?_; clear hk; rw [if_pos (by simp [tooLong, ← not_out, *])] at hS'; subst hS'; (conv => whnf); repeat' (first | exact trivial | refine And.intro ?_ ?_ | exact rfl))
  rename_i q1 q2 q3
  rw [out_isin] at q3
  have hlong : tooLong t = false := by simp_all [tooLong]
  have hns : t.ns ≤ 6 := by simp at q1; omega
  have hnx : t.nx ≤ 60 := by simp at q2; omega
  have hnc : t.nc ≤ 20 := by simp [isin] at q3; omega
  clear q1 q2 q3
  rw [if_neg (by rw [hlong]; exact Bool.false_ne_true)] at hS'
  refine ⟨Nat, fun i => [(1, .ptr 0 0), (5, .map 1), (32, .rsl 7 t.ns (smD t.nm t.sa)), (33, .int .i64 t.ns), (34, .int .i64 i)],
    fun i => [some (.row [.rsl 7 t.ns (smD t.nm t.sa), .rsl 5 t.nx (imD t.xa), .rsl 1 t.nc (imD t.ca), .int .i64 t.age, .int .i64 t.shear]), some (.mp (namesM t i))],
    fun i => t.ns - i, fun i => i ≤ t.ns ∧ c = pickE 2 (fe (srcErr t) i (t.ns - i)) (check2 t) ∧ ∀ j, j < i → srcErr t j = 0, [], 0, fun _ => ⟨rfl, rfl⟩, ?_, fun i hI => ?_⟩
  · repeat' (first | with_reducible rfl | ((conv => whnf); first | exact trivial | refine And.intro ?_ ?_ | intro _ | (with_reducible refine (?_ : _ = true); (conv => lhs; whnf); done) | exact rfl))
    · rename_i q j hq hh; cases hh
    · omega
    · exact hS'
    · rename_i j hj; exact absurd hj (Nat.not_lt_zero j)
  obtain ⟨hi, hc, hz⟩ := hI
  clear hS'
  have f1 : decide ((i : Int) < t.ns) = true → i < t.ns := fun h => Int.ofNat_lt.mp (of_decide_eq_true h)
  repeat' (first | with_reducible rfl | ((conv => whnf); first | exact trivial | refine And.intro ?_ ?_ | intro _ | (with_reducible refine (?_ : _ = true); (conv => lhs; whnf); done) | exact rfl))
  · omega
  · exact of_decide_eq_true (by assumption)
  · exact hf _ (f1 (by assumption))
  · rename_i g1 g2
    have e2 : srcErr t i = 6 := if_pos ((Bool.not_eq_true' _).mp g2)
    have hb := hc.trans (pick_bad (f1 g1) (by rw [e2]; decide))
    rw [e2] at hb
    subst hb
    (refine fin_of hk ?_; clear hk; (conv => whnf); repeat' (first | exact trivial | refine And.intro ?_ ?_ | exact rfl))
  · exact hf _ (f1 (by assumption))
  · rename_i g1 g2 g3
    have e1 := (namesM_has t i).symm.trans g3
    have e2 : srcErr t i = 5 := (if_neg (by rw [show nameS (t.nm i) = true from (Bool.not_eq_false' _).mp g2]; exact Bool.noConfusion)).trans (if_pos e1)
    have hb := hc.trans (pick_bad (f1 g1) (by rw [e2]; decide))
    rw [e2] at hb
    subst hb
    (refine fin_of hk ?_; clear hk; (conv => whnf); repeat' (first | exact trivial | refine And.intro ?_ ?_ | exact rfl))
  · rename_i g1 g2 g3 g4
    have e1 := (namesM_has t i).symm.trans g3
    have e2 := srcErr_kind (t := t) (i := i) ((Bool.not_eq_false' _).mp g2) e1
    have hb := hc.trans (pick_bad (f1 g1) (by rw [e2]; exact of_decide_eq_false ((Bool.not_eq_true' _).mp g4)))
    rw [e2] at hb
    subst hb
    (refine fin_of hk ?_; clear hk; (conv => whnf); repeat' (first | exact trivial | refine And.intro ?_ ?_ | exact rfl))
  · exact hf _ (f1 (by assumption))
  · omega
  · omega
  · rename_i g1 g2 g3 g4
    have e1 := (namesM_has t i).symm.trans g3
    have e2 := srcErr_kind (t := t) (i := i) ((Bool.not_eq_false' _).mp g2) e1
    have e4 : srcErr t i = 0 := by rw [e2]; exact of_decide_eq_true ((Bool.not_eq_false' _).mp g4)
    have e0 := f1 g1
    have hb := hc.trans (pick_next e0 e4)
    clear hc hk
    refine ⟨i + 1, ?_⟩
    repeat' (first | with_reducible rfl | ((conv => whnf); first | exact trivial | refine And.intro ?_ ?_ | intro _ | (with_reducible refine (?_ : _ = true); (conv => lhs; whnf); done) | exact rfl))
    · show (if hasK (nameV t) i (.string (t.nm i)) = true then i else i + 1) = i + 1
      rw [hasK_name, e1]
      rfl
    · rename_i q j h1 h2
      show (bif veqV q (nameV t i) then (1 : Int) else if hasK (nameV t) i q = true then 1 else 0) = 1
      have h3 : (hasK (nameV t) i q || veqV q (nameV t i)) = true := h2
      cases h4 : veqV q (nameV t i) with
      | true => rfl
      | false => rw [h4, Bool.or_false] at h3; rw [h3]; rfl
    · omega
    · exact hb
    · rename_i j hj
      rcases Nat.lt_or_eq_of_le (Nat.le_of_lt_succ hj) with h | h
      · exact hz j h
      · rw [h]; exact e4
    · simp only; omega
  rename_i g1
  have e0 : i = t.ns := by have := of_decide_eq_false g1; omega
  have hc' : c = check2 t := hc.trans (pick_end (by omega))
  have hz' : ∀ j, j < t.ns → srcErr t j = 0 := fun j h => hz j (by omega)
  clear hc hi g1 hz e0 f1
  refine ⟨Nat, fun k => [(1, .ptr 0 0), (8, .ptr 4 0), (66, .rsl 5 t.nx (imD t.xa)), (67, .int .i64 t.nx), (68, .int .i64 k)],
    fun k => [some (.row [.rsl 7 t.ns (smD t.nm t.sa), .rsl 5 t.nx (imD t.xa), .rsl 1 t.nc (imD t.ca), .int .i64 t.age, .int .i64 t.shear]), some (.mp (namesM t i)), some (.mp (seenM t k)), some (.mp (lastM t k)), some (.row [.map 2, .map 3])],
    fun k => t.nx - k, fun k => k ≤ t.nx ∧ c = pickE 3 (fe (sndErr t) k (t.nx - k)) (check3 t), [], 0, fun _ => ⟨?_, ?_⟩, ?_, fun k2 hI => ?_⟩
  · conv => lhs; whnf
  · conv => lhs; whnf
  · clear hk
    repeat' (first | with_reducible rfl | ((conv => whnf); first | exact trivial | refine And.intro ?_ ?_ | intro _ | (with_reducible refine (?_ : _ = true); (conv => lhs; whnf); done) | exact rfl))
    · rename_i q j hq hh; cases hh
    · omega
    · exact hc'
  obtain ⟨hi, hc⟩ := hI
  clear hc'
  have f1 : decide ((k2 : Int) < t.nx) = true → k2 < t.nx := fun h => Int.ofNat_lt.mp (of_decide_eq_true h)
  repeat' (first | with_reducible rfl | ((conv => whnf); first | exact trivial | refine And.intro ?_ ?_ | intro _ | (with_reducible refine (?_ : _ = true); (conv => lhs; whnf); done) | exact rfl))
  · omega
  · exact of_decide_eq_true (by assumption)
  · rename_i g1
    have e1 := f1 g1
    refine ⟨t, i, k2, ?_⟩
    repeat' (first | with_reducible rfl | ((conv => whnf); first | exact trivial | refine And.intro ?_ ?_ | intro _ | (with_reducible refine (?_ : _ = true); (conv => lhs; whnf); done) | exact rfl))
    · exact hns
    · exact hz' _ (by assumption)
    · rename_i g2 g3
      have hb := hc.trans (pick_bad e1 g2)
      subst hb
      (refine fin_of hk ?_; clear hk; (conv => whnf); repeat' (first | exact trivial | refine And.intro ?_ ?_ | exact rfl))
    · omega
    · omega
    · rename_i g2 g3
      exact absurd (of_decide_eq_true ((Bool.not_eq_false' _).mp g3)) g2
    · rename_i g2 g3
      exact absurd g3 (by decide)
    · omega
    · omega
    · rename_i g2 g3
      have hb := hc.trans (pick_next e1 g2)
      clear hk hc
      refine ⟨k2 + 1, ?_⟩
      repeat' (first | with_reducible rfl | ((conv => whnf); first | exact trivial | refine And.intro ?_ ?_ | intro _ | (with_reducible refine (?_ : _ = true); (conv => lhs; whnf); done) | exact rfl))
      · omega
      · exact hb
      · simp only; omega
  rename_i g1
  have hc' : c = check3 t := hc.trans (pick_end (by have := of_decide_eq_false g1; omega))
  clear hc hi g1 f1
  refine ⟨Nat, fun k => [(1, .ptr 0 0), (11, .int .i64 (lowS t k)), (83, .rsl 1 t.nc (imD t.ca)), (84, .int .i64 t.nc), (85, .int .i64 k)],
    fun k => [some (.row [.rsl 7 t.ns (smD t.nm t.sa), .rsl 5 t.nx (imD t.xa), .rsl 1 t.nc (imD t.ca), .int .i64 t.age, .int .i64 t.shear]), some (.mp (namesM t i)), some (.mp (seenM t k2)), some (.mp (lastM t k2)), some (.row [.map 2, .map 3])],
    fun k => t.nc - k, fun k => k ≤ t.nc ∧ c = pickE 4 (fe (cutErr t) k (t.nc - k)) (check4 t), [], 0, fun _ => ⟨?_, ?_⟩, ?_, fun k3 hI => ?_⟩
  · conv => lhs; whnf
  · conv => lhs; whnf
  · clear hk
    repeat' (first | with_reducible rfl | ((conv => whnf); first | exact trivial | refine And.intro ?_ ?_ | intro _ | (with_reducible refine (?_ : _ = true); (conv => lhs; whnf); done) | exact rfl))
    · omega
    · exact hc'
  obtain ⟨hi, hc⟩ := hI
  clear hc'
  have f1 : decide ((k3 : Int) < t.nc) = true → k3 < t.nc := fun h => Int.ofNat_lt.mp (of_decide_eq_true h)
  repeat' (first | with_reducible rfl | ((conv => whnf); first | exact trivial | refine And.intro ?_ ?_ | intro _ | (with_reducible refine (?_ : _ = true); (conv => lhs; whnf); done) | exact rfl))
  · omega
  · exact of_decide_eq_true (by assumption)
  · rename_i g1 g2
    have e2 := cutErr_7 (t := t) (i := k3) g2
    have hb := hc.trans (pick_bad (f1 g1) (by rw [e2]; decide))
    rw [e2] at hb
    subst hb
    (refine fin_of hk ?_; clear hk; (conv => whnf); repeat' (first | exact trivial | refine And.intro ?_ ?_ | exact rfl))
  · rename_i g1 g2 g3
    have e2 := (cutErr_low (t := t) (i := k3) g2).trans (if_pos (of_decide_eq_true g3))
    have hb := hc.trans (pick_bad (f1 g1) (by rw [e2]; decide))
    rw [e2] at hb
    subst hb
    (refine fin_of hk ?_; clear hk; (conv => whnf); repeat' (first | exact trivial | refine And.intro ?_ ?_ | exact rfl))
  · omega
  · omega
  · rename_i g1 g2 g3
    have e2 := (cutErr_low (t := t) (i := k3) g2).trans (if_neg (of_decide_eq_false g3))
    have e1 := f1 g1
    have hb := hc.trans (pick_next e1 e2)
    clear hk hc
    refine ⟨k3 + 1, ?_⟩
    repeat' (first | with_reducible rfl | ((conv => whnf); first | exact trivial | refine And.intro ?_ ?_ | intro _ | (with_reducible refine (?_ : _ = true); (conv => lhs; whnf); done) | exact rfl))
    · omega
    · exact hb
    · simp only; omega
  · rename_i g1 g2
    have hb : c = check4 t := hc.trans (pick_end (by have := of_decide_eq_false g1; omega))
    rw [out_isin] at g2
    rw [check4, if_neg (by rw [(Bool.not_eq_true' _).mp g2]; exact Bool.noConfusion)] at hb
    subst hb
    (refine fin_of hk ?_; clear hk; (conv => whnf); repeat' (first | exact trivial | refine And.intro ?_ ?_ | exact rfl))
  · rename_i g1 g2 g3
    have hb : c = check4 t := hc.trans (pick_end (by have := of_decide_eq_false g1; omega))
    rw [out_isin] at g3
    rw [check4, if_neg (by rw [(Bool.not_eq_true' _).mp g3, Bool.and_false]; exact Bool.noConfusion)] at hb
    subst hb
    (refine fin_of hk ?_; clear hk; (conv => whnf); repeat' (first | exact trivial | refine And.intro ?_ ?_ | exact rfl))
  · rename_i g1 g2 g3
    have hb : c = check4 t := hc.trans (pick_end (by have := of_decide_eq_false g1; omega))
    rw [out_isin] at g2 g3
    rw [check4, if_pos (by rw [(Bool.not_eq_false' _).mp g2, (Bool.not_eq_false' _).mp g3]; rfl)] at hb
    subst hb
    (refine fin_of hk ?_; clear hk; (conv => whnf); repeat' (first | exact trivial | refine And.intro ?_ ?_ | exact rfl))

theorem fe_zero {e : Nat → Int} : ∀ {n i : Nat}, (fe e i n).2 = 0 → ∀ j, i ≤ j → j < i + n → e j = 0
  | 0, i, _, j, h1, h2 => absurd h2 (by omega)
  | n + 1, i, h, j, h1, h2 => by
    simp only [fe] at h
    split at h
    · rename_i h3; exact absurd h h3
    · rename_i h3
      rcases Nat.eq_or_lt_of_le h1 with rfl | h4
      · exact Classical.not_not.mp h3
      · exact fe_zero h j h4 (by omega)
theorem pickE_zero {p : Int} {q : Int × Int} {r : Int × Int × Int} (h : (pickE p q r).2.2 = 0) : q.2 = 0 ∧ r.2.2 = 0 := by
  unfold pickE at h
  split at h
  · rename_i h1; exact absurd h h1
  · rename_i h1; exact ⟨Classical.not_not.mp h1, h⟩
/-- What Check has looked at. -/
theorem check_ok {t : Task} (h : (checkS t).2.2 = 0) : t.ok := by
  unfold checkS at h
  split at h
  · cases h
  rename_i hl
  obtain ⟨h1, h⟩ := pickE_zero h
  obtain ⟨h2, h⟩ := pickE_zero h
  obtain ⟨h3, h4⟩ := pickE_zero h
  have s1 := fun j (hj : j < t.ns) => fe_zero h1 j (Nat.zero_le j) (by omega : j < 0 + t.ns)
  have s2 := fun j (hj : j < t.nx) => fe_zero h2 j (Nat.zero_le j) (by omega : j < 0 + t.nx)
  have s3 := fun j (hj : j < t.nc) => fe_zero h3 j (Nat.zero_le j) (by omega : j < 0 + t.nc)
  simp only [tooLong, isin, Bool.or_eq_true, decide_eq_true_eq, Bool.not_eq_true', Bool.and_eq_false_iff, decide_eq_false_iff_not, not_or] at hl
  have src : ∀ j, j < t.ns → srcRange t j = true := fun j hj => by
    have := s1 j hj
    unfold srcErr at this
    split at this
    · cases this
    split at this
    · cases this
    split at this
    · cases this
    split at this
    · cases this
    rename_i h; simpa using h
  have snd : ∀ j, j < t.nx → isin (t.xa j 0) 0 (t.ns - 1) = true ∧ sndRange t j = true := fun j hj => by
    have := s2 j hj
    unfold sndErr at this
    split at this
    · cases this
    split at this
    · cases this
    rename_i h1 h2
    exact ⟨by simpa using h1, by simpa using h2⟩
  have cut : ∀ j, j < t.nc → isin (t.ca j 0) 1 100000000 = true ∧ (0 < j → t.ca (j - 1) 0 < t.ca j 0) := fun j hj => by
    have := s3 j hj
    unfold cutErr at this
    split at this
    · cases this
    split at this
    · cases this
    rename_i h1 h2
    exact ⟨by simpa using h1, fun h0 => by omega⟩
  have end4 : isin t.age 0 1000 = true ∧ isin t.shear 0 1000 = true := by
    unfold check4 at h4
    split at h4
    · rename_i h; simpa using h
    · cases h4
  simp only [srcRange, sndRange, isin, Bool.and_eq_true, decide_eq_true_eq] at src snd cut end4
  exact ⟨by omega, by omega, by omega, fun i hi => by have := src i hi; omega, fun i hi => by have := src i hi; omega, fun i hi => by have := src i hi; omega, fun i hi => by have := snd i hi; omega, fun i hi => by have := snd i hi; omega,
    fun i hi => by have h5 := snd i hi; have := src (t.xa i 0).toNat (by omega); omega, fun i hi => by have := snd i hi; omega, fun i hi => by have := snd i hi; omega, fun i hi => by have := cut i hi; omega, fun i hi => by have := (cut (i + 1) hi).2 (by omega); simpa using this, end4.1, end4.2⟩
end Go.Proofs.Ytbkehkiflfhpfaa
