/-
  Contracts of aiming: Accept of the code.
-/
import Derived.Test.YtbakdblbknfadaaGreatMn
section
set_option linter.unusedVariables false
set_option linter.unusedSimpArgs false
set_option maxRecDepth 100000
set_option maxHeartbeats 4000000
namespace Go.Proofs.YtbakdblbknfadaaGreat
open Go.V
def badI (s : Scn) (r : Nat → Nat → Int) (st m : Int) (i : Nat) : Bool := !soB s i (r i 0) (r i 1) st m
def accS (s : Scn) (st m : Int) (n : Nat) (r : Nat → Nat → Int) : Int × Int :=
  if 0 ≤ st ∧ st ≤ (s.t.ns : Int) - 1 ∧ alwB s st.toNat = true then
    if m = missS s st.toNat then
      if n = s.t.ns then (if firstFrom (badI s r st m) 0 n < 0 then (0, 0) else (firstFrom (badI s r st m) 0 n, 132))
      else (0, 2)
    else (0, 131)
  else (0, 130)
def accE (t : ATask) (n : Nat) (a : Nat → Nat → Int) (st m : Int) (k : Nat) (r : Nat → Nat → Int) : Int × Int := if askE t n a ≠ 0 then (0, askE t n a) else accS (weighS t n a) st m k r
def rAcc : List V.D → Option (Prop × V.D) := fun ds => match ds with
  | [d, .rsl 6 n g, .agg [.int .i64 st, .int .i64 m, .rsl 2 k h]] => some (AtIs d ∧ IM n 6 g ∧ IM k 2 h ∧ k ≤ 9223372036854775807, .tup [.int .i64 (accE (atOf d) n (im g) st m k (im h)).1, .int .i64 (accE (atOf d) n (im g) st m k (im h)).2])
  | _ => none
theorem accE_1 {t : ATask} {n : Nat} {a : Nat → Nat → Int} {st m : Int} {k : Nat} {r : Nat → Nat → Int} (h : ¬ askE t n a = 0) : accE t n a st m k r = (0, askE t n a) := if_pos h
theorem accE_2 {t : ATask} {n : Nat} {a : Nat → Nat → Int} {st m : Int} {k : Nat} {r : Nat → Nat → Int} (h : askE t n a = 0) : accE t n a st m k r = accS (weighS t n a) st m k r := by unfold accE; rw [h]; rfl
theorem acc_130 {s : Scn} {st m : Int} {n : Nat} {r : Nat → Nat → Int} (h : ¬ (0 ≤ st ∧ st ≤ (s.t.ns : Int) - 1 ∧ alwB s st.toNat = true)) : accS s st m n r = (0, 130) := if_neg h
theorem acc_131 {s : Scn} {st m : Int} {n : Nat} {r : Nat → Nat → Int} (h : 0 ≤ st ∧ st ≤ (s.t.ns : Int) - 1 ∧ alwB s st.toNat = true) (h2 : ¬ m = missS s st.toNat) : accS s st m n r = (0, 131) := by unfold accS; rw [if_pos h, if_neg h2]
theorem acc_2 {s : Scn} {st m : Int} {n : Nat} {r : Nat → Nat → Int} (h : 0 ≤ st ∧ st ≤ (s.t.ns : Int) - 1 ∧ alwB s st.toNat = true) (h2 : m = missS s st.toNat) (h3 : ¬ n = s.t.ns) : accS s st m n r = (0, 2) := by unfold accS; rw [if_pos h, if_pos h2, if_neg h3]
theorem acc_i {s : Scn} {st m : Int} {n : Nat} {r : Nat → Nat → Int} (h : 0 ≤ st ∧ st ≤ (s.t.ns : Int) - 1 ∧ alwB s st.toNat = true) (h2 : m = missS s st.toNat) (h3 : n = s.t.ns) : accS s st m n r = if firstFrom (badI s r st m) 0 n < 0 then (0, 0) else (firstFrom (badI s r st m) 0 n, 132) := by unfold accS; rw [if_pos h, if_pos h2, if_pos h3]
theorem bad_own {s : Scn} {r : Nat → Nat → Int} {st m : Int} {i : Nat} (h : (i : Int) = st) : badI s r st m i = !(decide (r i 0 = 0) && decide (r i 1 = 0)) := by
  unfold badI soB
  rw [if_pos (.inl h)]
  congr 1
  rw [Bool.eq_iff_iff]
  simp [h]
theorem bad_out {s : Scn} {r : Nat → Nat → Int} {st m : Int} {i : Nat} (h : ¬ (i : Int) = st) (h2 : ¬ (0 ≤ r i 1 ∧ r i 1 ≤ 3)) : badI s r st m i = true := by
  unfold badI soB
  by_cases q : r i 0 = 0
  · rw [if_pos (.inr q), decide_eq_false (by omega)]; rfl
  · rw [if_neg (by omega), if_neg h2]; rfl
theorem bad_1 {s : Scn} {r : Nat → Nat → Int} {st m : Int} {i : Nat} (h : ¬ (i : Int) = st) (h1 : r i 0 = 1) (h2 : 0 ≤ r i 1 ∧ r i 1 ≤ 3) : badI s r st m i = !sdB s i (r i 1) := by
  unfold badI soB
  rw [if_neg (by omega), if_pos h2, if_pos h1]
theorem bad_2 {s : Scn} {r : Nat → Nat → Int} {st m : Int} {i : Nat} (h : ¬ (i : Int) = st) (h1 : r i 0 = 2) (h2 : 0 ≤ r i 1 ∧ r i 1 ≤ 3) : badI s r st m i = !farB s i st m (r i 1) := by
  unfold badI soB farB
  rw [if_neg (by omega), if_pos h2, if_neg (by omega)]
  congr 1
  rw [decide_eq_decide]
  by_cases hl : (i : Int) < st
  · rw [if_pos hl]
    exact ⟨fun hh => by have := hh.2; omega, fun hh => ⟨h1, by omega⟩⟩
  · rw [if_neg hl]
    exact ⟨fun hh => by have := hh.2; omega, fun hh => ⟨h1, by omega⟩⟩
theorem bad_0 {s : Scn} {r : Nat → Nat → Int} {st m : Int} {i : Nat} (h : ¬ (i : Int) = st) (h1 : ¬ r i 0 = 1) (h3 : ¬ r i 0 = 2) : badI s r st m i = true := by
  unfold badI soB
  by_cases q : r i 0 = 0
  · rw [if_pos (.inr q), decide_eq_false (by omega)]; rfl
  · rw [if_neg (by omega), if_neg h1, decide_eq_false (by omega)]; split <;> rfl
theorem out_F {a lo hi : Int} (h : out a lo hi = false) : lo ≤ a ∧ a ≤ hi := by
  unfold out at h
  simp at h
  omega
theorem out_T {a lo hi : Int} (h : out a lo hi = true) : ¬ (lo ≤ a ∧ a ≤ hi) := by
  unfold out at h
  simp at h
  omega
attribute [local irreducible] weighS chkA checkBands lowB ScOK askE imp missS alwB sdB farB bestTo whyM ScIs soB accS accE badI
end Go.Proofs.YtbakdblbknfadaaGreat
end
section
set_option linter.unusedVariables false
set_option linter.unusedSimpArgs false
set_option maxRecDepth 100000
set_option maxHeartbeats 4000000
namespace Go.Proofs.YtbakdblbknfadaaGreat
open Go.V
theorem badI_so {s : Scn} {r : Nat → Nat → Int} {st m : Int} {i : Nat} : badI s r st m i = !soB s i (r i 0) (r i 1) st m := rfl
attribute [local irreducible] weighS chkA checkBands lowB ScOK askE imp missS alwB sdB farB bestTo whyM ScIs soB accS accE badI
noncomputable def la27 : Lib := la26
theorem la27_ok : LibOK Go.Proofs.Tryz.prog la27 := la26_ok
def rLAcc : List V.D → Option (Prop × V.D) := fun ds => match ds with
  | [d, .rsl 6 n g, .agg [.int .i64 st, .int .i64 m, .rsl 2 k h]] => some (AtIs d ∧ IM n 6 g ∧ IM k 2 h ∧ k ≤ 9223372036854775807, .tt)
  | _ => none
end Go.Proofs.YtbakdblbknfadaaGreat
end
section
set_option linter.unusedVariables false
set_option linter.unusedSimpArgs false
set_option maxRecDepth 100000
set_option maxHeartbeats 4000000
namespace Go.Proofs.YtbakdblbknfadaaGreat
open Go.V
theorem alw_side {s : Scn} {i : Nat} (h : alwB s i = true) : sdB s i 0 = false ∧ sdB s i 1 = false ∧ sdB s i 2 = false ∧ sdB s i 3 = false := by
  unfold alwB at h
  simp only [Bool.and_eq_true, Bool.not_eq_true'] at h
  exact ⟨h.1, h.2.1, h.2.2.1, h.2.2.2⟩
theorem crn_miss {s : Scn} {i : Nat} {k : Int} (hk : 0 ≤ k ∧ k ≤ 3) : crn s i k ≤ missS s i := by
  have e : k = 0 ∨ k = 1 ∨ k = 2 ∨ k = 3 := by omega
  unfold missS
  rcases e with rfl | rfl | rfl | rfl <;> omega
theorem ff_none {p : Nat → Bool} : ∀ n i, firstFrom p i n < 0 → ∀ j, i ≤ j → j < i + n → p j = false
  | 0, i, _, j, h1, h2 => absurd h2 (by omega)
  | n + 1, i, h, j, h1, h2 => by
    simp only [firstFrom] at h
    split at h
    · omega
    · rename_i q
      by_cases e : j = i
      · rw [e]; simpa using q
      · exact ff_none n (i + 1) h j (by omega) (by omega)
theorem ff_neg {p : Nat → Bool} : ∀ n i, (∀ j, i ≤ j → j < i + n → p j = false) → firstFrom p i n = -1
  | 0, i, _ => rfl
  | n + 1, i, h => by
    simp only [firstFrom]
    rw [if_neg (by rw [h i (Nat.le_refl _) (by omega)]; exact Bool.noConfusion)]
    exact ff_neg n (i + 1) (fun j h1 h2 => h j (by omega) (by omega))
/-- What Accept proves. -/
theorem acc_proves {s : Scn} {st m : Int} {n : Nat} {r : Nat → Nat → Int} (h : (accS s st m n r).2 = 0) : (accS s st m n r).1 = 0 ∧ st = bestTo s s.t.ns ∧ 0 ≤ st ∧ m = missS s st.toNat := by
  unfold accS at h ⊢
  by_cases h1 : 0 ≤ st ∧ st ≤ (s.t.ns : Int) - 1 ∧ alwB s st.toNat = true
  · rw [if_pos h1] at h ⊢
    by_cases h2 : m = missS s st.toNat
    · rw [if_pos h2] at h ⊢
      by_cases h3 : n = s.t.ns
      · rw [if_pos h3] at h ⊢
        by_cases h4 : firstFrom (badI s r st m) 0 n < 0
        · rw [if_pos h4]
          refine ⟨rfl, ?_, h1.1, h2⟩
          have hall := ff_none n 0 h4
          have hle := best_le s s.t.ns st.toNat (by omega) h1.2.2
          have hin := best_in s s.t.ns
          by_cases e : bestTo s s.t.ns = st
          · exact e.symm
          exfalso
          have hb := hall (bestTo s s.t.ns).toNat (Nat.zero_le _) (by omega)
          have ha := alw_side (best_alw s s.t.ns hle.1)
          have hcast : (((bestTo s s.t.ns).toNat : Nat) : Int) = bestTo s s.t.ns := Int.toNat_of_nonneg hle.1
          have hst : ((st.toNat : Nat) : Int) = st := Int.toNat_of_nonneg h1.1
          generalize (bestTo s s.t.ns).toNat = bi at *
          generalize hr0 : r bi 0 = kd at *
          generalize hr1 : r bi 1 = q at *
          unfold badI at hb
          rw [hr0, hr1] at hb
          have hs : soB s bi kd q st m = true := by simpa using hb
          unfold soB at hs
          by_cases g1 : (bi : Int) = st ∨ kd = 0
          · rw [if_pos g1] at hs
            have := of_decide_eq_true hs
            omega
          · rw [if_neg g1] at hs
            by_cases g2 : 0 ≤ q ∧ q ≤ 3
            · rw [if_pos g2] at hs
              by_cases g3 : kd = 1
              · rw [if_pos g3] at hs
                have e : q = 0 ∨ q = 1 ∨ q = 2 ∨ q = 3 := by omega
                rcases e with rfl | rfl | rfl | rfl
                · rw [ha.1] at hs; exact absurd hs (by decide)
                · rw [ha.2.1] at hs; exact absurd hs (by decide)
                · rw [ha.2.2.1] at hs; exact absurd hs (by decide)
                · rw [ha.2.2.2] at hs; exact absurd hs (by decide)
              · rw [if_neg g3] at hs
                have := of_decide_eq_true hs
                have hc := crn_miss (s := s) (i := bi) g2
                omega
            · rw [if_neg g2] at hs
              exact absurd hs (by decide)
        · rw [if_neg h4] at h
          exact absurd h (show ¬ (132 : Int) = 0 by decide)
      · rw [if_neg h3] at h
        exact absurd h (show ¬ (2 : Int) = 0 by decide)
    · rw [if_neg h2] at h
      exact absurd h (show ¬ (131 : Int) = 0 by decide)
  · rw [if_neg h1] at h
    exact absurd h (show ¬ (130 : Int) = 0 by decide)
/-- Accept accepts the best setting with its reasons. -/
theorem acc_best {s : Scn} (h : 0 ≤ bestTo s s.t.ns) : accS s (bestTo s s.t.ns) (missS s (bestTo s s.t.ns).toNat) s.t.ns (whyM s (bestTo s s.t.ns) (missS s (bestTo s s.t.ns).toNat)) = (0, 0) := by
  have hin := best_in s s.t.ns
  have ha := best_alw s s.t.ns h
  rw [acc_i ⟨h, by omega, ha⟩ rfl rfl, if_pos]
  rw [ff_neg s.t.ns 0 (fun i _ hi => ?_)]
  · decide
  have hle := best_le s s.t.ns i
  generalize hb : bestTo s s.t.ns = b at *
  generalize hm : missS s b.toNat = m at *
  show (!soB s i (whyK s i b) (whyA s i b m) b m) = false
  by_cases e : (i : Int) = b
  · have e1 : whyK s i b = 0 := by unfold whyK; rw [if_pos e]
    have e2 : whyA s i b m = 0 := by unfold whyA; rw [if_pos e]
    rw [e1, e2]
    unfold soB
    rw [if_pos (.inl e), decide_eq_true ⟨e, rfl, rfl⟩]
    rfl
  · have e2 : whyA s i b m = firstFrom (mkB s i b m) 0 4 := by unfold whyA; rw [if_neg e]
    obtain ⟨k0, hk0, hm0⟩ := mk_some (m := m) e (fun qa => by
      have := hle (by omega) qa
      exact ⟨this.2.1, this.2.2⟩)
    have hff : ¬ firstFrom (mkB s i b m) 0 4 < 0 := fun q => by
      have := ff_none 4 0 q k0 (Nat.zero_le _) (by omega)
      rw [hm0] at this
      exact absurd this (by decide)
    have hx : ∃ k : Nat, k ≤ 3 ∧ firstFrom (mkB s i b m) 0 4 = (k : Int) ∧ mkB s i b m k = true := by
      by_cases c0 : mkB s i b m 0 = true
      · exact ⟨0, by omega, by simp [firstFrom, c0], c0⟩
      by_cases c1 : mkB s i b m 1 = true
      · exact ⟨1, by omega, by simp [firstFrom, c0, c1], c1⟩
      by_cases c2 : mkB s i b m 2 = true
      · exact ⟨2, by omega, by simp [firstFrom, c0, c1, c2], c2⟩
      by_cases c3 : mkB s i b m 3 = true
      · exact ⟨3, by omega, by simp [firstFrom, c0, c1, c2, c3], c3⟩
      exact absurd (by simp [firstFrom, c0, c1, c2, c3]) hff
    obtain ⟨k, hk, h1, h2⟩ := hx
    rw [e2, h1, so_mk e hk, h2]
    rfl
def foundB (l : List Nat) (st : Int) : Nat → Bool
  | 0 => false
  | k + 1 => foundB l st k || decide (listM l k 0 = st)
theorem found_mem {l : List Nat} {st : Int} {i : Nat} (hl : listM l i 0 = st) : ∀ k, i < k → foundB l st k = true
  | 0, h => absurd h (Nat.not_lt_zero _)
  | k + 1, h => by
    by_cases e : i = k
    · subst e; simp [foundB, hl]
    · simp [foundB, found_mem hl k (by omega)]
theorem alw_at (s : Scn) {j : Nat} (h : alwB s j = true) : ∀ k, j < k → ∃ i, i < (alwTo s k).length ∧ listM (alwTo s k) i 0 = j
  | 0, q => absurd q (Nat.not_lt_zero _)
  | k + 1, q => by
    by_cases e : j = k
    · subst e
      rw [alw_yes h]
      exact ⟨(alwTo s j).length, by simp, listM_last _ _⟩
    · obtain ⟨i, h1, h2⟩ := alw_at s h k (by omega)
      by_cases g : alwB s k = true
      · rw [alw_yes g]
        exact ⟨i, by simp; omega, by rw [listM_app _ _ h1]; exact h2⟩
      · rw [alw_no (by simpa using g)]
        exact ⟨i, h1, h2⟩
theorem alw_is (s : Scn) : ∀ k i, i < (alwTo s k).length → alwB s (listM (alwTo s k) i 0).toNat = true
  | 0, i, h => absurd h (Nat.not_lt_zero _)
  | k + 1, i, h => by
    by_cases q : alwB s k = true
    · rw [alw_yes q] at h ⊢
      rw [List.length_append] at h
      by_cases hi : i < (alwTo s k).length
      · rw [listM_app _ _ hi]
        exact alw_is s k i hi
      · have : i = (alwTo s k).length := by simp at h; omega
        rw [this, listM_last]
        exact q
    · rw [alw_no (by simpa using q)] at h ⊢
      exact alw_is s k i h
end Go.Proofs.YtbakdblbknfadaaGreat
end
section
set_option linter.unusedVariables false
set_option linter.unusedSimpArgs false
set_option maxRecDepth 100000
set_option maxHeartbeats 4000000
namespace Go.Proofs.YtbakdblbknfadaaGreat
open Go.V
def rLeadsA : List V.D → Option (Prop × V.D) := fun ds => match ds with
  | [d, .rsl 6 n g, .int .i64 st, .int .i64 m] => some (AtIs d ∧ IM n 6 g ∧ askE (atOf d) n (im g) = 0 ∧ 0 ≤ st ∧ st = bB (atOf d) n (im g) ∧ m = bM (atOf d) n (im g), .tt)
  | _ => none
theorem bM_eq {t : ATask} {n : Nat} {a : Nat → Nat → Int} : bM t n a = missS (weighS t n a) (bB t n a).toNat := rfl
theorem bB_eq {t : ATask} {n : Nat} {a : Nat → Nat → Int} : bB t n a = bestTo (weighS t n a) t.ns := rfl
attribute [local irreducible] weighS chkA checkBands lowB ScOK askE askI imp missS alwB sdB farB bestTo whyM ScIs soB accS accE badI bB bM bE foundB listM
noncomputable def la28 : Lib := la27
theorem la28_ok : LibOK Go.Proofs.Tryz.prog la28 := la27_ok
end Go.Proofs.YtbakdblbknfadaaGreat
end
