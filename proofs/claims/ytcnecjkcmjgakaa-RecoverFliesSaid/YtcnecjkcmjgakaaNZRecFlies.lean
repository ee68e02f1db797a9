/-
  The law RecoverFlies is proved: a flight takes the least number of ticks that is enough, as long in both directions, and no flight over a third place is shorter, for any task and places. No condition.
-/
import Derived.Test.YtcnecjkcmjgakaaMs
section
set_option linter.unusedVariables false
set_option linter.unusedSimpArgs false
set_option maxRecDepth 100000
set_option maxHeartbeats 4000000
namespace Go.Proofs.Ytcnecjkcmjgakaa
open Go.V
structure FlF (t : RTask) (ax ay bx bz : Int) : Prop where
  a : 0 ≤ flOf t ax ay bx bz ∧ flOf t ax ay bx bz ≤ 402000000
  m : 0 ≤ flOf t ax ay bx bz * t.speed ∧ flOf t ax ay bx bz * t.speed ≤ 402000000
  yes : (ax - bx) * (ax - bx) + (ay - bz) * (ay - bz) ≤ flOf t ax ay bx bz * t.speed * (flOf t ax ay bx bz * t.speed)
  no : 0 < flOf t ax ay bx bz → (flOf t ax ay bx bz * t.speed - t.speed) * (flOf t ax ay bx bz * t.speed - t.speed) < (ax - bx) * (ax - bx) + (ay - bz) * (ay - bz)
theorem flF {t : RTask} (hs : 1 ≤ t.speed ∧ t.speed ≤ 1000000) {ax ay bx bz : Int} (h1 : spot ax) (h2 : spot ay) (h3 : spot bx) (h4 : spot bz) : FlF t ax ay bx bz := by
  have hin := flOf_in hs h1 h2 h3 h4
  unfold spot at h1 h2 h3 h4
  have X := sq_in (x := ax - bx) (A := 200000000) (by omega) (by decide)
  have Y := sq_in (x := ay - bz) (A := 200000000) (by omega) (by decide)
  have F := flHi (s := t.speed) (x := ax - bx) (y := ay - bz) (M := 200000000) hs (by decide) (by omega) (by omega)
  have I := flS_is (s := t.speed) (d := farS ax ay bx bz) hs.1 (far_nonneg _ _ _ _) (by unfold farS; omega)
  have e : flOf t ax ay bx bz = flS t.speed (farS ax ay bx bz) := rfl
  rw [← e] at I
  have le := I.le (by have := F.lo; omega) F.yes
  have ml := Int.mul_le_mul_of_nonneg_right (c := t.speed) le (by omega)
  have m0 : 0 ≤ flOf t ax ay bx bz * t.speed := Int.mul_nonneg hin.1 (by omega)
  have hy := I.yes
  unfold enough at hy
  rw [decide_eq_true_eq] at hy
  refine ⟨hin, ⟨m0, Int.le_trans ml F.hi⟩, hy, fun h => ?_⟩
  have hn := I.no (flOf t ax ay bx bz - 1) (by omega) (by omega)
  unfold enough at hn
  rw [decide_eq_false_iff_not] at hn
  have e2 : (flOf t ax ay bx bz - 1) * t.speed = flOf t ax ay bx bz * t.speed - t.speed := by rw [Int.sub_mul, Int.one_mul]
  rw [e2] at hn
  have : farS ax ay bx bz = (ax - bx) * (ax - bx) + (ay - bz) * (ay - bz) := rfl
  omega
theorem fl_third {t : RTask} (hs : 1 ≤ t.speed ∧ t.speed ≤ 1000000) {ax ay bx bz cx cz : Int} (h1 : spot ax) (h2 : spot ay) (h3 : spot bx) (h4 : spot bz) (h5 : spot cx) (h6 : spot cz) : flOf t ax ay bx bz ≤ flOf t ax ay cx cz + flOf t cx cz bx bz := by
  have I : ∀ {ax ay bx bz : Int}, spot ax → spot ay → spot bx → spot bz → IsFl t.speed (farS ax ay bx bz) (flOf t ax ay bx bz) := fun {ax ay bx bz} h1 h2 h3 h4 => by
    unfold spot at h1 h2 h3 h4
    have X := sq_in (x := ax - bx) (A := 200000000) (by omega) (by decide)
    have Y := sq_in (x := ay - bz) (A := 200000000) (by omega) (by decide)
    exact flS_is (s := t.speed) (d := farS ax ay bx bz) hs.1 (far_nonneg _ _ _ _) (by unfold farS; omega)
  exact fl_tri (by omega) (I h1 h2 h5 h6) (I h5 h6 h3 h4) (I h1 h2 h3 h4)
theorem flightT_ok {t : RTask} {ax ay bx bz : Int} (h : (flightT t ax ay bx bz).2 = 0) : (checkR t).2.2 = 0 ∧ (spot ax ∧ spot ay) ∧ (spot bx ∧ spot bz) ∧ (flightT t ax ay bx bz).1 = flOf t ax ay bx bz := by
  unfold flightT at h ⊢
  by_cases h1 : (checkR t).2.2 ≠ 0
  · rw [if_pos h1] at h; exact absurd h h1
  · rw [if_neg h1] at h ⊢
    by_cases h2 : ((isin ax (-100000000) 100000000 && isin ay (-100000000) 100000000) && (isin bx (-100000000) 100000000 && isin bz (-100000000) 100000000)) = false
    · rw [if_pos h2] at h; exact absurd h (by decide)
    · rw [if_neg h2] at h ⊢
      simp only [Bool.not_eq_false, Bool.and_eq_true, isin_true] at h2
      exact ⟨Decidable.not_not.1 h1, ⟨h2.1.1, h2.1.2⟩, ⟨h2.2.1, h2.2.2⟩, rfl⟩
def rLFlies : List V.D → Option (Prop × V.D) := fun ds => match ds with
  | [d, .agg [.int .i64 a, .int .i64 b, .int .i64 c, .int .i64 e, .int .i64 f, .int .i64 g]] => some (RtIs d ∧ (rtOf d).fits, .tt)
  | _ => none
attribute [local irreducible] exR checkR visitsN leftsN visN leftM leftsL cellT landT planA planB winA sameB flightT cellsN cellM cellsL flOf
theorem lawFlies_ok : PSound Go.Proofs.Try.prog 10 (mk rLFlies) := by
  refine psound_mk Try.func10 (by kernel_rfl) rfl (ctx lr42_ok) ?_
  (intro ds p d h; unfold rLFlies at h; split at h <;> first | (cases h; done) | skip; cases h; refine ⟨Nat.le_of_ble_eq_true rfl, fun hp k hk => ?_⟩)
  rename_i d a b c e f g
  obtain ⟨ht, hf⟩ := hp
  refine ⟨[(rtOf d).D, .agg [.int .i64 a, .int .i64 b, .int .i64 c, .int .i64 e, .int .i64 f, .int .i64 g]], rt_imp ht ⟨rfl, rfl, rfl, rfl, rfl, rfl, ?_⟩⟩
  clear ht
  generalize rtOf d = t at *
  have F1 := flightT_ok (t := t) (ax := a) (ay := b) (bx := c) (bz := e)
  have F2 := flightT_ok (t := t) (ax := c) (ay := e) (bx := a) (bz := b)
  have F3 := flightT_ok (t := t) (ax := a) (ay := b) (bx := f) (bz := g)
  have F4 := flightT_ok (t := t) (ax := f) (ay := g) (bx := c) (bz := e)
  repeat' (first | ((with_reducible refine kok ?_); kernel_rfl) | ((with_reducible refine keq_mk ?_); kernel_rfl) | with_reducible rfl | ((conv => whnf); first | (with_reducible exact trivial) | ((with_reducible refine and_ff ?_ ?_); · exact rfl) | ((with_reducible refine and_tt ?_ ?_); · exact rfl) | (with_reducible refine And.intro ?_ ?_) | intro _ | (with_reducible refine fin2 hk ?_) | ((with_reducible refine eq_leaf ?_); exact rfl) | exact trivial))
  all_goals try exact hf _ (by assumption)
  all_goals try omega
  all_goals (clear hk; try simp only [rtOf_agg, taskOf_agg, ↓Bool.not_eq_true', ↓Bool.not_eq_false', ↓decT, ↓decF, out_true, out_false, isin_true, isin_false, Int.toNat_natCast, Int.ofNat_lt, Nat.zero_add, Nat.add_zero, Nat.reduceAdd, Decidable.not_not, List.getD_cons_zero, List.getD_cons_succ] at *)
  all_goals (obtain ⟨c1, ⟨s1, s2⟩, ⟨s3, s4⟩, e1⟩ := F1 (by assumption))
  all_goals (obtain ⟨_, _, _, e2⟩ := F2 (by assumption))
  all_goals (obtain ⟨_, _, ⟨s5, s6⟩, e3⟩ := F3 (by assumption))
  all_goals (obtain ⟨_, _, _, e4⟩ := F4 (by assumption))
  all_goals (have hs := (rt_ok c1).speed)
  all_goals (obtain ⟨g1, g2, g3, g4⟩ := flF hs s1 s2 s3 s4)
  all_goals (obtain ⟨g5, g6, g7, g8⟩ := flF hs s1 s2 s5 s6)
  all_goals (obtain ⟨g9, g10, g11, g12⟩ := flF hs s5 s6 s3 s4)
  all_goals (have T := fl_third hs s1 s2 s3 s4 s5 s6)
  all_goals (have C := flOf_comm t c e a b)
  all_goals (rw [C] at e2)
  all_goals (try simp only [e1, e2, e3, e4] at *)
  all_goals (clear F1 F2 F3 F4 g6 g7 g8 g10 g11 g12; unfold spot at s1 s2 s3 s4)
  all_goals (have X := sq_in (x := a - c) (A := 200000000) (by omega) (by decide))
  all_goals (have Y := sq_in (x := b - e) (A := 200000000) (by omega) (by decide))
  all_goals (have M := sq_in (x := flOf t a b c e * t.speed) (A := 402000000) (by omega) (by decide))
  all_goals (have M2 := sq_in (x := flOf t a b c e * t.speed - t.speed) (A := 402000000) (by omega) (by decide))
  all_goals try omega
  all_goals try (exfalso; omega)
  all_goals exact absurd trivial (by assumption)
end Go.Proofs.Ytcnecjkcmjgakaa
end
section
set_option linter.unusedVariables false
set_option linter.unusedSimpArgs false
set_option maxRecDepth 100000
namespace Go.Proofs.Ytcnecjkcmjgakaa
open Go.V

theorem recoverFlies_lifted (os : Os) (started : os.Started) (H : Type) (enc : TypeId × Value → H) :
    ReturnsInHanded {} Try.checked os 10 .any (Rows.recoverFliesSpec.pre6 enc Go.Proofs.Try.prog Try.f10 Rows.recoverFliesRow.domain false) (Rows.recoverFliesSpec.post enc Go.Proofs.Try.prog Try.f10 false Rows.recoverFliesRow.fresh Rows.recoverFliesRow.handsOn Rows.recoverFliesRow.again) := by
  refine returnsInHanded_of_change (C := Try.checked) own started (by kernel_rfl) Try.func10
    (ChangeSpec.witness6 (enc := enc) (C := Try.checked) false ⟨#[], #[.agg #[.int .i64 0, .int .i64 0, .int .i64 0, .int .i64 0, .int .i64 0, .slice none 0 0, .slice none 0 0, .int .i64 0, .int .i64 0, .int .i64 0, .int .i64 0, .int .i64 0, .int .i64 0, .int .i64 0], .agg #[.int .i64 0, .int .i64 0, .int .i64 0, .int .i64 0, .int .i64 0, .int .i64 0]], []⟩ 8 (by kernel_rfl) (by kernel_rfl) (by kernel_rfl) (by kernel_rfl)) ?_
  intro W base args ds gs before hok hW _ _
  refine law_contract (l := [rtK, .agg (ints 6)]) (tb := 4) laid_ok lawFlies_ok (by kernel_rfl) (by kernel_rfl) rfl tbool (fun ds h => ?_) rfl (fun ds hd => ?_) W base args ds gs before hok hW
  · obtain ⟨d, e, rfl, h1, h2⟩ := isAL2 h
    obtain ⟨a, b, c, f, g, i, rfl⟩ := ints6 h2
    exact ⟨_, _, rfl, rt_of_kinds h1, .inl rfl⟩
  · match ds, hd with
    | [a, b], _ => exact ⟨rfl, rfl, rfl⟩
theorem recoverFlies_holds : Rows.RecoverFliesSaid :=
  OpenClaim.holds_of_wide 10 Try.f10 rfl rfl rfl rfl rfl rfl rfl ⟨rfl, rfl, rfl, rfl, rfl⟩ rfl rfl rfl rfl rfl (by kernel_rfl) Try.func10 (by kernel_rfl)
    (of_decide_eq_true (by kernel_rfl)) (by unfold Func.isWrapper; first | (rw [if_pos (by decide +kernel)]; kernel_rfl) | (rw [if_neg (by decide +kernel)]; exact ⟨rfl, rfl⟩))
    (fun os started H enc _ => recoverFlies_lifted os started H enc)
#print axioms recoverFlies_holds
end Go.Proofs.Ytcnecjkcmjgakaa
end
