/-
  The law WindCovers is proved: bands cover themselves; what covers others covers what these cover; at each height the spans of bands that are covered lie in those of the others, for any lists and height. No condition.
-/
import Derived.Test.YtbkehkiflfhpfaaMg
import Derived.Test.YtbkehkiflfhpfaaMf
section
set_option linter.unusedVariables false
set_option linter.unusedSimpArgs false
set_option maxRecDepth 100000
set_option maxHeartbeats 4000000
namespace Go.Proofs.Ytbkehkiflfhpfaa
open Go.V
attribute [local irreducible] checkBands overT coversT covB
def rLCovers : List V.D → Option (Prop × V.D) := fun ds => match ds with
  | [.agg [.rsl 6 n g, .rsl 6 m h, .rsl 6 l j], .int .i64 x] => some (IM n 6 g ∧ IM m 6 h ∧ IM l 6 j, .tt)
  | _ => none
theorem lawCovers_ok : PSound Go.Proofs.Try.prog 18 (mk rLCovers) := by
  refine psound_mk Try.func18 (by kernel_rfl) rfl (ctx lib40_ok) ?_
  (intro ds p d h; unfold rLCovers at h; split at h <;> first | (cases h; done) | skip; cases h; refine ⟨Nat.le_of_ble_eq_true rfl, fun hp k hk => ?_⟩)
  rename_i n g m h l j x
  obtain ⟨h1, h2, h3⟩ := hp
  refine ⟨[.agg [.rsl 6 n (imD (im g)), .rsl 6 m (imD (im h)), .rsl 6 l (imD (im j))], .int .i64 x], rfl, h1, rfl, h2, rfl, h3, rfl, ?_⟩
  clear h1 h2 h3
  generalize im g = a at *
  generalize im h = b at *
  generalize im j = c at *
  have F0 : (coversT n a m b).2 ≠ 0 → (coversT n a m b).1 = false := covT_bad
  have F1 : (coversT m b l c).2 ≠ 0 → (coversT m b l c).1 = false := covT_bad
  have F2 : (coversT n a m b).2 = 0 → (coversT m b l c).2 = 0 → (coversT n a l c).2 = 0 ∧ (coversT n a n a).2 = 0 ∧ (coversT n a n a).1 = true ∧ ((coversT n a m b).1 = true → (coversT m b l c).1 = true → (coversT n a l c).1 = true) := fun g1 g2 => by
    obtain ⟨c1, c2⟩ := covT_chk g1
    obtain ⟨c3, c4⟩ := covT_chk g2
    have hA := bands_ok c1
    rw [covT_mk c1 c4, covT_mk c1 c1, covT_mk c1 c2, covT_mk c3 c4]
    simp only [covB_iff]
    exact ⟨trivial, trivial, .refl hA, fun q1 q2 => q1.trans hA (bands_ok c2) (bands_ok c4) q2⟩
  have F3 : (coversT n a m b).2 = 0 → (coversT n a m b).1 = true → (overT m b x).2 = 0 →
      (overT n a x).2 = 0 ∧ (overT n a x).1.xl ≤ (overT m b x).1.xl ∧ (overT m b x).1.xh ≤ (overT n a x).1.xh ∧ (overT n a x).1.yl ≤ (overT m b x).1.yl ∧ (overT m b x).1.yh ≤ (overT n a x).1.yh := fun g1 g2 g3 => by
    obtain ⟨c1, c2⟩ := covT_chk g1
    rw [covT_mk c1 c2, covB_iff] at g2
    exact over_cov c1 g2 g3
  repeat' (first | with_reducible rfl | ((conv => whnf); first | (with_reducible exact trivial) | ((with_reducible refine and_ff ?_ ?_); · exact rfl) | ((with_reducible refine and_tt ?_ ?_); · exact rfl) | (with_reducible refine And.intro ?_ ?_) | intro _ | (with_reducible refine fin2 hk ?_) | ((with_reducible refine eq_leaf ?_); exact rfl) | exact trivial))
  all_goals clear hk
  all_goals simp only [taskOf_agg, ↓Bool.not_eq_true', ↓Bool.not_eq_false', ↓decT, ↓decF, out_true, out_false, isin_true, isin_false, Int.toNat_natCast, Int.ofNat_lt, Nat.zero_add, Nat.add_zero, Nat.reduceAdd, Int.toNat_zero, Int.reduceToNat, ↓reduceIte, reduceCtorEq, Bool.or_eq_true, Bool.or_eq_false_iff, Bool.and_eq_true, Bool.and_eq_false_iff, im_imD] at *
  all_goals exfalso
  all_goals first
    | omega
    | (simp_all only [reduceCtorEq, ne_eq, not_false_eq_true, forall_const, not_true_eq_false]; done)
    | (have f2 := F2 (by assumption) (by assumption); clear F0 F1 F2 F3; simp_all only [reduceCtorEq, ne_eq, not_false_eq_true, forall_const, not_true_eq_false]; done)
    | (have f3 := F3 (by assumption) (by assumption) (by assumption); clear F0 F1 F2 F3; omega)
    | (have f3 := F3 (by assumption) (by assumption) (by assumption); clear F0 F1 F2 F3; simp_all; done)
    | (have f2 := F2 (by assumption) (by assumption); clear F0 F1 F2 F3; simp_all; done)
end Go.Proofs.Ytbkehkiflfhpfaa
end
section
set_option linter.unusedVariables false
set_option linter.unusedSimpArgs false
set_option maxRecDepth 100000
namespace Go.Proofs.Ytbkehkiflfhpfaa
open Go.V

theorem windCovers_lifted (os : Os) (started : os.Started) (H : Type) (enc : TypeId × Value → H) :
    ReturnsInHanded {} Try.checked os 18 .any (Rows.windCoversSpec.pre6 enc Go.Proofs.Try.prog Try.f18 Rows.windCoversRow.domain false) (Rows.windCoversSpec.post enc Go.Proofs.Try.prog Try.f18 false Rows.windCoversRow.fresh Rows.windCoversRow.handsOn Rows.windCoversRow.again) := by
  refine returnsInHanded_of_change (C := Try.checked) own started (by kernel_rfl) Try.func18
    (ChangeSpec.witness6 (enc := enc) (C := Try.checked) false ⟨#[], #[.agg #[.slice none 0 0, .slice none 0 0, .slice none 0 0], .int .i64 0], []⟩ 8 (by kernel_rfl) (by kernel_rfl) (by kernel_rfl) (by kernel_rfl)) ?_
  intro W base args ds gs before hok hW _ _
  refine law_contract (l := [.agg [bandsK, bandsK, bandsK], .one (.int .i64)]) (tb := 4) laid_ok lawCovers_ok (by kernel_rfl) (by kernel_rfl) rfl tbool (fun ds h => ?_) rfl (fun ds hd => ?_) W base args ds gs before hok hW
  · obtain ⟨d, e, rfl, h1, h2⟩ := isAL2 h
    obtain ⟨xs, rfl, hl, hx⟩ := h1
    match xs, hl with
    | [y0, y1, y2], _ =>
      obtain ⟨n, g, rfl, hg⟩ := bands_of_kinds (f := 3) (hx 0 _ _ rfl rfl)
      obtain ⟨m, g', rfl, hg'⟩ := bands_of_kinds (f := 3) (hx 1 _ _ rfl rfl)
      obtain ⟨l, g'', rfl, hg''⟩ := bands_of_kinds (f := 3) (hx 2 _ _ rfl rfl)
      obtain ⟨x, rfl, _⟩ := int_of_kinds (f := 4) h2
      exact ⟨_, _, rfl, ⟨hg, hg', hg''⟩, .inl rfl⟩
  · match ds, hd with
    | [a, b], _ => exact ⟨rfl, rfl, rfl⟩
theorem windCovers_holds : Rows.WindCoversSaid :=
  OpenClaim.holds_of_wide 18 Try.f18 rfl rfl rfl rfl rfl rfl rfl ⟨rfl, rfl, rfl, rfl, rfl⟩ rfl rfl rfl rfl rfl (by kernel_rfl) Try.func18 (by kernel_rfl)
    (of_decide_eq_true (by kernel_rfl)) (by unfold Func.isWrapper; first | (rw [if_pos (by decide +kernel)]; kernel_rfl) | (rw [if_neg (by decide +kernel)]; exact ⟨rfl, rfl⟩))
    (fun os started H enc _ => windCovers_lifted os started H enc)
#print axioms windCovers_holds
end Go.Proofs.Ytbkehkiflfhpfaa
end
