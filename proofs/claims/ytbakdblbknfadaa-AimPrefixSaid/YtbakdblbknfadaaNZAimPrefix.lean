/-
  The law AimPrefix is proved: what Rounds tells of a round does not depend on later ticks, for any task and winds. No condition.
-/
import Derived.Test.YtbakdblbknfadaaMq
section
set_option linter.unusedVariables false
set_option linter.unusedSimpArgs false
set_option maxRecDepth 100000
set_option maxHeartbeats 4000000
namespace Go.Proofs.Ytbakdblbknfadaa
open Go.V
attribute [local irreducible] weighS chkA checkS bandsT bandA lowB ScOK imp missS alwB bestTo rndE noB scR keepR canR stR nextR setR misR setTo anyBelow checkBands
theorem rnd_pre {t : ATask} {u : Task} {la : Int} {n m : Nat} {w : Nat → Nat → Int} (o : RndOK t u la n w) (h : m ≤ n) {v : Nat → Nat → Int} (hv : ∀ i, i < m → v i 0 = w i 0) : rndE t u la m v = 0 :=
  rnd_mk (by rw [o.am.check]) ⟨o.am, o.chk, o.la0, Nat.le_trans h o.len, fun i hi => by rw [hv i hi]; exact o.now i (by omega), fun i hi => by rw [hv i (by omega), hv (i + 1) hi]; exact o.up i (by omega)⟩
theorem setTo_w {t : ATask} {u : Task} {la : Int} {v w : Nat → Nat → Int} {m : Nat} (h : ∀ i, i < m → v i 0 = w i 0) : ∀ i, i ≤ m → setTo t u la v i = setTo t u la w i
  | 0, _ => by delta setTo; rfl
  | i + 1, hi => by
    have ih := setTo_w (t := t) (u := u) (la := la) h i (by omega)
    have e1 : ∀ w, setTo t u la w (i + 1) = nextR t u la (w i 0) (setTo t u la w i) := fun w => by delta setTo; rfl
    rw [e1, e1, ih, h i (by omega)]
theorem rndA_w {t : ATask} {u : Task} {la : Int} {v w : Nat → Nat → Int} {m : Nat} (h : ∀ i, i < m → v i 0 = w i 0) {i : Nat} (hi : i < m) (j : Nat) : rndA t u la v i j = rndA t u la w i j := by
  unfold rndA
  rw [setTo_w h (i + 1) (by omega), setTo_w h i (by omega), h i hi]
theorem lawAPrefix_ok : PSound Go.Proofs.Try.prog 5 (mk rLWin) := by
  refine psound_mk Try.func5 (by kernel_rfl) rfl (ctx la36_ok) ?_
  (intro ds p d h; unfold rLWin at h; split at h <;> first | (cases h; done) | skip; cases h; refine ⟨Nat.le_of_ble_eq_true rfl, fun hp k hk => ?_⟩)
  rename_i d x
  obtain ⟨ht, hx⟩ := hp
  have hf := at_fits ht
  have hwf := win_fits hx
  refine ⟨[(atOf d).D, winD (wTask x) (wLa x) (wN x) (wA x)], at_imp ht (win_imp hx ?_)⟩
  clear ht hx
  generalize atOf d = t at *
  generalize wTask x = u at *
  generalize wLa x = la at *
  generalize wN x = n at *
  generalize wA x = w at *
  by_cases e0 : rndE t u la n w = 0
  rotate_left
  · have E : ifn (rndE t u la n w) n = 0 := ifn_ne e0
    repeat' (first | ((with_reducible refine kok ?_); kernel_rfl) | ((with_reducible refine keq_mk ?_); kernel_rfl) | with_reducible rfl | ((conv => whnf); first | (with_reducible exact trivial) | ((with_reducible refine and_ff ?_ ?_); · exact rfl) | ((with_reducible refine and_tt ?_ ?_); · exact rfl) | (with_reducible refine And.intro ?_ ?_) | intro _ | (with_reducible refine fin2 hk ?_) | ((with_reducible refine eq_leaf ?_); exact rfl) | exact trivial))
    all_goals clear hk
    all_goals try first | exact hf.1 | exact hf.2 | exact hwf.1 _ (by assumption)
    all_goals (exfalso; simp only [atOf_agg, taskOf_agg, im_imD, E, taskOf_agg, ↓Bool.not_eq_true', ↓Bool.not_eq_false', ↓decT, ↓decF, out_true, out_false, isin_true, isin_false, Int.toNat_natCast, Int.ofNat_lt, Nat.zero_add, Nat.add_zero, Nat.reduceAdd] at *; first | contradiction | omega | (exact absurd rfl (by assumption)))
  have o := rnd_ok e0
  have hla := o.la0
  have hn := o.len
  have E : ifn (rndE t u la n w) n = n := by rw [e0]; rfl
  repeat' (first | ((with_reducible refine kok ?_); kernel_rfl) | ((with_reducible refine keq_mk ?_); kernel_rfl) | with_reducible rfl | ((conv => whnf); first | (with_reducible exact trivial) | ((with_reducible refine and_ff ?_ ?_); · exact rfl) | ((with_reducible refine and_tt ?_ ?_); · exact rfl) | (with_reducible refine And.intro ?_ ?_) | intro _ | (with_reducible refine fin2 hk ?_) | ((with_reducible refine eq_leaf ?_); exact rfl) | exact trivial))
  all_goals try first | exact hf.1 | exact hf.2 | exact hwf.1 _ (by assumption)
  all_goals try (exfalso; clear hk; simp only [atOf_agg, taskOf_agg, im_imD, E, taskOf_agg, ↓Bool.not_eq_true', ↓Bool.not_eq_false', ↓decT, ↓decF, out_true, out_false, isin_true, isin_false, Int.toNat_natCast, Int.ofNat_lt, Nat.zero_add, Nat.add_zero, Nat.reduceAdd] at *; first | contradiction | omega | (exact absurd rfl (by assumption)))
  conv => whnf
  refine ⟨Nat, fun i => [(2, .ptr 0 0), (3, .ptr 1 0), (5, .rsl 4 n (rndA t u la w)), (7, .int .i64 i)],
    fun i => [some (.row t.cells), some (.row [.rsl 7 u.ns (smD u.nm u.sa), .rsl 5 u.nx (imD u.xa), .rsl 1 u.nc (imD u.ca), .int .i64 u.age, .int .i64 u.shear, .int .i64 la, .rsl 1 n (imD w)])],
    fun i => n - i, fun i => i ≤ n, [], 0, fun _ => ⟨rfl, rfl⟩, ?_, fun i hi => ?_⟩
  · clear hk
    repeat' (first | ((with_reducible refine kok ?_); kernel_rfl) | ((with_reducible refine keq_mk ?_); kernel_rfl) | with_reducible rfl | ((conv => whnf); first | (with_reducible exact trivial) | ((with_reducible refine and_ff ?_ ?_); · exact rfl) | ((with_reducible refine and_tt ?_ ?_); · exact rfl) | (with_reducible refine And.intro ?_ ?_) | intro _ | (with_reducible refine fin2 hk ?_) | ((with_reducible refine eq_leaf ?_); exact rfl) | exact trivial))
    all_goals first
      | exact Nat.zero_le _
      | exact E
      | rfl
      | skip
  have hi : i ≤ n := hi
  conv => whnf
  refine ⟨fun g1 => ?_, fun g1 => ?_⟩
  rotate_left
  · repeat' (first | ((with_reducible refine kok ?_); kernel_rfl) | ((with_reducible refine keq_mk ?_); kernel_rfl) | with_reducible rfl | ((conv => whnf); first | (with_reducible exact trivial) | ((with_reducible refine and_ff ?_ ?_); · exact rfl) | ((with_reducible refine and_tt ?_ ?_); · exact rfl) | (with_reducible refine And.intro ?_ ?_) | intro _ | (with_reducible refine fin2 hk ?_) | ((with_reducible refine eq_leaf ?_); exact rfl) | exact trivial))
    skip
  have hlt : i < n := by have := of_decide_eq_true g1; omega
  have hv : ∀ j, j < ((i : Int)).toNat - Int.toNat 0 → (im fun a b => imD w (Int.toNat 0 + a) b) j 0 = w j 0 := fun j _ => by
    show w (0 + j) 0 = w j 0
    rw [Nat.zero_add]
  have P0 : rndE t u la (((i : Int)).toNat - Int.toNat 0) (im fun a b => imD w (Int.toNat 0 + a) b) = 0 := rnd_pre o (by show i - 0 ≤ n; omega) hv
  have P1 : ifn (rndE t u la (((i : Int)).toNat - Int.toNat 0) (im fun a b => imD w (Int.toNat 0 + a) b)) (((i : Int)).toNat - Int.toNat 0) = ((i : Int)).toNat - Int.toNat 0 := by rw [P0]; rfl
  repeat' (first | ((with_reducible refine kok ?_); kernel_rfl) | ((with_reducible refine keq_mk ?_); kernel_rfl) | with_reducible rfl | ((conv => whnf); first | (with_reducible exact trivial) | ((with_reducible refine and_ff ?_ ?_); · exact rfl) | ((with_reducible refine and_tt ?_ ?_); · exact rfl) | (with_reducible refine And.intro ?_ ?_) | intro _ | (with_reducible refine fin2 hk ?_) | ((with_reducible refine eq_leaf ?_); exact rfl) | exact trivial))
  all_goals try ((first | with_reducible refine (?_ : (_ : Int) ≤ _) | with_reducible refine (?_ : (_ : Int) < _)); clear hk; omega)
  all_goals try first | exact hf.1 | exact hf.2 | exact hwf.1 _ (by assumption)
  all_goals clear hk
  all_goals try (
    exfalso
    have z := (by assumption : (!decide (rndE t u la (((i : Int)).toNat - Int.toNat 0) (im fun a b => imD w (Int.toNat 0 + a) b) = 0)) = true)
    rw [P0] at z
    exact absurd z (by decide))
  all_goals try exact P1
  · exact Nat.le_trans (Nat.le_of_eq P1) (by show i - 0 ≤ 1099511627776; omega)
  · rename_i i' j' hi' hj'
    have hi2 : i' < ((i : Int)).toNat - Int.toNat 0 := Nat.lt_of_lt_of_le hi' (Nat.le_of_eq P1)
    refine Eq.trans ?_ (rndA_w hv hi2 j').symm
    show rndA t u la w (0 + i') j' = rndA t u la w i' j'
    rw [Nat.zero_add]
  · exfalso
    rename_i z
    have z : (!decide (w i 0 = w i 0)) = true := z
    simp at z
  · conv => whnf
    refine ⟨i + 1, ?_⟩
    repeat' (first | ((with_reducible refine kok ?_); kernel_rfl) | ((with_reducible refine keq_mk ?_); kernel_rfl) | with_reducible rfl | ((conv => whnf); first | (with_reducible exact trivial) | ((with_reducible refine and_ff ?_ ?_); · exact rfl) | ((with_reducible refine and_tt ?_ ?_); · exact rfl) | (with_reducible refine And.intro ?_ ?_) | intro _ | (with_reducible refine fin2 hk ?_) | ((with_reducible refine eq_leaf ?_); exact rfl) | exact trivial))
    all_goals first | exact hlt | (simp only; omega)
end Go.Proofs.Ytbakdblbknfadaa
end
section
set_option linter.unusedVariables false
set_option linter.unusedSimpArgs false
set_option maxRecDepth 100000
namespace Go.Proofs.Ytbakdblbknfadaa
open Go.V

theorem aimPrefix_lifted (os : Os) (started : os.Started) (H : Type) (enc : TypeId × Value → H) :
    ReturnsInHanded {} Try.checked os 5 .any (Rows.aimPrefixSpec.pre6 enc Go.Proofs.Try.prog Try.f5 Rows.aimPrefixRow.domain false) (Rows.aimPrefixSpec.post enc Go.Proofs.Try.prog Try.f5 false Rows.aimPrefixRow.fresh Rows.aimPrefixRow.handsOn Rows.aimPrefixRow.again) := by
  refine returnsInHanded_of_change (C := Try.checked) own started (by kernel_rfl) Try.func5
    (ChangeSpec.witness6 (enc := enc) (C := Try.checked) false ⟨#[], #[.agg #[.slice none 0 0, .slice none 0 0, .int .i64 0, .int .i64 0, .int .i64 0, .int .i64 0, .int .i64 0, .int .i64 0, .int .i64 0, .int .i64 0, .int .i64 0], .agg #[.slice none 0 0, .slice none 0 0, .slice none 0 0, .int .i64 0, .int .i64 0, .int .i64 0, .slice none 0 0]], []⟩ 8 (by kernel_rfl) (by kernel_rfl) (by kernel_rfl) (by kernel_rfl)) ?_
  intro W base args ds gs before hok hW _ _
  refine law_contract (l := [atK, winK]) (tb := 4) laid_ok lawAPrefix_ok (by kernel_rfl) (by kernel_rfl) rfl tbool (fun ds h => ?_) rfl (fun ds hd => ?_) W base args ds gs before hok hW
  · obtain ⟨d, e, rfl, h1, h2⟩ := isAL2 h
    exact ⟨_, _, rfl, ⟨at_of_kinds h1, win_of_kinds h2⟩, .inl rfl⟩
  · match ds, hd with
    | [a, b], _ => exact ⟨rfl, rfl, rfl⟩
theorem aimPrefix_holds : Rows.AimPrefixSaid :=
  OpenClaim.holds_of_wide 5 Try.f5 rfl rfl rfl rfl rfl rfl rfl ⟨rfl, rfl, rfl, rfl, rfl⟩ rfl rfl rfl rfl rfl (by kernel_rfl) Try.func5 (by kernel_rfl)
    (of_decide_eq_true (by kernel_rfl)) (by unfold Func.isWrapper; first | (rw [if_pos (by decide +kernel)]; kernel_rfl) | (rw [if_neg (by decide +kernel)]; exact ⟨rfl, rfl⟩))
    (fun os started H enc _ => aimPrefix_lifted os started H enc)
#print axioms aimPrefix_holds
end Go.Proofs.Ytbakdblbknfadaa
end
