/-
  The law AimUnknown is proved: soundings that are not known at the last of the ticks change nothing, whatever they say, for any task, winds and other wind. No condition.
-/
import Derived.Test.YtbakdblbknfadaaMq
import Derived.Test.YtbakdblbknfadaaMr
import Derived.Test.YtbakdblbknfadaaMf
section
set_option linter.unusedVariables false
set_option linter.unusedSimpArgs false
set_option maxRecDepth 100000
set_option maxHeartbeats 4000000
namespace Go.Proofs.Ytbakdblbknfadaa
open Go.V
noncomputable def Lun : Libs := ⟨la36, [(24, lockC (mk rRoundsT))], [], []⟩
theorem Lun_ok : LibsOK Go.Proofs.Try.prog Lun := ⟨la36_ok, asGet_cons (csound_lock aRounds_ok) (fun _ _ h => by cases h), (fun _ _ h => by cases h), fun _ _ h => by cases h⟩
def rLUn : List V.D → Option (Prop × V.D) := fun ds => match ds with
  | [d, x, .agg [.int .i16 o0, .int .i16 o1]] => some (AtIs d ∧ WinIs x ∧ (-32768 ≤ o0 ∧ o0 ≤ 32767) ∧ (-32768 ≤ o1 ∧ o1 ≤ 32767), .tt)
  | _ => none
attribute [local irreducible] weighS chkA checkS bandsT bandA lowB ScOK imp missS alwB bestTo rndE noB scR keepR canR stR nextR setR misR setTo anyBelow checkBands
theorem saidL_0 (u : Task) (last w0 w1 : Int) (a b : Nat) : imD u.xa a b = imD (saidL u last w0 w1 0) a b := by
  unfold imD saidL
  rw [if_neg (fun g => by have := g.1; omega)]
theorem saidL_self (u : Task) (last w0 w1 : Int) (i j : Nat) : saidL u last w0 w1 i i j = u.xa i j := by
  unfold saidL
  rw [if_neg (fun g => by have := g.1; omega)]
theorem lawAUnknown_ok : PSound Go.Proofs.Try.prog 6 (mk rLUn) := by
  refine psound_mk Try.func6 (by kernel_rfl) rfl (ctxA Lun_ok) ?_
  (intro ds p d h; unfold rLUn at h; split at h <;> first | (cases h; done) | skip; cases h; refine ⟨Nat.le_of_ble_eq_true rfl, fun hp k hk => ?_⟩)
  rename_i d x o0 o1
  obtain ⟨ht, hx, ho0, ho1⟩ := hp
  have hf := at_fits ht
  have hwf := win_fits hx
  refine ⟨[(atOf d).D, winD (wTask x) (wLa x) (wN x) (wA x), .agg [.int .i16 o0, .int .i16 o1]], at_imp ht (win_imp hx ⟨rfl, rfl, ?_⟩)⟩
  clear ht hx
  generalize atOf d = t at *
  generalize wTask x = u at *
  generalize wLa x = la at *
  generalize wN x = n at *
  generalize wA x = w at *
  by_cases e0 : rndE t u la n w = 0
  rotate_left
  · repeat' (first | ((with_reducible refine kok ?_); kernel_rfl) | ((with_reducible refine keq_mk ?_); kernel_rfl) | with_reducible rfl | ((conv => whnf); first | (with_reducible exact trivial) | ((with_reducible refine and_ff ?_ ?_); · exact rfl) | ((with_reducible refine and_tt ?_ ?_); · exact rfl) | (with_reducible refine And.intro ?_ ?_) | intro _ | (with_reducible refine fin2 hk ?_) | ((with_reducible refine eq_leaf ?_); exact rfl) | exact trivial))
    all_goals clear hk
    all_goals try first | exact hf.1 | exact hf.2 | exact hwf.1 _ (by assumption)
    all_goals (exfalso; simp only [atOf_agg, taskOf_agg, im_imD, taskOf_agg, ↓Bool.not_eq_true', ↓Bool.not_eq_false', ↓decT, ↓decF, out_true, out_false, isin_true, isin_false, Int.toNat_natCast, Int.ofNat_lt, Nat.zero_add, Nat.add_zero, Nat.reduceAdd] at *; first | contradiction | omega)
  have o := rnd_ok e0
  have hc := check_ok o.chk
  have hn := o.len
  have hla := o.la0
  repeat' (first | ((with_reducible refine kok ?_); kernel_rfl) | ((with_reducible refine keq_mk ?_); kernel_rfl) | with_reducible rfl | ((conv => whnf); first | (with_reducible exact trivial) | ((with_reducible refine and_ff ?_ ?_); · exact rfl) | ((with_reducible refine and_tt ?_ ?_); · exact rfl) | (with_reducible refine And.intro ?_ ?_) | intro _ | (with_reducible refine fin2 hk ?_) | ((with_reducible refine eq_leaf ?_); exact rfl) | exact trivial))
  all_goals try first | exact hf.1 | exact hf.2 | exact hwf.1 _ (by assumption)
  all_goals try (exfalso; clear hk; simp only [atOf_agg, taskOf_agg, im_imD, taskOf_agg, ↓Bool.not_eq_true', ↓Bool.not_eq_false', ↓decT, ↓decF, out_true, out_false, isin_true, isin_false, Int.toNat_natCast, Int.ofNat_lt, Nat.zero_add, Nat.add_zero, Nat.reduceAdd] at *; first | contradiction | omega)
  · clear hk
    have := hc.nx
    show (0 + u.nx) * 40 ≤ 140737488355328
    omega
  conv => whnf
  have hnx := hc.nx
  have hns := hc.ns
  have hn0 : 0 < n := by
    have z := of_decide_eq_false (by assumption : decide ((n : Int) = 0) = false)
    omega
  have E : ifn (rndE t u la n w) n = n := by rw [e0]; rfl
  have W0 := tmod_wind o0
  have W1 := tmod_wind o1
  generalize hw0 : o0.tmod 20000 = w0 at *
  generalize hw1 : o1.tmod 20000 = w1 at *
  refine ⟨Nat, fun i => [(3, .ptr 0 0), (4, .ptr 1 0), (5, .ptr 2 0), (7, .rsl 4 n (rndA t u la w)), (9, .ptr 3 0), (10, .int .i64 i)],
    fun i => [some (.row t.cells), some (.row [.rsl 7 u.ns (smD u.nm u.sa), .rsl 5 u.nx (imD u.xa), .rsl 1 u.nc (imD u.ca), .int .i64 u.age, .int .i64 u.shear, .int .i64 la, .rsl 1 n (imD w)]), some (.row [.int .i16 o0, .int .i16 o1]),
      some (.row [.rsl 7 u.ns (smD u.nm u.sa), .own 4 u.nx, .rsl 1 u.nc (imD u.ca), .int .i64 u.age, .int .i64 u.shear]), some (.buf 63 5 u.nx (imD (saidL u (w (n - 1) 0) w0 w1 i)))],
    fun i => u.nx - i, fun i => i ≤ u.nx, [], 0, fun _ => ⟨?_, ?_⟩, ?_, fun i hi => ?_⟩
  · conv => lhs; whnf
  · conv => lhs; whnf
  · clear hk
    repeat' (first | ((with_reducible refine kok ?_); kernel_rfl) | ((with_reducible refine keq_mk ?_); kernel_rfl) | with_reducible rfl | ((conv => whnf); first | (with_reducible exact trivial) | ((with_reducible refine and_ff ?_ ?_); · exact rfl) | ((with_reducible refine and_tt ?_ ?_); · exact rfl) | (with_reducible refine And.intro ?_ ?_) | intro _ | (with_reducible refine fin2 hk ?_) | ((with_reducible refine eq_leaf ?_); exact rfl) | exact trivial))
    all_goals first
      | exact Nat.zero_le _
      | exact E
      | exact Nat.zero_add _
      | exact saidL_0 _ _ _ _ _ _
      | rfl
      | skip
  have hi : i ≤ u.nx := hi
  conv => whnf
  refine ⟨rfl, fun g1 => ?_, fun g1 => ?_⟩
  rotate_left
  · obtain rfl : i = u.nx := by have := of_decide_eq_false g1; omega
    have hV : ∀ i, i < n → bandsT (u.wth u.nx (saidL u (w (n - 1) 0) w0 w1 u.nx)) la (w i 0) = bandsT u la (w i 0) ∧ bandA (u.wth u.nx (saidL u (w (n - 1) 0) w0 w1 u.nx)) la (w i 0) = bandA u la (w i 0) :=
      fun i hi => saidL_eq o.chk W0 W1 (o.last (n - 1 - i) i (by omega)) la
    have eV : rndE t (u.wth u.nx (saidL u (w (n - 1) 0) w0 w1 u.nx)) la n w = 0 := rnd_mk (by rw [o.am.check]) ⟨o.am, saidL_chk o.chk _ W0 W1, o.la0, o.len, o.now, o.up⟩
    have EV : ifn (rndE t (u.wth u.nx (saidL u (w (n - 1) 0) w0 w1 u.nx)) la n w) n = n := by rw [eV]; rfl
    repeat' (first | ((with_reducible refine kok ?_); kernel_rfl) | ((with_reducible refine keq_mk ?_); kernel_rfl) | with_reducible rfl | ((conv => whnf); first | (with_reducible exact trivial) | ((with_reducible refine and_ff ?_ ?_); · exact rfl) | ((with_reducible refine and_tt ?_ ?_); · exact rfl) | (with_reducible refine And.intro ?_ ?_) | intro _ | (with_reducible refine fin2 hk ?_) | ((with_reducible refine eq_leaf ?_); exact rfl) | exact trivial))
    all_goals try first | exact hf.1 | exact hf.2 | exact hwf.1 _ (by assumption)
    all_goals clear hk
    · show n ≤ 1099511627776
      omega
    · exact EV.symm
    · rename_i a b ha hb
      exact rndA_same hV ha b
    · exfalso
      rename_i z
      have z : decide (rndE t (u.wth u.nx (saidL u (w (n - 1) 0) w0 w1 u.nx)) la n w = 0) = false := z
      rw [eV] at z
      exact absurd z (by decide)
  have hlt : i < u.nx := by have := of_decide_eq_true g1; omega
  have s1 := hc.src i hlt
  have s2 := hc.tick i hlt
  have s3 := hc.late (u.xa i 0).toNat (by omega)
  have S0 : ∀ j, saidL u (w (n - 1) 0) w0 w1 i ((i : Int)).toNat j = u.xa i j := fun j => saidL_self u _ w0 w1 i j
  have e1 : ((n : Int) - 1).toNat = n - 1 := by omega
  repeat' (first | ((with_reducible refine kok ?_); kernel_rfl) | ((with_reducible refine keq_mk ?_); kernel_rfl) | with_reducible rfl | ((conv => whnf); first | (with_reducible exact trivial) | ((with_reducible refine and_ff ?_ ?_); · exact rfl) | ((with_reducible refine and_tt ?_ ?_); · exact rfl) | (with_reducible refine And.intro ?_ ?_) | intro _ | (with_reducible refine fin2 hk ?_) | ((with_reducible refine eq_leaf ?_); exact rfl) | exact trivial))
  all_goals try ((first | with_reducible refine (?_ : (_ : Int) ≤ _) | with_reducible refine (?_ : (_ : Int) < _) | with_reducible refine (?_ : (_ : Nat) < _)); clear hk; first | omega | (simp only [S0, e1, Nat.zero_add, Nat.add_zero]; omega) | (show ((i : Int)).toNat < u.nx; omega))
  all_goals clear hk
  all_goals try (exfalso; exact absurd (by assumption : (20000 : Int) = 0) (by decide))
  · exfalso
    have z := of_decide_eq_true (by assumption : decide (saidL u (w (n - 1) 0) w0 w1 i ((i : Int)).toNat 0 < 0) = true)
    rw [S0] at z
    omega
  · exfalso
    have z := of_decide_eq_true (by assumption : decide ((u.ns : Int) ≤ saidL u (w (n - 1) 0) w0 w1 i ((i : Int)).toNat 0) = true)
    rw [S0] at z
    omega
  · rename_i g2
    simp only [S0, e1, Nat.zero_add, Nat.add_zero] at g2
    have z : lateB u (w (n - 1) 0) i = true := g2
    subst hw0 hw1
    conv => whnf
    refine ⟨i + 1, ?_⟩
    repeat' (first | ((with_reducible refine kok ?_); kernel_rfl) | ((with_reducible refine keq_mk ?_); kernel_rfl) | with_reducible rfl | ((conv => whnf); first | (with_reducible exact trivial) | ((with_reducible refine and_ff ?_ ?_); · exact rfl) | ((with_reducible refine and_tt ?_ ?_); · exact rfl) | (with_reducible refine And.intro ?_ ?_) | intro _ | (with_reducible refine fin2 hk ?_) | ((with_reducible refine eq_leaf ?_); exact rfl) | exact trivial))
    all_goals first
      | exact hlt
      | (simp only; omega)
      | (rename_i a b ha hb; exact saidL_yes z hb)
      | skip
  · rename_i g2
    simp only [S0, e1, Nat.zero_add, Nat.add_zero] at g2
    have z : lateB u (w (n - 1) 0) i = false := g2
    subst hw0 hw1
    conv => whnf
    refine ⟨i + 1, ?_⟩
    repeat' (first | ((with_reducible refine kok ?_); kernel_rfl) | ((with_reducible refine keq_mk ?_); kernel_rfl) | with_reducible rfl | ((conv => whnf); first | (with_reducible exact trivial) | ((with_reducible refine and_ff ?_ ?_); · exact rfl) | ((with_reducible refine and_tt ?_ ?_); · exact rfl) | (with_reducible refine And.intro ?_ ?_) | intro _ | (with_reducible refine fin2 hk ?_) | ((with_reducible refine eq_leaf ?_); exact rfl) | exact trivial))
    all_goals first
      | exact hlt
      | (simp only; omega)
      | (rename_i a b ha hb; exact congrArg (V.D.int .i64) (saidL_no z a b))
      | skip
end Go.Proofs.Ytbakdblbknfadaa
end
section
set_option linter.unusedVariables false
set_option linter.unusedSimpArgs false
set_option maxRecDepth 100000
namespace Go.Proofs.Ytbakdblbknfadaa
open Go.V

theorem aimUnknown_lifted (os : Os) (started : os.Started) (H : Type) (enc : TypeId × Value → H) :
    ReturnsInHanded {} Try.checked os 6 .any (Rows.aimUnknownSpec.pre6 enc Go.Proofs.Try.prog Try.f6 Rows.aimUnknownRow.domain false) (Rows.aimUnknownSpec.post enc Go.Proofs.Try.prog Try.f6 false Rows.aimUnknownRow.fresh Rows.aimUnknownRow.handsOn Rows.aimUnknownRow.again) := by
  refine returnsInHanded_of_change (C := Try.checked) own started (by kernel_rfl) Try.func6
    (ChangeSpec.witness6 (enc := enc) (C := Try.checked) false ⟨#[], #[.agg #[.slice none 0 0, .slice none 0 0, .int .i64 0, .int .i64 0, .int .i64 0, .int .i64 0, .int .i64 0, .int .i64 0, .int .i64 0, .int .i64 0, .int .i64 0], .agg #[.slice none 0 0, .slice none 0 0, .slice none 0 0, .int .i64 0, .int .i64 0, .int .i64 0, .slice none 0 0], .agg #[.int .i16 0, .int .i16 0]], []⟩ 8 (by kernel_rfl) (by kernel_rfl) (by kernel_rfl) (by kernel_rfl)) ?_
  intro W base args ds gs before hok hW _ _
  refine law_contract (l := [atK, winK, .agg [.int .i16, .int .i16]]) (tb := 4) laid_ok lawAUnknown_ok (by kernel_rfl) (by kernel_rfl) rfl tbool (fun ds h => ?_) rfl (fun ds hd => ?_) W base args ds gs before hok hW
  · obtain ⟨d, e, f, rfl, h1, h2, h3⟩ := isAL3 h
    obtain ⟨ds, rfl, hl, h3⟩ := h3
    match ds, hl with
    | [d0, d1], _ =>
      obtain ⟨n0, rfl, m0, m0'⟩ := h3 0 _ _ rfl rfl
      obtain ⟨n1, rfl, m1, m1'⟩ := h3 1 _ _ rfl rfl
      exact ⟨_, _, rfl, ⟨at_of_kinds h1, win_of_kinds h2, ⟨m0, m0'⟩, m1, m1'⟩, .inl rfl⟩
  · match ds, hd with
    | [a, b, c], _ => exact ⟨rfl, rfl, rfl⟩
theorem aimUnknown_holds : Rows.AimUnknownSaid :=
  OpenClaim.holds_of_wide 6 Try.f6 rfl rfl rfl rfl rfl rfl rfl ⟨rfl, rfl, rfl, rfl, rfl⟩ rfl rfl rfl rfl rfl (by kernel_rfl) Try.func6 (by kernel_rfl)
    (of_decide_eq_true (by kernel_rfl)) (by unfold Func.isWrapper; first | (rw [if_pos (by decide +kernel)]; kernel_rfl) | (rw [if_neg (by decide +kernel)]; exact ⟨rfl, rfl⟩))
    (fun os started H enc _ => aimUnknown_lifted os started H enc)
#print axioms aimUnknown_holds
end Go.Proofs.Ytbakdblbknfadaa
end
