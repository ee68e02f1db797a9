/-
  Contracts of aiming's laws: equal choices; the laws Checks, Weighs, Asks, Bests.
-/
import Derived.Test.YtbakdblbknfadaaMm
import Derived.Test.YtbakdblbknfadaaMf
import Derived.Test.YtbakdblbknfadaaRows
section
set_option linter.unusedVariables false
set_option linter.unusedSimpArgs false
set_option maxRecDepth 100000
set_option maxHeartbeats 4000000
namespace Go.Proofs.Ytbakdblbknfadaa
open Go.V
theorem all2A {p : Nat → Prop} : (∀ j, j < 2 → p j) ↔ p 0 ∧ p 1 :=
  ⟨fun h => ⟨h 0 (by omega), h 1 (by omega)⟩, fun h j hj => by
    have hj' : j = 0 ∨ j = 1 := by omega
    rcases hj' with rfl | rfl
    · exact h.1
    · exact h.2⟩
noncomputable def chB (a0 a1 : Int) (n : Nat) (a : Nat → Nat → Int) (b0 b1 : Int) (m : Nat) (b : Nat → Nat → Int) : Bool := decide (a0 = b0) && (decide (a1 = b1) && sameB 2 n m a b)
theorem chB_iff {a0 a1 : Int} {n : Nat} {a : Nat → Nat → Int} {b0 b1 : Int} {m : Nat} {b : Nat → Nat → Int} : chB a0 a1 n a b0 b1 m b = true ↔ a0 = b0 ∧ a1 = b1 ∧ n = m ∧ sameFrom 2 a b n 0 := by
  unfold chB
  rw [Bool.and_eq_true, Bool.and_eq_true, sameB_iff, decide_eq_true_eq, decide_eq_true_eq]
theorem chB_refl (a0 a1 : Int) (n : Nat) (a : Nat → Nat → Int) : chB a0 a1 n a a0 a1 n a = true := chB_iff.2 ⟨rfl, rfl, rfl, fun x _ _ j _ => rfl⟩
noncomputable def rSameCh : List V.D → Option (Prop × V.D) := fun ds => match ds with
  | [.agg [.int .i64 a0, .int .i64 a1, .rsl 2 n g], .agg [.int .i64 b0, .int .i64 b1, .rsl 2 m h]] => some (IM n 2 g ∧ IM m 2 h ∧ n ≤ 1099511627776, .bool (chB a0 a1 n (im g) b0 b1 m (im h)))
  | _ => none
theorem qSame_ok : PSound Go.Proofs.Try.prog 23 (mk rSameCh) := by
  refine psound_mk Try.func23 (by kernel_rfl) rfl (ctx la25_ok) ?_
  (intro ds p d h; unfold rSameCh at h; split at h <;> first | (cases h; done) | skip; cases h; refine ⟨Nat.le_of_ble_eq_true rfl, fun hp k hk => ?_⟩)
  rename_i a0 a1 n g b0 b1 m h
  obtain ⟨h1, h2, h3⟩ := hp
  refine ⟨[.agg [.int .i64 a0, .int .i64 a1, .rsl 2 n (imD (im g))], .agg [.int .i64 b0, .int .i64 b1, .rsl 2 m (imD (im h))]], rfl, rfl, rfl, h1, rfl, rfl, rfl, h2, ?_⟩
  clear h1 h2
  generalize im g = a at *
  generalize im h = b at *
  have hS := @chB_iff a0 a1 n a b0 b1 m b
  generalize chB a0 a1 n a b0 b1 m b = c at *
  repeat' (first | ((with_reducible refine kok ?_); kernel_rfl) | ((with_reducible refine keq_mk ?_); kernel_rfl) | with_reducible rfl | ((conv => whnf); first | (with_reducible exact trivial) | ((with_reducible refine and_ff ?_ ?_); · exact rfl) | ((with_reducible refine and_tt ?_ ?_); · exact rfl) | (with_reducible refine And.intro ?_ ?_) | intro _ | (with_reducible refine fin2 hk ?_) | ((with_reducible refine eq_leaf ?_); exact rfl) | exact trivial))
  all_goals try (
    clear hk
    simp only [taskOf_agg, ↓Bool.not_eq_true', ↓Bool.not_eq_false', ↓decT, ↓decF, out_true, out_false, isin_true, isin_false, Int.toNat_natCast, Int.ofNat_lt, Nat.zero_add, Nat.add_zero, Nat.reduceAdd] at *
    symm
    rw [Bool.eq_false_iff, Ne, hS]
    intro hh
    obtain ⟨e1, e2, e3, _⟩ := hh
    subst e1 e2 e3
    simp_all; done)
  rename_i g1 g2 g3
  simp only [taskOf_agg, ↓Bool.not_eq_true', ↓Bool.not_eq_false', ↓decT, ↓decF, out_true, out_false, isin_true, isin_false, Int.toNat_natCast, Int.ofNat_lt, Nat.zero_add, Nat.add_zero, Nat.reduceAdd] at g1 g2 g3
  obtain rfl : a0 = b0 := by omega
  obtain rfl : a1 = b1 := by omega
  obtain rfl : n = m := by omega
  have hS' : c = true ↔ sameFrom 2 a b n 0 := by rw [hS]; exact ⟨fun q => q.2.2.2, fun q => ⟨rfl, rfl, rfl, q⟩⟩
  clear hS
  conv => whnf
  refine ⟨Nat, fun i => [(2, .ptr 0 0), (3, .ptr 1 0), (5, .int .i64 i)], fun _ => [some (.row [.int .i64 a0, .int .i64 a1, .rsl 2 n (imD a)]), some (.row [.int .i64 a0, .int .i64 a1, .rsl 2 n (imD b)])], fun i => n - i, fun i => i ≤ n ∧ (c = true ↔ sameFrom 2 a b n i), [], 0, fun _ => ⟨rfl, rfl⟩, ?_, fun i hI => ?_⟩
  · clear hk
    repeat' (first | ((with_reducible refine kok ?_); kernel_rfl) | ((with_reducible refine keq_mk ?_); kernel_rfl) | with_reducible rfl | ((conv => whnf); first | (with_reducible exact trivial) | ((with_reducible refine and_ff ?_ ?_); · exact rfl) | ((with_reducible refine and_tt ?_ ?_); · exact rfl) | (with_reducible refine And.intro ?_ ?_) | intro _ | (with_reducible refine fin2 hk ?_) | ((with_reducible refine eq_leaf ?_); exact rfl) | exact trivial))
    · exact Nat.zero_le n
    · rw [hS']
  obtain ⟨hi, hc⟩ := hI
  have hi : i ≤ n := hi
  have hc : c = true ↔ sameFrom 2 a b n i := hc
  clear hS'
  conv => whnf
  refine ⟨fun g1 => ?_, fun g1 => ?_⟩
  rotate_left
  · have e : i = n := by have := of_decide_eq_false g1; omega
    have hd : c = true := hc.2 (sameFrom_end (by omega))
    subst hd
    repeat' (first | ((with_reducible refine kok ?_); kernel_rfl) | ((with_reducible refine keq_mk ?_); kernel_rfl) | with_reducible rfl | ((conv => whnf); first | (with_reducible exact trivial) | ((with_reducible refine and_ff ?_ ?_); · exact rfl) | ((with_reducible refine and_tt ?_ ?_); · exact rfl) | (with_reducible refine And.intro ?_ ?_) | intro _ | (with_reducible refine fin2 hk ?_) | ((with_reducible refine eq_leaf ?_); exact rfl) | exact trivial))
  have hlt : i < n := by have := of_decide_eq_true g1; omega
  repeat' (first | ((with_reducible refine kok ?_); kernel_rfl) | ((with_reducible refine keq_mk ?_); kernel_rfl) | with_reducible rfl | ((conv => whnf); first | (with_reducible exact trivial) | ((with_reducible refine and_ff ?_ ?_); · exact rfl) | ((with_reducible refine and_tt ?_ ?_); · exact rfl) | (with_reducible refine And.intro ?_ ?_) | intro _ | (with_reducible refine fin2 hk ?_) | ((with_reducible refine eq_leaf ?_); exact rfl) | exact trivial))
  all_goals try ((first | with_reducible refine (?_ : (_ : Int) ≤ _) | with_reducible refine (?_ : (_ : Int) < _) | with_reducible refine (?_ : (_ : Nat) ≤ _) | with_reducible refine (?_ : (_ : Nat) < _)); clear hk; first | omega | (simp only [taskOf_agg, ↓Bool.not_eq_true', ↓Bool.not_eq_false', ↓decT, ↓decF, out_true, out_false, isin_true, isin_false, Int.toNat_natCast, Int.ofNat_lt, Nat.zero_add, Nat.add_zero, Nat.reduceAdd] at *; omega))
  all_goals clear hk
  · rename_i g2
    simp only [taskOf_agg, ↓Bool.not_eq_true', ↓Bool.not_eq_false', ↓decT, ↓decF, out_true, out_false, isin_true, isin_false, Int.toNat_natCast, Int.ofNat_lt, Nat.zero_add, Nat.add_zero, Nat.reduceAdd, Int.toNat_zero, Int.reduceToNat, ↓reduceIte, reduceCtorEq, Bool.or_eq_true, Bool.or_eq_false_iff, Bool.and_eq_true, Bool.and_eq_false_iff, Bool.and_true, Bool.and_false] at g2
    symm
    rw [Bool.eq_false_iff, Ne, hc, sameFrom_step hlt, all2A]
    omega
  · rename_i g2
    simp only [taskOf_agg, ↓Bool.not_eq_true', ↓Bool.not_eq_false', ↓decT, ↓decF, out_true, out_false, isin_true, isin_false, Int.toNat_natCast, Int.ofNat_lt, Nat.zero_add, Nat.add_zero, Nat.reduceAdd, Int.toNat_zero, Int.reduceToNat, ↓reduceIte, reduceCtorEq, Bool.or_eq_true, Bool.or_eq_false_iff, Bool.and_eq_true, Bool.and_eq_false_iff, Bool.and_true, Bool.and_false] at g2
    conv => whnf
    refine ⟨i + 1, ?_⟩
    repeat' (first | ((with_reducible refine kok ?_); kernel_rfl) | ((with_reducible refine keq_mk ?_); kernel_rfl) | with_reducible rfl | ((conv => whnf); first | (with_reducible exact trivial) | ((with_reducible refine and_ff ?_ ?_); · exact rfl) | ((with_reducible refine and_tt ?_ ?_); · exact rfl) | (with_reducible refine And.intro ?_ ?_) | intro _ | (with_reducible refine fin2 hk ?_) | ((with_reducible refine eq_leaf ?_); exact rfl) | exact trivial))
    · exact hlt
    · rw [hc, sameFrom_step hlt, all2A]
      exact ⟨fun h => h.2, fun h => ⟨by omega, h⟩⟩
    · simp only; omega
end Go.Proofs.Ytbakdblbknfadaa
end
section
set_option linter.unusedVariables false
set_option linter.unusedSimpArgs false
set_option maxRecDepth 100000
set_option maxHeartbeats 4000000
namespace Go.Proofs.Ytbakdblbknfadaa
open Go.V
noncomputable def la26 : Lib := (23, mk rSameCh) :: (29, mk (rTL weighT)) :: (30, mk (rTLS impT)) :: (31, mk (rTLS impT)) :: (32, mk (rTLS missT)) :: (33, mk (rTLS missT)) :: (26, mk (rTL allowT)) :: (34, mk (rTL allowT)) :: (22, mk (rTL bestT)) :: la25
theorem la26_ok : LibOK Go.Proofs.Try.prog la26 := .cons qSame_ok (.cons qWeighT_ok (.cons aImpactT_ok (.cons qImpactT_ok (.cons aMissT_ok (.cons qMissT_ok (.cons aAllowT_ok (.cons qAllowT_ok (.cons qBestT_ok la25_ok))))))))
theorem alwN_le (t : ATask) (n : Nat) (a : Nat → Nat → Int) : alwN t n a ≤ 40 := by
  unfold alwN
  by_cases h : askE t n a = 0
  · rw [h, ifn_0]
    have h1 := alwTo_len (weighS t n a) t.ns
    have h2 := (ask_ok h).1.ns
    omega
  · rw [ifn_ne h]
    omega
theorem bestN_le (t : ATask) (n : Nat) (a : Nat → Nat → Int) : ifn (bE t n a) t.ns ≤ 40 := by
  by_cases h : askE t n a = 0
  · have h2 := (ask_ok h).1.ns
    unfold ifn
    split
    · omega
    · omega
  · rw [ifn_ne (by rw [bE_1 h]; exact h)]
    omega
theorem sameA_refl (s n : Nat) (a : Nat → Nat → Int) : sameB s n n a a = true := sameB_iff.mpr ⟨rfl, fun x _ _ j _ => rfl⟩
attribute [local irreducible] weighS chkA checkBands lowB askE askI imp missS alwN bE bB bM whyM sameB chB ifz ifn listM alwTo
def rLA1 : List V.D → Option (Prop × V.D) := fun ds => match ds with
  | [d] => some (AtIs d, .tt)
  | _ => none
theorem lawAChecks_ok : PSound Go.Proofs.Try.prog 3 (mk rLA1) := by
  refine psound_mk Try.func3 (by kernel_rfl) rfl (ctx la26_ok) ?_
  (intro ds p d h; unfold rLA1 at h; split at h <;> first | (cases h; done) | skip; cases h; refine ⟨Nat.le_of_ble_eq_true rfl, fun hp k hk => ?_⟩)
  rename_i d
  have hf := at_fits hp
  refine ⟨[(atOf d).D], at_imp hp ?_⟩
  clear hp
  generalize atOf d = t at *
  repeat' (first | ((with_reducible refine kok ?_); kernel_rfl) | ((with_reducible refine keq_mk ?_); kernel_rfl) | with_reducible rfl | ((conv => whnf); first | (with_reducible exact trivial) | ((with_reducible refine and_ff ?_ ?_); · exact rfl) | ((with_reducible refine and_tt ?_ ?_); · exact rfl) | (with_reducible refine And.intro ?_ ?_) | intro _ | (with_reducible refine fin2 hk ?_) | ((with_reducible refine eq_leaf ?_); exact rfl) | exact trivial))
  all_goals (clear hk; try first | exact hf.1 | exact hf.2)
  all_goals first
    | (exfalso; simp_all; done)
    | simp
def rLA2 : List V.D → Option (Prop × V.D) := fun ds => match ds with
  | [d, .rsl 6 n g] => some (AtIs d ∧ IM n 6 g, .tt)
  | _ => none
def rLA3 : List V.D → Option (Prop × V.D) := fun ds => match ds with
  | [d, .rsl 6 n g, .int .i64 i] => some (AtIs d ∧ IM n 6 g, .tt)
  | _ => none
theorem lawAWeighs_ok : PSound Go.Proofs.Try.prog 9 (mk rLA3) := by
  refine psound_mk Try.func9 (by kernel_rfl) rfl (ctx la26_ok) ?_
  (intro ds p d h; unfold rLA3 at h; split at h <;> first | (cases h; done) | skip; cases h; refine ⟨Nat.le_of_ble_eq_true rfl, fun hp k hk => ?_⟩)
  rename_i d n g i
  obtain ⟨ht, hg⟩ := hp
  have hf := at_fits ht
  refine ⟨[(atOf d).D, .rsl 6 n (imD (im g)), .int .i64 i], at_imp ht ⟨rfl, hg, rfl, ?_⟩⟩
  clear ht hg
  generalize atOf d = t at *
  generalize im g = a at *
  repeat' (first | ((with_reducible refine kok ?_); kernel_rfl) | ((with_reducible refine keq_mk ?_); kernel_rfl) | with_reducible rfl | ((conv => whnf); first | (with_reducible exact trivial) | ((with_reducible refine and_ff ?_ ?_); · exact rfl) | ((with_reducible refine and_tt ?_ ?_); · exact rfl) | (with_reducible refine And.intro ?_ ?_) | intro _ | (with_reducible refine fin2 hk ?_) | ((with_reducible refine eq_leaf ?_); exact rfl) | exact trivial))
  all_goals (clear hk; try first | exact hf.1 | exact hf.2)
  all_goals first
    | (exfalso; simp_all; done)
    | simp
theorem lawAAsks_ok : PSound Go.Proofs.Try.prog 10 (mk rLA3) := by
  refine psound_mk Try.func10 (by kernel_rfl) rfl (ctx la26_ok) ?_
  (intro ds p d h; unfold rLA3 at h; split at h <;> first | (cases h; done) | skip; cases h; refine ⟨Nat.le_of_ble_eq_true rfl, fun hp k hk => ?_⟩)
  rename_i d n g i
  obtain ⟨ht, hg⟩ := hp
  have hf := at_fits ht
  have ha := alwN_le (atOf d) n (im g)
  refine ⟨[(atOf d).D, .rsl 6 n (imD (im g)), .int .i64 i], at_imp ht ⟨rfl, hg, rfl, ?_⟩⟩
  clear ht hg
  generalize atOf d = t at *
  generalize im g = a at *
  repeat' (first | ((with_reducible refine kok ?_); kernel_rfl) | ((with_reducible refine keq_mk ?_); kernel_rfl) | with_reducible rfl | ((conv => whnf); first | (with_reducible exact trivial) | ((with_reducible refine and_ff ?_ ?_); · exact rfl) | ((with_reducible refine and_tt ?_ ?_); · exact rfl) | (with_reducible refine And.intro ?_ ?_) | intro _ | (with_reducible refine fin2 hk ?_) | ((with_reducible refine eq_leaf ?_); exact rfl) | exact trivial))
  all_goals (clear hk; try first | exact hf.1 | exact hf.2)
  all_goals try (simp only [atOf_agg, im_imD]; exact Nat.le_trans ha (by decide))
  all_goals try simp only [atOf_agg, im_imD, sameA_refl] at *
  all_goals first
    | (exfalso; simp_all; done)
    | simp
theorem lawABests_ok : PSound Go.Proofs.Try.prog 4 (mk rLA2) := by
  refine psound_mk Try.func4 (by kernel_rfl) rfl (ctx la26_ok) ?_
  (intro ds p d h; unfold rLA2 at h; split at h <;> first | (cases h; done) | skip; cases h; refine ⟨Nat.le_of_ble_eq_true rfl, fun hp k hk => ?_⟩)
  rename_i d n g
  obtain ⟨ht, hg⟩ := hp
  have hf := at_fits ht
  have ha := bestN_le (atOf d) n (im g)
  refine ⟨[(atOf d).D, .rsl 6 n (imD (im g))], at_imp ht ⟨rfl, hg, ?_⟩⟩
  clear ht hg
  generalize atOf d = t at *
  generalize im g = a at *
  repeat' (first | ((with_reducible refine kok ?_); kernel_rfl) | ((with_reducible refine keq_mk ?_); kernel_rfl) | with_reducible rfl | ((conv => whnf); first | (with_reducible exact trivial) | ((with_reducible refine and_ff ?_ ?_); · exact rfl) | ((with_reducible refine and_tt ?_ ?_); · exact rfl) | (with_reducible refine And.intro ?_ ?_) | intro _ | (with_reducible refine fin2 hk ?_) | ((with_reducible refine eq_leaf ?_); exact rfl) | exact trivial))
  all_goals (clear hk; try first | exact hf.1 | exact hf.2)
  all_goals try (simp only [atOf_agg, im_imD]; exact Nat.le_trans ha (by decide))
  all_goals try simp only [atOf_agg, im_imD, chB_refl] at *
  all_goals first
    | (exfalso; simp_all; done)
    | simp
end Go.Proofs.Ytbakdblbknfadaa
end
section
set_option linter.unusedVariables false
set_option linter.unusedSimpArgs false
set_option maxRecDepth 100000
namespace Go.Proofs.Ytbakdblbknfadaa
open Go.V

theorem own : ownKnob Go.Proofs.Try.prog.godebug = none := by kernel_rfl
theorem laid_ok : laidOutB Go.Proofs.Try.prog = true := by kernel_rfl
theorem tbool : Go.Proofs.Try.prog.underlying 4 = some .bool := by kernel_rfl
def atK : AK := .agg [.sl [.int .i64, .int .i64, .int .i64, .int .i64], .sl [.int .i64, .int .i64, .int .i64, .int .i64, .int .i64], .int .i64, .int .i64, .int .i64, .int .i64, .int .i64, .int .i64, .int .i64, .int .i64, .int .i64]
/-- What is read of a task is one. -/
theorem at_of_kinds {d : V.D} (h : IsA atK d) : AtIs d := by
  obtain ⟨ds, rfl, hl, h⟩ := h
  match ds, hl with
  | [d0, d1, d2, d3, d4, d5, d6, d7, d8, d9, d10], _ =>
    obtain ⟨n0, g0, rfl, hn0, hg0⟩ := h 0 _ _ rfl rfl
    obtain ⟨n1, g1, rfl, hn1, hg1⟩ := h 1 _ _ rfl rfl
    obtain ⟨n2, rfl, _⟩ := h 2 _ _ rfl rfl
    obtain ⟨n3, rfl, _⟩ := h 3 _ _ rfl rfl
    obtain ⟨n4, rfl, _⟩ := h 4 _ _ rfl rfl
    obtain ⟨n5, rfl, _⟩ := h 5 _ _ rfl rfl
    obtain ⟨n6, rfl, _⟩ := h 6 _ _ rfl rfl
    obtain ⟨n7, rfl, _⟩ := h 7 _ _ rfl rfl
    obtain ⟨n8, rfl, _⟩ := h 8 _ _ rfl rfl
    obtain ⟨n9, rfl, _⟩ := h 9 _ _ rfl rfl
    obtain ⟨n10, rfl, _⟩ := h 10 _ _ rfl rfl
    exact ⟨⟨IM_of hg0 rfl, by omega⟩, IM_of hg1 rfl, by omega⟩
theorem isAL1 {a : AK} {ds : List V.D} (h : IsAL [a] ds) : ∃ d, ds = [d] ∧ IsA a d := by
  match ds, h with
  | [d], h => exact ⟨d, rfl, h.1⟩
theorem isAL2 {a b : AK} {ds : List V.D} (h : IsAL [a, b] ds) : ∃ d e, ds = [d, e] ∧ IsA a d ∧ IsA b e := by
  match ds, h with
  | [d, e], h => exact ⟨d, e, rfl, h.1, h.2.1⟩
theorem isAL3 {a b c : AK} {ds : List V.D} (h : IsAL [a, b, c] ds) : ∃ d e f, ds = [d, e, f] ∧ IsA a d ∧ IsA b e ∧ IsA c f := by
  match ds, h with
  | [d, e, f], h => exact ⟨d, e, f, rfl, h.1, h.2.1, h.2.2.1⟩
def bandsK : CK := .sl [.int .i64, .int .i64, .int .i64, .int .i64, .int .i64, .int .i64]
theorem bands_of_kinds {f : Nat} {d : V.D} (h : Is (f + 2) bandsK d) : ∃ n g, d = .rsl 6 n g ∧ IM n 6 g := by
  obtain ⟨n, g, rfl, _, hg⟩ := h
  exact ⟨n, g, rfl, IM_of hg rfl⟩
theorem int_of_kinds {f : Nat} {k : IntKind} {d : V.D} (h : Is (f + 1) (.int k) d) : ∃ n, d = .int k n ∧ k.min ≤ n ∧ n ≤ k.max := h
end Go.Proofs.Ytbakdblbknfadaa
end
