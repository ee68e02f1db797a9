/-
  Contracts of the wind: Known, Bands (both).
-/
import Derived.Test.YtbkehkiflfhpfaaWw
set_option linter.unusedVariables false
set_option linter.unusedSimpArgs false
set_option maxRecDepth 100000
set_option maxHeartbeats 4000000
namespace Go.Proofs.Ytbkehkiflfhpfaa
open Go.V
attribute [local irreducible] doubtS saysS leftS agreeS blameS answerS checkS begun nameS lowS answerN knownS
def lib30 : Lib := (35, mk rBlameT) :: (36, mk rBlameT) :: lib29
theorem lib30_ok : LibOK Go.Proofs.Try.prog lib30 := .cons windBlameT_ok (.cons refBlameT_ok lib29_ok)

/-- The soundings that are known, of the first ones. -/
def knownUp (t : Task) (now : Int) : Nat → List Int
  | 0 => []
  | i + 1 => if knownS t i now = true then knownUp t now i ++ [(i : Int)] else knownUp t now i
theorem knownUp_length (t : Task) (now : Int) : ∀ i, (knownUp t now i).length ≤ i
  | 0 => Nat.le_refl _
  | i + 1 => by
    have := knownUp_length t now i
    unfold knownUp
    split
    · simp only [List.length_append, List.length_singleton]; omega
    · omega
theorem liD_snoc2 {l l' : List Int} {x : Int} {i j : Nat} (h : l' = l ++ [x]) (hi : i < l'.length) (hj : j < 1) : (if i < l.length then liD l i j else [D.int IntKind.i64 x].getD ((i - l.length) * 1 + j) D.top) = liD l' i j := by
  subst h
  exact liD_snoc hi hj
theorem known_t {t : Task} {i : Nat} {now : Int} (h1 : t.xa i 1 + t.sa (t.xa i 0).toNat 2 ≤ now) (h2 : now ≤ t.xa i 1 + t.sa (t.xa i 0).toNat 3) : knownS t i now = true := by
  unfold knownS
  rw [decide_eq_true h1, decide_eq_true (by omega)]
  rfl
theorem known_f {t : Task} {i : Nat} {now : Int} (h : ¬ (t.xa i 1 + t.sa (t.xa i 0).toNat 2 ≤ now) ∨ ¬ (now ≤ t.xa i 1 + t.sa (t.xa i 0).toNat 3)) : knownS t i now = false := by
  unfold knownS
  rcases h with h | h
  · rw [decide_eq_false h]; rfl
  · rw [decide_eq_false (by omega : ¬ now - t.xa i 1 ≤ t.sa (t.xa i 0).toNat 3), Bool.and_false]
def knownT (t : Task) (now : Int) : List Int × Int := if checkE t ≠ 0 then ([], checkE t) else if tickB now = false then ([], 7) else (knownUp t now t.nx, 0)
def rKnownT : List V.D → Option (Prop × V.D) := fun ds => match ds with
  | [d, .int .i64 now] => some (TaskIs d ∧ (taskOf d).fits, .tup [listD (knownT (taskOf d) now).1, .int .i64 (knownT (taskOf d) now).2])
  | _ => none
theorem refKnownT_ok : PSound Go.Proofs.Try.prog 31 (mk rKnownT) := by
  refine psound_mk Try.func31 (by kernel_rfl) rfl (ctx lib30_ok) ?_
  (intro ds p d h; unfold rKnownT at h; split at h <;> first | (cases h; done) | skip; cases h; refine ⟨Nat.le_of_ble_eq_true rfl, fun hp k hk => ?_⟩)
  rename_i d now
  obtain ⟨ht, hf⟩ := hp
  refine ⟨[(taskOf d).D, .int .i64 now], task_imp ht ⟨rfl, ?_⟩⟩
  clear ht
  generalize taskOf d = t at *
  generalize hS : knownT t now = c at *
  repeat' (first | with_reducible rfl | ((conv => whnf); first | (with_reducible exact trivial) | ((with_reducible refine and_ff ?_ ?_); · exact rfl) | ((with_reducible refine and_tt ?_ ?_); · exact rfl) | (with_reducible refine And.intro ?_ ?_) | intro _ | (with_reducible refine fin2 hk ?_) | ((with_reducible refine eq_leaf ?_); exact rfl) | exact trivial))
  all_goals try exact hf _ (by assumption)
  all_goals clear hf
  rotate_left 4
  · have E : checkE t = 0 := by
      rename_i g1 g2 g3
      clear hS hk
      simp only [taskOf_agg, ↓Bool.not_eq_true', ↓Bool.not_eq_false', ↓decT, ↓decF, out_true, out_false, isin_true, isin_false, Int.toNat_natCast, Int.ofNat_lt, Nat.zero_add, Nat.add_zero, Nat.reduceAdd] at *
      assumption
    have F1 := small_nx (t := t) E
    have hok := check_ok E
    have hnow : 0 ≤ now ∧ now ≤ 100000 := by
      rename_i g1 g2 g3
      clear hS hk
      simp only [taskOf_agg, ↓Bool.not_eq_true', ↓Bool.not_eq_false', ↓decT, ↓decF, out_true, out_false, isin_true, isin_false, Int.toNat_natCast, Int.ofNat_lt, Nat.zero_add, Nat.add_zero, Nat.reduceAdd] at *
      assumption
    have hc : c = (knownUp t now t.nx, 0) := by
      rw [← hS, knownT, if_neg (fun h => h E), if_neg]
      rw [show tickB now = true from by simp only [tickB, taskOf_agg, ↓Bool.not_eq_true', ↓Bool.not_eq_false', ↓decT, ↓decF, out_true, out_false, isin_true, isin_false, Int.toNat_natCast, Int.ofNat_lt, Nat.zero_add, Nat.add_zero, Nat.reduceAdd]; exact hnow]
      exact Bool.noConfusion
    subst hc
    clear hS
    refine ⟨Nat, fun i => [(1, .int .i64 now), (2, .ptr 0 0), (9, .own 1 (knownUp t now i).length), (10, .int .i64 i)], fun i => [some (taskRow t), some (.buf 3 1 (knownUp t now i).length (liD (knownUp t now i)))],
      fun i => t.nx - i, fun i => i ≤ t.nx, [(3, 1)], 0, fun _ => ⟨?_, ?_⟩, ?_, fun i hi => ?_⟩
    · conv => lhs; whnf
    · conv => lhs; whnf
    · clear hk
      repeat' (first | with_reducible rfl | ((conv => whnf); first | (with_reducible exact trivial) | ((with_reducible refine and_ff ?_ ?_); · exact rfl) | ((with_reducible refine and_tt ?_ ?_); · exact rfl) | (with_reducible refine And.intro ?_ ?_) | intro _ | (with_reducible refine fin2 hk ?_) | ((with_reducible refine eq_leaf ?_); exact rfl) | exact trivial))
      all_goals first | exact Nat.zero_le _ | (intro i j h; exact absurd h (Nat.not_lt_zero _)) | (exact absurd (by assumption) (Nat.not_lt_zero _))
    have hlen := knownUp_length t now i
    have F : i < t.nx → (0 ≤ t.xa i 0 ∧ t.xa i 0 < t.ns) ∧ (0 ≤ t.xa i 1 ∧ t.xa i 1 ≤ 100000) ∧ (0 ≤ t.sa (t.xa i 0).toNat 2 ∧ t.sa (t.xa i 0).toNat 2 ≤ 6000) ∧ (1 ≤ t.sa (t.xa i 0).toNat 3 ∧ t.sa (t.xa i 0).toNat 3 ≤ 60000) := fun h => by
      have h3 := hok.src i h
      exact ⟨h3, hok.tick i h, hok.late _ (by omega), hok.life _ (by omega)⟩
    repeat' (first | with_reducible rfl | ((conv => whnf); first | (with_reducible exact trivial) | ((with_reducible refine and_ff ?_ ?_); · exact rfl) | ((with_reducible refine and_tt ?_ ?_); · exact rfl) | (with_reducible refine And.intro ?_ ?_) | intro _ | (with_reducible refine fin2 hk ?_) | ((with_reducible refine eq_leaf ?_); exact rfl) | exact trivial))
    all_goals try ((first | with_reducible refine (?_ : (_ : Int) ≤ _) | with_reducible refine (?_ : (_ : Int) < _) | with_reducible refine (?_ : (_ : Nat) ≤ _) | with_reducible refine (?_ : (_ : Nat) < _)); clear hk; try simp only [taskOf_agg, ↓Bool.not_eq_true', ↓Bool.not_eq_false', ↓decT, ↓decF, out_true, out_false, isin_true, isin_false, Int.toNat_natCast, Int.ofNat_lt, Nat.zero_add, Nat.add_zero, Nat.reduceAdd] at *; first | omega | (have F' := F (by assumption); omega))
    all_goals try conv => whnf
    · rename_i g1 g2 g3 g4 g5
      simp only [taskOf_agg, ↓Bool.not_eq_true', ↓Bool.not_eq_false', ↓decT, ↓decF, out_true, out_false, isin_true, isin_false, Int.toNat_natCast, Int.ofNat_lt, Nat.zero_add, Nat.add_zero, Nat.reduceAdd] at g4 g5
      have hw : knownUp t now (i + 1) = knownUp t now i ++ [(i : Int)] := if_pos g5
      clear hk F hok
      refine ⟨i + 1, ?_⟩
      repeat' (first | with_reducible rfl | ((conv => whnf); first | (with_reducible exact trivial) | ((with_reducible refine and_ff ?_ ?_); · exact rfl) | ((with_reducible refine and_tt ?_ ?_); · exact rfl) | (with_reducible refine And.intro ?_ ?_) | intro _ | (with_reducible refine fin2 hk ?_) | ((with_reducible refine eq_leaf ?_); exact rfl) | exact trivial))
      all_goals first
        | omega
        | (rw [hw]; simp only [List.length_append, List.length_singleton]; done)
        | exact liD_snoc2 hw (by assumption) (by assumption)
        | (simp only; omega)
    · rename_i g1 g2 g3 g4 g5
      simp only [taskOf_agg, ↓Bool.not_eq_true', ↓Bool.not_eq_false', ↓decT, ↓decF, out_true, out_false, isin_true, isin_false, Int.toNat_natCast, Int.ofNat_lt, Nat.zero_add, Nat.add_zero, Nat.reduceAdd] at g4 g5
      have hw : knownUp t now (i + 1) = knownUp t now i := if_neg (by rw [g5]; exact Bool.noConfusion)
      clear hk F hok
      refine ⟨i + 1, ?_⟩
      repeat' (first | with_reducible rfl | ((conv => whnf); first | (with_reducible exact trivial) | ((with_reducible refine and_ff ?_ ?_); · exact rfl) | ((with_reducible refine and_tt ?_ ?_); · exact rfl) | (with_reducible refine And.intro ?_ ?_) | intro _ | (with_reducible refine fin2 hk ?_) | ((with_reducible refine eq_leaf ?_); exact rfl) | exact trivial))
      all_goals first
        | omega
        | (rw [hw]; done)
        | (rw [hw]; rfl)
        | (simp only; omega)
    all_goals (have e : i = t.nx := by (clear hk; simp only [taskOf_agg, ↓Bool.not_eq_true', ↓Bool.not_eq_false', ↓decT, ↓decF, out_true, out_false, isin_true, isin_false, Int.toNat_natCast, Int.ofNat_lt, Nat.zero_add, Nat.add_zero, Nat.reduceAdd] at *; omega))
    all_goals subst e
    all_goals rfl
  all_goals clear hk
  all_goals subst hS
  all_goals try simp only [taskOf_agg, ↓Bool.not_eq_true', ↓Bool.not_eq_false', ↓decT, ↓decF, out_true, out_false, isin_true, isin_false, Int.toNat_natCast, Int.ofNat_lt, Nat.zero_add, Nat.add_zero, Nat.reduceAdd, Int.toNat_zero, Int.reduceToNat, ↓reduceIte, reduceCtorEq, Bool.or_eq_true, Bool.or_eq_false_iff, Bool.and_eq_true, Bool.and_eq_false_iff] at *
  all_goals try simp only [knownT, checkE, tickB, taskOf_agg, ↓Bool.not_eq_true', ↓Bool.not_eq_false', ↓decT, ↓decF, out_true, out_false, isin_true, isin_false, Int.toNat_natCast, Int.ofNat_lt, Nat.zero_add, Nat.add_zero, Nat.reduceAdd, Int.toNat_zero, Int.reduceToNat, ↓reduceIte, reduceCtorEq, Bool.or_eq_true, Bool.or_eq_false_iff, Bool.and_eq_true, Bool.and_eq_false_iff]
  all_goals repeat' split
  all_goals first | with_reducible rfl | omega | (simp_all only [reduceCtorEq]; done) | rfl
def Lknown : Libs := ⟨lib30, [(74, inl (cxOf tab lib23) Go.Proofs.Try.f74)],
  [(102, inlI (cxOf tab lib23) Go.Proofs.Try.f102 (codeOf Go.Proofs.Try.f102))], []⟩
theorem Lknown_ok : LibsOK Go.Proofs.Try.prog Lknown := ⟨lib30_ok,
  asGet_cons (csound_in Try.func74 (by kernel_rfl) rfl (ctx lib23_ok)) (fun g s h => by cases h),
  asGet_cons (isound_of Try.func102 (by kernel_rfl) rfl (ctx lib23_ok)) (fun g s h => by cases h), fun f r h => (by cases h)⟩
theorem windKnownT_ok : PSound Go.Proofs.Try.prog 30 (mk rKnownT) := by
  refine psound_mk Try.func30 (by kernel_rfl) rfl (ctxA Lknown_ok) ?_
  (intro ds p d h; unfold rKnownT at h; split at h <;> first | (cases h; done) | skip; cases h; refine ⟨Nat.le_of_ble_eq_true rfl, fun hp k hk => ?_⟩)
  rename_i d now
  obtain ⟨ht, hf⟩ := hp
  refine ⟨[(taskOf d).D, .int .i64 now], task_imp ht ⟨rfl, ?_⟩⟩
  clear ht
  generalize taskOf d = t at *
  generalize hS : knownT t now = c at *
  repeat' (first | with_reducible rfl | ((conv => whnf); first | (with_reducible exact trivial) | ((with_reducible refine and_ff ?_ ?_); · exact rfl) | ((with_reducible refine and_tt ?_ ?_); · exact rfl) | (with_reducible refine And.intro ?_ ?_) | intro _ | (with_reducible refine fin2 hk ?_) | ((with_reducible refine eq_leaf ?_); exact rfl) | exact trivial))
  all_goals try exact hf _ (by assumption)
  all_goals clear hf
  rotate_left 4
  · have E : checkE t = 0 := by
      rename_i g1 g2 r0
      clear hS hk
      simp only [taskOf_agg, ↓Bool.not_eq_true', ↓Bool.not_eq_false', ↓decT, ↓decF, out_true, out_false, isin_true, isin_false, Int.toNat_natCast, Int.ofNat_lt, Nat.zero_add, Nat.add_zero, Nat.reduceAdd] at *
      assumption
    have F1 := small_nx (t := t) E
    have hok := check_ok E
    have hnow : 0 ≤ now ∧ now ≤ 100000 := by
      rename_i g1 g2 r0
      clear hS hk
      simp only [taskOf_agg, ↓Bool.not_eq_true', ↓Bool.not_eq_false', ↓decT, ↓decF, out_true, out_false, isin_true, isin_false, Int.toNat_natCast, Int.ofNat_lt, Nat.zero_add, Nat.add_zero, Nat.reduceAdd] at *
      assumption
    have hc : c = (knownUp t now t.nx, 0) := by
      rw [← hS, knownT, if_neg (fun h => h E), if_neg]
      rw [show tickB now = true from by simp only [tickB, taskOf_agg, ↓Bool.not_eq_true', ↓Bool.not_eq_false', ↓decT, ↓decF, out_true, out_false, isin_true, isin_false, Int.toNat_natCast, Int.ofNat_lt, Nat.zero_add, Nat.add_zero, Nat.reduceAdd]; exact hnow]
      exact Bool.noConfusion
    subst hc
    clear hS
    rename_i r0
    refine ⟨Nat, fun i => [(0, .yld 4), (1, .ptr 3 0), (8, .rsl 5 t.nx (imD t.xa)), (9, .int .i64 t.nx), (10, .int .i64 i)], fun i => [some (taskRow t), some (.row [.own 5 (knownUp t now i).length]), some (.row (viewL t 0 now)), some (.row (viewL t 0 now)), some (.lp r0 .ready), some (.buf 3 1 (knownUp t now i).length (liD (knownUp t now i)))],
      fun i => t.nx - i, fun i => i ≤ t.nx, [(3, 1)], 0, fun _ => ⟨?_, ?_⟩, ?_, fun i hi => ?_⟩
    · conv => lhs; whnf
    · conv => lhs; whnf
    · clear hk
      repeat' (first | with_reducible rfl | ((conv => whnf); first | (with_reducible exact trivial) | ((with_reducible refine and_ff ?_ ?_); · exact rfl) | ((with_reducible refine and_tt ?_ ?_); · exact rfl) | (with_reducible refine And.intro ?_ ?_) | intro _ | (with_reducible refine fin2 hk ?_) | ((with_reducible refine eq_leaf ?_); exact rfl) | exact trivial))
      all_goals first | exact Nat.zero_le _ | (intro i j h; exact absurd h (Nat.not_lt_zero _)) | (exact absurd (by assumption) (Nat.not_lt_zero _))
    have hlen := knownUp_length t now i
    have F : i < t.nx → (0 ≤ t.xa i 0 ∧ t.xa i 0 < t.ns) ∧ (0 ≤ t.xa i 1 ∧ t.xa i 1 ≤ 100000) ∧ (0 ≤ t.sa (t.xa i 0).toNat 2 ∧ t.sa (t.xa i 0).toNat 2 ≤ 6000) ∧ (1 ≤ t.sa (t.xa i 0).toNat 3 ∧ t.sa (t.xa i 0).toNat 3 ≤ 60000) := fun h => by
      have h3 := hok.src i h
      exact ⟨h3, hok.tick i h, hok.late _ (by omega), hok.life _ (by omega)⟩
    repeat' (first | with_reducible rfl | ((conv => whnf); first | (with_reducible exact trivial) | ((with_reducible refine and_ff ?_ ?_); · exact rfl) | ((with_reducible refine and_tt ?_ ?_); · exact rfl) | (with_reducible refine And.intro ?_ ?_) | intro _ | (with_reducible refine fin2 hk ?_) | ((with_reducible refine eq_leaf ?_); exact rfl) | exact trivial))
    all_goals try ((first | with_reducible refine (?_ : (_ : Int) ≤ _) | with_reducible refine (?_ : (_ : Int) < _) | with_reducible refine (?_ : (_ : Nat) ≤ _) | with_reducible refine (?_ : (_ : Nat) < _)); clear hk; try simp only [taskOf_agg, ↓Bool.not_eq_true', ↓Bool.not_eq_false', ↓decT, ↓decF, out_true, out_false, isin_true, isin_false, Int.toNat_natCast, Int.ofNat_lt, Nat.zero_add, Nat.add_zero, Nat.reduceAdd] at *; first | omega | (have F' := F (by assumption); omega))
    all_goals try conv => whnf
    · rename_i g1 g2 g4 g5 g6
      simp only [taskOf_agg, ↓Bool.not_eq_true', ↓Bool.not_eq_false', ↓decT, ↓decF, out_true, out_false, isin_true, isin_false, Int.toNat_natCast, Int.ofNat_lt, Nat.zero_add, Nat.add_zero, Nat.reduceAdd] at g4 g5 g6
      have hw : knownUp t now (i + 1) = knownUp t now i ++ [(i : Int)] := if_pos (known_t g5 g6)
      clear hk F hok
      refine ⟨i + 1, ?_⟩
      repeat' (first | with_reducible rfl | ((conv => whnf); first | (with_reducible exact trivial) | ((with_reducible refine and_ff ?_ ?_); · exact rfl) | ((with_reducible refine and_tt ?_ ?_); · exact rfl) | (with_reducible refine And.intro ?_ ?_) | intro _ | (with_reducible refine fin2 hk ?_) | ((with_reducible refine eq_leaf ?_); exact rfl) | exact trivial))
      all_goals first
        | omega
        | (rw [hw]; simp only [List.length_append, List.length_singleton]; done)
        | exact liD_snoc2 hw (by assumption) (by assumption)
        | (simp only; omega)
    · rename_i g1 g2 g4 g5 g6
      simp only [taskOf_agg, ↓Bool.not_eq_true', ↓Bool.not_eq_false', ↓decT, ↓decF, out_true, out_false, isin_true, isin_false, Int.toNat_natCast, Int.ofNat_lt, Nat.zero_add, Nat.add_zero, Nat.reduceAdd] at g4 g5 g6
      have hw : knownUp t now (i + 1) = knownUp t now i := if_neg (by rw [known_f (.inr g6)]; exact Bool.noConfusion)
      clear hk F hok
      refine ⟨i + 1, ?_⟩
      repeat' (first | with_reducible rfl | ((conv => whnf); first | (with_reducible exact trivial) | ((with_reducible refine and_ff ?_ ?_); · exact rfl) | ((with_reducible refine and_tt ?_ ?_); · exact rfl) | (with_reducible refine And.intro ?_ ?_) | intro _ | (with_reducible refine fin2 hk ?_) | ((with_reducible refine eq_leaf ?_); exact rfl) | exact trivial))
      all_goals first
        | omega
        | (rw [hw]; done)
        | (rw [hw]; rfl)
        | (simp only; omega)
    · rename_i g1 g2 g4 g5
      simp only [taskOf_agg, ↓Bool.not_eq_true', ↓Bool.not_eq_false', ↓decT, ↓decF, out_true, out_false, isin_true, isin_false, Int.toNat_natCast, Int.ofNat_lt, Nat.zero_add, Nat.add_zero, Nat.reduceAdd] at g4 g5
      have hw : knownUp t now (i + 1) = knownUp t now i := if_neg (by rw [known_f (.inl g5)]; exact Bool.noConfusion)
      clear hk F hok
      refine ⟨i + 1, ?_⟩
      repeat' (first | with_reducible rfl | ((conv => whnf); first | (with_reducible exact trivial) | ((with_reducible refine and_ff ?_ ?_); · exact rfl) | ((with_reducible refine and_tt ?_ ?_); · exact rfl) | (with_reducible refine And.intro ?_ ?_) | intro _ | (with_reducible refine fin2 hk ?_) | ((with_reducible refine eq_leaf ?_); exact rfl) | exact trivial))
      all_goals first
        | omega
        | (rw [hw]; done)
        | (rw [hw]; rfl)
        | (simp only; omega)
    all_goals (have e : i = t.nx := by (clear hk; simp only [taskOf_agg, ↓Bool.not_eq_true', ↓Bool.not_eq_false', ↓decT, ↓decF, out_true, out_false, isin_true, isin_false, Int.toNat_natCast, Int.ofNat_lt, Nat.zero_add, Nat.add_zero, Nat.reduceAdd] at *; omega))
    all_goals subst e
    all_goals rfl
  all_goals clear hk
  all_goals subst hS
  all_goals try simp only [taskOf_agg, ↓Bool.not_eq_true', ↓Bool.not_eq_false', ↓decT, ↓decF, out_true, out_false, isin_true, isin_false, Int.toNat_natCast, Int.ofNat_lt, Nat.zero_add, Nat.add_zero, Nat.reduceAdd, Int.toNat_zero, Int.reduceToNat, ↓reduceIte, reduceCtorEq, Bool.or_eq_true, Bool.or_eq_false_iff, Bool.and_eq_true, Bool.and_eq_false_iff] at *
  all_goals try simp only [knownT, checkE, tickB, taskOf_agg, ↓Bool.not_eq_true', ↓Bool.not_eq_false', ↓decT, ↓decF, out_true, out_false, isin_true, isin_false, Int.toNat_natCast, Int.ofNat_lt, Nat.zero_add, Nat.add_zero, Nat.reduceAdd, Int.toNat_zero, Int.reduceToNat, ↓reduceIte, reduceCtorEq, Bool.or_eq_true, Bool.or_eq_false_iff, Bool.and_eq_true, Bool.and_eq_false_iff]
  all_goals repeat' split
  all_goals first | with_reducible rfl | omega | (simp_all only [reduceCtorEq]; done) | rfl
end Go.Proofs.Ytbkehkiflfhpfaa
