/-
  Contracts of the wind: what a source says.
-/
import Derived.Test.YtbkehkiflfhpfaaWq
set_option linter.unusedVariables false
set_option linter.unusedSimpArgs false
set_option maxRecDepth 100000
set_option maxHeartbeats 4000000
namespace Go.Proofs.Ytbkehkiflfhpfaa
open Go.V

def lib23 : Lib := (83, mk rSome) :: (65, mk rLook) :: lib22
theorem lib23_ok : LibOK Go.Proofs.Try.prog lib23 := .cons leftSome_ok (.cons look_ok lib22_ok)
def leftG (xl xh yl yh : Int) (i j : Nat) : V.D := .int .i64 (if i = 0 then (if j = 0 then xl else xh) else (if j = 0 then yl else yh))
def nrH (xl xh yl yh : Int) : HL := [none, none, none, none, none, some (.buf 35 2 2 (leftG xl xh yl yh)), none, none, none, none, none, none]
def rNarrow : CRule := fun ds H K => ∃ (x y d xl xh yl yh : Int), ds = [.own 5 2, .int .i64 x, .int .i64 y, .int .i64 d] ∧ H = nrH xl xh yl yh ∧ (sm x ∧ sm y ∧ sm d) ∧
  K (.ret (.tup [])) (nrH (max xl (x - d)) (min xh (x + d)) (max yl (y - d)) (min yh (y + d)))
theorem narrow_ok : CSound Go.Proofs.Try.prog 107 rNarrow := by
  refine csound_mk Try.func107 (by kernel_rfl) rfl (ctx lib23_ok) fun ds H K h => ?_
  obtain ⟨x, y, d, xl, xh, yl, yh, rfl, rfl, ⟨h1, h2, h3⟩, hk⟩ := h
  unfold sm at h1 h2 h3
  repeat' (first | with_reducible rfl | ((conv => whnf); first | exact trivial | refine And.intro ?_ ?_ | intro _ | (with_reducible refine (?_ : _ = true); (conv => lhs; whnf); done) | exact rfl))
  refine ⟨Nat, fun j => [(0, .own 5 2), (3, .int .i64 d), (12, .agg [.int .i64 x, .int .i64 y]), (13, .int .i64 j)],
    fun j => nrH (if 1 ≤ j then max xl (x - d) else xl) (if 1 ≤ j then min xh (x + d) else xh) (if 2 ≤ j then max yl (y - d) else yl) (if 2 ≤ j then min yh (y + d) else yh),
    fun j => 2 - j, fun j => j ≤ 2, [], 0, fun _ => ⟨?_, ?_⟩, ?_, fun j hj => ?_⟩
  · conv => lhs; whnf
  · conv => lhs; whnf
  · clear hk
    repeat' (first | with_reducible rfl | ((conv => whnf); first | exact trivial | refine And.intro ?_ ?_ | intro _ | (with_reducible refine (?_ : _ = true); (conv => lhs; whnf); done) | exact rfl))
    exact Nat.zero_le 2
  have c0 : (List.map numOf [D.int .i64 x, D.int .i64 y]).getD ((0 : Nat) : Int).toNat 0 = x := rfl
  have c1 : (List.map numOf [D.int .i64 x, D.int .i64 y]).getD ((1 : Nat) : Int).toNat 0 = y := rfl
  have hj3 : j = 0 ∨ j = 1 ∨ j = 2 := by omega
  rcases hj3 with rfl | rfl | rfl
  · repeat' (first | with_reducible rfl | ((conv => whnf); first | exact trivial | refine And.intro ?_ ?_ | intro _ | (with_reducible refine (?_ : _ = true); (conv => lhs; whnf); done) | exact rfl))
    all_goals try omega
    · refine ⟨1, ?_⟩
      clear hk
      repeat' (first | with_reducible rfl | ((conv => whnf); first | exact trivial | refine And.intro ?_ ?_ | intro _ | (with_reducible refine (?_ : _ = true); (conv => lhs; whnf); done) | exact rfl))
      · rename_i i j hi hj
        have hi' : i = 0 ∨ i = 1 := by omega
        have hj' : j = 0 ∨ j = 1 := by omega
        rcases hi' with rfl | rfl <;> rcases hj' with rfl | rfl <;> rfl
      · simp only; omega
      · simp only; omega
    · rename_i g1; exact absurd g1 (by decide)
  · repeat' (first | with_reducible rfl | ((conv => whnf); first | exact trivial | refine And.intro ?_ ?_ | intro _ | (with_reducible refine (?_ : _ = true); (conv => lhs; whnf); done) | exact rfl))
    all_goals try omega
    · refine ⟨2, ?_⟩
      clear hk
      repeat' (first | with_reducible rfl | ((conv => whnf); first | exact trivial | refine And.intro ?_ ?_ | intro _ | (with_reducible refine (?_ : _ = true); (conv => lhs; whnf); done) | exact rfl))
      · rename_i i j hi hj
        have hi' : i = 0 ∨ i = 1 := by omega
        have hj' : j = 0 ∨ j = 1 := by omega
        rcases hi' with rfl | rfl <;> rcases hj' with rfl | rfl <;> rfl
      · simp only; omega
      · simp only; omega
    · rename_i g1; exact absurd g1 (by decide)
  · have g0 : decide (((2 : Nat) : Int) < 2) = false := rfl
    repeat' (first | with_reducible rfl | ((conv => whnf); first | exact trivial | refine And.intro ?_ ?_ | intro _ | (with_reducible refine (?_ : _ = true); (conv => lhs; whnf); done) | exact rfl))
    all_goals try (exfalso; exact absurd (by assumption : decide (((2 : Nat) : Int) < 2) = true) (by rw [g0]; exact Bool.noConfusion))
    refine ⟨.tup [], nrH (max xl (x - d)) (min xh (x + d)) (max yl (y - d)) (min yh (y + d)), ?_⟩
    repeat' (first | with_reducible rfl | ((conv => whnf); first | exact trivial | refine And.intro ?_ ?_ | intro _ | (with_reducible refine (?_ : _ = true); (conv => lhs; whnf); done) | exact rfl))
    exact hk
def Lsays : Libs := ⟨lib23, [(106, inl (cxOf tab lib23) Go.Proofs.Try.f106), (107, rNarrow), (74, inl (cxOf tab lib23) Go.Proofs.Try.f74)],
  [(102, inlI (cxOf tab lib23) Go.Proofs.Try.f102 (codeOf Go.Proofs.Try.f102))], []⟩
theorem Lsays_ok : LibsOK Go.Proofs.Try.prog Lsays := ⟨lib23_ok,
  asGet_cons (csound_in Try.func106 (by kernel_rfl) rfl (ctx lib23_ok)) (asGet_cons narrow_ok (asGet_cons (csound_in Try.func74 (by kernel_rfl) rfl (ctx lib23_ok)) (fun g s h => by cases h))),
  asGet_cons (isound_of Try.func102 (by kernel_rfl) rfl (ctx lib23_ok)) (fun g s h => by cases h), fun f r h => (by cases h)⟩

def rViewSays : List V.D → Option (Prop × V.D) := fun ds => match ds with
  | [.agg [a, b, c, e, f, .int .i64 tick, .int .i64 now], .int .i64 s, .agg [.int .i64 low, .int .i64 high]] =>
    some (TaskIs (.agg [a, b, c, e, f]) ∧ (taskOf (.agg [a, b, c, e, f])).ok ∧ (0 ≤ low ∧ low < 100000000) ∧ (0 ≤ high ∧ high < 100000000) ∧ (0 ≤ tick ∧ tick ≤ 100000) ∧ (0 ≤ now ∧ now ≤ 100000),
      .tup [.rsl 2 2 (leftG (saysS (taskOf (.agg [a, b, c, e, f])) s low high tick now).xl (saysS (taskOf (.agg [a, b, c, e, f])) s low high tick now).xh (saysS (taskOf (.agg [a, b, c, e, f])) s low high tick now).yl (saysS (taskOf (.agg [a, b, c, e, f])) s low high tick now).yh), .bool (saysS (taskOf (.agg [a, b, c, e, f])) s low high tick now).some])
  | _ => none
theorem viewSays_ok : PSound Go.Proofs.Try.prog 82 (mk rViewSays) := by
  refine psound_mk Try.func82 (by kernel_rfl) rfl (ctxA Lsays_ok) ?_
  (intro ds p d h; unfold rViewSays at h; split at h <;> first | (cases h; done) | skip; cases h; refine ⟨Nat.le_of_ble_eq_true rfl, fun hp k hk => ?_⟩)
  rename_i a b c e f tick now s low high
  obtain ⟨ht, hok, hl, hh, ha, hnow⟩ := hp
  refine ⟨[.agg (viewL (taskOf (.agg [a, b, c, e, f])) tick now), .int .i64 s, .agg [.int .i64 low, .int .i64 high]], view_imp ht ⟨rfl, rfl, rfl, ?_⟩⟩
  clear ht
  generalize taskOf (.agg [a, b, c, e, f]) = t at *
  generalize hS : saysS t s low high tick now = w0 at *
  repeat' (first | with_reducible rfl | ((conv => whnf); first | exact trivial | refine And.intro ?_ ?_ | intro _ | (with_reducible refine (?_ : _ = true); (conv => lhs; whnf); done) | exact rfl))
  rename_i r0
  refine ⟨Nat × Word, fun g => [(0, .yld 8), (1, .ptr 7 0), (8, .rsl 5 t.nx (imD t.xa)), (9, .int .i64 t.nx), (10, .int .i64 g.1)],
    fun g => [some (.row (viewL t tick now)), some (.row [.int .i64 s]), some (.row [.int .i64 low, .int .i64 high]), some (.row [.bool g.2.some]), some (.row [.int .i64 (-20000), .int .i64 20000]), some (.buf 35 2 2 (leftG g.2.xl g.2.xh g.2.yl g.2.yh)), some (.row [.fn 107 [.own 5 2] []]), some (.row (viewL t tick now)), some (.lp r0 .ready)],
    fun g => t.nx - g.1, fun g => g.1 ≤ t.nx ∧ w0 = saysFrom t s low high tick now g.1 g.2 (t.nx - g.1), [], (0, word0), fun _ => ⟨?_, ?_⟩, ?_, fun g hI => ?_⟩
  · conv => lhs; whnf
  · conv => lhs; whnf
  · clear hk
    repeat' (first | with_reducible rfl | ((conv => whnf); first | exact trivial | refine And.intro ?_ ?_ | intro _ | (with_reducible refine (?_ : _ = true); (conv => lhs; whnf); done) | exact rfl))
    · rename_i i j hi hj
      have hi' : i = 0 ∨ i = 1 := by omega
      have hj' : j = 0 ∨ j = 1 := by omega
      rcases hi' with rfl | rfl <;> rcases hj' with rfl | rfl <;> rfl
    · exact Nat.zero_le _
    · exact hS.symm
  obtain ⟨i, w⟩ := g
  obtain ⟨hi, hc⟩ := hI
  simp only at hi hc
  clear hS
  have f1 : decide (((i, w).fst : Int) < t.nx) = true → i < t.nx := fun h => Int.ofNat_lt.mp (of_decide_eq_true h)
  have F : i < t.nx → (0 ≤ t.xa i 0 ∧ t.xa i 0 < t.ns) ∧ (0 ≤ t.xa i 1 ∧ t.xa i 1 ≤ 100000) ∧ (0 ≤ t.xa i 2 ∧ t.xa i 2 < 100000000) ∧ (-20000 ≤ t.xa i 3 ∧ t.xa i 3 ≤ 20000) ∧ (-20000 ≤ t.xa i 4 ∧ t.xa i 4 ≤ 20000) ∧
      (0 ≤ t.sa (t.xa i 0).toNat 1 ∧ t.sa (t.xa i 0).toNat 1 ≤ 5000) ∧ (0 ≤ t.sa (t.xa i 0).toNat 2 ∧ t.sa (t.xa i 0).toNat 2 ≤ 6000) ∧ (1 ≤ t.sa (t.xa i 0).toNat 3 ∧ t.sa (t.xa i 0).toNat 3 ≤ 60000) ∧ (0 ≤ doubtS t i low tick ∧ doubtS t i low tick ≤ 2002005000) ∧ (0 ≤ doubtS t i high tick ∧ doubtS t i high tick ≤ 2002005000) := fun h => by
    have h3 := hok.src i h
    exact ⟨h3, hok.tick i h, hok.height i h, hok.x i h, hok.y i h, hok.err _ (by omega), hok.late _ (by omega), hok.life _ (by omega), doubt_bound hok h hl ha, doubt_bound hok h hh ha⟩
  have hnx := hok.nx
  have hage := hok.age
  have hshear := hok.shear
  clear hok
  repeat' (first | with_reducible rfl | ((conv => whnf); first | exact trivial | refine And.intro ?_ ?_ | intro _ | (with_reducible refine (?_ : _ = true); (conv => lhs; whnf); done) | exact rfl))
  all_goals try ((first | with_reducible refine (?_ : (_ : Int) ≤ _) | with_reducible refine (?_ : (_ : Int) < _)); have F' := F (f1 (by assumption)); clear F hc; (try simp only [taskOf_agg, Int.toNat_natCast]); omega)
  · exact of_decide_eq_true (by assumption)
  · rename_i g1 g2 g3 g4
    have e1 := f1 g1
    have F' := F e1
    have hw : sayStep t s low high tick now i w = ⟨true, max w.xl (t.xa i 3 - dOf t low high tick i), min w.xh (t.xa i 3 + dOf t low high tick i), max w.yl (t.xa i 4 - dOf t low high tick i), min w.yh (t.xa i 4 + dOf t low high tick i)⟩ := by
      have h1 : t.xa i 0 = s := of_decide_eq_true g4
      have h2 : t.xa i 1 + t.sa (t.xa i 0).toNat 2 ≤ now := of_decide_eq_true g2
      have h3 : now ≤ t.xa i 1 + t.sa (t.xa i 0).toNat 3 := of_decide_eq_true g3
      have h4 : knownS t i now = true := by
        rw [knownS, decide_eq_true h2, decide_eq_true (by omega)]
        rfl
      rw [sayStep, if_neg (fun h => h h1), if_neg (by rw [h4]; exact Bool.noConfusion)]
    refine ⟨t.xa i 3, t.xa i 4, dOf t low high tick i, w.xl, w.xh, w.yl, w.yh, ?_⟩
    clear hk
    repeat' (first | with_reducible rfl | ((conv => whnf); first | exact trivial | refine And.intro ?_ ?_ | intro _ | (with_reducible refine (?_ : _ = true); (conv => lhs; whnf); done) | exact rfl))
    all_goals try (with_reducible refine (?_ : (_ : Int) ≤ _); clear F hc hw; (try unfold dOf); omega)
    refine ⟨(i + 1, ⟨true, max w.xl (t.xa i 3 - dOf t low high tick i), min w.xh (t.xa i 3 + dOf t low high tick i), max w.yl (t.xa i 4 - dOf t low high tick i), min w.yh (t.xa i 4 + dOf t low high tick i)⟩), ?_⟩
    repeat' (first | with_reducible rfl | ((conv => whnf); first | exact trivial | refine And.intro ?_ ?_ | intro _ | (with_reducible refine (?_ : _ = true); (conv => lhs; whnf); done) | exact rfl))
    · exact e1
    · exact (hc.trans (saysFrom_step e1)).trans (congrArg (fun w => saysFrom t s low high tick now (i + 1) w (t.nx - (i + 1))) hw)
    · simp only; omega
  · rename_i g1 g2 g3 g4
    have e1 := f1 g1
    have hw : sayStep t s low high tick now i w = w := if_pos (of_decide_eq_false g4)
    clear hk
    repeat' (first | with_reducible rfl | ((conv => whnf); first | exact trivial | refine And.intro ?_ ?_ | intro _ | (with_reducible refine (?_ : _ = true); (conv => lhs; whnf); done) | exact rfl))
    all_goals try omega
    refine ⟨(i + 1, w), ?_⟩
    repeat' (first | with_reducible rfl | ((conv => whnf); first | exact trivial | refine And.intro ?_ ?_ | intro _ | (with_reducible refine (?_ : _ = true); (conv => lhs; whnf); done) | exact rfl))
    · exact e1
    · exact (hc.trans (saysFrom_step e1)).trans (congrArg (fun w => saysFrom t s low high tick now (i + 1) w (t.nx - (i + 1))) hw)
    · simp only; omega
  · rename_i g1 g2 g3
    have e1 := f1 g1
    have h3 : ¬ now ≤ t.xa i 1 + t.sa (t.xa i 0).toNat 3 := of_decide_eq_false g3
    have hw : sayStep t s low high tick now i w = w := by
      rw [sayStep]
      split
      · rfl
      · rw [if_pos]
        rw [knownS, decide_eq_false (by omega : ¬ now - t.xa i 1 ≤ t.sa (t.xa i 0).toNat 3), Bool.and_false]
    clear hk
    repeat' (first | with_reducible rfl | ((conv => whnf); first | exact trivial | refine And.intro ?_ ?_ | intro _ | (with_reducible refine (?_ : _ = true); (conv => lhs; whnf); done) | exact rfl))
    all_goals try omega
    refine ⟨(i + 1, w), ?_⟩
    repeat' (first | with_reducible rfl | ((conv => whnf); first | exact trivial | refine And.intro ?_ ?_ | intro _ | (with_reducible refine (?_ : _ = true); (conv => lhs; whnf); done) | exact rfl))
    · exact e1
    · exact (hc.trans (saysFrom_step e1)).trans (congrArg (fun w => saysFrom t s low high tick now (i + 1) w (t.nx - (i + 1))) hw)
    · simp only; omega
  · rename_i g1 g2
    have e1 := f1 g1
    have h3 : ¬ t.xa i 1 + t.sa (t.xa i 0).toNat 2 ≤ now := of_decide_eq_false g2
    have hw : sayStep t s low high tick now i w = w := by
      rw [sayStep]
      split
      · rfl
      · rw [if_pos]
        rw [knownS, decide_eq_false h3, Bool.false_and]
    clear hk
    repeat' (first | with_reducible rfl | ((conv => whnf); first | exact trivial | refine And.intro ?_ ?_ | intro _ | (with_reducible refine (?_ : _ = true); (conv => lhs; whnf); done) | exact rfl))
    all_goals try omega
    refine ⟨(i + 1, w), ?_⟩
    repeat' (first | with_reducible rfl | ((conv => whnf); first | exact trivial | refine And.intro ?_ ?_ | intro _ | (with_reducible refine (?_ : _ = true); (conv => lhs; whnf); done) | exact rfl))
    · exact e1
    · exact (hc.trans (saysFrom_step e1)).trans (congrArg (fun w => saysFrom t s low high tick now (i + 1) w (t.nx - (i + 1))) hw)
    · simp only; omega
  · rename_i g1
    have hb : w0 = w := by
      have := of_decide_eq_false g1
      rw [hc, show t.nx - i = 0 by simp only at this; omega]
      rfl
    subst hb
    (refine fin_of hk ?_; clear hk; repeat' (first | with_reducible rfl | ((conv => whnf); first | exact trivial | refine And.intro ?_ ?_ | intro _ | (with_reducible refine (?_ : _ = true); (conv => lhs; whnf); done) | exact rfl)))
    all_goals trace_state
end Go.Proofs.Ytbkehkiflfhpfaa
