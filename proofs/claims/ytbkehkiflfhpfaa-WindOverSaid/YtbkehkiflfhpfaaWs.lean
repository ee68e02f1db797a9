/-
  Contracts of the wind: what all sources but one leave.
-/
import Derived.Test.YtbkehkiflfhpfaaWr
set_option linter.unusedVariables false
set_option linter.unusedSimpArgs false
set_option maxRecDepth 100000
set_option maxHeartbeats 4000000
namespace Go.Proofs.Ytbkehkiflfhpfaa
open Go.V

def lib24 : Lib := (82, mk rViewSays) :: lib23
theorem lib24_ok : LibOK Go.Proofs.Try.prog lib24 := .cons viewSays_ok lib23_ok
def wH (t : Task) (tick now low high xl xh yl yh : Int) : HL := [some (.row (viewL t tick now)), some (.row [.int .i64 low, .int .i64 high]), some (.row [.int .i64 (-20000), .int .i64 20000]), some (.buf 35 2 2 (leftG xl xh yl yh))]
def rMeet : CRule := fun ds H K => ∃ (t : Task) (tick now low high a b c d xl xh yl yh : Int), ds = [.own 3 2, .rsl 2 2 (leftG a b c d)] ∧ H = wH t tick now low high xl xh yl yh ∧
  K (.ret (.tup [])) (wH t tick now low high (max xl a) (min xh b) (max yl c) (min yh d))
theorem meet_ok : CSound Go.Proofs.Try.prog 118 rMeet := by
  refine csound_mk Try.func118 (by kernel_rfl) rfl (ctx lib24_ok) fun ds H K h => ?_
  obtain ⟨t, tick, now, low, high, a, b, c, d, xl, xh, yl, yh, rfl, rfl, hk⟩ := h
  repeat' (first | with_reducible rfl | ((conv => whnf); first | exact trivial | refine And.intro ?_ ?_ | intro _ | (with_reducible refine (?_ : _ = true); (conv => lhs; whnf); done) | exact rfl))
  refine ⟨Nat, fun j => [(0, .own 3 2), (6, .rsl 2 2 (leftG a b c d)), (7, .int .i64 (2 : Nat)), (8, .int .i64 j)],
    fun j => wH t tick now low high (if 1 ≤ j then max xl a else xl) (if 1 ≤ j then min xh b else xh) (if 2 ≤ j then max yl c else yl) (if 2 ≤ j then min yh d else yh),
    fun j => 2 - j, fun j => j ≤ 2, [], 0, fun _ => ⟨?_, ?_⟩, ?_, fun j hj => ?_⟩
  · conv => lhs; whnf
  · conv => lhs; whnf
  · clear hk
    repeat' (first | with_reducible rfl | ((conv => whnf); first | exact trivial | refine And.intro ?_ ?_ | intro _ | (with_reducible refine (?_ : _ = true); (conv => lhs; whnf); done) | exact rfl))
    exact Nat.zero_le 2
  have hj3 : j = 0 ∨ j = 1 ∨ j = 2 := by omega
  rcases hj3 with rfl | rfl | rfl
  · repeat' (first | with_reducible rfl | ((conv => whnf); first | exact trivial | refine And.intro ?_ ?_ | intro _ | (with_reducible refine (?_ : _ = true); (conv => lhs; whnf); done) | exact rfl))
    all_goals try omega
    · refine ⟨1, ?_⟩
      clear hk
      repeat' (first | with_reducible rfl | ((conv => whnf); first | exact trivial | refine And.intro ?_ ?_ | intro _ | (with_reducible refine (?_ : _ = true); (conv => lhs; whnf); done) | exact rfl))
      · rename_i i j hi hj
        have hi' : i = 0 ∨ i = 1 := by omega
        have hj' : j = 0 ∨ j = 1 := by omega
        rcases hi' with rfl | rfl <;> rcases hj' with rfl | rfl <;> rfl
      · simp only; omega
      · simp only; omega
    · rename_i g1; exact absurd g1 (by decide)
  · repeat' (first | with_reducible rfl | ((conv => whnf); first | exact trivial | refine And.intro ?_ ?_ | intro _ | (with_reducible refine (?_ : _ = true); (conv => lhs; whnf); done) | exact rfl))
    all_goals try omega
    · refine ⟨2, ?_⟩
      clear hk
      repeat' (first | with_reducible rfl | ((conv => whnf); first | exact trivial | refine And.intro ?_ ?_ | intro _ | (with_reducible refine (?_ : _ = true); (conv => lhs; whnf); done) | exact rfl))
      · rename_i i j hi hj
        have hi' : i = 0 ∨ i = 1 := by omega
        have hj' : j = 0 ∨ j = 1 := by omega
        rcases hi' with rfl | rfl <;> rcases hj' with rfl | rfl <;> rfl
      · simp only; omega
      · simp only; omega
    · rename_i g1; exact absurd g1 (by decide)
  · have g0 : decide (((2 : Nat) : Int) < (2 : Nat)) = false := rfl
    repeat' (first | with_reducible rfl | ((conv => whnf); first | exact trivial | refine And.intro ?_ ?_ | intro _ | (with_reducible refine (?_ : _ = true); (conv => lhs; whnf); done) | exact rfl))
    all_goals try (exfalso; exact absurd (by assumption : decide (((2 : Nat) : Int) < (2 : Nat)) = true) (by rw [g0]; exact Bool.noConfusion))
    refine ⟨.tup [], wH t tick now low high (max xl a) (min xh b) (max yl c) (min yh d), ?_⟩
    repeat' (first | with_reducible rfl | ((conv => whnf); first | exact trivial | refine And.intro ?_ ?_ | intro _ | (with_reducible refine (?_ : _ = true); (conv => lhs; whnf); done) | exact rfl))
    exact hk

def Lwithout : Libs := ⟨lib24, [(106, inl (cxOf tab lib23) Go.Proofs.Try.f106), (118, rMeet)], [], []⟩
theorem Lwithout_ok : LibsOK Go.Proofs.Try.prog Lwithout := ⟨lib24_ok, asGet_cons (csound_in Try.func106 (by kernel_rfl) rfl (ctx lib23_ok)) (asGet_cons meet_ok (fun g s h => by cases h)), fun f r h => (by cases h), fun f r h => (by cases h)⟩
def leftD (l : Left) : V.D := .rsl 2 2 (leftG l.xl l.xh l.yl l.yh)
def rWithout : List V.D → Option (Prop × V.D) := fun ds => match ds with
  | [.agg [a, b, c, e, f, .int .i64 tick, .int .i64 now], .int .i64 s, .agg [.int .i64 low, .int .i64 high]] =>
    some (TaskIs (.agg [a, b, c, e, f]) ∧ (taskOf (.agg [a, b, c, e, f])).ok ∧ (0 ≤ low ∧ low < 100000000) ∧ (0 ≤ high ∧ high < 100000000) ∧ (0 ≤ tick ∧ tick ≤ 100000) ∧ (0 ≤ now ∧ now ≤ 100000),
      leftD (leftS (taskOf (.agg [a, b, c, e, f])) s low high tick now))
  | _ => none
theorem without_ok : PSound Go.Proofs.Try.prog 100 (mk rWithout) := by
  refine psound_mk Try.func100 (by kernel_rfl) rfl (ctxA Lwithout_ok) ?_
  (intro ds p d h; unfold rWithout at h; split at h <;> first | (cases h; done) | skip; cases h; refine ⟨Nat.le_of_ble_eq_true rfl, fun hp k hk => ?_⟩)
  rename_i a b c e f tick now s low high
  obtain ⟨ht, hok, hl, hh, ha, hnow⟩ := hp
  refine ⟨[.agg (viewL (taskOf (.agg [a, b, c, e, f])) tick now), .int .i64 s, .agg [.int .i64 low, .int .i64 high]], view_imp ht ⟨rfl, rfl, rfl, ?_⟩⟩
  clear ht
  generalize taskOf (.agg [a, b, c, e, f]) = t at *
  generalize hS : leftS t s low high tick now = w0 at *
  repeat' (first | with_reducible rfl | ((conv => whnf); first | exact trivial | refine And.intro ?_ ?_ | intro _ | (with_reducible refine (?_ : _ = true); (conv => lhs; whnf); done) | exact rfl))
  refine ⟨Nat × Left, fun g => [(1, .int .i64 s), (3, .ptr 0 0), (5, .ptr 1 0), (7, .own 3 2), (15, .int .i64 t.ns), (16, .int .i64 g.1)],
    fun g => wH t tick now low high g.2.xl g.2.xh g.2.yl g.2.yh, fun g => t.ns - g.1, fun g => g.1 ≤ t.ns ∧ w0 = leftFrom t s low high tick now g.1 g.2 (t.ns - g.1), [], (0, left0), fun _ => ⟨?_, ?_⟩, ?_, fun g hI => ?_⟩
  · conv => lhs; whnf
  · conv => lhs; whnf
  · clear hk
    repeat' (first | with_reducible rfl | ((conv => whnf); first | exact trivial | refine And.intro ?_ ?_ | intro _ | (with_reducible refine (?_ : _ = true); (conv => lhs; whnf); done) | exact rfl))
    · rename_i i j hi hj
      have hi' : i = 0 ∨ i = 1 := by omega
      have hj' : j = 0 ∨ j = 1 := by omega
      rcases hi' with rfl | rfl <;> rcases hj' with rfl | rfl <;> rfl
    · exact Nat.zero_le _
    · exact hS.symm
  obtain ⟨i, l⟩ := g
  obtain ⟨hi, hc⟩ := hI
  simp only at hi hc
  clear hS
  have f1 : decide (((i, l).fst : Int) < t.ns) = true → i < t.ns := fun h => Int.ofNat_lt.mp (of_decide_eq_true h)
  have hns := hok.ns
  repeat' (first | with_reducible rfl | ((conv => whnf); first | exact trivial | refine And.intro ?_ ?_ | intro _ | (with_reducible refine (?_ : _ = true); (conv => lhs; whnf); done) | exact rfl))
  all_goals try (with_reducible refine (?_ : (_ : Int) ≤ _); simp only; omega)
  all_goals try (with_reducible refine (?_ : (_ : Int) ≤ _); omega)
  all_goals try (with_reducible refine (?_ : (_ : Int) < _); omega)
  · rename_i g1 g2
    have e1 := f1 g1
    have hw : leftStep t s low high tick now i l = l := if_pos (of_decide_eq_true g2)
    clear hk
    refine ⟨(i + 1, l), ?_⟩
    repeat' (first | with_reducible rfl | ((conv => whnf); first | exact trivial | refine And.intro ?_ ?_ | intro _ | (with_reducible refine (?_ : _ = true); (conv => lhs; whnf); done) | exact rfl))
    · exact e1
    · exact (hc.trans (leftFrom_step e1)).trans (congrArg (fun l => leftFrom t s low high tick now (i + 1) l (t.ns - (i + 1))) hw)
    · simp only; omega
  · exact hok
  · rename_i g1 g2 g3
    have e1 := f1 g1
    have hw : leftStep t s low high tick now i l = ⟨max l.xl (saysS t i low high tick now).xl, min l.xh (saysS t i low high tick now).xh, max l.yl (saysS t i low high tick now).yl, min l.yh (saysS t i low high tick now).yh⟩ := (if_neg (of_decide_eq_false g2)).trans (if_neg (by rw [show (saysS t i low high tick now).some = true from g3]; exact Bool.noConfusion))
    clear hk
    refine ⟨t, tick, now, low, high, (saysS t i low high tick now).xl, (saysS t i low high tick now).xh, (saysS t i low high tick now).yl, (saysS t i low high tick now).yh, l.xl, l.xh, l.yl, l.yh, ?_⟩
    repeat' (first | with_reducible rfl | ((conv => whnf); first | exact trivial | refine And.intro ?_ ?_ | intro _ | (with_reducible refine (?_ : _ = true); (conv => lhs; whnf); done) | exact rfl))
    all_goals try (with_reducible refine (?_ : (_ : Int) ≤ _); simp only; omega)
    refine ⟨(i + 1, ⟨max l.xl (saysS t i low high tick now).xl, min l.xh (saysS t i low high tick now).xh, max l.yl (saysS t i low high tick now).yl, min l.yh (saysS t i low high tick now).yh⟩), ?_⟩
    repeat' (first | with_reducible rfl | ((conv => whnf); first | exact trivial | refine And.intro ?_ ?_ | intro _ | (with_reducible refine (?_ : _ = true); (conv => lhs; whnf); done) | exact rfl))
    · exact e1
    · exact (hc.trans (leftFrom_step e1)).trans (congrArg (fun l => leftFrom t s low high tick now (i + 1) l (t.ns - (i + 1))) hw)
    · simp only; omega
  · rename_i g1 g2 g3
    have e1 := f1 g1
    have hw : leftStep t s low high tick now i l = l := (if_neg (of_decide_eq_false g2)).trans (if_pos g3)
    clear hk
    repeat' (first | with_reducible rfl | ((conv => whnf); first | exact trivial | refine And.intro ?_ ?_ | intro _ | (with_reducible refine (?_ : _ = true); (conv => lhs; whnf); done) | exact rfl))
    all_goals try (with_reducible refine (?_ : (_ : Int) ≤ _); simp only; omega)
    refine ⟨(i + 1, l), ?_⟩
    repeat' (first | with_reducible rfl | ((conv => whnf); first | exact trivial | refine And.intro ?_ ?_ | intro _ | (with_reducible refine (?_ : _ = true); (conv => lhs; whnf); done) | exact rfl))
    · exact e1
    · exact (hc.trans (leftFrom_step e1)).trans (congrArg (fun l => leftFrom t s low high tick now (i + 1) l (t.ns - (i + 1))) hw)
    · simp only; omega
  · rename_i g1
    have hb : w0 = l := by
      have := of_decide_eq_false g1
      rw [hc, show t.ns - i = 0 by simp only at this; omega]
      rfl
    subst hb
    (refine fin_of hk ?_; clear hk; repeat' (first | with_reducible rfl | ((conv => whnf); first | exact trivial | refine And.intro ?_ ?_ | intro _ | (with_reducible refine (?_ : _ = true); (conv => lhs; whnf); done) | exact rfl)))
end Go.Proofs.Ytbkehkiflfhpfaa
