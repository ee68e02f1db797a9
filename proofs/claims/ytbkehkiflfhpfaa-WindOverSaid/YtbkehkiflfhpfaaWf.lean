/-
  Contracts of the wind: what a source says (the reference's loop).
-/
import Derived.Test.YtbkehkiflfhpfaaWe
set_option linter.unusedVariables false
set_option linter.unusedSimpArgs false
set_option maxRecDepth 100000
namespace Go.Proofs.Ytbkehkiflfhpfaa
open Go.V

theorem doubt_bound {t : Task} (hok : t.ok) {i : Nat} (hi : i < t.nx) {h a : Int} (hh : 0 ≤ h ∧ h < 100000000) (ha : 0 ≤ a ∧ a ≤ 100000) : 0 ≤ doubtS t i h a ∧ doubtS t i h a ≤ 2002005000 := by
  have h5 := hok.tick i hi
  have h6 := hok.height i hi
  have h3 := hok.src i hi
  have h7 := hok.err (t.xa i 0).toNat (by omega)
  have b1 := begun_bound (l := 600) ⟨h5.1, by omega⟩ ⟨ha.1, by omega⟩ (by omega)
  have b2 := begun_bound (l := 100000) (b := h) ⟨h6.1, by omega⟩ ⟨hh.1, by omega⟩ (by omega)
  have m1 := mul_bound hok.age b1
  have m2 := mul_bound hok.shear b2
  unfold doubtS
  omega

theorem refSays_ok : PSound Go.Proofs.Try.prog 84 (mk rSays) := by
  refine psound_mk Try.func84 (by kernel_rfl) rfl (ctx lib6_ok) ?_
  (intro ds p d h; unfold rSays at h; split at h <;> first | (cases h; done) | skip; cases h; refine ⟨Nat.le_of_ble_eq_true rfl, fun hp k hk => ?_⟩)
  rename_i d s low high a now
  obtain ⟨ht, hok, hl, hh, ha, hnow⟩ := hp
  refine ⟨[(taskOf d).D, .int .i64 s, .int .i64 low, .int .i64 high, .int .i64 a, .int .i64 now], task_imp ht ⟨rfl, rfl, rfl, rfl, rfl, ?_⟩⟩
  clear ht
  generalize taskOf d = t at *
  repeat' (first | with_reducible rfl | ((conv => whnf); first | exact trivial | refine And.intro ?_ ?_ | intro _ | (with_reducible refine (?_ : _ = true); (conv => lhs; whnf); done) | exact rfl))
  refine ⟨Nat × Word, fun g => [(1, .int .i64 s), (2, .int .i64 low), (3, .int .i64 high), (4, .int .i64 a), (5, .int .i64 now), (6, .ptr 0 0), (12, .ptr 1 0), (13, .ptr 2 0), (14, .int .i64 g.1)],
    fun g => [some (.row [.rsl 7 t.ns (smD t.nm t.sa), .rsl 5 t.nx (imD t.xa), .rsl 1 t.nc (imD t.ca), .int .i64 t.age, .int .i64 t.shear]), some (.row [.top, .top, .top, .top, .top]), some (.row g.2.cells)],
    fun g => t.nx - g.1, fun g => g.1 ≤ t.nx ∧ saysS t s low high a now = saysFrom t s low high a now g.1 g.2 (t.nx - g.1), [], (0, word0), fun _ => ⟨rfl, rfl⟩, ?_, fun g hI => ?_⟩
  · repeat' (first | with_reducible rfl | ((conv => whnf); first | exact trivial | refine And.intro ?_ ?_ | intro _ | (with_reducible refine (?_ : _ = true); (conv => lhs; whnf); done) | exact rfl))
    all_goals simp_all [saysS]
  · obtain ⟨i, w⟩ := g
    obtain ⟨hi, hc⟩ := hI
    simp only at hi hc
    have F : i < t.nx → (0 ≤ t.xa i 0 ∧ t.xa i 0 < t.ns) ∧ (0 ≤ t.xa i 1 ∧ t.xa i 1 ≤ 100000) ∧ (0 ≤ t.xa i 2 ∧ t.xa i 2 < 100000000) ∧ (-20000 ≤ t.xa i 3 ∧ t.xa i 3 ≤ 20000) ∧ (-20000 ≤ t.xa i 4 ∧ t.xa i 4 ≤ 20000) ∧
        (0 ≤ t.sa (t.xa i 0).toNat 1 ∧ t.sa (t.xa i 0).toNat 1 ≤ 5000) ∧ (0 ≤ t.sa (t.xa i 0).toNat 2 ∧ t.sa (t.xa i 0).toNat 2 ≤ 6000) ∧ (0 ≤ doubtS t i low a ∧ doubtS t i low a ≤ 2002005000) ∧ (0 ≤ doubtS t i high a ∧ doubtS t i high a ≤ 2002005000) := fun h => by
      have h3 := hok.src i h
      exact ⟨h3, hok.tick i h, hok.height i h, hok.x i h, hok.y i h, hok.err _ (by omega), hok.late _ (by omega), doubt_bound hok h hl ha, doubt_bound hok h hh ha⟩
    have hnx := hok.nx
    have hage := hok.age
    have hshear := hok.shear
    have key : i < t.nx → saysS t s low high a now = saysFrom t s low high a now (i + 1) (sayStep t s low high a now i w) (t.nx - (i + 1)) := fun h => by rw [hc, saysFrom_step h]
    have key2 : t.nx ≤ i → saysS t s low high a now = w := fun h => by rw [hc, show t.nx - i = 0 by omega]; rfl
    clear hc hok
    repeat' (first | with_reducible rfl | ((conv => whnf); first | exact trivial | refine And.intro ?_ ?_ | intro _ | (with_reducible refine (?_ : _ = true); (conv => lhs; whnf); done) | exact rfl))
    all_goals try refine fin_of hk ?_
    all_goals try refine ⟨(i + 1, sayStep t s low high a now i w), ?_⟩
    all_goals clear hk
    repeat' (first | with_reducible rfl | ((conv => whnf); first | exact trivial | refine And.intro ?_ ?_ | intro _ | (with_reducible refine (?_ : _ = true); (conv => lhs; whnf); done) | exact rfl))
    all_goals try simp only [taskOf_agg, sm, Int.toNat_natCast, Nat.zero_add, Nat.add_zero, Nat.reduceAdd, decide_eq_true_eq, decide_eq_false_iff_not, Bool.not_eq_true', Bool.not_eq_false', Int.ofNat_lt] at *
    all_goals try omega
    all_goals first
      | exact key (by assumption)
      | (rw [key2 (by omega)]; done)
      | (clear key key2 F; simp [sayStep, dOf, *]; done)

/-- What all sources but one leave, and whether they agree. -/
structure Left where
  xl : Int
  xh : Int
  yl : Int
  yh : Int
def left0 : Left := ⟨-20000, 20000, -20000, 20000⟩
def leftStep (t : Task) (but low high a now : Int) (i : Nat) (l : Left) : Left :=
  if (i : Int) = but then l else if (saysS t i low high a now).some = false then l else
    ⟨max l.xl (saysS t i low high a now).xl, min l.xh (saysS t i low high a now).xh, max l.yl (saysS t i low high a now).yl, min l.yh (saysS t i low high a now).yh⟩
def leftFrom (t : Task) (but low high a now : Int) (i : Nat) (l : Left) : Nat → Left
  | 0 => l
  | k + 1 => leftFrom t but low high a now (i + 1) (leftStep t but low high a now i l) k
theorem leftFrom_step {t : Task} {but low high a now : Int} {i n : Nat} {l : Left} (h : i < n) :
    leftFrom t but low high a now i l (n - i) = leftFrom t but low high a now (i + 1) (leftStep t but low high a now i l) (n - (i + 1)) := by
  rw [show n - i = (n - (i + 1)) + 1 by omega, leftFrom]
def leftS (t : Task) (but low high a now : Int) : Left := leftFrom t but low high a now 0 left0 t.ns
def Left.agree (l : Left) : Bool := !decide (l.xh < l.xl) && !decide (l.yh < l.yl)
def rLeft : List V.D → Option (Prop × V.D) := fun ds => match ds with
  | [d, .int .i64 s, .int .i64 low, .int .i64 high, .int .i64 a, .int .i64 now] => some (TaskIs d ∧ (taskOf d).ok ∧ (0 ≤ low ∧ low < 100000000) ∧ (0 ≤ high ∧ high < 100000000) ∧ (0 ≤ a ∧ a ≤ 100000) ∧ (0 ≤ now ∧ now ≤ 100000),
      .tup [.agg [.int .i64 (leftS (taskOf d) s low high a now).xl, .int .i64 (leftS (taskOf d) s low high a now).xh], .agg [.int .i64 (leftS (taskOf d) s low high a now).yl, .int .i64 (leftS (taskOf d) s low high a now).yh], .bool (leftS (taskOf d) s low high a now).agree])
  | _ => none
def lib7 : Lib := (84, mk rSays) :: lib6
theorem lib7_ok : LibOK Go.Proofs.Try.prog lib7 := .cons refSays_ok lib6_ok
end Go.Proofs.Ytbkehkiflfhpfaa
