/-
  Contracts of the wind: what a source says of a band.
-/
import Derived.Test.YtbkehkiflfhpfaaWd
set_option linter.unusedVariables false
set_option linter.unusedSimpArgs false
set_option maxRecDepth 100000
namespace Go.Proofs.Ytbkehkiflfhpfaa
open Go.V

/-- What Check has looked at, of sources and soundings. -/
structure Task.ok (t : Task) : Prop where
  ns : t.ns ≤ 6
  nx : t.nx ≤ 60
  nc : 1 ≤ t.nc ∧ t.nc ≤ 20
  err : ∀ i, i < t.ns → 0 ≤ t.sa i 1 ∧ t.sa i 1 ≤ 5000
  late : ∀ i, i < t.ns → 0 ≤ t.sa i 2 ∧ t.sa i 2 ≤ 6000
  life : ∀ i, i < t.ns → 1 ≤ t.sa i 3 ∧ t.sa i 3 ≤ 60000
  src : ∀ i, i < t.nx → 0 ≤ t.xa i 0 ∧ t.xa i 0 < t.ns
  tick : ∀ i, i < t.nx → 0 ≤ t.xa i 1 ∧ t.xa i 1 ≤ 100000
  height : ∀ i, i < t.nx → 0 ≤ t.xa i 2 ∧ t.xa i 2 < 100000000
  x : ∀ i, i < t.nx → -20000 ≤ t.xa i 3 ∧ t.xa i 3 ≤ 20000
  y : ∀ i, i < t.nx → -20000 ≤ t.xa i 4 ∧ t.xa i 4 ≤ 20000
  cut : ∀ i, i < t.nc → 1 ≤ t.ca i 0 ∧ t.ca i 0 ≤ 100000000
  rise : ∀ i, i + 1 < t.nc → t.ca i 0 < t.ca (i + 1) 0
  age : 0 ≤ t.age ∧ t.age ≤ 1000
  shear : 0 ≤ t.shear ∧ t.shear ≤ 1000

def lowS (t : Task) (b : Nat) : Int := if b = 0 then 0 else t.ca (b - 1) 0
def rEnds : List V.D → Option (Prop × V.D) := fun ds => match ds with
  | [d, .int .i64 b] => some (TaskIs d ∧ (taskOf d).ok ∧ (0 ≤ b ∧ b < (taskOf d).nc), .tup [.int .i64 (lowS (taskOf d) b.toNat), .int .i64 ((taskOf d).ca b.toNat 0 - 1)])
  | _ => none
theorem ends_ok : PSound Go.Proofs.Try.prog 73 (mk rEnds) := by
  refine psound_mk Try.func73 (by kernel_rfl) rfl (ctx lib5_ok) ?_
  (intro ds p d h; unfold rEnds at h; split at h <;> first | (cases h; done) | skip; cases h; refine ⟨Nat.le_of_ble_eq_true rfl, fun hp k hk => ?_⟩)
  rename_i d b
  obtain ⟨ht, hok, h1, h2⟩ := hp
  refine ⟨[(taskOf d).D, .int .i64 b], task_imp ht ⟨rfl, ?_⟩⟩
  clear ht
  generalize taskOf d = t at *
  obtain ⟨n, rfl⟩ := Int.eq_ofNat_of_zero_le h1
  have hc := hok.cut n (by omega)
  have hnc := hok.nc
  have e1 : 0 < n → ((n : Int) - 1).toNat = n - 1 := by omega
  repeat' (first | with_reducible rfl | ((conv => whnf); first | exact trivial | refine And.intro ?_ ?_ | intro _ | (with_reducible refine (?_ : _ = true); (conv => lhs; whnf); done) | exact rfl))
  all_goals try refine fin_of hk ?_
  all_goals clear hk hok
  repeat' (first | with_reducible rfl | ((conv => whnf); first | exact trivial | refine And.intro ?_ ?_ | intro _ | (with_reducible refine (?_ : _ = true); (conv => lhs; whnf); done) | exact rfl))
  all_goals try simp only [lowS, Int.toNat_natCast, Nat.zero_add, Nat.add_zero, Nat.reduceAdd, decide_eq_true_eq, decide_eq_false_iff_not, Int.natCast_pos] at *
  all_goals try omega
  all_goals simp_all
  all_goals omega

/-- What a source says: whether it says something, and what it leaves. -/
structure Word where
  some : Bool
  xl : Int
  xh : Int
  yl : Int
  yh : Int
def Word.cells (w : Word) : List V.D := [.bool w.some, .int .i64 w.xl, .int .i64 w.xh, .int .i64 w.yl, .int .i64 w.yh]
def word0 : Word := ⟨false, -20000, 20000, -20000, 20000⟩
def dOf (t : Task) (low high at' : Int) (i : Nat) : Int := max (doubtS t i low at') (doubtS t i high at')
def sayStep (t : Task) (s low high at' now : Int) (i : Nat) (w : Word) : Word :=
  if t.xa i 0 ≠ s then w else if knownS t i now = false then w else
    ⟨true, max w.xl (t.xa i 3 - dOf t low high at' i), min w.xh (t.xa i 3 + dOf t low high at' i), max w.yl (t.xa i 4 - dOf t low high at' i), min w.yh (t.xa i 4 + dOf t low high at' i)⟩
def saysFrom (t : Task) (s low high at' now : Int) (i : Nat) (w : Word) : Nat → Word
  | 0 => w
  | k + 1 => saysFrom t s low high at' now (i + 1) (sayStep t s low high at' now i w) k
theorem saysFrom_step {t : Task} {s low high at' now : Int} {i n : Nat} {w : Word} (h : i < n) :
    saysFrom t s low high at' now i w (n - i) = saysFrom t s low high at' now (i + 1) (sayStep t s low high at' now i w) (n - (i + 1)) := by
  rw [show n - i = (n - (i + 1)) + 1 by omega, saysFrom]
def saysS (t : Task) (s low high at' now : Int) : Word := saysFrom t s low high at' now 0 word0 t.nx

def rSays : List V.D → Option (Prop × V.D) := fun ds => match ds with
  | [d, .int .i64 s, .int .i64 low, .int .i64 high, .int .i64 a, .int .i64 now] => some (TaskIs d ∧ (taskOf d).ok ∧ (0 ≤ low ∧ low < 100000000) ∧ (0 ≤ high ∧ high < 100000000) ∧ (0 ≤ a ∧ a ≤ 100000) ∧ (0 ≤ now ∧ now ≤ 100000),
      .agg (saysS (taskOf d) s low high a now).cells)
  | _ => none
def lib6 : Lib := (73, mk rEnds) :: (77, mk rDoubt) :: lib5
theorem lib6_ok : LibOK Go.Proofs.Try.prog lib6 := .cons ends_ok (.cons doubt_ok lib5_ok)
end Go.Proofs.Ytbkehkiflfhpfaa
