/-
  Contracts of the recovery: numbers, spans, the parachute.
-/
import Derived.Test.YtphcblofacfkaaaGreatMi
set_option linter.unusedVariables false
set_option linter.unusedSimpArgs false
set_option maxRecDepth 100000
set_option maxHeartbeats 4000000
section
namespace Go.Proofs.YtphcblofacfkaaaGreat
open Go.V
theorem rOut_ok : PSound Go.Proofs.Tryz.prog 38 (mk rOut) := by
  refine psound_mk Tryz.func38 (by kernel_rfl) rfl (ctx (.nil _)) ?_
  (intro ds p d h; unfold rOut at h; split at h <;> first | (cases h; done) | skip; cases h; refine ⟨Nat.le_of_ble_eq_true rfl, fun hp k hk => ?_⟩)
  rename_i a b c
  refine ⟨[.int .i64 a, .int .i64 b, .int .i64 c], ?_⟩
  repeat' (first | ((with_reducible refine kok ?_); kernel_rfl) | ((with_reducible refine keq_mk ?_); kernel_rfl) | with_reducible rfl | ((conv => whnf); first | exact trivial | refine And.intro ?_ ?_ | intro _ | (with_reducible refine (?_ : _ = true); (conv => lhs; whnf); done) | exact rfl))
  all_goals (refine fin_of hk ?_; clear hk; repeat' (first | ((with_reducible refine kok ?_); kernel_rfl) | ((with_reducible refine keq_mk ?_); kernel_rfl) | with_reducible rfl | ((conv => whnf); first | exact trivial | refine And.intro ?_ ?_ | intro _ | (with_reducible refine (?_ : _ = true); (conv => lhs; whnf); done) | exact rfl)))
  all_goals (simp_all [out] <;> omega)
noncomputable def lr1 : Lib := (38, mk rOut) :: lib39
theorem lr1_ok : LibOK Go.Proofs.Tryz.prog lr1 := .cons rOut_ok lib39_ok
theorem rNever_ok : PSound Go.Proofs.Tryz.prog 29 (mk (r1 fun n => out n 0 100000)) := by
  refine psound_mk Tryz.func29 (by kernel_rfl) rfl (ctx lr1_ok) ?_
  (intro ds p d h; unfold r1 at h; split at h <;> first | (cases h; done) | skip; cases h; refine ⟨Nat.le_of_ble_eq_true rfl, fun hp k hk => ?_⟩)
  rename_i a
  refine ⟨[.int .i64 a], ?_⟩
  repeat' (first | ((with_reducible refine kok ?_); kernel_rfl) | ((with_reducible refine keq_mk ?_); kernel_rfl) | with_reducible rfl | ((conv => whnf); first | exact trivial | refine And.intro ?_ ?_ | intro _ | (with_reducible refine (?_ : _ = true); (conv => lhs; whnf); done) | exact rfl))
  all_goals (refine fin_of hk ?_; clear hk; repeat' (first | ((with_reducible refine kok ?_); kernel_rfl) | ((with_reducible refine keq_mk ?_); kernel_rfl) | with_reducible rfl | ((conv => whnf); first | exact trivial | refine And.intro ?_ ?_ | intro _ | (with_reducible refine (?_ : _ = true); (conv => lhs; whnf); done) | exact rfl)))
def sideB (lo hi m : Int) : Bool := isin lo (-m) m && isin hi lo m
theorem side_true (lo hi m : Int) : (sideB lo hi m = true) = (-m ≤ lo ∧ lo ≤ hi ∧ hi ≤ m) := by
  simp [sideB, isin]
  omega
def rSide (p : Bool → Bool) : List D → Option (Prop × D) := fun ds => match ds with
  | [.agg [.int .i64 a, .int .i64 b], .int .i64 m] => some (0 ≤ m ∧ m ≤ 4000000000, .bool (p (sideB a b m)))
  | _ => none
theorem rOff_ok : PSound Go.Proofs.Tryz.prog 28 (mk (rSide not)) := by
  refine psound_mk Tryz.func28 (by kernel_rfl) rfl (ctx lr1_ok) ?_
  (intro ds p d h; unfold rSide at h; split at h <;> first | (cases h; done) | skip; cases h; refine ⟨Nat.le_of_ble_eq_true rfl, fun hp k hk => ?_⟩)
  rename_i a b m
  refine ⟨[.agg [.int .i64 a, .int .i64 b], .int .i64 m], ?_⟩
  generalize hS : (!sideB a b m) = c at *
  repeat' (first | ((with_reducible refine kok ?_); kernel_rfl) | ((with_reducible refine keq_mk ?_); kernel_rfl) | with_reducible rfl | ((conv => whnf); first | (with_reducible exact trivial) | ((with_reducible refine and_ff ?_ ?_); · exact rfl) | ((with_reducible refine and_tt ?_ ?_); · exact rfl) | (with_reducible refine And.intro ?_ ?_) | intro _ | (with_reducible refine fin2 hk ?_) | ((with_reducible refine eq_leaf ?_); exact rfl) | exact trivial))
  all_goals first | omega | (rw [← hS]; clear hS; simp only [sideB, ← out_isin, Bool.not_and, *]; simp_all)
def rPoint : List D → Option (Prop × D) := fun ds => match ds with
  | [.agg [.int .i64 a, .int .i64 b]] => some (True, .agg [.int .i64 a, .int .i64 a, .int .i64 b, .int .i64 b])
  | _ => none
theorem rPoint_ok : PSound Go.Proofs.Tryz.prog 86 (mk rPoint) := by
  refine psound_mk Tryz.func86 (by kernel_rfl) rfl (ctx lr1_ok) ?_
  (intro ds p d h; unfold rPoint at h; split at h <;> first | (cases h; done) | skip; cases h; refine ⟨Nat.le_of_ble_eq_true rfl, fun hp k hk => ?_⟩)
  rename_i a b
  refine ⟨[.agg [.int .i64 a, .int .i64 b]], ?_⟩
  repeat' (first | ((with_reducible refine kok ?_); kernel_rfl) | ((with_reducible refine keq_mk ?_); kernel_rfl) | with_reducible rfl | ((conv => whnf); first | exact trivial | refine And.intro ?_ ?_ | intro _ | (with_reducible refine (?_ : _ = true); (conv => lhs; whnf); done) | exact rfl))
  all_goals (refine fin_of hk ?_; clear hk; repeat' (first | ((with_reducible refine kok ?_); kernel_rfl) | ((with_reducible refine keq_mk ?_); kernel_rfl) | with_reducible rfl | ((conv => whnf); first | exact trivial | refine And.intro ?_ ?_ | intro _ | (with_reducible refine (?_ : _ = true); (conv => lhs; whnf); done) | exact rfl)))
noncomputable def lr2 : Lib := (29, mk (r1 fun n => out n 0 100000)) :: (28, mk (rSide not)) :: (86, mk rPoint) :: lr1
theorem lr2_ok : LibOK Go.Proofs.Tryz.prog lr2 := .cons rNever_ok (.cons rOff_ok (.cons rPoint_ok lr1_ok))
def areaB (a b c d : Int) : Bool := sideB a b 100000000 && sideB c d 100000000
def rArea (p : Bool → Bool) : List D → Option (Prop × D) := fun ds => match ds with
  | [.agg [.int .i64 a, .int .i64 b, .int .i64 c, .int .i64 d]] => some (True, .bool (p (areaB a b c d)))
  | _ => none
theorem rAway_ok : PSound Go.Proofs.Tryz.prog 84 (mk (rArea not)) := by
  refine psound_mk Tryz.func84 (by kernel_rfl) rfl (ctx lr2_ok) ?_
  (intro ds p d h; unfold rArea at h; split at h <;> first | (cases h; done) | skip; cases h; refine ⟨Nat.le_of_ble_eq_true rfl, fun hp k hk => ?_⟩)
  rename_i a b c d
  refine ⟨[.agg [.int .i64 a, .int .i64 b, .int .i64 c, .int .i64 d]], ?_⟩
  generalize hS : (!areaB a b c d) = e at *
  repeat' (first | ((with_reducible refine kok ?_); kernel_rfl) | ((with_reducible refine keq_mk ?_); kernel_rfl) | with_reducible rfl | ((conv => whnf); first | (with_reducible exact trivial) | ((with_reducible refine and_ff ?_ ?_); · exact rfl) | ((with_reducible refine and_tt ?_ ?_); · exact rfl) | (with_reducible refine And.intro ?_ ?_) | intro _ | (with_reducible refine fin2 hk ?_) | ((with_reducible refine eq_leaf ?_); exact rfl) | exact trivial))
  all_goals first | omega | (rw [← hS]; clear hS; simp_all [areaB])
def rDown : List D → Option (Prop × D) := fun ds => match ds with
  | [.int .i64 a, .int .i64 b] => some (0 < b ∧ -4611686018427387904 ≤ a ∧ a ≤ 4611686018427387904, .int .i64 (a / b))
  | _ => none
theorem tmod_neg {a b : Int} (hb : 0 < b) : a.tmod b < 0 ↔ a < a.tdiv b * b := by
  have h1 := Int.tmod_add_mul_tdiv a b
  have hc : b * a.tdiv b = a.tdiv b * b := Int.mul_comm _ _
  omega
theorem rDown_ok : PSound Go.Proofs.Tryz.prog 31 (mk rDown) := by
  refine psound_mk Tryz.func31 (by kernel_rfl) rfl (ctx (.nil _)) ?_
  (intro ds p d h; unfold rDown at h; split at h <;> first | (cases h; done) | skip; cases h; refine ⟨Nat.le_of_ble_eq_true rfl, fun hp k hk => ?_⟩)
  rename_i a b
  refine ⟨[.int .i64 a, .int .i64 b], ?_⟩
  have hf := tdiv_facts a (b := b) (by omega)
  have hg := tmod_neg (a := a) (b := b) (by omega)
  obtain ⟨f1, f2, f3, f4⟩ := hf
  generalize hS : a / b = c at *
  repeat' (first | ((with_reducible refine kok ?_); kernel_rfl) | ((with_reducible refine keq_mk ?_); kernel_rfl) | with_reducible rfl | ((conv => whnf); first | (with_reducible exact trivial) | ((with_reducible refine and_ff ?_ ?_); · exact rfl) | ((with_reducible refine and_tt ?_ ?_); · exact rfl) | (with_reducible refine And.intro ?_ ?_) | intro _ | (with_reducible refine fin2 hk ?_) | ((with_reducible refine eq_leaf ?_); exact rfl) | exact trivial))
  all_goals try simp only [↓decT, ↓decF] at *
  all_goals omega
end Go.Proofs.YtphcblofacfkaaaGreat
end
section
namespace Go.Proofs.YtphcblofacfkaaaGreat
open Go.V
def chuteB (h f g : Int) : Bool := isin h 1 100000000 && sideB f g 10000 && decide (1 ≤ f)
def rChute : List D → Option (Prop × D) := fun ds => match ds with
  | [.agg [.int .i64 h, .int .i64 f, .int .i64 g]] => some (True, .int .i64 (if chuteB h f g = true then 0 else 7))
  | _ => none
theorem chute_true (h f g : Int) : (chuteB h f g = true) = (1 ≤ h ∧ h ≤ 100000000 ∧ 1 ≤ f ∧ f ≤ g ∧ g ≤ 10000) := by
  simp [chuteB, isin, sideB]
  omega
theorem rChute_ok : PSound Go.Proofs.Tryz.prog 26 (mk rChute) := by
  refine psound_mk Tryz.func26 (by kernel_rfl) rfl (ctx lr2_ok) ?_
  (intro ds p d h; unfold rChute at h; split at h <;> first | (cases h; done) | skip; cases h; refine ⟨Nat.le_of_ble_eq_true rfl, fun hp k hk => ?_⟩)
  rename_i h f g
  refine ⟨[.agg [.int .i64 h, .int .i64 f, .int .i64 g]], ?_⟩
  generalize hS : (if chuteB h f g = true then (0 : Int) else 7) = c at *
  repeat' (first | ((with_reducible refine kok ?_); kernel_rfl) | ((with_reducible refine keq_mk ?_); kernel_rfl) | with_reducible rfl | ((conv => whnf); first | (with_reducible exact trivial) | ((with_reducible refine and_ff ?_ ?_); · exact rfl) | ((with_reducible refine and_tt ?_ ?_); · exact rfl) | (with_reducible refine And.intro ?_ ?_) | intro _ | (with_reducible refine fin2 hk ?_) | ((with_reducible refine eq_leaf ?_); exact rfl) | exact trivial))
  all_goals first | omega | (subst hS; simp only [out_true, out_false] at *; simp only [chute_true]; split <;> omega)
def dLo (p f g : Int) : Int := min (p / f) (p / g)
def dHi (p f g : Int) : Int := max (0 - (0 - p) / f) (0 - (0 - p) / g)
def big (p : Int) : Prop := -100000000000000 ≤ p ∧ p ≤ 100000000000000
theorem div_big {p f : Int} (hp : big p) (hf : 1 ≤ f) : -100000000000000 ≤ p / f ∧ p / f ≤ 100000000000000 := by
  obtain ⟨h1, h2⟩ := ediv_le_self (a := p) (b := f) (by omega)
  unfold big at hp
  rcases Int.le_total 0 p with h | h
  · have := h1 h; omega
  · have := h2 h; omega
theorem dLo_big {p f g : Int} (hp : big p) (hf : 1 ≤ f) (hg : 1 ≤ g) : -100000000000000 ≤ dLo p f g ∧ dLo p f g ≤ 100000000000000 := by
  have := div_big hp hf
  have := div_big hp hg
  unfold dLo
  omega
theorem dHi_big {p f g : Int} (hp : big p) (hf : 1 ≤ f) (hg : 1 ≤ g) : -100000000000000 ≤ dHi p f g ∧ dHi p f g ≤ 100000000000000 := by
  have h : big (0 - p) := by unfold big at *; omega
  have := div_big h hf
  have := div_big h hg
  unfold dHi
  omega
def rRDrift : List D → Option (Prop × D) := fun ds => match ds with
  | [.agg [.int .i64 a, .int .i64 b], .agg [.int .i64 p, .int .i64 q], .agg [.int .i64 f, .int .i64 g]] => some (((big a ∧ big b) ∧ big p ∧ big q) ∧ 1 ≤ f ∧ 1 ≤ g, .agg [.int .i64 (a + dLo p f g), .int .i64 (b + dHi q f g)])
  | _ => none
noncomputable def lr3 : Lib := (84, mk (rArea not)) :: (31, mk rDown) :: (26, mk rChute) :: lr2
theorem lr3_ok : LibOK Go.Proofs.Tryz.prog lr3 := .cons rAway_ok (.cons rDown_ok (.cons rChute_ok lr2_ok))
theorem rDrift_ok : PSound Go.Proofs.Tryz.prog 30 (mk rRDrift) := by
  refine psound_mk Tryz.func30 (by kernel_rfl) rfl (ctx lr3_ok) ?_
  (intro ds p d h; unfold rRDrift at h; split at h <;> first | (cases h; done) | skip; cases h; refine ⟨Nat.le_of_ble_eq_true rfl, fun hp k hk => ?_⟩)
  rename_i a b p q f g
  obtain ⟨⟨⟨ha, hb⟩, h1, h2⟩, hf, hg⟩ := hp
  refine ⟨[.agg [.int .i64 a, .int .i64 b], .agg [.int .i64 p, .int .i64 q], .agg [.int .i64 f, .int .i64 g]], ?_⟩
  have B1 := dLo_big h1 hf hg
  have B2 := dHi_big h2 hf hg
  have B3 := div_big h1 hf
  have B4 := div_big h1 hg
  have h3 : big (0 - q) := by unfold big at *; omega
  have B5 := div_big h3 hf
  have B6 := div_big h3 hg
  unfold big at *
  generalize hS : dLo p f g = c at *
  generalize hT : dHi q f g = d at *
  unfold dLo at hS
  unfold dHi at hT
  repeat' (first | ((with_reducible refine kok ?_); kernel_rfl) | ((with_reducible refine keq_mk ?_); kernel_rfl) | with_reducible rfl | ((conv => whnf); first | (with_reducible exact trivial) | ((with_reducible refine and_ff ?_ ?_); · exact rfl) | ((with_reducible refine and_tt ?_ ?_); · exact rfl) | (with_reducible refine And.intro ?_ ?_) | intro _ | (with_reducible refine fin2 hk ?_) | ((with_reducible refine eq_leaf ?_); exact rfl) | exact trivial))
  all_goals omega
end Go.Proofs.YtphcblofacfkaaaGreat
end
section
namespace Go.Proofs.YtphcblofacfkaaaGreat
open Go.V
structure Impt where (pc xl xh yl yh t0 t1 : Int)
def Impt.D (x : Impt) : V.D := .agg [.int .i64 x.pc, .int .i64 x.xl, .int .i64 x.xh, .int .i64 x.yl, .int .i64 x.yh, .int .i64 x.t0, .int .i64 x.t1]
def imp0 : Impt := ⟨0, 0, 0, 0, 0, 0, 0⟩
def mmB (a : Nat → Nat → Int) (h : Int) (i : Nat) : Int := max 0 (min (a i 1) h - a i 0)
def sumW (a : Nat → Nat → Int) (h : Int) (j : Nat) : Nat → Int
  | 0 => 0
  | k + 1 => sumW a h j k + a k j * mmB a h k
def imptB (x : Impt) : Bool := sideB x.xl x.xh 2000000000 && sideB x.yl x.yh 2000000000 && isin x.t0 0 100000 && isin x.t1 0 100000 && decide (x.t0 ≤ x.t1)
def landE (x : Impt) (h f g : Int) (n : Nat) (a : Nat → Nat → Int) : Int :=
  if chuteB h f g = false then 7 else if (checkBands n a).2 ≠ 0 then (checkBands n a).2 else if imptB x = false then 7 else if a (n - 1) 1 < h then 4 else 0
def landI (x : Impt) (h f g : Int) (n : Nat) (a : Nat → Nat → Int) : Impt :=
  ⟨x.pc, x.xl + dLo (sumW a h 2 n) f g, x.xh + dHi (sumW a h 3 n) f g, x.yl + dLo (sumW a h 4 n) f g, x.yh + dHi (sumW a h 5 n) f g, x.t0 + h.tdiv g, x.t1 - (0 - h) / f⟩
def landT (x : Impt) (h f g : Int) (n : Nat) (a : Nat → Nat → Int) : Impt × Int := if landE x h f g n a ≠ 0 then (imp0, landE x h f g n a) else (landI x h f g n a, 0)
def rLand : List D → Option (Prop × D) := fun ds => match ds with
  | [.agg [.int .i64 pc, .int .i64 xl, .int .i64 xh, .int .i64 yl, .int .i64 yh, .int .i64 t0, .int .i64 t1], .agg [.int .i64 h, .int .i64 f, .int .i64 g], .rsl 6 n b] =>
    some (IM n 6 b, .tup [(landT ⟨pc, xl, xh, yl, yh, t0, t1⟩ h f g n (im b)).1.D, .int .i64 (landT ⟨pc, xl, xh, yl, yh, t0, t1⟩ h f g n (im b)).2])
  | _ => none
theorem mul_in {x y A B : Int} (hx : -A ≤ x ∧ x ≤ A) (hy : 0 ≤ y ∧ y ≤ B) (hA : 0 ≤ A) : -(A * B) ≤ x * y ∧ x * y ≤ A * B := by
  have h1 : x * y ≤ A * y := Int.mul_le_mul_of_nonneg_right hx.2 hy.1
  have h2 : A * y ≤ A * B := Int.mul_le_mul_of_nonneg_left hy.2 hA
  have h3 : -A * y ≤ x * y := Int.mul_le_mul_of_nonneg_right hx.1 hy.1
  rw [Int.neg_mul] at h3
  omega
theorem mm_in {n : Nat} {a : Nat → Nat → Int} (hb : BandsOK n a) {h : Int} (h1 : 1 ≤ h ∧ h ≤ 100000000) {i : Nat} (hi : i < n) : 0 ≤ mmB a h i ∧ mmB a h i ≤ 100000000 ∧ -100000000 ≤ min (a i 1) h - a i 0 ∧ min (a i 1) h - a i 0 ≤ 100000000 := by
  have := hb.up i hi
  have := hb.low hi
  unfold mmB
  omega
theorem term_in {n : Nat} {a : Nat → Nat → Int} (hb : BandsOK n a) {h : Int} (h1 : 1 ≤ h ∧ h ≤ 100000000) {i j : Nat} (hi : i < n) (hj : j = 2 ∨ j = 3 ∨ j = 4 ∨ j = 5) : -2000000000000 ≤ a i j * mmB a h i ∧ a i j * mmB a h i ≤ 2000000000000 := by
  have h2 := mm_in hb h1 hi
  have hx := hb.x i hi
  have hy := hb.y i hi
  refine mul_in (A := 20000) (B := 100000000) ?_ ⟨h2.1, h2.2.1⟩ (by decide)
  rcases hj with rfl | rfl | rfl | rfl <;> omega
theorem sumW_in {n : Nat} {a : Nat → Nat → Int} (hb : BandsOK n a) {h : Int} (h1 : 1 ≤ h ∧ h ≤ 100000000) {j : Nat} (hj : j = 2 ∨ j = 3 ∨ j = 4 ∨ j = 5) : ∀ {i : Nat}, i ≤ n → -(2000000000000 * i) ≤ sumW a h j i ∧ sumW a h j i ≤ 2000000000000 * i
  | 0, _ => by simp [sumW]
  | i + 1, hi => by
    have := sumW_in hb h1 hj (i := i) (by omega)
    have := term_in hb h1 (i := i) (j := j) (by omega) hj
    simp only [sumW]
    omega
theorem sumW_big {n : Nat} {a : Nat → Nat → Int} (hb : BandsOK n a) {h : Int} (h1 : 1 ≤ h ∧ h ≤ 100000000) {j : Nat} (hj : j = 2 ∨ j = 3 ∨ j = 4 ∨ j = 5) {i : Nat} (hi : i ≤ n) : -40000000000000 ≤ sumW a h j i ∧ sumW a h j i ≤ 40000000000000 := by
  have := sumW_in hb h1 hj hi
  have := hb.len
  omega
theorem chute0 (b : Bool) : ((if b = true then (0 : Int) else 7) = 0) = (b = true) := by cases b <;> simp
theorem landT_chute {x : Impt} {h f g : Int} {n : Nat} {a : Nat → Nat → Int} (h1 : ¬ chuteB h f g = true) : landT x h f g n a = (imp0, 7) := by simp [landT, landE, h1]
theorem landT_bands {x : Impt} {h f g : Int} {n : Nat} {a : Nat → Nat → Int} (h1 : chuteB h f g = true) (h2 : ¬ (checkBands n a).2 = 0) : landT x h f g n a = (imp0, (checkBands n a).2) := by simp [landT, landE, h1, h2]
theorem landT_imp {x : Impt} {h f g : Int} {n : Nat} {a : Nat → Nat → Int} (h1 : chuteB h f g = true) (h2 : (checkBands n a).2 = 0) (h3 : imptB x = false) : landT x h f g n a = (imp0, 7) := by simp [landT, landE, h1, h2, h3]
theorem landT_top {x : Impt} {h f g : Int} {n : Nat} {a : Nat → Nat → Int} (h1 : chuteB h f g = true) (h2 : (checkBands n a).2 = 0) (h3 : imptB x = true) (h4 : a (n - 1) 1 < h) : landT x h f g n a = (imp0, 4) := by simp [landT, landE, h1, h2, h3, h4]
theorem landT_ok {x : Impt} {h f g : Int} {n : Nat} {a : Nat → Nat → Int} (h1 : chuteB h f g = true) (h2 : (checkBands n a).2 = 0) (h3 : imptB x = true) (h4 : ¬ a (n - 1) 1 < h) : landT x h f g n a = (landI x h f g n a, 0) := by simp [landT, landE, h1, h2, h3, h4]
theorem imp_true (x : Impt) : (imptB x = true) = (sideB x.xl x.xh 2000000000 = true ∧ sideB x.yl x.yh 2000000000 = true ∧ (0 ≤ x.t0 ∧ x.t0 ≤ 100000) ∧ (0 ≤ x.t1 ∧ x.t1 ≤ 100000) ∧ x.t0 ≤ x.t1) := by
  simp only [imptB, Bool.and_eq_true, isin_true, decT, and_assoc]
theorem imp_false {x : Impt} (h : ¬ (sideB x.xl x.xh 2000000000 = true ∧ sideB x.yl x.yh 2000000000 = true ∧ (0 ≤ x.t0 ∧ x.t0 ≤ 100000) ∧ (0 ≤ x.t1 ∧ x.t1 ≤ 100000) ∧ x.t0 ≤ x.t1)) : imptB x = false := by
  rw [← imp_true] at h
  simpa using h
theorem sumW_step (a : Nat → Nat → Int) (h : Int) (j i : Nat) : sumW a h j (i + 1) = sumW a h j i + a i j * max 0 (min (a i 1) h - a i 0) := rfl
noncomputable def lr4 : Lib := (30, mk rRDrift) :: lr3
theorem lr4_ok : LibOK Go.Proofs.Tryz.prog lr4 := .cons rDrift_ok lr3_ok
attribute [local irreducible] checkBands dLo dHi sumW chuteB imptB
theorem rLand_ok : PSound Go.Proofs.Tryz.prog 6 (mk rLand) := by
  refine psound_mk Tryz.func6 (by kernel_rfl) rfl (ctx lr4_ok) ?_
  (intro ds p d h; unfold rLand at h; split at h <;> first | (cases h; done) | skip; cases h; refine ⟨Nat.le_of_ble_eq_true rfl, fun hp k hk => ?_⟩)
  rename_i pc xl xh yl yh t0 t1 h f g n b
  refine ⟨[.agg [.int .i64 pc, .int .i64 xl, .int .i64 xh, .int .i64 yl, .int .i64 yh, .int .i64 t0, .int .i64 t1], .agg [.int .i64 h, .int .i64 f, .int .i64 g], .rsl 6 n (imD (im b))], ?_⟩
  unfold IM at hp
  generalize im b = a at *
  generalize hS : landT ⟨pc, xl, xh, yl, yh, t0, t1⟩ h f g n a = c at *
  have e1 : ((n : Int) - 1).toNat = n - 1 := by omega
  repeat' (first | ((with_reducible refine kok ?_); kernel_rfl) | ((with_reducible refine keq_mk ?_); kernel_rfl) | with_reducible rfl | ((conv => whnf); first | (with_reducible exact trivial) | ((with_reducible refine and_ff ?_ ?_); · exact rfl) | ((with_reducible refine and_tt ?_ ?_); · exact rfl) | (with_reducible refine And.intro ?_ ?_) | intro _ | (with_reducible refine fin2 hk ?_) | ((with_reducible refine eq_leaf ?_); exact rfl) | exact trivial))
  all_goals try exact hp _ _ (by assumption) (by assumption)
  all_goals try omega
  all_goals try ((first | with_reducible refine (?_ : (_ : Int) ≤ _) | with_reducible refine (?_ : (_ : Int) < _)); clear hk; simp only [taskOf_agg, ↓Bool.not_eq_true', ↓Bool.not_eq_false', ↓decT, ↓decF, out_true, out_false, isin_true, isin_false, Int.toNat_natCast, Int.ofNat_lt, Nat.zero_add, Nat.add_zero, Nat.reduceAdd, im_imD] at *; have := (bands_ok (by assumption)).len; omega)
  all_goals try ((with_reducible refine (?_ : (_ : Int) = _)); clear hk; simp only [taskOf_agg, ↓Bool.not_eq_true', ↓Bool.not_eq_false', ↓decT, ↓decF, out_true, out_false, isin_true, isin_false, Int.toNat_natCast, Int.ofNat_lt, Nat.zero_add, Nat.add_zero, Nat.reduceAdd, im_imD, chute0, e1] at *; rw [← hS]; first
    | (rw [landT_chute (by assumption)] <;> first | rfl | exact if_neg (by assumption))
    | (rw [landT_bands (by assumption) (by assumption)] <;> rfl)
    | (rw [landT_top (by assumption) (by assumption) ((imp_true _).mpr ⟨by assumption, by assumption, by omega, by omega, by simp only; omega⟩) (by assumption)] <;> rfl)
    | (rw [landT_imp (by assumption) (by assumption) (imp_false fun q => by simp only at q; first | omega | (simp_all; done))] <;> rfl))
  · rename_i q1 q2 q3 q4 q5 q6 q7 q8
    simp only [taskOf_agg, ↓Bool.not_eq_true', ↓Bool.not_eq_false', ↓decT, ↓decF, out_true, out_false, isin_true, isin_false, Int.toNat_natCast, Int.ofNat_lt, Nat.zero_add, Nat.add_zero, Nat.reduceAdd, im_imD, chute0, e1] at q1 q2 q3 q4 q5 q6 q7 q8
    have hc : c = (landI ⟨pc, xl, xh, yl, yh, t0, t1⟩ h f g n a, 0) := by
      rw [← hS]
      exact landT_ok q1 q2 ((imp_true _).mpr ⟨q3, q4, q5, q6, by simp only; omega⟩) q8
    clear hS
    subst hc
    rw [chute_true] at q1
    rw [side_true] at q3 q4
    have HB := bands_ok q2
    have S2 := fun (j : Nat) hj (i : Nat) hi => sumW_big (j := j) HB ⟨q1.1, q1.2.1⟩ hj (i := i) hi
    clear e1 hp q2 q8
    have T := tdiv_facts h (b := g) (by omega)
    have T1 := ediv_le_self (a := 0 - h) (b := f) (by omega)
    conv => whnf
    refine ⟨Nat, fun i => [(3, .ptr 0 0), (4, .ptr 1 0), (6, .ptr 2 0), (11, .ptr 3 0), (75, .rsl 6 n (imD a)), (76, .int .i64 n), (77, .int .i64 i)], fun i => [some (.row [.int .i64 pc, .int .i64 xl, .int .i64 xh, .int .i64 yl, .int .i64 yh, .int .i64 t0, .int .i64 t1]), some (.row [.int .i64 h, .int .i64 f, .int .i64 g]), some (.row [.int .i64 0, .int .i64 0, .int .i64 0, .int .i64 0, .int .i64 0, .int .i64 0, .int .i64 0]), some (.row [.int .i64 (sumW a h 2 i), .int .i64 (sumW a h 3 i), .int .i64 (sumW a h 4 i), .int .i64 (sumW a h 5 i)])], fun i => n - i, fun i => i ≤ n, [], 0, fun _ => ⟨rfl, rfl⟩, ?_, fun i hI => ?_⟩
    · repeat' (first | ((with_reducible refine kok ?_); kernel_rfl) | ((with_reducible refine keq_mk ?_); kernel_rfl) | with_reducible rfl | ((conv => whnf); first | (with_reducible exact trivial) | ((with_reducible refine and_ff ?_ ?_); · exact rfl) | ((with_reducible refine and_tt ?_ ?_); · exact rfl) | (with_reducible refine And.intro ?_ ?_) | intro _ | (with_reducible refine fin2 hk ?_) | ((with_reducible refine eq_leaf ?_); exact rfl) | exact trivial))
      all_goals first | exact Nat.zero_le n | (show (0 : Int) = sumW _ _ _ 0; delta sumW; rfl)
    · have hi : i ≤ n := hI
      have A2 := S2 2 (by omega) i hi
      have A3 := S2 3 (by omega) i hi
      have A4 := S2 4 (by omega) i hi
      have A5 := S2 5 (by omega) i hi
      have K := fun h1 => mm_in HB ⟨q1.1, q1.2.1⟩ (i := i) h1
      have K2 := fun h1 => term_in HB ⟨q1.1, q1.2.1⟩ (i := i) (j := 2) h1 (by omega)
      have K3 := fun h1 => term_in HB ⟨q1.1, q1.2.1⟩ (i := i) (j := 3) h1 (by omega)
      have K4 := fun h1 => term_in HB ⟨q1.1, q1.2.1⟩ (i := i) (j := 4) h1 (by omega)
      have K5 := fun h1 => term_in HB ⟨q1.1, q1.2.1⟩ (i := i) (j := 5) h1 (by omega)
      have hn := HB.len
      unfold mmB at *
      repeat' (first | ((with_reducible refine kok ?_); kernel_rfl) | ((with_reducible refine keq_mk ?_); kernel_rfl) | with_reducible rfl | ((conv => whnf); first | (with_reducible exact trivial) | ((with_reducible refine and_ff ?_ ?_); · exact rfl) | ((with_reducible refine and_tt ?_ ?_); · exact rfl) | (with_reducible refine And.intro ?_ ?_) | intro _ | (with_reducible refine fin2 hk ?_) | ((with_reducible refine eq_leaf ?_); exact rfl) | exact trivial))
      all_goals try ((first | with_reducible refine (?_ : (_ : Int) ≤ _) | with_reducible refine (?_ : (_ : Int) < _) | with_reducible refine (?_ : False)); clear hk S2; simp only [taskOf_agg, ↓Bool.not_eq_true', ↓Bool.not_eq_false', ↓decT, ↓decF, out_true, out_false, isin_true, isin_false, Int.toNat_natCast, Int.ofNat_lt, Nat.zero_add, Nat.add_zero, Nat.reduceAdd] at *; first | omega | (have H0 := K (by omega); have H2 := K2 (by omega); have H3 := K3 (by omega); have H4 := K4 (by omega); have H5 := K5 (by omega); clear K K2 K3 K4 K5; omega))
      all_goals try ((with_reducible refine (?_ : (_ : Int) = _)); clear hk S2; simp only [taskOf_agg, ↓Bool.not_eq_true', ↓Bool.not_eq_false', ↓decT, ↓decF, out_true, out_false, isin_true, isin_false, Int.toNat_natCast, Int.ofNat_lt, Nat.zero_add, Nat.add_zero, Nat.reduceAdd] at *; obtain rfl : i = n := (by omega); rfl)
      conv => whnf
      refine ⟨i + 1, ?_⟩
      repeat' (first | ((with_reducible refine kok ?_); kernel_rfl) | ((with_reducible refine keq_mk ?_); kernel_rfl) | with_reducible rfl | ((conv => whnf); first | (with_reducible exact trivial) | ((with_reducible refine and_ff ?_ ?_); · exact rfl) | ((with_reducible refine and_tt ?_ ?_); · exact rfl) | (with_reducible refine And.intro ?_ ?_) | intro _ | (with_reducible refine fin2 hk ?_) | ((with_reducible refine eq_leaf ?_); exact rfl) | exact trivial))
      all_goals clear K K2 K3 K4 K5 S2 hk
      all_goals first
        | (simp only [Int.toNat_natCast]; exact (sumW_step _ _ _ _).symm)
        | (simp only [taskOf_agg, ↓Bool.not_eq_true', ↓Bool.not_eq_false', ↓decT, ↓decF, out_true, out_false, isin_true, isin_false, Int.toNat_natCast, Int.ofNat_lt, Nat.zero_add, Nat.add_zero, Nat.reduceAdd] at *; show i + 1 ≤ n; omega)
        | (simp only [taskOf_agg, ↓Bool.not_eq_true', ↓Bool.not_eq_false', ↓decT, ↓decF, out_true, out_false, isin_true, isin_false, Int.toNat_natCast, Int.ofNat_lt, Nat.zero_add, Nat.add_zero, Nat.reduceAdd] at *; show n - (i + 1) < n - i; omega)
        | omega
end Go.Proofs.YtphcblofacfkaaaGreat
end
section
namespace Go.Proofs.YtphcblofacfkaaaGreat
open Go.V
structure RTask where
  xl : Int
  xh : Int
  yl : Int
  yh : Int
  size : Int
  nf : Nat
  fx : Nat → Nat → Int
  no : Nat
  nm : Nat → ByteArray
  oa : Nat → Nat → Int
  bx : Int
  bz : Int
  start : Int
  speed : Int
  fuel : Int
  look : Int
  turn : Int
def RTask.cells (t : RTask) : List V.D := [.int .i64 t.xl, .int .i64 t.xh, .int .i64 t.yl, .int .i64 t.yh, .int .i64 t.size, .rsl 5 t.nf (imD t.fx), .rsl 6 t.no (smD t.nm t.oa), .int .i64 t.bx, .int .i64 t.bz, .int .i64 t.start, .int .i64 t.speed, .int .i64 t.fuel, .int .i64 t.look, .int .i64 t.turn]
def RTask.D (t : RTask) : V.D := .agg t.cells
def rtOf (d : V.D) : RTask := match d with
  | .agg [.int _ xl, .int _ xh, .int _ yl, .int _ yh, .int _ s, .rsl _ nf f, .rsl _ no o, .int _ bx, .int _ bz, .int _ st, .int _ sp, .int _ fu, .int _ lo, .int _ tu] => ⟨xl, xh, yl, yh, s, nf, im f, no, nmOf o, imS o, bx, bz, st, sp, fu, lo, tu⟩
  | _ => ⟨0, 0, 0, 0, 0, 0, fun _ _ => 0, 0, fun _ => ⟨#[]⟩, fun _ _ => 0, 0, 0, 0, 0, 0, 0, 0⟩
def RtIs (d : V.D) : Prop := match d with
  | .agg [.int .i64 _, .int .i64 _, .int .i64 _, .int .i64 _, .int .i64 _, .rsl 5 nf f, .rsl 6 no o, .int .i64 _, .int .i64 _, .int .i64 _, .int .i64 _, .int .i64 _, .int .i64 _, .int .i64 _] => IM nf 5 f ∧ SM no 6 o
  | _ => False
theorem rtOf_agg (t : RTask) : rtOf (.agg [.int .i64 t.xl, .int .i64 t.xh, .int .i64 t.yl, .int .i64 t.yh, .int .i64 t.size, .rsl 5 t.nf (imD t.fx), .rsl 6 t.no (smD t.nm t.oa), .int .i64 t.bx, .int .i64 t.bz, .int .i64 t.start, .int .i64 t.speed, .int .i64 t.fuel, .int .i64 t.look, .int .i64 t.turn]) = t := rfl
theorem rt_imp {d : V.D} {k : Prop} (h : RtIs d) (hk : k) : impB noGh d (rtOf d).D k := by
  unfold RtIs at h
  split at h
  · exact ⟨rfl, rfl, rfl, rfl, rfl, rfl, h.1, rfl, h.2, rfl, rfl, rfl, rfl, rfl, rfl, rfl, hk⟩
  · exact h.elim
def RTask.fits (t : RTask) : Prop := ∀ i, i < t.no → (t.nm i).size ≤ 9223372036854775807
def manyS (lo hi s : Int) : Int := 1 + (hi - lo).tdiv s
theorem manyS_in {lo hi s : Int} (h1 : -100000000 ≤ lo) (h2 : lo ≤ hi) (h3 : hi ≤ 100000000) (h4 : 1 ≤ s) : 0 ≤ (hi - lo).tdiv s ∧ (hi - lo).tdiv s ≤ 200000000 := by
  have := (tdiv_facts (hi - lo) (b := s) (by omega)).2.2.1 (by omega)
  omega
def rMany : List D → Option (Prop × D) := fun ds => match ds with
  | [.agg [.int .i64 a, .int .i64 b], .int .i64 s] => some ((-100000000 ≤ a ∧ a ≤ b ∧ b ≤ 100000000) ∧ 1 ≤ s, .int .i64 (manyS a b s))
  | _ => none
theorem rMany_ok : PSound Go.Proofs.Tryz.prog 85 (mk rMany) := by
  refine psound_mk Tryz.func85 (by kernel_rfl) rfl (ctx (.nil _)) ?_
  (intro ds p d h; unfold rMany at h; split at h <;> first | (cases h; done) | skip; cases h; refine ⟨Nat.le_of_ble_eq_true rfl, fun hp k hk => ?_⟩)
  rename_i a b s
  refine ⟨[.agg [.int .i64 a, .int .i64 b], .int .i64 s], ?_⟩
  have B := manyS_in hp.1.1 hp.1.2.1 hp.1.2.2 hp.2
  generalize hS : manyS a b s = c at *
  unfold manyS at hS
  repeat' (first | ((with_reducible refine kok ?_); kernel_rfl) | ((with_reducible refine keq_mk ?_); kernel_rfl) | with_reducible rfl | ((conv => whnf); first | (with_reducible exact trivial) | ((with_reducible refine and_ff ?_ ?_); · exact rfl) | ((with_reducible refine and_tt ?_ ?_); · exact rfl) | (with_reducible refine And.intro ?_ ?_) | intro _ | (with_reducible refine fin2 hk ?_) | ((with_reducible refine eq_leaf ?_); exact rfl) | exact trivial))
  all_goals omega
def fixB (x y dx dy tan : Int) : Bool := isin x (-100000000) 100000000 && isin y (-100000000) 100000000 && isin dx (-1000) 1000 && isin dy (-1000) 1000 && isin tan 0 2000
def fixE (x y dx dy tan : Int) : Int := if fixB x y dx dy tan = false then 7 else if dx = 0 ∧ dy = 0 then 2 else 0
theorem fixB_true (x y dx dy tan : Int) : (fixB x y dx dy tan = true) = ((-100000000 ≤ x ∧ x ≤ 100000000) ∧ (-100000000 ≤ y ∧ y ≤ 100000000) ∧ (-1000 ≤ dx ∧ dx ≤ 1000) ∧ (-1000 ≤ dy ∧ dy ≤ 1000) ∧ 0 ≤ tan ∧ tan ≤ 2000) := by
  simp only [fixB, Bool.and_eq_true, isin_true, and_assoc]
theorem fixE_iff (x y dx dy tan c : Int) : fixE x y dx dy tan = c ↔ (¬ fixB x y dx dy tan = true ∧ c = 7) ∨ (fixB x y dx dy tan = true ∧ dx = 0 ∧ dy = 0 ∧ c = 2) ∨ (fixB x y dx dy tan = true ∧ ¬ (dx = 0 ∧ dy = 0) ∧ c = 0) := by
  unfold fixE
  cases fixB x y dx dy tan <;> simp
  · omega
  · split <;> omega
noncomputable def lr5 : Lib := (85, mk rMany) :: (6, mk rLand) :: lr4
theorem lr5_ok : LibOK Go.Proofs.Tryz.prog lr5 := .cons rMany_ok (.cons rLand_ok lr4_ok)
def fixErr (t : RTask) (i : Nat) : Int := fixE (t.fx i 0) (t.fx i 1) (t.fx i 2) (t.fx i 3) (t.fx i 4)
def sameOwn (t : RTask) (i k : Nat) : Bool := decide (t.nm k = t.nm i)
def ownB (t : RTask) (i : Nat) : Bool := areaB (t.oa i 0) (t.oa i 1) (t.oa i 2) (t.oa i 3) && isin (t.oa i 4) (-1) 100000
def ownE (t : RTask) (i : Nat) : Int := if nameS (t.nm i) = false then 6 else if anyBelow (sameOwn t i) i = true then 5 else if ownB t i = false then 7 else 0
theorem ownB_true (t : RTask) (i : Nat) : (ownB t i = true) = (areaB (t.oa i 0) (t.oa i 1) (t.oa i 2) (t.oa i 3) = true ∧ -1 ≤ t.oa i 4 ∧ t.oa i 4 ≤ 100000) := by
  simp only [ownB, Bool.and_eq_true, isin_true]
theorem own_6 {t : RTask} {i : Nat} (h : nameS (t.nm i) = false) : ownE t i = 6 := if_pos h
theorem own_5 {t : RTask} {i : Nat} (h : nameS (t.nm i) = true) (h1 : anyBelow (sameOwn t i) i = true) : ownE t i = 5 := by simp [ownE, h, h1]
theorem own_7 {t : RTask} {i : Nat} (h : nameS (t.nm i) = true) (h1 : anyBelow (sameOwn t i) i = false) (h2 : ¬ (areaB (t.oa i 0) (t.oa i 1) (t.oa i 2) (t.oa i 3) = true ∧ -1 ≤ t.oa i 4 ∧ t.oa i 4 ≤ 100000)) : ownE t i = 7 := by
  rw [← ownB_true] at h2
  simp [ownE, h, h1, h2]
theorem own_0 {t : RTask} {i : Nat} (h : nameS (t.nm i) = true) (h1 : anyBelow (sameOwn t i) i = false) (h2 : (areaB (t.oa i 0) (t.oa i 1) (t.oa i 2) (t.oa i 3) = true ∧ -1 ≤ t.oa i 4 ∧ t.oa i 4 ≤ 100000)) : ownE t i = 0 := by
  rw [← ownB_true] at h2
  simp [ownE, h, h1, h2]
noncomputable def lr6 : Lib := (65, mk rName) :: lr5
theorem lr6_ok : LibOK Go.Proofs.Tryz.prog lr6 := .cons windName_ok lr5_ok
attribute [local irreducible] nameS areaB anyBelow
end Go.Proofs.YtphcblofacfkaaaGreat
end
