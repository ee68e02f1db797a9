/-
  Plain laws of numbers: division rounded down.
-/
import Derived.Test.YtbkehkiflfhpfaaMd
import Derived.Test.YtbkehkiflfhpfaaMg
import Derived.Test.YtbkehkiflfhpfaaMi
import Derived.Test.YtbkehkiflfhpfaaMc
section
set_option linter.unusedVariables false
set_option linter.unusedSimpArgs false
namespace Go.Proofs.Ytbkehkiflfhpfaa
open Go.V

/-- Division that is rounded to zero, by what it leaves. -/
theorem tdiv_facts (a : Int) {b : Int} (hb : 0 < b) : (a < a.tdiv b * b → a.tdiv b - 1 = a / b) ∧ (¬ a < a.tdiv b * b → a.tdiv b = a / b) ∧ (0 ≤ a → 0 ≤ a.tdiv b ∧ a.tdiv b * b ≤ a ∧ a.tdiv b ≤ a ∧ 0 ≤ a.tdiv b * b) ∧ (a ≤ 0 → a ≤ a.tdiv b * b ∧ a.tdiv b * b ≤ 0 ∧ a ≤ a.tdiv b ∧ a.tdiv b ≤ 0) := by
  have h1 := Int.tmod_add_mul_tdiv a b
  have h2 : a.tmod b < b := Int.tmod_lt_of_pos a hb
  have h3 : -b < a.tmod b := by
    have := Int.tmod_lt_of_pos (-a) hb
    rw [Int.neg_tmod] at this
    omega
  have hc : b * a.tdiv b = a.tdiv b * b := Int.mul_comm _ _
  have hpos : 0 ≤ a → 0 ≤ a.tmod b := fun h => Int.tmod_nonneg b h
  have hneg : a ≤ 0 → a.tmod b ≤ 0 := fun h => by
    have := Int.tmod_nonneg b (show 0 ≤ -a by omega)
    rw [Int.neg_tmod] at this
    omega
  refine ⟨fun h => ?_, fun h => ?_, fun h => ?_, fun h => ?_⟩
  · have : a / b = a.tdiv b - 1 ∧ a % b = a.tmod b + b := (Int.ediv_emod_unique hb).2 ⟨by rw [Int.mul_sub, Int.mul_one]; omega, by omega, by omega⟩
    exact this.1.symm
  · have : a / b = a.tdiv b ∧ a % b = a.tmod b := (Int.ediv_emod_unique hb).2 ⟨h1, by omega, h2⟩
    exact this.1.symm
  · have h4 := hpos h
    have h5 : 0 ≤ a.tdiv b := Int.tdiv_nonneg h (by omega)
    have h6 : a.tdiv b * 1 ≤ a.tdiv b * b := Int.mul_le_mul_of_nonneg_left (by omega) h5
    omega
  · have h4 := hneg h
    have h5 : 0 ≤ (-a).tdiv b := Int.tdiv_nonneg (by omega) (by omega)
    rw [Int.neg_tdiv] at h5
    have h6 : -a.tdiv b * 1 ≤ -a.tdiv b * b := Int.mul_le_mul_of_nonneg_left (by omega) h5
    rw [Int.neg_mul, Int.neg_mul] at h6
    have h7 : 0 ≤ -a.tdiv b * b := Int.mul_nonneg h5 (by omega)
    rw [Int.neg_mul] at h7
    omega
theorem ediv_le_self {a b : Int} (hb : 0 < b) : (0 ≤ a → 0 ≤ a / b ∧ a / b ≤ a) ∧ (a ≤ 0 → a ≤ a / b ∧ a / b ≤ 0) := by
  obtain ⟨h1, h2, h3, h4⟩ := tdiv_facts a hb
  refine ⟨fun h => ?_, fun h => ?_⟩
  · have := h3 h
    have := h2 (by omega)
    omega
  · have h5 := Int.ediv_mul_le a (show b ≠ 0 by omega)
    have h6 : a / b ≤ 0 := by
      rcases Int.lt_or_le 0 (a / b) with g | g
      · have : 1 * b ≤ a / b * b := Int.mul_le_mul_of_nonneg_right (by omega) (by omega)
        omega
      · exact g
    have h7 : a < (a / b + 1) * b := Int.lt_ediv_add_one_mul_self a hb
    refine ⟨?_, h6⟩
    rw [Int.add_mul, Int.one_mul] at h7
    rcases Int.lt_or_le (a / b) a with g | g
    · have h8 : (a / b + 1) * b ≤ (a / b + 1) * 1 := by
        rcases Int.lt_or_le (a / b) 0 with g0 | g0
        · have := Int.mul_le_mul_of_nonneg_left (show (1 : Int) ≤ b by omega) (show 0 ≤ -(a / b + 1) by omega)
          rw [Int.neg_mul, Int.neg_mul] at this
          omega
        · omega
      rw [Int.add_mul, Int.one_mul] at h8
      omega
    · exact g
def rFloor : List D → Option (Prop × D) := fun ds => match ds with
  | [.int .i64 a, .int .i64 b] => some (0 < b ∧ -4611686018427387904 ≤ a ∧ a ≤ 4611686018427387904, .int .i64 (a / b))
  | _ => none
end Go.Proofs.Ytbkehkiflfhpfaa
end
section
set_option linter.unusedVariables false
set_option linter.unusedSimpArgs false
set_option maxRecDepth 100000
set_option maxHeartbeats 4000000
namespace Go.Proofs.Ytbkehkiflfhpfaa
open Go.V
theorem floor_ok : PSound Go.Proofs.Try.prog 105 (mk rFloor) := by
  refine psound_mk Try.func105 (by kernel_rfl) rfl (ctx (.nil _)) ?_
  (intro ds p d h; unfold rFloor at h; split at h <;> first | (cases h; done) | skip; cases h; refine ⟨Nat.le_of_ble_eq_true rfl, fun hp k hk => ?_⟩)
  rename_i a b
  obtain ⟨h1, h2, h3⟩ := hp
  refine ⟨[.int .i64 a, .int .i64 b], rfl, rfl, ?_⟩
  obtain ⟨f1, f2, f3, f4⟩ := tdiv_facts a h1
  have f5 : a.tdiv b ≤ 4611686018427387904 ∧ -4611686018427387904 ≤ a.tdiv b ∧ a.tdiv b * b ≤ 4611686018427387904 ∧ -4611686018427387904 ≤ a.tdiv b * b := by
    rcases Int.le_total 0 a with ha | ha
    · have := f3 ha; omega
    · have := f4 ha; omega
  clear f3 f4
  generalize hS : a / b = c at *
  repeat' (first | ((with_reducible refine kok ?_); kernel_rfl) | ((with_reducible refine keq_mk ?_); kernel_rfl) | with_reducible rfl | ((conv => whnf); first | (with_reducible exact trivial) | ((with_reducible refine and_ff ?_ ?_); · exact rfl) | ((with_reducible refine and_tt ?_ ?_); · exact rfl) | (with_reducible refine And.intro ?_ ?_) | intro _ | (with_reducible refine fin2 hk ?_) | ((with_reducible refine eq_leaf ?_); exact rfl) | exact trivial))
  all_goals try (clear hk; omega)
  · rename_i g; exact f1 (of_decide_eq_true g)
  · rename_i g; exact f2 (of_decide_eq_false g)
def lib43 : Lib := (105, mk rFloor) :: []
theorem lib43_ok : LibOK Go.Proofs.Try.prog lib43 := .cons floor_ok (.nil _)

/-- A number cut to a span around 0. -/
def clampS (m n : Int) : Int := max (0 - m) (min m n)
def partS (t : Task) (first rise turn h a : Int) : Int := first + clampS t.shear rise * h / 100000 + clampS t.age turn * a / 600
def i16 (n : Int) : Prop := -32768 ≤ n ∧ n ≤ 32767
def Task.mild (t : Task) : Prop := (0 ≤ t.shear ∧ t.shear ≤ 1000) ∧ (0 ≤ t.age ∧ t.age ≤ 1000)
def rPart : List V.D → Option (Prop × V.D) := fun ds => match ds with
  | [.int .i16 f, .int .i16 r, .int .i16 s, d, .int .i64 h, .int .i64 a] => some (TaskIs d ∧ (taskOf d).mild ∧ (i16 f ∧ i16 r ∧ i16 s) ∧ (0 ≤ h ∧ h ≤ 100000000) ∧ (0 ≤ a ∧ a ≤ 100000), .int .i64 (partS (taskOf d) f r s h a))
  | _ => none
theorem clamp_bound {m n : Int} (h : 0 ≤ m ∧ m ≤ 1000) : -1000 ≤ clampS m n ∧ clampS m n ≤ 1000 := by unfold clampS; omega
theorem clamp_mul {r h m : Int} (h1 : -1000 ≤ r ∧ r ≤ 1000) (h2 : 0 ≤ h ∧ h ≤ m) : -(1000 * m) ≤ r * h ∧ r * h ≤ 1000 * m := by
  have a1 := Int.mul_le_mul_of_nonneg_right h1.2 h2.1
  have a2 := Int.mul_le_mul_of_nonneg_right h1.1 h2.1
  omega
theorem part_ok : PSound Go.Proofs.Try.prog 81 (mk rPart) := by
  refine psound_mk Try.func81 (by kernel_rfl) rfl (ctx lib43_ok) ?_
  (intro ds p d h; unfold rPart at h; split at h <;> first | (cases h; done) | skip; cases h; refine ⟨Nat.le_of_ble_eq_true rfl, fun hp k hk => ?_⟩)
  rename_i f r s d h a
  obtain ⟨ht, ⟨hs, hg⟩, hf, hh, ha⟩ := hp
  refine ⟨[.int .i16 f, .int .i16 r, .int .i16 s, (taskOf d).D, .int .i64 h, .int .i64 a], rfl, rfl, rfl, task_imp ht ⟨rfl, rfl, ?_⟩⟩
  clear ht
  generalize taskOf d = t at *
  unfold i16 at hf
  have b1 := clamp_bound (n := r) hs
  have b2 := clamp_bound (n := s) hg
  have m1 := clamp_mul b1 hh
  have m2 := clamp_mul b2 ha
  have e1 : max (0 - t.shear) (min t.shear r) = clampS t.shear r := rfl
  have e2 : max (0 - t.age) (min t.age s) = clampS t.age s := rfl
  have d1 := ediv_le_self (a := clampS t.shear r * h) (b := 100000) (by decide)
  have d2 := ediv_le_self (a := clampS t.age s * a) (b := 600) (by decide)
  generalize hS : partS t f r s h a = c at *
  have hS' : f + clampS t.shear r * h / 100000 + clampS t.age s * a / 600 = c := hS
  repeat' (first | ((with_reducible refine kok ?_); kernel_rfl) | ((with_reducible refine keq_mk ?_); kernel_rfl) | with_reducible rfl | ((conv => whnf); first | (with_reducible exact trivial) | ((with_reducible refine and_ff ?_ ?_); · exact rfl) | ((with_reducible refine and_tt ?_ ?_); · exact rfl) | (with_reducible refine And.intro ?_ ?_) | intro _ | (with_reducible refine fin2 hk ?_) | ((with_reducible refine eq_leaf ?_); exact rfl) | exact trivial))
  all_goals try (clear hk; first | omega | (simp only [e1]; omega) | (simp only [e2]; omega) | (simp only [e1, e2]; omega))

/-- A wind that changes. -/
structure Fld where
  x : Int
  y : Int
  rx : Int
  ry : Int
  tx : Int
  ty : Int
  n : Nat
  w : Nat → Int
def i8D (w : Nat → Int) (i _j : Nat) : V.D := .int .i8 (w i)
def Fld.D (f : Fld) : V.D := .agg [.int .i16 f.x, .int .i16 f.y, .int .i16 f.rx, .int .i16 f.ry, .int .i16 f.tx, .int .i16 f.ty, .rsl 1 f.n (i8D f.w)]
def fldOf (d : V.D) : Fld := match d with
  | .agg [.int _ x, .int _ y, .int _ rx, .int _ ry, .int _ tx, .int _ ty, .rsl _ n g] => ⟨x, y, rx, ry, tx, ty, n, fun i => toI (g i 0)⟩
  | _ => ⟨0, 0, 0, 0, 0, 0, 0, fun _ => 0⟩
def FldIs (d : V.D) : Prop := match d with
  | .agg [.int .i16 x, .int .i16 y, .int .i16 rx, .int .i16 ry, .int .i16 tx, .int .i16 ty, .rsl 1 n g] => (i16 x ∧ i16 y ∧ i16 rx ∧ i16 ry ∧ i16 tx ∧ i16 ty) ∧ n ≤ 9223372036854775807 ∧ (∀ i, i < n → g i 0 = .int .i8 (toI (g i 0)) ∧ -128 ≤ toI (g i 0) ∧ toI (g i 0) ≤ 127)
  | _ => False
structure Fld.ok (f : Fld) : Prop where
  x : i16 f.x
  y : i16 f.y
  rx : i16 f.rx
  ry : i16 f.ry
  tx : i16 f.tx
  ty : i16 f.ty
  n : f.n ≤ 9223372036854775807
  w : ∀ i, i < f.n → -128 ≤ f.w i ∧ f.w i ≤ 127
theorem fld_imp {d : V.D} {k : Prop} (h : FldIs d) (hk : (fldOf d).ok → k) : impB noGh d (fldOf d).D k := by
  unfold FldIs at h
  split at h
  · exact ⟨rfl, rfl, rfl, rfl, rfl, rfl, rfl, fun i j hi hj => by
      obtain rfl : j = 0 := by omega
      exact (h.2.2 i hi).1, hk ⟨h.1.1, h.1.2.1, h.1.2.2.1, h.1.2.2.2.1, h.1.2.2.2.2.1, h.1.2.2.2.2.2, h.2.1, fun i hi => (h.2.2 i hi).2⟩⟩
  · exact h.elim
theorem fldOf_agg (f : Fld) : fldOf (.agg [.int .i16 f.x, .int .i16 f.y, .int .i16 f.rx, .int .i16 f.ry, .int .i16 f.tx, .int .i16 f.ty, .rsl 1 f.n (i8D f.w)]) = f := rfl
theorem fldIs_mk {f : Fld} (h : f.ok) : FldIs f.D := ⟨⟨h.x, h.y, h.rx, h.ry, h.tx, h.ty⟩, h.n, fun i hi => ⟨rfl, h.w i hi⟩⟩
def fldX (f : Fld) (t : Task) (h a : Int) : Int := partS t f.x f.rx f.tx h a
def fldY (f : Fld) (t : Task) (h a : Int) : Int := partS t f.y f.ry f.ty h a
def isWind (x y : Int) : Bool := isin x (-20000) 20000 && isin y (-20000) 20000
def rFldAt : List V.D → Option (Prop × V.D) := fun ds => match ds with
  | [e, d, .int .i64 h, .int .i64 a] => some (FldIs e ∧ TaskIs d ∧ (taskOf d).mild ∧ (0 ≤ h ∧ h ≤ 100000000) ∧ (0 ≤ a ∧ a ≤ 100000), .tup [.int .i64 (fldX (fldOf e) (taskOf d) h a), .int .i64 (fldY (fldOf e) (taskOf d) h a), .bool (isWind (fldX (fldOf e) (taskOf d) h a) (fldY (fldOf e) (taskOf d) h a))])
  | _ => none
def lib44 : Lib := (81, mk rPart) :: lib43
theorem lib44_ok : LibOK Go.Proofs.Try.prog lib44 := .cons part_ok lib43_ok
theorem fldAt_ok : PSound Go.Proofs.Try.prog 38 (mk rFldAt) := by
  refine psound_mk Try.func38 (by kernel_rfl) rfl (ctx lib44_ok) ?_
  (intro ds p d h; unfold rFldAt at h; split at h <;> first | (cases h; done) | skip; cases h; refine ⟨Nat.le_of_ble_eq_true rfl, fun hp k hk => ?_⟩)
  rename_i e d h a
  obtain ⟨he, ht, hm, hh, ha⟩ := hp
  refine ⟨[(fldOf e).D, (taskOf d).D, .int .i64 h, .int .i64 a], fld_imp he fun hf => task_imp ht ⟨rfl, rfl, ?_⟩⟩
  clear ht he
  generalize taskOf d = t at *
  generalize fldOf e = f at *
  obtain ⟨hm1, hm2⟩ := hm
  obtain ⟨hx, hy, hrx, hry, htx, hty, _, _⟩ := hf
  unfold i16 at *
  repeat' (first | ((with_reducible refine kok ?_); kernel_rfl) | ((with_reducible refine keq_mk ?_); kernel_rfl) | with_reducible rfl | ((conv => whnf); first | (with_reducible exact trivial) | ((with_reducible refine and_ff ?_ ?_); · exact rfl) | ((with_reducible refine and_tt ?_ ?_); · exact rfl) | (with_reducible refine And.intro ?_ ?_) | intro _ | (with_reducible refine fin2 hk ?_) | ((with_reducible refine eq_leaf ?_); exact rfl) | exact trivial))
  all_goals try ((first | with_reducible refine (?_ : (_ : Int) ≤ _) | with_reducible refine (?_ : (_ : Int) < _) | with_reducible refine (?_ : (_ : Nat) < _) | with_reducible refine (?_ : (_ : Nat) ≤ _)); clear hk; first | omega | (simp only [taskOf_agg, ↓Bool.not_eq_true', ↓Bool.not_eq_false', ↓decT, ↓decF, out_true, out_false, isin_true, isin_false, Int.toNat_natCast, Int.ofNat_lt, Nat.zero_add, Nat.add_zero, Nat.reduceAdd] at *; omega))
  all_goals clear hk
  · rename_i g1 g2 g3
    show decide (fldY f t h a ≤ 20000) = isWind (fldX f t h a) (fldY f t h a)
    have e1 : decide (-20000 ≤ fldX f t h a) = true := g1
    have e2 : decide (fldX f t h a ≤ 20000) = true := g2
    have e3 : decide (-20000 ≤ fldY f t h a) = true := g3
    unfold isWind isin
    rw [e1, e2, e3]
    rfl
  · rename_i g1 g2 g3
    have e1 : decide (-20000 ≤ fldX f t h a) = true := g1
    have e2 : decide (fldX f t h a ≤ 20000) = true := g2
    have e3 : decide (-20000 ≤ fldY f t h a) = false := g3
    unfold isWind isin
    rw [e1, e2, e3]
    rfl
  · rename_i g1 g2
    have e1 : decide (-20000 ≤ fldX f t h a) = true := g1
    have e2 : decide (fldX f t h a ≤ 20000) = false := g2
    unfold isWind isin
    rw [e1, e2]
    rfl
  · rename_i g1
    have e1 : decide (-20000 ≤ fldX f t h a) = false := g1
    unfold isWind isin
    rw [e1]
    rfl
def wrongS (f : Fld) (i : Nat) (most : Int) : Int := if f.n = 0 then 0 else (most * max (-127) (f.w (i % f.n))).tdiv 127
theorem wrong_mul {m c : Int} (hm : 0 ≤ m ∧ m ≤ 5000) (hc : -127 ≤ c ∧ c ≤ 127) : -(m * 127) ≤ m * c ∧ m * c ≤ m * 127 := by
  have a1 := Int.mul_le_mul_of_nonneg_left hc.2 hm.1
  have a2 := Int.mul_le_mul_of_nonneg_left hc.1 hm.1
  rw [Int.mul_neg] at a2
  omega
theorem wrong_bound {f : Fld} (hf : f.ok) {i : Nat} {m : Int} (hm : 0 ≤ m ∧ m ≤ 5000) : -m ≤ wrongS f i m ∧ wrongS f i m ≤ m := by
  unfold wrongS
  split
  · omega
  · rename_i h
    have hw := hf.w (i % f.n) (Nat.mod_lt _ (by omega))
    have h1 := wrong_mul hm (c := max (-127) (f.w (i % f.n))) (by omega)
    obtain ⟨_, _, f3, f4⟩ := tdiv_facts (m * max (-127) (f.w (i % f.n))) (b := 127) (by decide)
    rcases Int.le_total 0 (m * max (-127) (f.w (i % f.n))) with g | g
    · have := f3 g; omega
    · have := f4 g; omega
def rWrong : List V.D → Option (Prop × V.D) := fun ds => match ds with
  | [e, .int .i64 i, .int .i64 m] => some (FldIs e ∧ (0 ≤ i ∧ i ≤ 1000) ∧ (0 ≤ m ∧ m ≤ 5000), .int .i64 (wrongS (fldOf e) i.toNat m))
  | _ => none
theorem wrong_ok : PSound Go.Proofs.Try.prog 80 (mk rWrong) := by
  refine psound_mk Try.func80 (by kernel_rfl) rfl (ctx (.nil _)) ?_
  (intro ds p d h; unfold rWrong at h; split at h <;> first | (cases h; done) | skip; cases h; refine ⟨Nat.le_of_ble_eq_true rfl, fun hp k hk => ?_⟩)
  rename_i e i m
  obtain ⟨he, hi, hm⟩ := hp
  refine ⟨[(fldOf e).D, .int .i64 i, .int .i64 m], fld_imp he fun hf => ⟨rfl, rfl, ?_⟩⟩
  clear he
  generalize fldOf e = f at *
  obtain ⟨k', rfl⟩ := Int.eq_ofNat_of_zero_le hi.1
  have ht : ((k' : Int).tmod (f.n : Int)) = ((k' % f.n : Nat) : Int) := rfl
  have hw : f.n ≠ 0 → k' % f.n < f.n ∧ -128 ≤ f.w (k' % f.n) ∧ f.w (k' % f.n) ≤ 127 := fun h => ⟨Nat.mod_lt _ (by omega), hf.w (k' % f.n) (Nat.mod_lt _ (by omega))⟩
  have hb : f.n ≠ 0 → -(m * 127) ≤ m * max (-127) (f.w (k' % f.n)) ∧ m * max (-127) (f.w (k' % f.n)) ≤ m * 127 := fun h => wrong_mul hm (by have := hw h; omega)
  have hv : f.n ≠ 0 → -m ≤ (m * max (-127) (f.w (k' % f.n))).tdiv 127 ∧ (m * max (-127) (f.w (k' % f.n))).tdiv 127 ≤ m := fun h => by
    have := wrong_bound hf (i := k') hm
    unfold wrongS at this
    rwa [if_neg h] at this
  have hn := hf.n
  repeat' (first | ((with_reducible refine kok ?_); kernel_rfl) | ((with_reducible refine keq_mk ?_); kernel_rfl) | with_reducible rfl | ((conv => whnf); first | (with_reducible exact trivial) | ((with_reducible refine and_ff ?_ ?_); · exact rfl) | ((with_reducible refine and_tt ?_ ?_); · exact rfl) | (with_reducible refine And.intro ?_ ?_) | intro _ | (with_reducible refine fin2 hk ?_) | ((with_reducible refine eq_leaf ?_); exact rfl) | exact trivial))
  all_goals try ((first | with_reducible refine (?_ : (_ : Int) ≤ _) | with_reducible refine (?_ : (_ : Int) < _) | with_reducible refine (?_ : (_ : Nat) < _) | with_reducible refine (?_ : (_ : Nat) ≤ _)); clear hk; first | omega | (simp only [taskOf_agg, ↓Bool.not_eq_true', ↓Bool.not_eq_false', ↓decT, ↓decF, out_true, out_false, isin_true, isin_false, Int.toNat_natCast, Int.ofNat_lt, Nat.zero_add, Nat.add_zero, Nat.reduceAdd, ht] at *; have w1 := hw (by omega); have w2 := hb (by omega); have w3 := hv (by omega); omega))
  all_goals clear hk
  · rename_i g
    simp only [taskOf_agg, ↓Bool.not_eq_true', ↓Bool.not_eq_false', ↓decT, ↓decF, out_true, out_false, isin_true, isin_false, Int.toNat_natCast, Int.ofNat_lt, Nat.zero_add, Nat.add_zero, Nat.reduceAdd] at g
    exact (if_pos (by omega)).symm
  · rename_i g1 g2
    simp only [taskOf_agg, ↓Bool.not_eq_true', ↓Bool.not_eq_false', ↓decT, ↓decF, out_true, out_false, isin_true, isin_false, Int.toNat_natCast, Int.ofNat_lt, Nat.zero_add, Nat.add_zero, Nat.reduceAdd] at g1
    omega
  · rename_i g1 g2
    exact absurd g2 (by decide)
  · rename_i g1
    simp only [taskOf_agg, ↓Bool.not_eq_true', ↓Bool.not_eq_false', ↓decT, ↓decF, out_true, out_false, isin_true, isin_false, Int.toNat_natCast, Int.ofNat_lt, Nat.zero_add, Nat.add_zero, Nat.reduceAdd] at g1
    show (m * max (-127) (f.w ((k' : Int).tmod f.n).toNat)).tdiv 127 = wrongS f ((k' : Int)).toNat m
    rw [ht, Int.toNat_natCast, Int.toNat_natCast]
    exact (if_neg (by omega)).symm
def rHas : List V.D → Option (Prop × V.D) := fun ds => match ds with
  | [.agg [.int .i64 a, .int .i64 b], .int .i64 n] => some (True, .bool (isin n a b))
  | _ => none
theorem has_ok : PSound Go.Proofs.Try.prog 39 (mk rHas) := by
  refine psound_mk Try.func39 (by kernel_rfl) rfl (ctx (.nil _)) ?_
  (intro ds p d h; unfold rHas at h; split at h <;> first | (cases h; done) | skip; cases h; refine ⟨Nat.le_of_ble_eq_true rfl, fun hp k hk => ?_⟩)
  rename_i a b n
  refine ⟨[.agg [.int .i64 a, .int .i64 b], .int .i64 n], rfl, rfl, rfl, ?_⟩
  repeat' (first | ((with_reducible refine kok ?_); kernel_rfl) | ((with_reducible refine keq_mk ?_); kernel_rfl) | with_reducible rfl | ((conv => whnf); first | (with_reducible exact trivial) | ((with_reducible refine and_ff ?_ ?_); · exact rfl) | ((with_reducible refine and_tt ?_ ?_); · exact rfl) | (with_reducible refine And.intro ?_ ?_) | intro _ | (with_reducible refine fin2 hk ?_) | ((with_reducible refine eq_leaf ?_); exact rfl) | exact trivial))
  all_goals clear hk
  · rename_i g
    unfold isin
    rw [g]; rfl
  · rename_i g
    unfold isin
    rw [g]; rfl
end Go.Proofs.Ytbkehkiflfhpfaa
end
section
set_option linter.unusedVariables false
set_option linter.unusedSimpArgs false
set_option maxRecDepth 100000
set_option maxHeartbeats 4000000
namespace Go.Proofs.Ytbkehkiflfhpfaa
open Go.V
/-- What a sounding of a field says. -/
def mX (f : Fld) (t : Task) (k j : Nat) : Int := if j = 3 then fldX f t (t.xa k 2) (t.xa k 1) + wrongS f (2 * k) (t.sa (t.xa k 0).toNat 1) else if j = 4 then fldY f t (t.xa k 2) (t.xa k 1) + wrongS f (2 * k + 1) (t.sa (t.xa k 0).toNat 1) else t.xa k j
def mA (f : Fld) (t : Task) (but : Int) (up k j : Nat) : Int := if k < up ∧ t.xa k 0 ≠ but then mX f t k j else t.xa k j
def mBad (f : Fld) (t : Task) (but : Int) (k : Nat) : Bool := !decide (t.xa k 0 = but) && !isWind (fldX f t (t.xa k 2) (t.xa k 1)) (fldY f t (t.xa k 2) (t.xa k 1))
def mCut (f : Fld) (t : Task) (tick : Int) (i : Nat) : Bool := !isWind (fldX f t (lowS t i) tick) (fldY f t (lowS t i) tick)
def measT (f : Fld) (t : Task) (but tick : Int) : Nat × Bool := if checkE t ≠ 0 then (0, false) else if tickB tick = false then (0, false) else if anyBelow (mBad f t but) t.nx = true then ((firstFrom (mBad f t but) 0 t.nx).toNat + 1, false) else
  if anyBelow (mCut f t tick) t.nc = true then (t.nx, false) else (t.nx, decide (checkE (t.wth t.nx (mA f t but t.nx)) = 0))
def measD (f : Fld) (t : Task) (but tick : Int) : V.D := .tup [.agg [.rsl 7 t.ns (smD t.nm t.sa), .rsl 5 t.nx (imD (mA f t but (measT f t but tick).1)), .rsl 1 t.nc (imD t.ca), .int .i64 t.age, .int .i64 t.shear], .bool (measT f t but tick).2]
def rMeasured : List V.D → Option (Prop × V.D) := fun ds => match ds with
  | [e, d, .int .i64 but, .int .i64 tick] => some (FldIs e ∧ TaskIs d ∧ (taskOf d).fits, .tup [.agg [.rsl 7 (taskOf d).ns (smD (taskOf d).nm (taskOf d).sa), .rsl 5 (taskOf d).nx (imD (mA (fldOf e) (taskOf d) but (measT (fldOf e) (taskOf d) but tick).1)), .rsl 1 (taskOf d).nc (imD (taskOf d).ca), .int .i64 (taskOf d).age, .int .i64 (taskOf d).shear], .bool (measT (fldOf e) (taskOf d) but tick).2])
  | _ => none
noncomputable def lib45 : Lib := (38, mk rFldAt) :: (80, mk rWrong) :: (39, mk rHas) :: lib40
theorem lib45_ok : LibOK Go.Proofs.Try.prog lib45 := .cons fldAt_ok (.cons wrong_ok (.cons has_ok lib40_ok))
theorem taskOf_wth (t : Task) (n : Nat) (x : Nat → Nat → Int) : taskOf (.agg [.rsl 7 t.ns (smD t.nm t.sa), .rsl 5 n (imD x), .rsl 1 t.nc (imD t.ca), .int .i64 t.age, .int .i64 t.shear]) = t.wth n x := rfl
theorem wth_shear (t : Task) (n : Nat) (x : Nat → Nat → Int) : (t.wth n x).shear = t.shear := rfl
theorem wth_age (t : Task) (n : Nat) (x : Nat → Nat → Int) : (t.wth n x).age = t.age := rfl
theorem fldX_wth (f : Fld) (t : Task) (n : Nat) (x : Nat → Nat → Int) (h a : Int) : fldX f (t.wth n x) h a = fldX f t h a := rfl
theorem fldY_wth (f : Fld) (t : Task) (n : Nat) (x : Nat → Nat → Int) (h a : Int) : fldY f (t.wth n x) h a = fldY f t h a := rfl
theorem part_bound {t : Task} (hm : t.mild) {f r s h a : Int} (hf : i16 f) (hh : 0 ≤ h ∧ h ≤ 100000000) (ha : 0 ≤ a ∧ a ≤ 100000) : -1400000 ≤ partS t f r s h a ∧ partS t f r s h a ≤ 1400000 := by
  unfold partS
  unfold i16 at hf
  have m1 := clamp_mul (clamp_bound (n := r) hm.1) hh
  have m2 := clamp_mul (clamp_bound (n := s) hm.2) ha
  have d1 : -1000000 ≤ clampS t.shear r * h / 100000 ∧ clampS t.shear r * h / 100000 ≤ 1000000 := by omega
  have d2 : -170000 ≤ clampS t.age s * a / 600 ∧ clampS t.age s * a / 600 ≤ 170000 := by omega
  omega
theorem fld_bound {t : Task} (hm : t.mild) {f : Fld} (hf : f.ok) {h a : Int} (hh : 0 ≤ h ∧ h ≤ 100000000) (ha : 0 ≤ a ∧ a ≤ 100000) : (-1400000 ≤ fldX f t h a ∧ fldX f t h a ≤ 1400000) ∧ (-1400000 ≤ fldY f t h a ∧ fldY f t h a ≤ 1400000) :=
  ⟨part_bound hm hf.x hh ha, part_bound hm hf.y hh ha⟩
theorem mA_at {f : Fld} {t : Task} {but : Int} {i k j : Nat} (h : i ≤ k ∨ j < 3) : mA f t but i k j = t.xa k j := by
  unfold mA mX
  split
  · rename_i g
    rcases h with h | h
    · omega
    · rw [if_neg (by omega), if_neg (by omega)]
  · rfl
theorem mA_zero (f : Fld) (t : Task) (but : Int) : mA f t but 0 = t.xa := by
  funext k j
  exact mA_at (.inl (Nat.zero_le k))
theorem mA_skip {f : Fld} {t : Task} {but : Int} {i : Nat} (h : t.xa i 0 = but) : mA f t but (i + 1) = mA f t but i := by
  funext k j
  unfold mA
  by_cases e : k = i
  · subst e
    rw [if_neg (fun g => g.2 h), if_neg (fun g => by omega)]
  · have : (k < i + 1 ∧ t.xa k 0 ≠ but) ↔ (k < i ∧ t.xa k 0 ≠ but) := by
      constructor <;> rintro ⟨h1, h2⟩ <;> exact ⟨by omega, h2⟩
    simp only [this]
theorem mA_step {f : Fld} {t : Task} {but : Int} {i : Nat} (h : t.xa i 0 ≠ but) {a b : Nat} (hb : b < 5) {v w : Int} (hv : v = mX f t i 3) (hw : w = mX f t i 4) :
    (if a = (i : Int).toNat ∧ (4 : Nat) ≤ b ∧ b < 4 + 1 then ([V.D.int .i64 w]).getD (b - 4) .top else if a = (i : Int).toNat ∧ (3 : Nat) ≤ b ∧ b < 3 + 1 then ([V.D.int .i64 v]).getD (b - 3) .top else imD (mA f t but i) a b) = imD (mA f t but (i + 1)) a b := by
  rw [Int.toNat_natCast]
  subst hv; subst hw
  by_cases e : a = i
  · subst e
    have e1 : mA f t but (a + 1) a b = mX f t a b := by unfold mA; rw [if_pos ⟨by omega, h⟩]
    have e2 : mA f t but a a b = t.xa a b := mA_at (.inl (Nat.le_refl a))
    unfold imD
    rw [e1, e2]
    have : b = 0 ∨ b = 1 ∨ b = 2 ∨ b = 3 ∨ b = 4 := by omega
    rcases this with rfl | rfl | rfl | rfl | rfl <;> simp [mX]
  · have : (a < i + 1 ∧ t.xa a 0 ≠ but) ↔ (a < i ∧ t.xa a 0 ≠ but) := by
      constructor <;> rintro ⟨h1, h2⟩ <;> exact ⟨by omega, h2⟩
    rw [if_neg (fun g => e g.1), if_neg (fun g => e g.1)]
    unfold imD mA
    simp only [this]
theorem anyBelow_none {p : Nat → Bool} {n : Nat} (h : ∀ k, k < n → p k = false) : anyBelow p n = false := by
  rw [Bool.eq_false_iff]
  intro g
  obtain ⟨k, hk, e⟩ := anyBelow_iff.1 g
  rw [h k hk] at e
  cases e
theorem firstFrom_at {p : Nat → Bool} {n i : Nat} (hi : i < n) (h : ∀ k, k < i → p k = false) (hp : p i = true) : (firstFrom p 0 n).toNat = i := by
  rcases firstFrom_spec p n 0 with ⟨_, h2⟩ | ⟨m, h1, h2, h3, h4, h5⟩
  · rw [h2 i (Nat.zero_le i) (by omega)] at hp; cases hp
  · rw [h1, Int.toNat_natCast]
    rcases Nat.lt_trichotomy m i with g | g | g
    · rw [h m g] at h4; cases h4
    · exact g
    · rw [h5 i (Nat.zero_le i) g] at hp; cases hp
theorem tickB_mk {n : Int} (h : 0 ≤ n ∧ n ≤ 100000) : tickB n = true := by unfold tickB isin; rw [decide_eq_true h.1, decide_eq_true h.2]; rfl
theorem meas_bad {f : Fld} {t : Task} {but tick : Int} (h : checkE t ≠ 0 ∨ ¬ (0 ≤ tick ∧ tick ≤ 100000)) : measT f t but tick = (0, false) := by
  unfold measT
  by_cases e : checkE t ≠ 0
  · rw [if_pos e]
  · rw [if_neg e]
    have h : ¬ (0 ≤ tick ∧ tick ≤ 100000) := h.resolve_left e
    rw [if_pos (by simp only [tickB, isin, Bool.and_eq_false_iff, decide_eq_false_iff_not]; omega)]
theorem meas_stop {f : Fld} {t : Task} {but tick : Int} (h : checkE t = 0) (ht : 0 ≤ tick ∧ tick ≤ 100000) {i : Nat} (hi : i < t.nx) (hb : ∀ k, k < i → mBad f t but k = false) (hp : mBad f t but i = true) : measT f t but tick = (i + 1, false) := by
  unfold measT
  rw [if_neg (fun g => g h), if_neg (by rw [tickB_mk ht]; exact Bool.noConfusion), if_pos (anyBelow_iff.2 ⟨i, hi, hp⟩), firstFrom_at hi hb hp]
theorem meas_cut {f : Fld} {t : Task} {but tick : Int} (h : checkE t = 0) (ht : 0 ≤ tick ∧ tick ≤ 100000) (hb : ∀ k, k < t.nx → mBad f t but k = false) {i : Nat} (hi : i < t.nc) (hp : mCut f t tick i = true) : measT f t but tick = (t.nx, false) := by
  unfold measT
  rw [if_neg (fun g => g h), if_neg (by rw [tickB_mk ht]; exact Bool.noConfusion), if_neg (by rw [anyBelow_none hb]; exact Bool.noConfusion), if_pos (anyBelow_iff.2 ⟨i, hi, hp⟩)]
theorem meas_end {f : Fld} {t : Task} {but tick : Int} (h : checkE t = 0) (ht : 0 ≤ tick ∧ tick ≤ 100000) (hb : ∀ k, k < t.nx → mBad f t but k = false) (hc : ∀ k, k < t.nc → mCut f t tick k = false) :
    measT f t but tick = (t.nx, decide (checkE (t.wth t.nx (mA f t but t.nx)) = 0)) := by
  unfold measT
  rw [if_neg (fun g => g h), if_neg (by rw [tickB_mk ht]; exact Bool.noConfusion), if_neg (by rw [anyBelow_none hb]; exact Bool.noConfusion), if_neg (by rw [anyBelow_none hc]; exact Bool.noConfusion)]
theorem mBad_but {f : Fld} {t : Task} {but : Int} {i : Nat} (h : t.xa i 0 = but) : mBad f t but i = false := by unfold mBad; rw [decide_eq_true h]; rfl
theorem mBad_eq {f : Fld} {t : Task} {but : Int} {i : Nat} (h : t.xa i 0 ≠ but) : mBad f t but i = !isWind (fldX f t (t.xa i 2) (t.xa i 1)) (fldY f t (t.xa i 2) (t.xa i 1)) := by unfold mBad; rw [decide_eq_false h]; rfl
theorem mX3 (f : Fld) (t : Task) (i : Nat) : mX f t i 3 = fldX f t (t.xa i 2) (t.xa i 1) + wrongS f (2 * i) (t.sa (t.xa i 0).toNat 1) := rfl
theorem mX4 (f : Fld) (t : Task) (i : Nat) : mX f t i 4 = fldY f t (t.xa i 2) (t.xa i 1) + wrongS f (2 * i + 1) (t.sa (t.xa i 0).toNat 1) := rfl
theorem mCut_eq (f : Fld) (t : Task) (tick : Int) (i : Nat) : mCut f t tick i = !isWind (fldX f t (lowS t i) tick) (fldY f t (lowS t i) tick) := rfl
attribute [local irreducible] checkS fldX fldY wrongS isWind mA mBad mCut FldIs
theorem measured_ok : PSound Go.Proofs.Try.prog 37 (mk rMeasured) := by
  refine psound_mk Try.func37 (by kernel_rfl) rfl (ctx lib45_ok) ?_
  (intro ds p d h; unfold rMeasured at h; split at h <;> first | (cases h; done) | skip; cases h; refine ⟨Nat.le_of_ble_eq_true rfl, fun hp k hk => ?_⟩)
  rename_i e d but tick
  obtain ⟨he, ht, hf⟩ := hp
  refine ⟨[(fldOf e).D, (taskOf d).D, .int .i64 but, .int .i64 tick], fld_imp he fun hw => task_imp ht ⟨rfl, rfl, ?_⟩⟩
  clear he ht
  generalize taskOf d = t at *
  generalize fldOf e = f at *
  generalize hM : measT f t but tick = mm at *
  repeat' (first | ((with_reducible refine kok ?_); kernel_rfl) | ((with_reducible refine keq_mk ?_); kernel_rfl) | with_reducible rfl | ((conv => whnf); first | (with_reducible exact trivial) | ((with_reducible refine and_ff ?_ ?_); · exact rfl) | ((with_reducible refine and_tt ?_ ?_); · exact rfl) | (with_reducible refine And.intro ?_ ?_) | intro _ | (with_reducible refine fin2 hk ?_) | ((with_reducible refine eq_leaf ?_); exact rfl) | exact trivial))
  all_goals try exact hf _ (by assumption)
  all_goals try ((first | with_reducible refine (?_ : (_ : Int) ≤ _) | with_reducible refine (?_ : (_ : Int) < _) | with_reducible refine (?_ : (_ : Nat) < _) | with_reducible refine (?_ : (_ : Nat) ≤ _)); clear hk; (simp only [taskOf_agg, ↓Bool.not_eq_true', ↓Bool.not_eq_false', ↓decT, ↓decF, out_true, out_false, isin_true, isin_false, Int.toNat_natCast, Int.ofNat_lt, Nat.zero_add, Nat.add_zero, Nat.reduceAdd] at *; have := (check_ok (t := t) (by assumption)).nx; omega))
  rotate_right 1
  · conv => whnf
    rename_i g1 g2 g3
    simp only [taskOf_agg, ↓Bool.not_eq_true', ↓Bool.not_eq_false', ↓decT, ↓decF, out_true, out_false, isin_true, isin_false, Int.toNat_natCast, Int.ofNat_lt, Nat.zero_add, Nat.add_zero, Nat.reduceAdd] at g1 g2 g3
    have hok : t.ok := check_ok g1
    have hnx := hok.nx
    have hmild : t.mild := ⟨hok.shear, hok.age⟩
    refine ⟨Nat, fun i => [(2, .int .i64 but), (3, .int .i64 tick), (4, .ptr 0 0), (5, .ptr 1 0), (8, .ptr 2 0), (13, .int .i64 i)],
      fun i => [some (.row [.int .i16 f.x, .int .i16 f.y, .int .i16 f.rx, .int .i16 f.ry, .int .i16 f.tx, .int .i16 f.ty, .rsl 1 f.n (i8D f.w)]), some (.row [.rsl 7 t.ns (smD t.nm t.sa), .own 3 t.nx, .rsl 1 t.nc (imD t.ca), .int .i64 t.age, .int .i64 t.shear]), some (.row [.top, .top, .top, .top, .top]), some (.buf 80 5 t.nx (imD (mA f t but i)))],
      fun i => t.nx - i, fun i => i ≤ t.nx ∧ ∀ k, k < i → mBad f t but k = false, [], 0, fun _ => ⟨?_, ?_⟩, ?_, fun i hi => ?_⟩
    · conv => lhs; whnf
    · conv => lhs; whnf
    · clear hk
      repeat' (first | ((with_reducible refine kok ?_); kernel_rfl) | ((with_reducible refine keq_mk ?_); kernel_rfl) | with_reducible rfl | ((conv => whnf); first | (with_reducible exact trivial) | ((with_reducible refine and_ff ?_ ?_); · exact rfl) | ((with_reducible refine and_tt ?_ ?_); · exact rfl) | (with_reducible refine And.intro ?_ ?_) | intro _ | (with_reducible refine fin2 hk ?_) | ((with_reducible refine eq_leaf ?_); exact rfl) | exact trivial))
      all_goals first
        | exact Nat.zero_add _
        | exact Nat.zero_le _
        | (rename_i a b ha hb; rw [mA_zero]; rfl)
        | (rename_i k hk; exact absurd hk (Nat.not_lt_zero k))
    obtain ⟨hi, hbad⟩ := hi
    have hmA : ∀ j, mA f t but i i j = t.xa i j := fun j => mA_at (.inl (Nat.le_refl i))
    have F : i < t.nx → ((0 ≤ t.xa i 0 ∧ t.xa i 0 < t.ns) ∧ (0 ≤ t.xa i 1 ∧ t.xa i 1 ≤ 100000) ∧ (0 ≤ t.xa i 2 ∧ t.xa i 2 < 100000000)) ∧ (0 ≤ t.sa (t.xa i 0).toNat 1 ∧ t.sa (t.xa i 0).toNat 1 ≤ 5000) ∧
        ((-1400000 ≤ fldX f t (t.xa i 2) (t.xa i 1) ∧ fldX f t (t.xa i 2) (t.xa i 1) ≤ 1400000) ∧ (-1400000 ≤ fldY f t (t.xa i 2) (t.xa i 1) ∧ fldY f t (t.xa i 2) (t.xa i 1) ≤ 1400000)) ∧
        (-5000 ≤ wrongS f (2 * i) (t.sa (t.xa i 0).toNat 1) ∧ wrongS f (2 * i) (t.sa (t.xa i 0).toNat 1) ≤ 5000) ∧ (-5000 ≤ wrongS f (2 * i + 1) (t.sa (t.xa i 0).toNat 1) ∧ wrongS f (2 * i + 1) (t.sa (t.xa i 0).toNat 1) ≤ 5000) := fun h => by
      have s1 := hok.src i h
      have s2 := hok.tick i h
      have s3 := hok.height i h
      have s4 := hok.err (t.xa i 0).toNat (by omega)
      have w1 := wrong_bound hw (i := 2 * i) s4
      have w2 := wrong_bound hw (i := 2 * i + 1) s4
      exact ⟨⟨s1, s2, s3⟩, s4, fld_bound hmild hw (by omega) (by omega), by omega, by omega⟩
    have ht2 : ((2 : Int) * (i : Int)).toNat = 2 * i := by omega
    have ht3 : ((2 : Int) * (i : Int) + 1).toNat = 2 * i + 1 := by omega
    repeat' (first | ((with_reducible refine kok ?_); kernel_rfl) | ((with_reducible refine keq_mk ?_); kernel_rfl) | with_reducible rfl | ((conv => whnf); first | (with_reducible exact trivial) | ((with_reducible refine and_ff ?_ ?_); · exact rfl) | ((with_reducible refine and_tt ?_ ?_); · exact rfl) | (with_reducible refine And.intro ?_ ?_) | intro _ | (with_reducible refine fin2 hk ?_) | ((with_reducible refine eq_leaf ?_); exact rfl) | exact trivial))
    all_goals try exact hf _ (by assumption)
    all_goals try ((first | with_reducible refine (?_ : (_ : Int) ≤ _) | with_reducible refine (?_ : (_ : Int) < _) | with_reducible refine (?_ : (_ : Nat) < _) | with_reducible refine (?_ : (_ : Nat) ≤ _)); clear hk; first | omega | (simp only [taskOf_agg, ↓Bool.not_eq_true', ↓Bool.not_eq_false', ↓decT, ↓decF, out_true, out_false, isin_true, isin_false, Int.toNat_natCast, Int.ofNat_lt, Nat.zero_add, Nat.add_zero, Nat.reduceAdd, hmA, ht2, ht3, fldOf_agg, taskOf_wth, wth_shear, wth_age, fldX_wth, fldY_wth] at *; first | omega | (have := F (by omega); omega) | (have h1 := hmild.1; have h2 := hmild.2; omega)))
    all_goals try exact fldIs_mk hw
    all_goals try conv => whnf
    · rename_i g4 g5
      clear hk
      simp only [taskOf_agg, ↓Bool.not_eq_true', ↓Bool.not_eq_false', ↓decT, ↓decF, out_true, out_false, isin_true, isin_false, Int.toNat_natCast, Int.ofNat_lt, Nat.zero_add, Nat.add_zero, Nat.reduceAdd, hmA] at g4 g5
      refine ⟨i + 1, ?_⟩
      repeat' (first | ((with_reducible refine kok ?_); kernel_rfl) | ((with_reducible refine keq_mk ?_); kernel_rfl) | with_reducible rfl | ((conv => whnf); first | (with_reducible exact trivial) | ((with_reducible refine and_ff ?_ ?_); · exact rfl) | ((with_reducible refine and_tt ?_ ?_); · exact rfl) | (with_reducible refine And.intro ?_ ?_) | intro _ | (with_reducible refine fin2 hk ?_) | ((with_reducible refine eq_leaf ?_); exact rfl) | exact trivial))
      all_goals first
        | omega
        | (simp only; omega)
        | (rename_i a b ha hb; rw [mA_skip g5]; done)
        | (rename_i j hj; rcases Nat.lt_succ_iff_lt_or_eq.1 hj with g | rfl; exact hbad j g; exact mBad_but g5)
    · rename_i g4 g5 g6
      simp only [taskOf_agg, ↓Bool.not_eq_true', ↓Bool.not_eq_false', ↓decT, ↓decF, out_true, out_false, isin_true, isin_false, Int.toNat_natCast, Int.ofNat_lt, Nat.zero_add, Nat.add_zero, Nat.reduceAdd, hmA] at g4 g6
      have := F g4
      omega
    · rename_i g4 g5 g6 g7
      simp only [taskOf_agg, ↓Bool.not_eq_true', ↓Bool.not_eq_false', ↓decT, ↓decF, out_true, out_false, isin_true, isin_false, Int.toNat_natCast, Int.ofNat_lt, Nat.zero_add, Nat.add_zero, Nat.reduceAdd, hmA] at g4 g7
      have := F g4
      omega
    · rename_i g4 g5 g6 g7 g8 a b ha hb
      simp only [taskOf_agg, ↓Bool.not_eq_true', ↓Bool.not_eq_false', ↓decT, ↓decF, out_true, out_false, isin_true, isin_false, Int.toNat_natCast, Int.ofNat_lt, Nat.zero_add, Nat.add_zero, Nat.reduceAdd, hmA, fldOf_agg, taskOf_wth, fldX_wth, fldY_wth] at g4 g5 g8
      have hm : mm = (i + 1, false) := hM.symm.trans (meas_stop g1 (by omega) g4 hbad (by rw [mBad_eq g5, g8]; rfl))
      rw [hm]
      refine mA_step g5 hb ?_ ?_
      · rw [mX3]
        simp only [taskOf_agg, ↓Bool.not_eq_true', ↓Bool.not_eq_false', ↓decT, ↓decF, out_true, out_false, isin_true, isin_false, Int.toNat_natCast, Int.ofNat_lt, Nat.zero_add, Nat.add_zero, Nat.reduceAdd, hmA, ht2, fldOf_agg, taskOf_wth, fldX_wth]
      · rw [mX4]
        simp only [taskOf_agg, ↓Bool.not_eq_true', ↓Bool.not_eq_false', ↓decT, ↓decF, out_true, out_false, isin_true, isin_false, Int.toNat_natCast, Int.ofNat_lt, Nat.zero_add, Nat.add_zero, Nat.reduceAdd, hmA, ht3, fldOf_agg, taskOf_wth, fldY_wth]
    · rename_i g4 g5 g6 g7 g8
      simp only [taskOf_agg, ↓Bool.not_eq_true', ↓Bool.not_eq_false', ↓decT, ↓decF, out_true, out_false, isin_true, isin_false, Int.toNat_natCast, Int.ofNat_lt, Nat.zero_add, Nat.add_zero, Nat.reduceAdd, hmA, fldOf_agg, taskOf_wth, fldX_wth, fldY_wth] at g4 g5 g8
      have hm : mm = (i + 1, false) := hM.symm.trans (meas_stop g1 (by omega) g4 hbad (by rw [mBad_eq g5, g8]; rfl))
      rw [hm]
    · rename_i g4 g5 g6 g7 g8
      clear hk
      simp only [taskOf_agg, ↓Bool.not_eq_true', ↓Bool.not_eq_false', ↓decT, ↓decF, out_true, out_false, isin_true, isin_false, Int.toNat_natCast, Int.ofNat_lt, Nat.zero_add, Nat.add_zero, Nat.reduceAdd, hmA, fldOf_agg, taskOf_wth, fldX_wth, fldY_wth] at g4 g5 g8
      refine ⟨i + 1, ?_⟩
      repeat' (first | ((with_reducible refine kok ?_); kernel_rfl) | ((with_reducible refine keq_mk ?_); kernel_rfl) | with_reducible rfl | ((conv => whnf); first | (with_reducible exact trivial) | ((with_reducible refine and_ff ?_ ?_); · exact rfl) | ((with_reducible refine and_tt ?_ ?_); · exact rfl) | (with_reducible refine And.intro ?_ ?_) | intro _ | (with_reducible refine fin2 hk ?_) | ((with_reducible refine eq_leaf ?_); exact rfl) | exact trivial))
      all_goals first
        | omega
        | (simp only; omega)
        | (rename_i j hj; rcases Nat.lt_succ_iff_lt_or_eq.1 hj with g | rfl; exact hbad j g; rw [mBad_eq g5, g8]; rfl)
        | (rename_i a b ha hb; exact mA_step g5 hb (by rw [mX3]; simp only [taskOf_agg, ↓Bool.not_eq_true', ↓Bool.not_eq_false', ↓decT, ↓decF, out_true, out_false, isin_true, isin_false, Int.toNat_natCast, Int.ofNat_lt, Nat.zero_add, Nat.add_zero, Nat.reduceAdd, hmA, ht2, fldOf_agg, taskOf_wth, fldX_wth]) (by rw [mX4]; simp only [taskOf_agg, ↓Bool.not_eq_true', ↓Bool.not_eq_false', ↓decT, ↓decF, out_true, out_false, isin_true, isin_false, Int.toNat_natCast, Int.ofNat_lt, Nat.zero_add, Nat.add_zero, Nat.reduceAdd, hmA, ht3, fldOf_agg, taskOf_wth, fldY_wth]))
    rename_i g4
    simp only [taskOf_agg, ↓Bool.not_eq_true', ↓Bool.not_eq_false', ↓decT, ↓decF, out_true, out_false, isin_true, isin_false, Int.toNat_natCast, Int.ofNat_lt, Nat.zero_add, Nat.add_zero, Nat.reduceAdd] at g4
    obtain rfl : i = t.nx := by omega
    clear F ht2 ht3 hmA
    refine ⟨Nat, fun i => [(2, .int .i64 but), (3, .int .i64 tick), (4, .ptr 0 0), (5, .ptr 1 0), (8, .ptr 2 0), (18, .int .i64 i)],
      fun i => [some (.row [.int .i16 f.x, .int .i16 f.y, .int .i16 f.rx, .int .i16 f.ry, .int .i16 f.tx, .int .i16 f.ty, .rsl 1 f.n (i8D f.w)]), some (.row [.rsl 7 t.ns (smD t.nm t.sa), .own 3 t.nx, .rsl 1 t.nc (imD t.ca), .int .i64 t.age, .int .i64 t.shear]), some (.row [.top, .top, .top, .top, .top]), some (.buf 80 5 t.nx (imD (mA f t but t.nx)))],
      fun i => t.nc - i, fun i => i ≤ t.nc ∧ ∀ k, k < i → mCut f t tick k = false, [], 0, fun _ => ⟨?_, ?_⟩, ?_, fun i hi => ?_⟩
    · conv => lhs; whnf
    · conv => lhs; whnf
    · clear hk
      repeat' (first | ((with_reducible refine kok ?_); kernel_rfl) | ((with_reducible refine keq_mk ?_); kernel_rfl) | with_reducible rfl | ((conv => whnf); first | (with_reducible exact trivial) | ((with_reducible refine and_ff ?_ ?_); · exact rfl) | ((with_reducible refine and_tt ?_ ?_); · exact rfl) | (with_reducible refine And.intro ?_ ?_) | intro _ | (with_reducible refine fin2 hk ?_) | ((with_reducible refine eq_leaf ?_); exact rfl) | exact trivial))
      all_goals first
        | exact Nat.zero_le _
        | (rename_i k hk; exact absurd hk (Nat.not_lt_zero k))
    obtain ⟨hi, hcut⟩ := hi
    have hnc := hok.nc
    have hp1 : ((i : Int) - 1).toNat = i - 1 := by omega
    have C : i < t.nc → 0 < i → 1 ≤ t.ca (i - 1) 0 ∧ t.ca (i - 1) 0 ≤ 100000000 := fun h1 h2 => hok.cut (i - 1) (by omega)
    have L0 : ¬ 0 < i → lowS t i = 0 := fun h => if_pos (by omega)
    have L1 : 0 < i → lowS t i = t.ca (i - 1) 0 := fun h => if_neg (by omega)
    repeat' (first | ((with_reducible refine kok ?_); kernel_rfl) | ((with_reducible refine keq_mk ?_); kernel_rfl) | with_reducible rfl | ((conv => whnf); first | (with_reducible exact trivial) | ((with_reducible refine and_ff ?_ ?_); · exact rfl) | ((with_reducible refine and_tt ?_ ?_); · exact rfl) | (with_reducible refine And.intro ?_ ?_) | intro _ | (with_reducible refine fin2 hk ?_) | ((with_reducible refine eq_leaf ?_); exact rfl) | exact trivial))
    all_goals try exact hf _ (by assumption)
    all_goals try exact fldIs_mk hw
    all_goals try ((first | with_reducible refine (?_ : (_ : Int) ≤ _) | with_reducible refine (?_ : (_ : Int) < _) | with_reducible refine (?_ : (_ : Nat) < _) | with_reducible refine (?_ : (_ : Nat) ≤ _)); clear hk; first | omega | (simp only [taskOf_agg, ↓Bool.not_eq_true', ↓Bool.not_eq_false', ↓decT, ↓decF, out_true, out_false, isin_true, isin_false, Int.toNat_natCast, Int.ofNat_lt, Nat.zero_add, Nat.add_zero, Nat.reduceAdd, hp1, fldOf_agg, taskOf_wth, wth_shear, wth_age, fldX_wth, fldY_wth] at *; first | omega | (have := C (by omega) (by omega); omega) | (have h1 := hmild.1; have h2 := hmild.2; omega)))
    all_goals try conv => whnf
    · rename_i g5 g6 g7 a b ha hb
      simp only [taskOf_agg, ↓Bool.not_eq_true', ↓Bool.not_eq_false', ↓decT, ↓decF, out_true, out_false, isin_true, isin_false, Int.toNat_natCast, Int.ofNat_lt, Nat.zero_add, Nat.add_zero, Nat.reduceAdd, hp1, fldOf_agg, taskOf_wth, fldX_wth, fldY_wth] at g5 g6 g7
      have hm : mm = (t.nx, false) := hM.symm.trans (meas_cut g1 (by omega) hbad g5 (by rw [mCut_eq, L1 (by omega), g7]; rfl))
      rw [hm]
    · rename_i g5 g6 g7
      simp only [taskOf_agg, ↓Bool.not_eq_true', ↓Bool.not_eq_false', ↓decT, ↓decF, out_true, out_false, isin_true, isin_false, Int.toNat_natCast, Int.ofNat_lt, Nat.zero_add, Nat.add_zero, Nat.reduceAdd, hp1, fldOf_agg, taskOf_wth, fldX_wth, fldY_wth] at g5 g6 g7
      have hm : mm = (t.nx, false) := hM.symm.trans (meas_cut g1 (by omega) hbad g5 (by rw [mCut_eq, L1 (by omega), g7]; rfl))
      rw [hm]
    · rename_i g5 g6 g7
      clear hk
      simp only [taskOf_agg, ↓Bool.not_eq_true', ↓Bool.not_eq_false', ↓decT, ↓decF, out_true, out_false, isin_true, isin_false, Int.toNat_natCast, Int.ofNat_lt, Nat.zero_add, Nat.add_zero, Nat.reduceAdd, hp1, fldOf_agg, taskOf_wth, fldX_wth, fldY_wth] at g5 g6 g7
      refine ⟨i + 1, ?_⟩
      repeat' (first | ((with_reducible refine kok ?_); kernel_rfl) | ((with_reducible refine keq_mk ?_); kernel_rfl) | with_reducible rfl | ((conv => whnf); first | (with_reducible exact trivial) | ((with_reducible refine and_ff ?_ ?_); · exact rfl) | ((with_reducible refine and_tt ?_ ?_); · exact rfl) | (with_reducible refine And.intro ?_ ?_) | intro _ | (with_reducible refine fin2 hk ?_) | ((with_reducible refine eq_leaf ?_); exact rfl) | exact trivial))
      all_goals first
        | omega
        | (simp only; omega)
        | (rename_i j hj; rcases Nat.lt_succ_iff_lt_or_eq.1 hj with g | rfl; exact hcut j g; rw [mCut_eq, L1 (by omega), g7]; rfl)
    · rename_i g5 g6 g7 a b ha hb
      simp only [taskOf_agg, ↓Bool.not_eq_true', ↓Bool.not_eq_false', ↓decT, ↓decF, out_true, out_false, isin_true, isin_false, Int.toNat_natCast, Int.ofNat_lt, Nat.zero_add, Nat.add_zero, Nat.reduceAdd, hp1, fldOf_agg, taskOf_wth, fldX_wth, fldY_wth] at g5 g6 g7
      have hm : mm = (t.nx, false) := hM.symm.trans (meas_cut g1 (by omega) hbad g5 (by rw [mCut_eq, L0 (by omega), g7]; rfl))
      rw [hm]
    · rename_i g5 g6 g7
      simp only [taskOf_agg, ↓Bool.not_eq_true', ↓Bool.not_eq_false', ↓decT, ↓decF, out_true, out_false, isin_true, isin_false, Int.toNat_natCast, Int.ofNat_lt, Nat.zero_add, Nat.add_zero, Nat.reduceAdd, hp1, fldOf_agg, taskOf_wth, fldX_wth, fldY_wth] at g5 g6 g7
      have hm : mm = (t.nx, false) := hM.symm.trans (meas_cut g1 (by omega) hbad g5 (by rw [mCut_eq, L0 (by omega), g7]; rfl))
      rw [hm]
    · rename_i g5 g6 g7
      clear hk
      simp only [taskOf_agg, ↓Bool.not_eq_true', ↓Bool.not_eq_false', ↓decT, ↓decF, out_true, out_false, isin_true, isin_false, Int.toNat_natCast, Int.ofNat_lt, Nat.zero_add, Nat.add_zero, Nat.reduceAdd, hp1, fldOf_agg, taskOf_wth, fldX_wth, fldY_wth] at g5 g6 g7
      refine ⟨i + 1, ?_⟩
      repeat' (first | ((with_reducible refine kok ?_); kernel_rfl) | ((with_reducible refine keq_mk ?_); kernel_rfl) | with_reducible rfl | ((conv => whnf); first | (with_reducible exact trivial) | ((with_reducible refine and_ff ?_ ?_); · exact rfl) | ((with_reducible refine and_tt ?_ ?_); · exact rfl) | (with_reducible refine And.intro ?_ ?_) | intro _ | (with_reducible refine fin2 hk ?_) | ((with_reducible refine eq_leaf ?_); exact rfl) | exact trivial))
      all_goals first
        | omega
        | (simp only; omega)
        | (rename_i j hj; rcases Nat.lt_succ_iff_lt_or_eq.1 hj with g | rfl; exact hcut j g; rw [mCut_eq, L0 (by omega), g7]; rfl)
    · rename_i g5 a b ha hb
      simp only [taskOf_agg, ↓Bool.not_eq_true', ↓Bool.not_eq_false', ↓decT, ↓decF, out_true, out_false, isin_true, isin_false, Int.toNat_natCast, Int.ofNat_lt, Nat.zero_add, Nat.add_zero, Nat.reduceAdd] at g5
      obtain rfl : i = t.nc := by omega
      rw [hM.symm.trans (meas_end g1 (by omega) hbad hcut)]
    · rename_i g5
      simp only [taskOf_agg, ↓Bool.not_eq_true', ↓Bool.not_eq_false', ↓decT, ↓decF, out_true, out_false, isin_true, isin_false, Int.toNat_natCast, Int.ofNat_lt, Nat.zero_add, Nat.add_zero, Nat.reduceAdd] at g5
      obtain rfl : i = t.nc := by omega
      rw [hM.symm.trans (meas_end g1 (by omega) hbad hcut)]
      rfl
  all_goals clear hk
  all_goals have hm : mm = (0, false) := hM.symm.trans (meas_bad (by simp only [taskOf_agg, ↓Bool.not_eq_true', ↓Bool.not_eq_false', ↓decT, ↓decF, out_true, out_false, isin_true, isin_false, Int.toNat_natCast, Int.ofNat_lt, Nat.zero_add, Nat.add_zero, Nat.reduceAdd] at *; unfold checkE; omega))
  all_goals rw [hm]
  all_goals try rw [mA_zero]
end Go.Proofs.Ytbkehkiflfhpfaa
end
section
set_option linter.unusedVariables false
set_option linter.unusedSimpArgs false
set_option maxRecDepth 100000
namespace Go.Proofs.Ytbkehkiflfhpfaa
open Go.V

/-- A product grows no more than its factor lets it. -/
theorem lip {c m x y L b : Int} (hL : 0 < L) (hm0 : 0 ≤ m) (hm : -m ≤ c ∧ c ≤ m) (h1 : x - y ≤ L * b) (h2 : y - x ≤ L * b) : c * x / L ≤ c * y / L + m * b := by
  have hB : 0 ≤ L * b := by omega
  have h3 : c * (x - y) ≤ m * (L * b) := by
    rcases Int.le_total 0 c with h | h
    · have e1 := Int.mul_le_mul_of_nonneg_left h1 h
      have e2 := Int.mul_le_mul_of_nonneg_right hm.2 hB
      omega
    · have e1 := Int.mul_le_mul_of_nonneg_left h2 (show 0 ≤ -c by omega)
      have e2 := Int.mul_le_mul_of_nonneg_right (show -c ≤ m by omega) hB
      have e3 : c * (x - y) = -c * (y - x) := by rw [Int.neg_mul, ← Int.mul_neg, Int.neg_sub]
      omega
  have e : m * (L * b) = m * b * L := by rw [Int.mul_comm L b, Int.mul_assoc]
  rw [e, Int.mul_sub] at h3
  have h4 : c * x / L ≤ (c * y + m * b * L) / L := Int.ediv_le_ediv hL (by omega)
  rwa [Int.add_mul_ediv_right _ _ (show L ≠ 0 by omega)] at h4
theorem begun_far (a b : Int) {l : Int} (hl : l = 600 ∨ l = 100000) : a - b ≤ l * begun a b l ∧ b - a ≤ l * begun a b l ∧ begun a b l = begun b a l ∧ 0 ≤ begun a b l := by
  unfold begun
  rcases hl with rfl | rfl
  · rw [Int.tdiv_eq_ediv_of_nonneg (by omega), Int.tdiv_eq_ediv_of_nonneg (by omega)]
    omega
  · rw [Int.tdiv_eq_ediv_of_nonneg (by omega), Int.tdiv_eq_ediv_of_nonneg (by omega)]
    omega
theorem clamp_le {m n : Int} (h : 0 ≤ m) : -m ≤ clampS m n ∧ clampS m n ≤ m := by unfold clampS; omega
/-- How far a field's winds at two heights and ticks can be apart. -/
theorem part_near {t : Task} (hm : t.mild) (f r s h a h' a' : Int) : partS t f r s h a ≤ partS t f r s h' a' + (t.age * begun a' a 600 + t.shear * begun h' h 100000) := by
  unfold partS
  obtain ⟨b1, b2, b3, b4⟩ := begun_far h h' (l := 100000) (.inr rfl)
  obtain ⟨b5, b6, b7, b8⟩ := begun_far a a' (l := 600) (.inl rfl)
  have l1 := lip (c := clampS t.shear r) (x := h) (y := h') (by decide) hm.1.1 (clamp_le hm.1.1) b1 b2
  have l2 := lip (c := clampS t.age s) (x := a) (y := a') (by decide) hm.2.1 (clamp_le hm.2.1) b5 b6
  rw [b3] at l1
  rw [b7] at l2
  omega
theorem part_near' {t : Task} (hm : t.mild) (f r s h a h' a' : Int) : partS t f r s h' a' ≤ partS t f r s h a + (t.age * begun a' a 600 + t.shear * begun h' h 100000) := by
  have := part_near hm f r s h' a' h a
  obtain ⟨_, _, b3, _⟩ := begun_far h h' (l := 100000) (.inr rfl)
  obtain ⟨_, _, b7, _⟩ := begun_far a a' (l := 600) (.inl rfl)
  rw [b3, b7] at this
  exact this
theorem dOf_in {t : Task} (hok : t.ok) {i : Nat} {low high h a : Int} (h1 : low ≤ h) (h2 : h ≤ high) : doubtS t i h a ≤ dOf t low high a i := by
  have := dOf_mono hok (i := i) (low := h) (high := h) (low' := low) (high' := high) (a := a) (a' := a) (Int.le_refl _) h1 (Int.le_refl _) h2
  unfold dOf at this ⊢
  omega
/-- What is measured. -/
structure Meas (f : Fld) (t : Task) (but tick : Int) : Prop where
  fok : f.ok
  ht : checkE t = 0
  tk : 0 ≤ tick ∧ tick ≤ 100000
  hu : checkE (t.wth t.nx (mA f t but t.nx)) = 0
  cut : ∀ i, i < t.nc → mCut f t tick i = false
theorem meas_true {f : Fld} (hf : f.ok) {t : Task} {but tick : Int} (h : (measT f t but tick).2 = true) : Meas f t but tick ∧ (measT f t but tick).1 = t.nx := by
  by_cases h1 : checkE t = 0 ∧ (0 ≤ tick ∧ tick ≤ 100000)
  · obtain ⟨h1, h2⟩ := h1
    by_cases h3 : ∃ i, i < t.nx ∧ (∀ k, k < i → mBad f t but k = false) ∧ mBad f t but i = true
    · obtain ⟨i, g1, g2, g3⟩ := h3
      rw [meas_stop h1 h2 g1 g2 g3] at h
      cases h
    · have hb : ∀ k, k < t.nx → mBad f t but k = false := by
        intro k
        induction k using Nat.strongRecOn with
        | _ k ih =>
          intro hk
          by_cases e : mBad f t but k = true
          · exact absurd ⟨k, hk, fun j hj => ih j hj (by omega), e⟩ h3
          · simpa using e
      by_cases h4 : ∃ i, i < t.nc ∧ mCut f t tick i = true
      · obtain ⟨i, g1, g2⟩ := h4
        rw [meas_cut h1 h2 hb g1 g2] at h
        cases h
      · have hc : ∀ k, k < t.nc → mCut f t tick k = false := fun k hk => by
          by_cases e : mCut f t tick k = true
          · exact absurd ⟨k, hk, e⟩ h4
          · simpa using e
        rw [meas_end h1 h2 hb hc] at h ⊢
        exact ⟨⟨hf, h1, h2, of_decide_eq_true h, hc⟩, rfl⟩
  · rw [meas_bad (by omega)] at h
    cases h
theorem isWind_iff {x y : Int} : isWind x y = true ↔ (-20000 ≤ x ∧ x ≤ 20000) ∧ (-20000 ≤ y ∧ y ≤ 20000) := by
  simp [isWind, isin]
/-- The field's wind at a height of a band is left by all that measure it. -/
theorem field_left {f : Fld} {t : Task} {but tick : Int} (hm : Meas f t but tick) {but' low high h now : Int} (hb : ∀ j, j < t.nx → t.xa j 0 ≠ but' → t.xa j 0 ≠ but) (h1 : low ≤ h) (h2 : h ≤ high) (hw : isWind (fldX f t h tick) (fldY f t h tick) = true) :
    ((leftS (t.wth t.nx (mA f t but t.nx)) but' low high tick now).xl ≤ fldX f t h tick ∧ fldX f t h tick ≤ (leftS (t.wth t.nx (mA f t but t.nx)) but' low high tick now).xh) ∧
    ((leftS (t.wth t.nx (mA f t but t.nx)) but' low high tick now).yl ≤ fldY f t h tick ∧ fldY f t h tick ≤ (leftS (t.wth t.nx (mA f t but t.nx)) but' low high tick now).yh) := by
  have hok := check_ok hm.ht
  have hok' := check_ok hm.hu
  have hmild : t.mild := ⟨hok.shear, hok.age⟩
  obtain ⟨w1, w2⟩ := isWind_iff.1 hw
  have key : ∀ j, j < t.nx → t.xa j 0 ≠ but' → (mA f t but t.nx j 3 - dOf (t.wth t.nx (mA f t but t.nx)) low high tick j ≤ fldX f t h tick ∧ fldX f t h tick ≤ mA f t but t.nx j 3 + dOf (t.wth t.nx (mA f t but t.nx)) low high tick j) ∧
      (mA f t but t.nx j 4 - dOf (t.wth t.nx (mA f t but t.nx)) low high tick j ≤ fldY f t h tick ∧ fldY f t h tick ≤ mA f t but t.nx j 4 + dOf (t.wth t.nx (mA f t but t.nx)) low high tick j) := fun j hj hs => by
    have hd := dOf_in hok' (i := j) (a := tick) h1 h2
    have hs' := hok.src j hj
    have he := hok.err (t.xa j 0).toNat (by omega)
    have e3 : mA f t but t.nx j 3 = fldX f t (t.xa j 2) (t.xa j 1) + wrongS f (2 * j) (t.sa (t.xa j 0).toNat 1) := by
      unfold mA
      rw [if_pos ⟨hj, hb j hj hs⟩]
      rfl
    have e4 : mA f t but t.nx j 4 = fldY f t (t.xa j 2) (t.xa j 1) + wrongS f (2 * j + 1) (t.sa (t.xa j 0).toNat 1) := by
      unfold mA
      rw [if_pos ⟨hj, hb j hj hs⟩]
      rfl
    have a0 : mA f t but t.nx j 0 = t.xa j 0 := mA_at (.inr (by decide))
    have a1 : mA f t but t.nx j 1 = t.xa j 1 := mA_at (.inr (by decide))
    have a2 : mA f t but t.nx j 2 = t.xa j 2 := mA_at (.inr (by decide))
    have ed : doubtS (t.wth t.nx (mA f t but t.nx)) j h tick = t.sa (t.xa j 0).toNat 1 + t.age * begun (t.xa j 1) tick 600 + t.shear * begun (t.xa j 2) h 100000 := by
      unfold doubtS
      show t.sa (mA f t but t.nx j 0).toNat 1 + t.age * begun (mA f t but t.nx j 1) tick 600 + t.shear * begun (mA f t but t.nx j 2) h 100000 = _
      rw [a0, a1, a2]
    have q1 := wrong_bound hm.fok (i := 2 * j) he
    have q2 := wrong_bound hm.fok (i := 2 * j + 1) he
    have n1 := part_near hmild f.x f.rx f.tx h tick (t.xa j 2) (t.xa j 1)
    have n2 := part_near' hmild f.x f.rx f.tx h tick (t.xa j 2) (t.xa j 1)
    have n3 := part_near hmild f.y f.ry f.ty h tick (t.xa j 2) (t.xa j 1)
    have n4 := part_near' hmild f.y f.ry f.ty h tick (t.xa j 2) (t.xa j 1)
    rw [e3, e4]
    unfold fldX fldY
    omega
  have src : ∀ j, j < (t.wth t.nx (mA f t but t.nx)).nx → (t.wth t.nx (mA f t but t.nx)).xa j 0 ≠ but' → j < t.nx ∧ t.xa j 0 ≠ but' := fun j g1 g2 => by
    have a0 : mA f t but t.nx j 0 = t.xa j 0 := mA_at (.inr (by decide))
    exact ⟨g1, by rw [← a0]; exact g2⟩
  refine ⟨⟨(left_xl hok').2 ⟨w1.1, fun j g1 g2 _ => ?_⟩, (left_xh hok').2 ⟨w1.2, fun j g1 g2 _ => ?_⟩⟩, (left_yl hok').2 ⟨w2.1, fun j g1 g2 _ => ?_⟩, (left_yh hok').2 ⟨w2.2, fun j g1 g2 _ => ?_⟩⟩
  all_goals obtain ⟨k1, k2⟩ := src j g1 g2
  · exact (key j k1 k2).1.1
  · exact (key j k1 k2).1.2
  · exact (key j k1 k2).2.1
  · exact (key j k1 k2).2.2
theorem field_agree {f : Fld} {t : Task} {but tick : Int} (hm : Meas f t but tick) {but' low high h now : Int} (hb : ∀ j, j < t.nx → t.xa j 0 ≠ but' → t.xa j 0 ≠ but) (h1 : low ≤ h) (h2 : h ≤ high) (hw : isWind (fldX f t h tick) (fldY f t h tick) = true) :
    (leftS (t.wth t.nx (mA f t but t.nx)) but' low high tick now).agree = true := by
  have := field_left hm (now := now) hb h1 h2 hw
  rw [Left.agree_iff]
  omega
theorem isin_mk {n a b : Int} (h : a ≤ n ∧ n ≤ b) : isin n a b = true := by rw [isin_true]; exact h
theorem cut_low {t : Task} (hok : t.ok) {i : Nat} (hi : i < t.nc) : 0 ≤ lowS t i ∧ lowS t i ≤ t.ca i 0 - 1 := by
  have hu := hok.cut i hi
  unfold lowS
  split
  · omega
  · have h1 := hok.rise (i - 1) (by omega)
    have h2 := hok.cut (i - 1) (by omega)
    rw [show i - 1 + 1 = i by omega] at h1
    omega
theorem cut_wind {f : Fld} {t : Task} {but tick : Int} (hm : Meas f t but tick) {i : Nat} (hi : i < t.nc) : isWind (fldX f t (lowS t i) tick) (fldY f t (lowS t i) tick) = true := by
  have := hm.cut i hi
  unfold mCut at this
  simpa using this
/-- All sources measure the field: they agree for all bands; the wind is in the spans. -/
theorem field_all {f : Fld} {t : Task} {tick now : Int} (hm : Meas f t (-1) tick) (hn : 0 ≤ now ∧ now ≤ 100000) :
    (∀ i, i < t.nc → blameT (t.wth t.nx (mA f t (-1) t.nx)) i tick now = ([], true, 0)) ∧ bandsT (t.wth t.nx (mA f t (-1) t.nx)) tick now = (t.nc, 0) ∧
    ∀ x, 0 ≤ x → x ≤ 99999999 → isWind (fldX f t x tick) (fldY f t x tick) = true →
      ((atT (t.wth t.nx (mA f t (-1) t.nx)) x tick now).2 = 0 ∧ isin (fldX f t x tick) (atT (t.wth t.nx (mA f t (-1) t.nx)) x tick now).1.xl (atT (t.wth t.nx (mA f t (-1) t.nx)) x tick now).1.xh = true ∧ isin (fldY f t x tick) (atT (t.wth t.nx (mA f t (-1) t.nx)) x tick now).1.yl (atT (t.wth t.nx (mA f t (-1) t.nx)) x tick now).1.yh = true) ∧
      (((overT t.nc (bandA (t.wth t.nx (mA f t (-1) t.nx)) tick now) x).2 = 4 ∧ t.ca (t.nc - 1) 0 ≤ x) ∨ ((overT t.nc (bandA (t.wth t.nx (mA f t (-1) t.nx)) tick now) x).2 = 0 ∧ isin (fldX f t x tick) (overT t.nc (bandA (t.wth t.nx (mA f t (-1) t.nx)) tick now) x).1.xl (overT t.nc (bandA (t.wth t.nx (mA f t (-1) t.nx)) tick now) x).1.xh = true ∧ isin (fldY f t x tick) (overT t.nc (bandA (t.wth t.nx (mA f t (-1) t.nx)) tick now) x).1.yl (overT t.nc (bandA (t.wth t.nx (mA f t (-1) t.nx)) tick now) x).1.yh = true)) := by
  have hok := check_ok hm.ht
  have hok' := check_ok hm.hu
  have hnc := hok.nc
  have htick := hm.tk
  have hb : ∀ j, j < t.nx → t.xa j 0 ≠ (-1 : Int) → t.xa j 0 ≠ (-1 : Int) := fun _ _ h => h
  have hag : ∀ i, i < t.nc → agreeS (t.wth t.nx (mA f t (-1) t.nx)) (lowS t i) (t.ca i 0 - 1) tick now = true := fun i hi => field_agree hm hb (Int.le_refl _) (cut_low hok hi).2 (cut_wind hm hi)
  have htk : (tickB tick && tickB now) = true := by rw [tickB_mk htick, tickB_mk hn]; rfl
  have hbands : bandsT (t.wth t.nx (mA f t (-1) t.nx)) tick now = (t.nc, 0) := bandsT_mk hm.hu htick hn fun i hi => by
    show (answerS (t.wth t.nx (mA f t (-1) t.nx)) (lowS t i) (t.ca i 0 - 1) tick now).2 = true
    rw [answer_agree (hag i hi)]
  refine ⟨fun i hi => ?_, hbands, fun x hx1 hx2 hw => ⟨?_, ?_⟩⟩
  · unfold blameT
    rw [if_neg (fun g => g hm.hu), if_neg, if_neg (by rw [htk]; exact Bool.noConfusion), Int.toNat_natCast]
    · have e : agreeS (t.wth t.nx (mA f t (-1) t.nx)) (lowS (t.wth t.nx (mA f t (-1) t.nx)) i) ((t.wth t.nx (mA f t (-1) t.nx)).ca i 0 - 1) tick now = true := hag i hi
      rw [e]
      unfold blameS
      rw [if_pos e]
    · have e : (t.wth t.nx (mA f t (-1) t.nx)).nc = t.nc := rfl
      rw [e, isin_false]
      omega
  · have hl := field_left hm (now := now) hb (Int.le_refl x) (Int.le_refl x) hw
    have hg := field_agree hm (now := now) hb (Int.le_refl x) (Int.le_refl x) hw
    have e : atT (t.wth t.nx (mA f t (-1) t.nx)) x tick now = (leftS (t.wth t.nx (mA f t (-1) t.nx)) (-1) x x tick now, 0) := by
      unfold atT
      rw [if_neg (fun g => g hm.hu), if_neg, if_neg]
      · rw [answer_agree hg]
      · rw [answer_agree hg]; exact Bool.noConfusion
      · simp only [heightB, tickB, isin, Bool.and_eq_false_iff, decide_eq_false_iff_not]
        omega
    rw [e]
    exact ⟨rfl, isin_mk hl.1, isin_mk hl.2⟩
  · have hck := bands_check (t := t.wth t.nx (mA f t (-1) t.nx)) (a := tick) (now := now) (by rw [hbands])
    have hck' : (checkBands t.nc (bandA (t.wth t.nx (mA f t (-1) t.nx)) tick now)).2 = 0 := hck
    have hbo := bands_ok hck'
    by_cases hx : t.ca (t.nc - 1) 0 ≤ x
    · left
      rw [over_none hck' ⟨hx1, hx2⟩ hx]
      exact ⟨rfl, hx⟩
    · right
      obtain ⟨i, hi, g1, g2⟩ := hbo.at hx1 (show x < bandA (t.wth t.nx (mA f t (-1) t.nx)) tick now (t.nc - 1) 1 from by show x < t.ca (t.nc - 1) 0; omega)
      have g1' : lowS t i ≤ x := g1
      have g2' : x < t.ca i 0 := g2
      rw [over_mk hck' ⟨hx1, hx2⟩ hi g1 g2]
      have hl := field_left hm (now := now) hb g1' (show x ≤ t.ca i 0 - 1 by omega) hw
      have e : ansB (t.wth t.nx (mA f t (-1) t.nx)) tick now i = (leftS (t.wth t.nx (mA f t (-1) t.nx)) (-1) (lowS t i) (t.ca i 0 - 1) tick now, true) := answer_agree (hag i hi)
      simp only [bandA, e]
      exact ⟨trivial, isin_mk hl.1, isin_mk hl.2⟩
/-- Who is to blame. -/
theorem blameFrom_mem {t : Task} {low high a now : Int} {s : Nat} : ∀ (k i : Nat) (l : List Int), (s : Int) ∈ blameFrom t low high a now i l k ↔ (s : Int) ∈ l ∨ (i ≤ s ∧ s < i + k ∧ (leftS t s low high a now).agree = true)
  | 0, i, l => ⟨fun h => .inl h, fun h => h.elim id fun g => absurd g.2.1 (by omega)⟩
  | k + 1, i, l => by
    rw [blameFrom, blameFrom_mem k (i + 1)]
    unfold blameStep
    by_cases g : (leftS t i low high a now).agree = true
    · rw [if_pos g, List.mem_append, List.mem_singleton]
      constructor
      · rintro ((h | h) | ⟨h1, h2, h3⟩)
        · exact .inl h
        · obtain rfl : s = i := by omega
          exact .inr ⟨Nat.le_refl _, by omega, g⟩
        · exact .inr ⟨by omega, by omega, h3⟩
      · rintro (h | ⟨h1, h2, h3⟩)
        · exact .inl (.inl h)
        · rcases Nat.eq_or_lt_of_le h1 with rfl | h4
          · exact .inl (.inr rfl)
          · exact .inr ⟨h4, by omega, h3⟩
    · rw [if_neg g]
      constructor
      · rintro (h | ⟨h1, h2, h3⟩)
        · exact .inl h
        · exact .inr ⟨by omega, by omega, h3⟩
      · rintro (h | ⟨h1, h2, h3⟩)
        · exact .inl h
        · rcases Nat.eq_or_lt_of_le h1 with rfl | h4
          · exact absurd h3 g
          · exact .inr ⟨h4, by omega, h3⟩
/-- All sources but one measure the field. -/
theorem field_but {f : Fld} {t : Task} {but tick now : Int} (hm : Meas f t but tick) (hn : 0 ≤ now ∧ now ≤ 100000) {i : Nat} (hi : i < t.nc) :
    (blameT (t.wth t.nx (mA f t but t.nx)) i tick now).2.2 = 0 ∧
    ((blameT (t.wth t.nx (mA f t but t.nx)) i tick now).2.1 = false → but ∈ (blameT (t.wth t.nx (mA f t but t.nx)) i tick now).1) ∧
    ((blameT (t.wth t.nx (mA f t but t.nx)) i tick now).2.1 = true → (blameT (t.wth t.nx (mA f t but t.nx)) i tick now).1 = []) ∧
    ((blameT (t.wth t.nx (mA f t but t.nx)) i tick now).2.1 = false → (blameT (t.wth t.nx (mA f t but t.nx)) i tick now).1.length = 1 →
      (bandA (t.wth t.nx (mA f t but t.nx)) tick now i 2 ≤ fldX f t (lowS t i) tick ∧ fldX f t (lowS t i) tick ≤ bandA (t.wth t.nx (mA f t but t.nx)) tick now i 3) ∧ (bandA (t.wth t.nx (mA f t but t.nx)) tick now i 4 ≤ fldY f t (lowS t i) tick ∧ fldY f t (lowS t i) tick ≤ bandA (t.wth t.nx (mA f t but t.nx)) tick now i 5)) := by
  have hok := check_ok hm.ht
  have hok' := check_ok hm.hu
  have hnc := hok.nc
  have htick := hm.tk
  have htk : (tickB tick && tickB now) = true := by rw [tickB_mk htick, tickB_mk hn]; rfl
  have eb : blameT (t.wth t.nx (mA f t but t.nx)) i tick now = (blameS (t.wth t.nx (mA f t but t.nx)) (lowS t i) (t.ca i 0 - 1) tick now, agreeS (t.wth t.nx (mA f t but t.nx)) (lowS t i) (t.ca i 0 - 1) tick now, 0) := by
    unfold blameT
    rw [if_neg (fun g => g hm.hu), if_neg, if_neg (by rw [htk]; exact Bool.noConfusion), Int.toNat_natCast]
    · rfl
    · have e : (t.wth t.nx (mA f t but t.nx)).nc = t.nc := rfl
      rw [e, isin_false]
      omega
  have hl := field_left hm (but' := but) (now := now) (fun _ _ h => h) (Int.le_refl (lowS t i)) (cut_low hok hi).2 (cut_wind hm hi)
  have hg := field_agree hm (but' := but) (now := now) (fun _ _ h => h) (Int.le_refl (lowS t i)) (cut_low hok hi).2 (cut_wind hm hi)
  rw [eb]
  have mem : agreeS (t.wth t.nx (mA f t but t.nx)) (lowS t i) (t.ca i 0 - 1) tick now = false → but ∈ blameS (t.wth t.nx (mA f t but t.nx)) (lowS t i) (t.ca i 0 - 1) tick now := fun h => by
    by_cases hbs : 0 ≤ but ∧ but < t.ns
    · obtain ⟨s, rfl⟩ := Int.eq_ofNat_of_zero_le hbs.1
      unfold blameS
      rw [if_neg (by rw [h]; exact Bool.noConfusion)]
      exact (blameFrom_mem _ _ _).2 (.inr ⟨Nat.zero_le _, by have : (t.wth t.nx (mA f t s t.nx)).ns = t.ns := rfl; omega, hg⟩)
    · have hb : ∀ j, j < t.nx → t.xa j 0 ≠ (-1 : Int) → t.xa j 0 ≠ but := fun j hj _ e => by
        have := hok.src j hj
        omega
      have := field_agree hm (but' := -1) (now := now) hb (Int.le_refl (lowS t i)) (cut_low hok hi).2 (cut_wind hm hi)
      unfold agreeS at h
      rw [this] at h
      cases h
  refine ⟨rfl, mem, fun h => ?_, fun h h1 => ?_⟩
  · simp only at h ⊢
    unfold blameS
    rw [if_pos h]
  · simp only at h h1
    have hmem := mem h
    have e0 : (blameS (t.wth t.nx (mA f t but t.nx)) (lowS t i) (t.ca i 0 - 1) tick now).getD 0 0 = but := by
      match hbl : blameS (t.wth t.nx (mA f t but t.nx)) (lowS t i) (t.ca i 0 - 1) tick now, h1, hmem with
      | [x], _, hx => rw [List.mem_singleton.1 hx]; rfl
    have e : ansB (t.wth t.nx (mA f t but t.nx)) tick now i = (leftS (t.wth t.nx (mA f t but t.nx)) but (lowS t i) (t.ca i 0 - 1) tick now, true) := by
      show answerS (t.wth t.nx (mA f t but t.nx)) (lowS t i) (t.ca i 0 - 1) tick now = _
      unfold answerS
      rw [if_neg (by rw [h]; exact Bool.noConfusion), if_neg (fun g => g h1), e0]
      exact congrArg (Prod.mk _) hg
    simp only [bandA, e]
    exact hl
def fldK : AK := .agg [.int .i16, .int .i16, .int .i16, .int .i16, .int .i16, .int .i16, .sl [.int .i8]]
/-- What is read of a field is one. -/
theorem fld_of_kinds {d : V.D} (h : IsA fldK d) : FldIs d := by
  obtain ⟨ds, rfl, hl, h⟩ := h
  match ds, hl with
  | [d0, d1, d2, d3, d4, d5, d6], _ =>
    obtain ⟨n0, rfl, h0⟩ := h 0 _ _ rfl rfl
    obtain ⟨n1, rfl, h1⟩ := h 1 _ _ rfl rfl
    obtain ⟨n2, rfl, h2⟩ := h 2 _ _ rfl rfl
    obtain ⟨n3, rfl, h3⟩ := h 3 _ _ rfl rfl
    obtain ⟨n4, rfl, h4⟩ := h 4 _ _ rfl rfl
    obtain ⟨n5, rfl, h5⟩ := h 5 _ _ rfl rfl
    obtain ⟨n6, g, rfl, hn, hg⟩ := h 6 _ _ rfl rfl
    refine ⟨⟨h0, h1, h2, h3, h4, h5⟩, hn, fun i hi => ?_⟩
    obtain ⟨n, e, h6⟩ := hg i 0 _ hi rfl
    rw [e]
    exact ⟨rfl, h6⟩
end Go.Proofs.Ytbkehkiflfhpfaa
end
