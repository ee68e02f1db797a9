/-
  Contracts of the wind: whether a task is one.
-/
import Derived.Test.YtbkehkiflfhpfaaWm
set_option linter.unusedVariables false
set_option linter.unusedSimpArgs false
set_option maxRecDepth 100000
set_option maxHeartbeats 4000000
namespace Go.Proofs.Ytbkehkiflfhpfaa
open Go.V

def lib17 : Lib := (50, mk rCheckBands) :: (67, mk (r1 fun n => out n 0 100000)) :: lib16
theorem lib17_ok : LibOK Go.Proofs.Try.prog lib17 := .cons windCheckBands_ok (.cons never_ok lib16_ok)
def nameV (t : Task) (k : Nat) : Value := .string (t.nm k)
/-- Whether a key is among the first ones. -/
def hasK (f : Nat → Value) (i : Nat) (q : Value) : Bool := anyBelow (fun k => veqV q (f k)) i
def namesM (t : Task) (i : Nat) : Mp := ⟨.str, .bool, i, hasK (nameV t) i, fun _ _ => 1⟩
theorem hasK_name (t : Task) (n i : Nat) : hasK (nameV t) i (.string (t.nm n)) = anyBelow (sameName t n) i := by
  unfold hasK
  congr 1
  funext k
  simp only [nameV, veqV, sameName]
  exact decide_eq_decide.mpr eq_comm

theorem srcErr_kind {t : Task} {i : Nat} (h1 : nameS (t.nm i) = true) (h2 : anyBelow (sameName t i) i = false) : srcErr t i = srcKind (t.sa i 0) (t.sa i 1) (t.sa i 2) (t.sa i 3) (t.sa i 4) (t.sa i 5) := by
  simp [srcErr, srcKind, srcRange, h1, h2]
theorem namesM_has (t : Task) (i : Nat) : ((namesM t i).has (.string (t.nm i)) && decide ((namesM t i).get (.string (t.nm i)) 0 = 1)) = anyBelow (sameName t i) i := by
  rw [show (namesM t i).get (.string (t.nm i)) 0 = 1 from rfl, show (namesM t i).has (.string (t.nm i)) = hasK (nameV t) i (.string (t.nm i)) from rfl, hasK_name]
  simp

def spotV (t : Task) (k : Nat) : Value := .agg (([t.xa k 0, t.xa k 1, t.xa k 2].map (Value.int .i64)).toArray)
def spotC (t : Task) (k : Nat) (j : Nat) : Int := [t.xa k 0, t.xa k 1, t.xa k 2].getD j 0
def seenM (t : Task) (i : Nat) : Mp := ⟨.ints 3, .bool, i, hasK (spotV t) i, fun _ _ => 1⟩
def srcV (t : Task) (k : Nat) : Value := .int .i64 (t.xa k 0)
/-- How many different keys there are among the first ones. -/
def manyK (f : Nat → Value) : Nat → Nat
  | 0 => 0
  | k + 1 => if hasK f k (f k) = true then manyK f k else manyK f k + 1
/-- What the last one of the first ones with a key bears. -/
def lastK (f : Nat → Value) (g : Nat → Nat → Int) : Nat → Value → Nat → Int
  | 0, _, _ => 0
  | k + 1, q, j => if veqV q (f k) = true then g k j else lastK f g k q j
def lastM (t : Task) (i : Nat) : Mp := ⟨.int .i64, .ints 3, manyK (srcV t) i, hasK (srcV t) i, lastK (srcV t) (spotC t) i⟩

def taskRow (t : Task) : Ob := .row [.rsl 7 t.ns (smD t.nm t.sa), .rsl 5 t.nx (imD t.xa), .rsl 1 t.nc (imD t.ca), .int .i64 t.age, .int .i64 t.shear]
def sndX (t : Task) (i : Nat) : List V.D := [.int .i64 (t.xa i 0), .int .i64 (t.xa i 1), .int .i64 (t.xa i 2), .int .i64 (t.xa i 3), .int .i64 (t.xa i 4)]
def sndH (t : Task) (m i j : Nat) : HL := [some (taskRow t), some (.mp (namesM t m)), some (.mp (seenM t j)), some (.mp (lastM t j)), some (.row [.map 2, .map 3]), some (.row (sndX t i))]
def rWindSounding : CRule := fun ds H K => ∃ (t : Task) (m i : Nat), ds = [.ptr 4 0, t.D, .agg (sndX t i)] ∧ H = sndH t m i i ∧ ((t.ns ≤ 6 ∧ ∀ j, j < t.ns → srcErr t j = 0)) ∧
  (sndErr t i ≠ 0 → K (.ret (.int .i64 (sndErr t i))) (sndH t m i i)) ∧ (sndErr t i = 0 → K (.ret (.int .i64 0)) (sndH t m i (i + 1)))
theorem srcErr_zero {t : Task} {j : Nat} (h : srcErr t j = 0) : 0 ≤ t.sa j 4 ∧ t.sa j 5 ≤ 99999999 := by
  unfold srcErr at h
  split at h
  · cases h
  split at h
  · cases h
  split at h
  · cases h
  split at h
  · cases h
  rename_i h1
  simp only [srcRange, isin, Bool.not_eq_false, Bool.and_eq_true, decide_eq_true_eq] at h1
  omega
theorem sndErr_4 {t : Task} {i : Nat} (h : out (t.xa i 0) 0 (t.ns - 1) = true) : sndErr t i = 4 := by
  rw [out_isin] at h
  exact if_pos ((Bool.not_eq_true' _).mp h)
theorem sndErr_7 {t : Task} {i : Nat} (h : out (t.xa i 0) 0 (t.ns - 1) = false) (h1 : sndRange t i = false) : sndErr t i = 7 := by
  rw [out_isin] at h
  unfold sndErr
  rw [if_neg (by rw [(Bool.not_eq_false' _).mp h]; exact Bool.noConfusion), if_pos h1]
theorem sndErr_rest {t : Task} {i : Nat} (h : out (t.xa i 0) 0 (t.ns - 1) = false) (h1 : sndRange t i = true) : sndErr t i = if anyBelow (sameSpot t i) i = true then 5 else if falls t i = true then 2 else 0 := by
  rw [out_isin] at h
  unfold sndErr
  rw [if_neg (by rw [(Bool.not_eq_false' _).mp h]; exact Bool.noConfusion), if_neg (by rw [h1]; exact Bool.noConfusion)]
theorem sndErr_5 {t : Task} {i : Nat} (h : out (t.xa i 0) 0 (t.ns - 1) = false) (h1 : sndRange t i = true) (h2 : anyBelow (sameSpot t i) i = true) : sndErr t i = 5 := by
  rw [sndErr_rest h h1, if_pos h2]
theorem sndErr_2 {t : Task} {i : Nat} (h : out (t.xa i 0) 0 (t.ns - 1) = false) (h1 : sndRange t i = true) (h2 : anyBelow (sameSpot t i) i = false) (h3 : falls t i = true) : sndErr t i = 2 := by
  rw [sndErr_rest h h1, if_neg (by rw [h2]; exact Bool.noConfusion), if_pos h3]
theorem sndErr_0 {t : Task} {i : Nat} (h : out (t.xa i 0) 0 (t.ns - 1) = false) (h1 : sndRange t i = true) (h2 : anyBelow (sameSpot t i) i = false) (h3 : falls t i = false) : sndErr t i = 0 := by
  rw [sndErr_rest h h1, if_neg (by rw [h2]; exact Bool.noConfusion), if_neg (by rw [h3]; exact Bool.noConfusion)]
theorem storm2 (b2 b3 : Int) : anyBelow (stormy (im fun i j => [D.int .i64 b2, D.int .i64 b3].getD (i * 1 + j) D.top)) 2 = (!isin b2 (-20000) 20000 || !isin b3 (-20000) 20000) := by
  simp [anyBelow, stormy, im, toI, out_isin]
theorem sndRange_1 {t : Task} {i : Nat} (h : out (t.xa i 1) 0 100000 = true) : sndRange t i = false := by
  rw [out_isin] at h
  simp [sndRange, (Bool.not_eq_true' _).mp h]
theorem sndRange_2 {t : Task} {i : Nat} (h : out (t.xa i 2) (t.sa (t.xa i 0).toNat 4) (t.sa (t.xa i 0).toNat 5) = true) : sndRange t i = false := by
  rw [out_isin] at h
  simp [sndRange, (Bool.not_eq_true' _).mp h]
theorem sndRange_3 {t : Task} {i : Nat} (h : (!isin (t.xa i 3) (-20000) 20000 || !isin (t.xa i 4) (-20000) 20000) = true) : sndRange t i = false := by
  simp only [Bool.or_eq_true, Bool.not_eq_true'] at h
  rcases h with h | h <;> simp [sndRange, h]
theorem sndRange_true {t : Task} {i : Nat} (h1 : out (t.xa i 1) 0 100000 = false) (h2 : out (t.xa i 2) (t.sa (t.xa i 0).toNat 4) (t.sa (t.xa i 0).toNat 5) = false) (h3 : (!isin (t.xa i 3) (-20000) 20000 || !isin (t.xa i 4) (-20000) 20000) = false) : sndRange t i = true := by
  rw [out_isin] at h1 h2
  simp only [Bool.or_eq_false_iff, Bool.not_eq_false'] at h1 h2 h3
  simp [sndRange, h1, h2, h3]

theorem veq_spot (t : Task) (i k : Nat) : veqV (spotV t i) (spotV t k) = sameSpot t i k := by
  simp only [spotV, veqV, sameSpot]
  rw [Bool.eq_iff_iff]
  simp only [List.map_cons, List.map_nil, numV, decide_eq_true_eq, Bool.and_eq_true, List.cons.injEq, and_true]
  constructor
  · rintro ⟨h1, h2, h3⟩; exact ⟨⟨h1.symm, h2.symm⟩, h3.symm⟩
  · rintro ⟨⟨h1, h2⟩, h3⟩; exact ⟨h1.symm, h2.symm, h3.symm⟩
theorem hasK_spot (t : Task) (n i : Nat) : hasK (spotV t) i (spotV t n) = anyBelow (sameSpot t n) i := by
  unfold hasK
  congr 1
  funext k
  exact veq_spot t n k
theorem seen_has (t : Task) (i : Nat) : ((seenM t i).has (spotV t i) && decide ((seenM t i).get (spotV t i) 0 = 1)) = anyBelow (sameSpot t i) i := by
  rw [show (seenM t i).get (spotV t i) 0 = 1 from rfl, show (seenM t i).has (spotV t i) = hasK (spotV t) i (spotV t i) from rfl, hasK_spot]
  simp
theorem veq_src (t : Task) (i k : Nat) : veqV (srcV t i) (srcV t k) = sameSrc t i k := by
  simp only [srcV, veqV, sameSrc]
  rw [show keq IntKind.i64 IntKind.i64 = true from rfl, Bool.true_and]
  exact decide_eq_decide.mpr eq_comm
theorem hasK_src (t : Task) (n i : Nat) : hasK (srcV t) i (srcV t n) = anyBelow (sameSrc t n) i := by
  unfold hasK
  congr 1
  funext k
  exact veq_src t n k
theorem lastOf_any (p : Nat → Bool) (n : Nat) : anyBelow p n = decide (0 ≤ lastOf p n) := by
  induction n with
  | zero => rfl
  | succ n ih =>
    rw [anyBelow, ih]
    by_cases h : p n = true
    · simp [lastOf, h]
    · simp [lastOf, h]
theorem lastK_of (t : Task) (n : Nat) (j : Nat) : ∀ i, 0 ≤ lastOf (sameSrc t n) i → lastK (srcV t) (spotC t) i (srcV t n) j = spotC t (lastOf (sameSrc t n) i).toNat j := by
  intro i
  induction i with
  | zero => intro h; simp [lastOf] at h
  | succ i ih =>
    simp only [lastK, lastOf, veq_src]
    cases h : sameSrc t n i with
    | true => simp
    | false => simpa using ih
theorem last_has (t : Task) (i : Nat) : (lastM t i).has (srcV t i) = decide (0 ≤ lastS t i) := by
  rw [show (lastM t i).has (srcV t i) = hasK (srcV t) i (srcV t i) from rfl, hasK_src, lastOf_any]
  rfl
theorem last_get {t : Task} {i : Nat} (h : (lastM t i).has (srcV t i) = true) (j : Nat) : (lastM t i).get (srcV t i) j = spotC t (lastS t i).toNat j := by
  rw [last_has] at h
  exact lastK_of t i j i (of_decide_eq_true h)
theorem falls_1 {t : Task} {i : Nat} (h1 : decide (t.sa (t.xa i 0).toNat 0 = 2) = true) (h2 : (lastM t i).has (srcV t i) = true) (h3 : decide (t.xa i 1 < if (lastM t i).has (srcV t i) = true then (lastM t i).get (srcV t i) 1 else 0) = true) : falls t i = true := by
  rw [if_pos h2, last_get h2] at h3
  rw [last_has] at h2
  have h4 : t.xa i 1 < t.xa (lastS t i).toNat 1 := of_decide_eq_true h3
  simp only [falls, of_decide_eq_true h1, of_decide_eq_true h2, h4]
  simp
theorem falls_2 {t : Task} {i : Nat} (h1 : decide (t.sa (t.xa i 0).toNat 0 = 2) = true) (h2 : (lastM t i).has (srcV t i) = true) (h3 : decide (t.xa i 2 < if (lastM t i).has (srcV t i) = true then (lastM t i).get (srcV t i) 2 else 0) = true) : falls t i = true := by
  rw [if_pos h2, last_get h2] at h3
  rw [last_has] at h2
  have h4 : t.xa i 2 < t.xa (lastS t i).toNat 2 := of_decide_eq_true h3
  simp only [falls, of_decide_eq_true h1, of_decide_eq_true h2, h4]
  simp
theorem falls_3 {t : Task} {i : Nat} (h2 : (lastM t i).has (srcV t i) = true) (h3 : decide (t.xa i 1 < if (lastM t i).has (srcV t i) = true then (lastM t i).get (srcV t i) 1 else 0) = false) (h4 : decide (t.xa i 2 < if (lastM t i).has (srcV t i) = true then (lastM t i).get (srcV t i) 2 else 0) = false) : falls t i = false := by
  rw [if_pos h2, last_get h2] at h3 h4
  have h5 : ¬ t.xa i 1 < t.xa (lastS t i).toNat 1 := of_decide_eq_false h3
  have h6 : ¬ t.xa i 2 < t.xa (lastS t i).toNat 2 := of_decide_eq_false h4
  simp [falls, h5, h6]
theorem falls_4 {t : Task} {i : Nat} (h2 : (lastM t i).has (srcV t i) = false) : falls t i = false := by
  rw [last_has] at h2
  simp [falls, of_decide_eq_false h2]
theorem falls_5 {t : Task} {i : Nat} (h1 : decide (t.sa (t.xa i 0).toNat 0 = 2) = false) : falls t i = false := by
  simp [falls, of_decide_eq_false h1]
theorem seen_next_n {t : Task} {i : Nat} {g : Nat → Int} (h : anyBelow (sameSpot t i) i = false) : (withElem (withKey (seenM t i) (spotV t i)) (spotV t i) g).n = (seenM t (i + 1)).n := by
  show (if hasK (spotV t) i (spotV t i) = true then i else i + 1) = i + 1
  rw [hasK_spot, h]
  rfl
theorem seen_next_get {t : Task} {i : Nat} {q : Value} {j : Nat} (h : (seenM t (i + 1)).has q = true) : (withElem (withKey (seenM t i) (spotV t i)) (spotV t i) fun _ => 1).get q j = (seenM t (i + 1)).get q j := by
  show (bif veqV q (spotV t i) then (1 : Int) else if hasK (spotV t) i q = true then 1 else 0) = 1
  have h3 : (hasK (spotV t) i q || veqV q (spotV t i)) = true := h
  cases h4 : veqV q (spotV t i) with
  | true => rfl
  | false => rw [h4, Bool.or_false] at h3; rw [h3]; rfl
theorem last_next_get {t : Task} {i : Nat} {q : Value} {j : Nat} (h : (lastM t (i + 1)).has q = true) : (withElem (withKey (lastM t i) (srcV t i)) (srcV t i) (spotC t i)).get q j = (lastM t (i + 1)).get q j := by
  show (bif veqV q (srcV t i) then spotC t i j else if hasK (srcV t) i q = true then lastK (srcV t) (spotC t) i q j else 0) = if veqV q (srcV t i) = true then spotC t i j else lastK (srcV t) (spotC t) i q j
  have h3 : (hasK (srcV t) i q || veqV q (srcV t i)) = true := h
  cases h4 : veqV q (srcV t i) with
  | true => rfl
  | false => rw [h4, Bool.or_false] at h3; rw [h3]; rfl
theorem key_spot (t : Task) (i : Nat) : (withKey (seenM t i) (spotV t i)).has (spotV t i) = true := by
  show (hasK (spotV t) i (spotV t i) || veqV (spotV t i) (spotV t i)) = true
  rw [veq_spot]
  simp [sameSpot]
theorem key_src (t : Task) (i : Nat) : (withKey (lastM t i) (srcV t i)).has (srcV t i) = true := by
  show (hasK (srcV t) i (srcV t i) || veqV (srcV t i) (srcV t i)) = true
  rw [veq_src]
  simp [sameSrc]
theorem windSounding_ok : CSound Go.Proofs.Try.prog 61 rWindSounding := by
  refine csound_mk Try.func61 (by kernel_rfl) rfl (ctx lib17_ok) fun ds H K h => ?_
  obtain ⟨t, m, i, rfl, rfl, ⟨hns, hz⟩, hne, heq⟩ := h
  have hA : out (t.xa i 0) 0 (t.ns - 1) = false → 0 ≤ t.xa i 0 ∧ t.xa i 0 < t.ns := fun h => by simp [out] at h; omega
  have hA0 : out (t.xa i 0) 0 (t.ns - 1) = false → -9223372036854775808 ≤ t.xa i 0 := fun h => by have := hA h; omega
  have hA1 : out (t.xa i 0) 0 (t.ns - 1) = false → t.xa i 0 ≤ 9223372036854775807 := fun h => by have := hA h; omega
  have hB0 : out (t.xa i 1) 0 100000 = false → -9223372036854775808 ≤ t.xa i 1 := fun h => by simp [out] at h; omega
  have hB1 : out (t.xa i 1) 0 100000 = false → t.xa i 1 ≤ 9223372036854775807 := fun h => by simp [out] at h; omega
  have hC : out (t.xa i 0) 0 (t.ns - 1) = false → out (t.xa i 2) (t.sa (t.xa i 0).toNat 4) (t.sa (t.xa i 0).toNat 5) = false → 0 ≤ t.xa i 2 ∧ t.xa i 2 ≤ 99999999 := fun h1 h2 => by
    have h3 := hA h1
    have h4 := srcErr_zero (hz (t.xa i 0).toNat (by omega))
    simp [out] at h2
    omega
  have hC0 : out (t.xa i 0) 0 (t.ns - 1) = false → out (t.xa i 2) (t.sa (t.xa i 0).toNat 4) (t.sa (t.xa i 0).toNat 5) = false → -9223372036854775808 ≤ t.xa i 2 := fun h1 h2 => by have := hC h1 h2; omega
  have hC1 : out (t.xa i 0) 0 (t.ns - 1) = false → out (t.xa i 2) (t.sa (t.xa i 0).toNat 4) (t.sa (t.xa i 0).toNat 5) = false → t.xa i 2 ≤ 9223372036854775807 := fun h1 h2 => by have := hC h1 h2; omega
  have nA0 : out (t.xa i 0) 0 (t.ns - 1) = false → -9223372036854775808 ≤ numOf (D.int .i64 (t.xa i 0)) := hA0
  have nA1 : out (t.xa i 0) 0 (t.ns - 1) = false → numOf (D.int .i64 (t.xa i 0)) ≤ 9223372036854775807 := hA1
  have nB0 : out (t.xa i 1) 0 100000 = false → -9223372036854775808 ≤ numOf (D.int .i64 (t.xa i 1)) := hB0
  have nB1 : out (t.xa i 1) 0 100000 = false → numOf (D.int .i64 (t.xa i 1)) ≤ 9223372036854775807 := hB1
  have nC0 : out (t.xa i 0) 0 (t.ns - 1) = false → out (t.xa i 2) (t.sa (t.xa i 0).toNat 4) (t.sa (t.xa i 0).toNat 5) = false → -9223372036854775808 ≤ numOf (D.int .i64 (t.xa i 2)) := hC0
  have nC1 : out (t.xa i 0) 0 (t.ns - 1) = false → out (t.xa i 2) (t.sa (t.xa i 0).toNat 4) (t.sa (t.xa i 0).toNat 5) = false → numOf (D.int .i64 (t.xa i 2)) ≤ 9223372036854775807 := hC1
  repeat' (first | with_reducible rfl | ((conv => whnf); first | exact trivial | refine And.intro ?_ ?_ | intro _ | (with_reducible refine (?_ : _ = true); (conv => lhs; whnf); done) | exact rfl))
  all_goals try first
    | with_reducible exact hA0 (by assumption)
    | with_reducible exact hA1 (by assumption)
    | with_reducible exact nA0 (by assumption)
    | with_reducible exact nA1 (by assumption)
    | with_reducible exact nB0 (by assumption)
    | with_reducible exact nB1 (by assumption)
    | with_reducible exact nC0 (by assumption) (by assumption)
    | with_reducible exact nC1 (by assumption) (by assumption)
    | with_reducible exact (hA (by assumption)).1
    | with_reducible exact (hA (by assumption)).2
  · omega
  · omega
  · rename_i q1
    have hE : sndErr t i = 4 := sndErr_4 q1
    have hk := hne (by rw [hE]; decide)
    rw [hE] at hk
    refine ⟨.int .i64 4, sndH t m i i, ?_⟩
    clear hne heq hA0 hA1 hB0 hB1 hC0 hC1 nA0 nA1 nB0 nB1 nC0 nC1
    repeat' (first | with_reducible rfl | ((conv => whnf); first | exact trivial | refine And.intro ?_ ?_ | intro _ | (with_reducible refine (?_ : _ = true); (conv => lhs; whnf); done) | exact rfl))
    exact hk
  · rename_i q1 q2
    have hE : sndErr t i = 7 := sndErr_7 q1 (sndRange_1 q2)
    have hk := hne (by rw [hE]; decide)
    rw [hE] at hk
    refine ⟨.int .i64 7, sndH t m i i, ?_⟩
    clear hne heq hA0 hA1 hB0 hB1 hC0 hC1 nA0 nA1 nB0 nB1 nC0 nC1
    repeat' (first | with_reducible rfl | ((conv => whnf); first | exact trivial | refine And.intro ?_ ?_ | intro _ | (with_reducible refine (?_ : _ = true); (conv => lhs; whnf); done) | exact rfl))
    exact hk
  · rename_i q1 q2 q3
    have hE : sndErr t i = 7 := sndErr_7 q1 (sndRange_2 q3)
    have hk := hne (by rw [hE]; decide)
    rw [hE] at hk
    refine ⟨.int .i64 7, sndH t m i i, ?_⟩
    clear hne heq hA0 hA1 hB0 hB1 hC0 hC1 nA0 nA1 nB0 nB1 nC0 nC1
    repeat' (first | with_reducible rfl | ((conv => whnf); first | exact trivial | refine And.intro ?_ ?_ | intro _ | (with_reducible refine (?_ : _ = true); (conv => lhs; whnf); done) | exact rfl))
    exact hk
  · rename_i j1 j2 h1 h2
    have h3 : j1 = 0 ∨ j1 = 1 := by omega
    obtain rfl : j2 = 0 := by omega
    rcases h3 with rfl | rfl <;> rfl
  · exact Nat.le_of_ble_eq_true rfl
  · rename_i q1 q2 q3 q4
    have hE : sndErr t i = 7 := sndErr_7 q1 (sndRange_3 ((storm2 _ _).symm.trans q4))
    have hk := hne (by rw [hE]; decide)
    rw [hE] at hk
    refine ⟨.int .i64 7, sndH t m i i, ?_⟩
    clear hne heq hA0 hA1 hB0 hB1 hC0 hC1 nA0 nA1 nB0 nB1 nC0 nC1
    repeat' (first | with_reducible rfl | ((conv => whnf); first | exact trivial | refine And.intro ?_ ?_ | intro _ | (with_reducible refine (?_ : _ = true); (conv => lhs; whnf); done) | exact rfl))
    exact hk
  · rename_i q1 q2 q3 q4 q5
    have hE : sndErr t i = 5 := sndErr_5 q1 (sndRange_true q2 q3 ((storm2 _ _).symm.trans q4)) ((seen_has t i).symm.trans q5)
    have hk := hne (by rw [hE]; decide)
    rw [hE] at hk
    refine ⟨.int .i64 5, sndH t m i i, ?_⟩
    clear hne heq hA0 hA1 hB0 hB1 hC0 hC1 nA0 nA1 nB0 nB1 nC0 nC1
    repeat' (first | with_reducible rfl | ((conv => whnf); first | exact trivial | refine And.intro ?_ ?_ | intro _ | (with_reducible refine (?_ : _ = true); (conv => lhs; whnf); done) | exact rfl))
    exact hk
  · rename_i q1 q2 q3 q4 q5 q6 q7 q8
    have hE : sndErr t i = 2 := sndErr_2 q1 (sndRange_true q2 q3 ((storm2 _ _).symm.trans q4)) ((seen_has t i).symm.trans q5) (falls_1 q6 q7 q8)
    have hk := hne (by rw [hE]; decide)
    rw [hE] at hk
    refine ⟨.int .i64 2, sndH t m i i, ?_⟩
    clear hne heq hA0 hA1 hB0 hB1 hC0 hC1 nA0 nA1 nB0 nB1 nC0 nC1
    repeat' (first | with_reducible rfl | ((conv => whnf); first | exact trivial | refine And.intro ?_ ?_ | intro _ | (with_reducible refine (?_ : _ = true); (conv => lhs; whnf); done) | exact rfl))
    exact hk
  · rename_i q1 q2 q3 q4 q5 q6 q7 q8 q9
    have hE : sndErr t i = 2 := sndErr_2 q1 (sndRange_true q2 q3 ((storm2 _ _).symm.trans q4)) ((seen_has t i).symm.trans q5) (falls_2 q6 q7 q9)
    have hk := hne (by rw [hE]; decide)
    rw [hE] at hk
    refine ⟨.int .i64 2, sndH t m i i, ?_⟩
    clear hne heq hA0 hA1 hB0 hB1 hC0 hC1 nA0 nA1 nB0 nB1 nC0 nC1
    repeat' (first | with_reducible rfl | ((conv => whnf); first | exact trivial | refine And.intro ?_ ?_ | intro _ | (with_reducible refine (?_ : _ = true); (conv => lhs; whnf); done) | exact rfl))
    exact hk
  · exact key_spot t i
  · exact key_src t i
  · rename_i q1 q2 q3 q4 q5 q6 q7 q8 q9
    have h5 := (seen_has t i).symm.trans q5
    have hE : sndErr t i = 0 := sndErr_0 q1 (sndRange_true q2 q3 ((storm2 _ _).symm.trans q4)) h5 (falls_3 q7 q8 q9)
    have hk := heq hE
    refine ⟨.int .i64 0, sndH t m i (i + 1), ?_⟩
    clear hne heq hA0 hA1 hB0 hB1 hC0 hC1 nA0 nA1 nB0 nB1 nC0 nC1
    repeat' (first | with_reducible rfl | ((conv => whnf); first | exact trivial | refine And.intro ?_ ?_ | intro _ | (with_reducible refine (?_ : _ = true); (conv => lhs; whnf); done) | exact rfl))
    · exact seen_next_n h5
    · exact seen_next_get (by assumption)
    · exact last_next_get (by assumption)
    · exact hk
  · exact key_spot t i
  · exact key_src t i
  · rename_i q1 q2 q3 q4 q5 q6 q7
    have h5 := (seen_has t i).symm.trans q5
    have hE : sndErr t i = 0 := sndErr_0 q1 (sndRange_true q2 q3 ((storm2 _ _).symm.trans q4)) h5 (falls_4 q7)
    have hk := heq hE
    refine ⟨.int .i64 0, sndH t m i (i + 1), ?_⟩
    clear hne heq hA0 hA1 hB0 hB1 hC0 hC1 nA0 nA1 nB0 nB1 nC0 nC1
    repeat' (first | with_reducible rfl | ((conv => whnf); first | exact trivial | refine And.intro ?_ ?_ | intro _ | (with_reducible refine (?_ : _ = true); (conv => lhs; whnf); done) | exact rfl))
    · exact seen_next_n h5
    · exact seen_next_get (by assumption)
    · exact last_next_get (by assumption)
    · exact hk
  · exact key_spot t i
  · exact key_src t i
  · rename_i q1 q2 q3 q4 q5 q6
    have h5 := (seen_has t i).symm.trans q5
    have hE : sndErr t i = 0 := sndErr_0 q1 (sndRange_true q2 q3 ((storm2 _ _).symm.trans q4)) h5 (falls_5 q6)
    have hk := heq hE
    refine ⟨.int .i64 0, sndH t m i (i + 1), ?_⟩
    clear hne heq hA0 hA1 hB0 hB1 hC0 hC1 nA0 nA1 nB0 nB1 nC0 nC1
    repeat' (first | with_reducible rfl | ((conv => whnf); first | exact trivial | refine And.intro ?_ ?_ | intro _ | (with_reducible refine (?_ : _ = true); (conv => lhs; whnf); done) | exact rfl))
    · exact seen_next_n h5
    · exact seen_next_get (by assumption)
    · exact last_next_get (by assumption)
    · exact hk
end Go.Proofs.Ytbkehkiflfhpfaa
