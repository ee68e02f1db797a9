/-
  Contracts of the wind: whether bands are some.
-/
import Derived.Test.YtlndpknjlmcibaaMg
section
set_option linter.unusedVariables false
set_option linter.unusedSimpArgs false
set_option maxRecDepth 100000
set_option maxHeartbeats 4000000
namespace Go.Proofs.Ytlndpknjlmcibaa
open Go.V

def lib16 : Lib := (69, mk rWindBand) :: lib15
theorem lib16_ok : LibOK Go.Proofs.Try.prog lib16 := .cons windBand_ok lib15_ok
theorem bandE_zero {b0 b1 b2 b3 b4 b5 f : Int} (h : bandE b0 b1 b2 b3 b4 b5 f = 0) : f < b1 ∧ b1 ≤ 100000000 := by
  unfold bandE at h
  split at h
  · cases h
  split at h
  · cases h
  split at h
  · cases h
  omega
theorem windCheckBands_ok : PSound Go.Proofs.Try.prog 57 (mk rCheckBands) := by
  refine psound_mk Try.func57 (by kernel_rfl) rfl (ctx lib16_ok) ?_
  (intro ds p d h; unfold rCheckBands at h; split at h <;> first | (cases h; done) | skip; cases h; refine ⟨Nat.le_of_ble_eq_true rfl, fun hp k hk => ?_⟩)
  rename_i n g
  refine ⟨[.rsl 6 n (imD (im g))], rfl, hp, ?_⟩
  clear hp
  generalize im g = a at *
  generalize hS : checkBands n a = c at *
  have hS' : c = if isin n 1 20 = true then fe (bandErr a) 0 n else (0, 3) := hS.symm
  clear hS
  repeat' (first | ((with_reducible refine kok ?_); kernel_rfl) | ((with_reducible refine keq_mk ?_); kernel_rfl) | with_reducible rfl | ((conv => whnf); first | exact trivial | refine And.intro ?_ ?_ | intro _ | (with_reducible refine (?_ : _ = true); (conv => lhs; whnf); done) | exact rfl))
  · rename_i g1
    rw [out_isin] at g1
    rw [if_neg (by rw [(Bool.not_eq_true' _).mp g1]; exact Bool.noConfusion)] at hS'
    subst hS'
    (refine fin_of hk ?_; clear hk; (conv => whnf); repeat' (first | exact trivial | refine And.intro ?_ ?_ | exact rfl))
  rename_i g1
  rw [out_isin] at g1
  have g2 := (Bool.not_eq_false' _).mp g1
  rw [if_pos g2] at hS'
  have hn : n ≤ 20 := by simp [isin] at g2; omega
  clear g1 g2
  refine ⟨Nat, fun i => [(0, .rsl 6 n (imD a)), (4, .int .i64 (fromOf a i)), (10, .rsl 6 n (imD a)), (11, .int .i64 n), (12, .int .i64 i)], fun _ => [], fun i => n - i, fun i => i ≤ n ∧ c = fe (bandErr a) i (n - i) ∧ 0 ≤ fromOf a i ∧ fromOf a i ≤ 100000000, [], 0, fun _ => ⟨rfl, rfl⟩, ?_, fun i hI => ?_⟩
  · repeat' (first | ((with_reducible refine kok ?_); kernel_rfl) | ((with_reducible refine keq_mk ?_); kernel_rfl) | with_reducible rfl | ((conv => whnf); first | exact trivial | refine And.intro ?_ ?_ | intro _ | (with_reducible refine (?_ : _ = true); (conv => lhs; whnf); done) | exact rfl))
    · omega
    · exact hS'
    · exact Int.le_refl 0
    · exact Int.zero_le_ofNat 100000000
  obtain ⟨hi, hc, hf⟩ := hI
  clear hS'
  have f1 : decide ((i : Int) < n) = true → i < n := fun h => Int.ofNat_lt.mp (of_decide_eq_true h)
  repeat' (first | ((with_reducible refine kok ?_); kernel_rfl) | ((with_reducible refine keq_mk ?_); kernel_rfl) | with_reducible rfl | ((conv => whnf); first | exact trivial | refine And.intro ?_ ?_ | intro _ | (with_reducible refine (?_ : _ = true); (conv => lhs; whnf); done) | exact rfl))
  · omega
  · exact of_decide_eq_true (by assumption)
  · exact hf.1
  · exact hf.2
  · rename_i g1 g2
    have e1 : bandErr a i ≠ 0 := of_decide_eq_false ((Bool.not_eq_true' _).mp g2)
    rw [fe_step _ _ _ (f1 g1), if_pos e1] at hc
    subst hc
    (refine fin_of hk ?_; clear hk; (conv => whnf); repeat' (first | exact trivial | refine And.intro ?_ ?_ | exact rfl))
  · omega
  · omega
  · rename_i g1 g2
    have e1 : bandErr a i = 0 := of_decide_eq_true ((Bool.not_eq_false' _).mp g2)
    have e0 := f1 g1
    rw [fe_step _ _ _ e0, if_neg (fun h => h e1)] at hc
    have e2 := bandE_zero (show bandE (a i 0) (a i 1) (a i 2) (a i 3) (a i 4) (a i 5) (fromOf a i) = 0 from e1)
    have e3 : fromOf a (i + 1) = a i 1 := by rw [fromOf, if_neg (by omega)]; rfl
    clear hk
    refine ⟨i + 1, ?_⟩
    repeat' (first | ((with_reducible refine kok ?_); kernel_rfl) | ((with_reducible refine keq_mk ?_); kernel_rfl) | with_reducible rfl | ((conv => whnf); first | exact trivial | refine And.intro ?_ ?_ | intro _ | (with_reducible refine (?_ : _ = true); (conv => lhs; whnf); done) | exact rfl))
    · omega
    · exact hc
    · omega
    · omega
    · simp only; omega
  · rename_i g1
    rw [show n - i = 0 by have := of_decide_eq_false g1; omega] at hc
    subst hc
    (refine fin_of hk ?_; clear hk; (conv => whnf); repeat' (first | exact trivial | refine And.intro ?_ ?_ | exact rfl))
end Go.Proofs.Ytlndpknjlmcibaa
end
section
set_option linter.unusedVariables false
set_option linter.unusedSimpArgs false
set_option maxRecDepth 100000
set_option maxHeartbeats 4000000
namespace Go.Proofs.Ytlndpknjlmcibaa
open Go.V

def lib17 : Lib := (57, mk rCheckBands) :: lib16
theorem lib17_ok : LibOK Go.Proofs.Try.prog lib17 := .cons windCheckBands_ok lib16_ok
def nameV (t : Task) (k : Nat) : Value := .string (t.nm k)
/-- Whether a key is among the first ones. -/
def hasK (f : Nat → Value) (i : Nat) (q : Value) : Bool := anyBelow (fun k => veqV q (f k)) i
def namesM (t : Task) (i : Nat) : Mp := ⟨.str, .bool, i, hasK (nameV t) i, fun _ _ => 1⟩
theorem hasK_name (t : Task) (n i : Nat) : hasK (nameV t) i (.string (t.nm n)) = anyBelow (sameName t n) i := by
  unfold hasK
  congr 1
  funext k
  simp only [nameV, veqV, sameName]
  exact decide_eq_decide.mpr eq_comm

theorem srcErr_kind {t : Task} {i : Nat} (h1 : nameS (t.nm i) = true) (h2 : anyBelow (sameName t i) i = false) : srcErr t i = srcKind (t.sa i 0) (t.sa i 1) (t.sa i 2) (t.sa i 3) (t.sa i 4) (t.sa i 5) := by
  simp [srcErr, srcKind, srcRange, h1, h2]
theorem namesM_has (t : Task) (i : Nat) : ((namesM t i).has (.string (t.nm i)) && decide ((namesM t i).get (.string (t.nm i)) 0 = 1)) = anyBelow (sameName t i) i := by
  rw [show (namesM t i).get (.string (t.nm i)) 0 = 1 from rfl, show (namesM t i).has (.string (t.nm i)) = hasK (nameV t) i (.string (t.nm i)) from rfl, hasK_name]
  simp

def spotV (t : Task) (k : Nat) : Value := .agg (([t.xa k 0, t.xa k 1, t.xa k 2].map (Value.int .i64)).toArray)
def spotC (t : Task) (k : Nat) (j : Nat) : Int := [t.xa k 0, t.xa k 1, t.xa k 2].getD j 0
def seenM (t : Task) (i : Nat) : Mp := ⟨.ints 3, .bool, i, hasK (spotV t) i, fun _ _ => 1⟩
def srcV (t : Task) (k : Nat) : Value := .int .i64 (t.xa k 0)
/-- How many different keys there are among the first ones. -/
def manyK (f : Nat → Value) : Nat → Nat
  | 0 => 0
  | k + 1 => if hasK f k (f k) = true then manyK f k else manyK f k + 1
/-- What the last one of the first ones with a key bears. -/
def lastK (f : Nat → Value) (g : Nat → Nat → Int) : Nat → Value → Nat → Int
  | 0, _, _ => 0
  | k + 1, q, j => if veqV q (f k) = true then g k j else lastK f g k q j
def lastM (t : Task) (i : Nat) : Mp := ⟨.int .i64, .ints 3, manyK (srcV t) i, hasK (srcV t) i, lastK (srcV t) (spotC t) i⟩

def taskRow (t : Task) : Ob := .row [.rsl 7 t.ns (smD t.nm t.sa), .rsl 5 t.nx (imD t.xa), .rsl 1 t.nc (imD t.ca), .int .i64 t.age, .int .i64 t.shear]
def sndX (t : Task) (i : Nat) : List V.D := [.int .i64 (t.xa i 0), .int .i64 (t.xa i 1), .int .i64 (t.xa i 2), .int .i64 (t.xa i 3), .int .i64 (t.xa i 4)]
def sndH (t : Task) (m i j : Nat) : HL := [some (taskRow t), some (.mp (namesM t m)), some (.mp (seenM t j)), some (.mp (lastM t j)), some (.row [.map 2, .map 3]), some (.row (sndX t i))]
def rWindSounding : CRule := fun ds H K => ∃ (t : Task) (m i : Nat), ds = [.ptr 4 0, t.D, .agg (sndX t i)] ∧ H = sndH t m i i ∧ ((t.ns ≤ 6 ∧ ∀ j, j < t.ns → srcErr t j = 0)) ∧
  (sndErr t i ≠ 0 → K (.ret (.int .i64 (sndErr t i))) (sndH t m i i)) ∧ (sndErr t i = 0 → K (.ret (.int .i64 0)) (sndH t m i (i + 1)))
theorem srcErr_zero {t : Task} {j : Nat} (h : srcErr t j = 0) : 0 ≤ t.sa j 4 ∧ t.sa j 5 ≤ 99999999 := by
  unfold srcErr at h
  split at h
  · cases h
  split at h
  · cases h
  split at h
  · cases h
  split at h
  · cases h
  rename_i h1
  simp only [srcRange, isin, Bool.not_eq_false, Bool.and_eq_true, decide_eq_true_eq] at h1
  omega
theorem sndErr_4 {t : Task} {i : Nat} (h : out (t.xa i 0) 0 (t.ns - 1) = true) : sndErr t i = 4 := by
  rw [out_isin] at h
  exact if_pos ((Bool.not_eq_true' _).mp h)
theorem sndErr_7 {t : Task} {i : Nat} (h : out (t.xa i 0) 0 (t.ns - 1) = false) (h1 : sndRange t i = false) : sndErr t i = 7 := by
  rw [out_isin] at h
  unfold sndErr
  rw [if_neg (by rw [(Bool.not_eq_false' _).mp h]; exact Bool.noConfusion), if_pos h1]
theorem sndErr_rest {t : Task} {i : Nat} (h : out (t.xa i 0) 0 (t.ns - 1) = false) (h1 : sndRange t i = true) : sndErr t i = if anyBelow (sameSpot t i) i = true then 5 else if falls t i = true then 2 else 0 := by
  rw [out_isin] at h
  unfold sndErr
  rw [if_neg (by rw [(Bool.not_eq_false' _).mp h]; exact Bool.noConfusion), if_neg (by rw [h1]; exact Bool.noConfusion)]
theorem sndErr_5 {t : Task} {i : Nat} (h : out (t.xa i 0) 0 (t.ns - 1) = false) (h1 : sndRange t i = true) (h2 : anyBelow (sameSpot t i) i = true) : sndErr t i = 5 := by
  rw [sndErr_rest h h1, if_pos h2]
theorem sndErr_2 {t : Task} {i : Nat} (h : out (t.xa i 0) 0 (t.ns - 1) = false) (h1 : sndRange t i = true) (h2 : anyBelow (sameSpot t i) i = false) (h3 : falls t i = true) : sndErr t i = 2 := by
  rw [sndErr_rest h h1, if_neg (by rw [h2]; exact Bool.noConfusion), if_pos h3]
theorem sndErr_0 {t : Task} {i : Nat} (h : out (t.xa i 0) 0 (t.ns - 1) = false) (h1 : sndRange t i = true) (h2 : anyBelow (sameSpot t i) i = false) (h3 : falls t i = false) : sndErr t i = 0 := by
  rw [sndErr_rest h h1, if_neg (by rw [h2]; exact Bool.noConfusion), if_neg (by rw [h3]; exact Bool.noConfusion)]
theorem storm2 (b2 b3 : Int) : anyBelow (stormy (im fun i j => [D.int .i64 b2, D.int .i64 b3].getD (i * 1 + j) D.top)) 2 = (!isin b2 (-20000) 20000 || !isin b3 (-20000) 20000) := by
  simp [anyBelow, stormy, im, toI, out_isin]
theorem sndRange_1 {t : Task} {i : Nat} (h : out (t.xa i 1) 0 100000 = true) : sndRange t i = false := by
  rw [out_isin] at h
  simp [sndRange, (Bool.not_eq_true' _).mp h]
theorem sndRange_2 {t : Task} {i : Nat} (h : out (t.xa i 2) (t.sa (t.xa i 0).toNat 4) (t.sa (t.xa i 0).toNat 5) = true) : sndRange t i = false := by
  rw [out_isin] at h
  simp [sndRange, (Bool.not_eq_true' _).mp h]
theorem sndRange_3 {t : Task} {i : Nat} (h : (!isin (t.xa i 3) (-20000) 20000 || !isin (t.xa i 4) (-20000) 20000) = true) : sndRange t i = false := by
  simp only [Bool.or_eq_true, Bool.not_eq_true'] at h
  rcases h with h | h <;> simp [sndRange, h]
theorem sndRange_true {t : Task} {i : Nat} (h1 : out (t.xa i 1) 0 100000 = false) (h2 : out (t.xa i 2) (t.sa (t.xa i 0).toNat 4) (t.sa (t.xa i 0).toNat 5) = false) (h3 : (!isin (t.xa i 3) (-20000) 20000 || !isin (t.xa i 4) (-20000) 20000) = false) : sndRange t i = true := by
  rw [out_isin] at h1 h2
  simp only [Bool.or_eq_false_iff, Bool.not_eq_false'] at h1 h2 h3
  simp [sndRange, h1, h2, h3]

theorem veq_spot (t : Task) (i k : Nat) : veqV (spotV t i) (spotV t k) = sameSpot t i k := by
  simp only [spotV, veqV, sameSpot]
  rw [Bool.eq_iff_iff]
  simp only [List.map_cons, List.map_nil, numV, decide_eq_true_eq, Bool.and_eq_true, List.cons.injEq, and_true]
  constructor
  · rintro ⟨h1, h2, h3⟩; exact ⟨⟨h1.symm, h2.symm⟩, h3.symm⟩
  · rintro ⟨⟨h1, h2⟩, h3⟩; exact ⟨h1.symm, h2.symm, h3.symm⟩
theorem hasK_spot (t : Task) (n i : Nat) : hasK (spotV t) i (spotV t n) = anyBelow (sameSpot t n) i := by
  unfold hasK
  congr 1
  funext k
  exact veq_spot t n k
theorem seen_has (t : Task) (i : Nat) : ((seenM t i).has (spotV t i) && decide ((seenM t i).get (spotV t i) 0 = 1)) = anyBelow (sameSpot t i) i := by
  rw [show (seenM t i).get (spotV t i) 0 = 1 from rfl, show (seenM t i).has (spotV t i) = hasK (spotV t) i (spotV t i) from rfl, hasK_spot]
  simp
theorem veq_src (t : Task) (i k : Nat) : veqV (srcV t i) (srcV t k) = sameSrc t i k := by
  simp only [srcV, veqV, sameSrc]
  rw [show keq IntKind.i64 IntKind.i64 = true from rfl, Bool.true_and]
  exact decide_eq_decide.mpr eq_comm
theorem hasK_src (t : Task) (n i : Nat) : hasK (srcV t) i (srcV t n) = anyBelow (sameSrc t n) i := by
  unfold hasK
  congr 1
  funext k
  exact veq_src t n k
theorem lastOf_any (p : Nat → Bool) (n : Nat) : anyBelow p n = decide (0 ≤ lastOf p n) := by
  induction n with
  | zero => rfl
  | succ n ih =>
    rw [anyBelow, ih]
    by_cases h : p n = true
    · simp [lastOf, h]
    · simp [lastOf, h]
theorem lastK_of (t : Task) (n : Nat) (j : Nat) : ∀ i, 0 ≤ lastOf (sameSrc t n) i → lastK (srcV t) (spotC t) i (srcV t n) j = spotC t (lastOf (sameSrc t n) i).toNat j := by
  intro i
  induction i with
  | zero => intro h; simp [lastOf] at h
  | succ i ih =>
    simp only [lastK, lastOf, veq_src]
    cases h : sameSrc t n i with
    | true => simp
    | false => simpa using ih
theorem last_has (t : Task) (i : Nat) : (lastM t i).has (srcV t i) = decide (0 ≤ lastS t i) := by
  rw [show (lastM t i).has (srcV t i) = hasK (srcV t) i (srcV t i) from rfl, hasK_src, lastOf_any]
  rfl
theorem last_get {t : Task} {i : Nat} (h : (lastM t i).has (srcV t i) = true) (j : Nat) : (lastM t i).get (srcV t i) j = spotC t (lastS t i).toNat j := by
  rw [last_has] at h
  exact lastK_of t i j i (of_decide_eq_true h)
theorem falls_1 {t : Task} {i : Nat} (h1 : decide (t.sa (t.xa i 0).toNat 0 = 2) = true) (h2 : (lastM t i).has (srcV t i) = true) (h3 : decide (t.xa i 1 < if (lastM t i).has (srcV t i) = true then (lastM t i).get (srcV t i) 1 else 0) = true) : falls t i = true := by
  rw [if_pos h2, last_get h2] at h3
  rw [last_has] at h2
  have h4 : t.xa i 1 < t.xa (lastS t i).toNat 1 := of_decide_eq_true h3
  simp only [falls, of_decide_eq_true h1, of_decide_eq_true h2, h4]
  simp
theorem falls_2 {t : Task} {i : Nat} (h1 : decide (t.sa (t.xa i 0).toNat 0 = 2) = true) (h2 : (lastM t i).has (srcV t i) = true) (h3 : decide (t.xa i 2 < if (lastM t i).has (srcV t i) = true then (lastM t i).get (srcV t i) 2 else 0) = true) : falls t i = true := by
  rw [if_pos h2, last_get h2] at h3
  rw [last_has] at h2
  have h4 : t.xa i 2 < t.xa (lastS t i).toNat 2 := of_decide_eq_true h3
  simp only [falls, of_decide_eq_true h1, of_decide_eq_true h2, h4]
  simp
theorem falls_3 {t : Task} {i : Nat} (h2 : (lastM t i).has (srcV t i) = true) (h3 : decide (t.xa i 1 < if (lastM t i).has (srcV t i) = true then (lastM t i).get (srcV t i) 1 else 0) = false) (h4 : decide (t.xa i 2 < if (lastM t i).has (srcV t i) = true then (lastM t i).get (srcV t i) 2 else 0) = false) : falls t i = false := by
  rw [if_pos h2, last_get h2] at h3 h4
  have h5 : ¬ t.xa i 1 < t.xa (lastS t i).toNat 1 := of_decide_eq_false h3
  have h6 : ¬ t.xa i 2 < t.xa (lastS t i).toNat 2 := of_decide_eq_false h4
  simp [falls, h5, h6]
theorem falls_4 {t : Task} {i : Nat} (h2 : (lastM t i).has (srcV t i) = false) : falls t i = false := by
  rw [last_has] at h2
  simp [falls, of_decide_eq_false h2]
theorem falls_5 {t : Task} {i : Nat} (h1 : decide (t.sa (t.xa i 0).toNat 0 = 2) = false) : falls t i = false := by
  simp [falls, of_decide_eq_false h1]
theorem seen_next_n {t : Task} {i : Nat} {g : Nat → Int} (h : anyBelow (sameSpot t i) i = false) : (withElem (withKey (seenM t i) (spotV t i)) (spotV t i) g).n = (seenM t (i + 1)).n := by
  show (if hasK (spotV t) i (spotV t i) = true then i else i + 1) = i + 1
  rw [hasK_spot, h]
  rfl
theorem seen_next_get {t : Task} {i : Nat} {q : Value} {j : Nat} (h : (seenM t (i + 1)).has q = true) : (withElem (withKey (seenM t i) (spotV t i)) (spotV t i) fun _ => 1).get q j = (seenM t (i + 1)).get q j := by
  show (bif veqV q (spotV t i) then (1 : Int) else if hasK (spotV t) i q = true then 1 else 0) = 1
  have h3 : (hasK (spotV t) i q || veqV q (spotV t i)) = true := h
  cases h4 : veqV q (spotV t i) with
  | true => rfl
  | false => rw [h4, Bool.or_false] at h3; rw [h3]; rfl
theorem last_next_get {t : Task} {i : Nat} {q : Value} {j : Nat} (h : (lastM t (i + 1)).has q = true) : (withElem (withKey (lastM t i) (srcV t i)) (srcV t i) (spotC t i)).get q j = (lastM t (i + 1)).get q j := by
  show (bif veqV q (srcV t i) then spotC t i j else if hasK (srcV t) i q = true then lastK (srcV t) (spotC t) i q j else 0) = if veqV q (srcV t i) = true then spotC t i j else lastK (srcV t) (spotC t) i q j
  have h3 : (hasK (srcV t) i q || veqV q (srcV t i)) = true := h
  cases h4 : veqV q (srcV t i) with
  | true => rfl
  | false => rw [h4, Bool.or_false] at h3; rw [h3]; rfl
theorem key_spot (t : Task) (i : Nat) : (withKey (seenM t i) (spotV t i)).has (spotV t i) = true := by
  show (hasK (spotV t) i (spotV t i) || veqV (spotV t i) (spotV t i)) = true
  rw [veq_spot]
  simp [sameSpot]
theorem key_src (t : Task) (i : Nat) : (withKey (lastM t i) (srcV t i)).has (srcV t i) = true := by
  show (hasK (srcV t) i (srcV t i) || veqV (srcV t i) (srcV t i)) = true
  rw [veq_src]
  simp [sameSrc]
end Go.Proofs.Ytlndpknjlmcibaa
end
section
set_option linter.unusedVariables false
set_option linter.unusedSimpArgs false
set_option maxRecDepth 100000
set_option maxHeartbeats 4000000
namespace Go.Proofs.Ytlndpknjlmcibaa
open Go.V

theorem cutErr_7 {t : Task} {i : Nat} (h : out (t.ca i 0) 1 100000000 = true) : cutErr t i = 7 := by
  rw [out_isin] at h
  exact if_pos ((Bool.not_eq_true' _).mp h)
theorem cutErr_low {t : Task} {i : Nat} (h : out (t.ca i 0) 1 100000000 = false) : cutErr t i = if t.ca i 0 ≤ lowS t i then 2 else 0 := by
  rw [out_isin] at h
  have h1 := (Bool.not_eq_false' _).mp h
  unfold cutErr
  rw [if_neg (by rw [h1]; exact Bool.noConfusion)]
  unfold lowS
  by_cases h0 : i = 0
  · subst h0
    simp only [isin, Bool.and_eq_true, decide_eq_true_eq] at h1
    rw [if_neg (by omega), if_pos rfl, if_neg (by omega)]
  · rw [if_neg h0]
    by_cases h2 : t.ca i 0 ≤ t.ca (i - 1) 0
    · rw [if_pos ⟨by omega, h2⟩, if_pos h2]
    · rw [if_neg (fun h => h2 h.2), if_neg h2]
theorem fe_zero {e : Nat → Int} : ∀ {n i : Nat}, (fe e i n).2 = 0 → ∀ j, i ≤ j → j < i + n → e j = 0
  | 0, i, _, j, h1, h2 => absurd h2 (by omega)
  | n + 1, i, h, j, h1, h2 => by
    simp only [fe] at h
    split at h
    · rename_i h3; exact absurd h h3
    · rename_i h3
      rcases Nat.eq_or_lt_of_le h1 with rfl | h4
      · exact Classical.not_not.mp h3
      · exact fe_zero h j h4 (by omega)
theorem pickE_zero {p : Int} {q : Int × Int} {r : Int × Int × Int} (h : (pickE p q r).2.2 = 0) : q.2 = 0 ∧ r.2.2 = 0 := by
  unfold pickE at h
  split at h
  · rename_i h1; exact absurd h h1
  · rename_i h1; exact ⟨Classical.not_not.mp h1, h⟩
/-- What Check has looked at. -/
theorem check_ok {t : Task} (h : (checkS t).2.2 = 0) : t.ok := by
  unfold checkS at h
  split at h
  · cases h
  rename_i hl
  obtain ⟨h1, h⟩ := pickE_zero h
  obtain ⟨h2, h⟩ := pickE_zero h
  obtain ⟨h3, h4⟩ := pickE_zero h
  have s1 := fun j (hj : j < t.ns) => fe_zero h1 j (Nat.zero_le j) (by omega : j < 0 + t.ns)
  have s2 := fun j (hj : j < t.nx) => fe_zero h2 j (Nat.zero_le j) (by omega : j < 0 + t.nx)
  have s3 := fun j (hj : j < t.nc) => fe_zero h3 j (Nat.zero_le j) (by omega : j < 0 + t.nc)
  simp only [tooLong, isin, Bool.or_eq_true, decide_eq_true_eq, Bool.not_eq_true', Bool.and_eq_false_iff, decide_eq_false_iff_not, not_or] at hl
  have src : ∀ j, j < t.ns → srcRange t j = true := fun j hj => by
    have := s1 j hj
    unfold srcErr at this
    split at this
    · cases this
    split at this
    · cases this
    split at this
    · cases this
    split at this
    · cases this
    rename_i h; simpa using h
  have snd : ∀ j, j < t.nx → isin (t.xa j 0) 0 (t.ns - 1) = true ∧ sndRange t j = true := fun j hj => by
    have := s2 j hj
    unfold sndErr at this
    split at this
    · cases this
    split at this
    · cases this
    rename_i h1 h2
    exact ⟨by simpa using h1, by simpa using h2⟩
  have cut : ∀ j, j < t.nc → isin (t.ca j 0) 1 100000000 = true ∧ (0 < j → t.ca (j - 1) 0 < t.ca j 0) := fun j hj => by
    have := s3 j hj
    unfold cutErr at this
    split at this
    · cases this
    split at this
    · cases this
    rename_i h1 h2
    exact ⟨by simpa using h1, fun h0 => by omega⟩
  have end4 : isin t.age 0 1000 = true ∧ isin t.shear 0 1000 = true := by
    unfold check4 at h4
    split at h4
    · rename_i h; simpa using h
    · cases h4
  simp only [srcRange, sndRange, isin, Bool.and_eq_true, decide_eq_true_eq] at src snd cut end4
  exact ⟨by omega, by omega, by omega, fun i hi => by have := src i hi; omega, fun i hi => by have := src i hi; omega, fun i hi => by have := src i hi; omega, fun i hi => by have := snd i hi; omega, fun i hi => by have := snd i hi; omega,
    fun i hi => by have h5 := snd i hi; have := src (t.xa i 0).toNat (by omega); omega, fun i hi => by have := snd i hi; omega, fun i hi => by have := snd i hi; omega, fun i hi => by have := cut i hi; omega, fun i hi => by have := (cut (i + 1) hi).2 (by omega); simpa using this, end4.1, end4.2⟩
end Go.Proofs.Ytlndpknjlmcibaa
end
section
set_option linter.unusedVariables false
set_option linter.unusedSimpArgs false
set_option maxRecDepth 100000
set_option maxHeartbeats 4000000
namespace Go.Proofs.Ytlndpknjlmcibaa
open Go.V

def lib18 : Lib := lib17
theorem lib18_ok : LibOK Go.Proofs.Try.prog lib18 := lib17_ok

def Task.cells (t : Task) : List V.D := [.rsl 7 t.ns (smD t.nm t.sa), .rsl 5 t.nx (imD t.xa), .rsl 1 t.nc (imD t.ca), .int .i64 t.age, .int .i64 t.shear]
def viewL (t : Task) (tick now : Int) : List V.D := [.rsl 7 t.ns (smD t.nm t.sa), .rsl 5 t.nx (imD t.xa), .rsl 1 t.nc (imD t.ca), .int .i64 t.age, .int .i64 t.shear, .int .i64 tick, .int .i64 now]
theorem view_imp {a b c e f : V.D} {tick now : Int} {k : Prop} (h : TaskIs (.agg [a, b, c, e, f])) (hk : k) : impB noGh (.agg [a, b, c, e, f, .int .i64 tick, .int .i64 now]) (.agg (viewL (taskOf (.agg [a, b, c, e, f])) tick now)) k := by
  unfold TaskIs at h
  split at h
  · rename_i heq
    cases heq
    exact ⟨rfl, h.1, rfl, h.2.1, rfl, h.2.2, rfl, rfl, rfl, rfl, hk⟩
  · exact h.elim

def rParts : List D → Option (Prop × D) := fun ds => match ds with
  | [.int .i64 a, .int .i64 b, .int .i64 l] => some (sm a ∧ sm b ∧ 0 < l ∧ l ≤ 1099511627776, .int .i64 (begun a b l))
  | _ => none
def doubtX (t : Task) (x0 x1 x2 h a : Int) : Int := t.sa x0.toNat 1 + t.age * begun x1 a 600 + t.shear * begun x2 h 100000
def rDoubtX : List V.D → Option (Prop × V.D) := fun ds => match ds with
  | [.agg [a, b, c, e, f, .int .i64 tick, .int .i64 now], .agg [.int .i64 x0, .int .i64 x1, .int .i64 x2, .int .i64 x3, .int .i64 x4], .int .i64 h] =>
    some (TaskIs (.agg [a, b, c, e, f]) ∧ (0 ≤ x0 ∧ x0 < (taskOf (.agg [a, b, c, e, f])).ns) ∧ (0 ≤ x1 ∧ x1 ≤ 100000) ∧ (0 ≤ x2 ∧ x2 < 100000000) ∧
      (0 ≤ (taskOf (.agg [a, b, c, e, f])).sa x0.toNat 1 ∧ (taskOf (.agg [a, b, c, e, f])).sa x0.toNat 1 ≤ 5000) ∧ (0 ≤ (taskOf (.agg [a, b, c, e, f])).age ∧ (taskOf (.agg [a, b, c, e, f])).age ≤ 1000) ∧
      (0 ≤ (taskOf (.agg [a, b, c, e, f])).shear ∧ (taskOf (.agg [a, b, c, e, f])).shear ≤ 1000) ∧ (0 ≤ h ∧ h < 100000000) ∧ (0 ≤ tick ∧ tick ≤ 100000), .int .i64 (doubtX (taskOf (.agg [a, b, c, e, f])) x0 x1 x2 h tick))
  | _ => none
def lib19 : Lib := lib18
theorem lib19_ok : LibOK Go.Proofs.Try.prog lib19 := lib18_ok
/-- The heights of a band. -/
def rBand : List V.D → Option (Prop × V.D) := fun ds => match ds with
  | [.agg [a, b, c, e, f, .int .i64 tick, .int .i64 now], .int .i64 i] =>
    some (TaskIs (.agg [a, b, c, e, f]) ∧ (0 ≤ i ∧ i < (taskOf (.agg [a, b, c, e, f])).nc) ∧ (taskOf (.agg [a, b, c, e, f])).nc ≤ 20 ∧ (-1099511627776 ≤ (taskOf (.agg [a, b, c, e, f])).ca i.toNat 0 ∧ (taskOf (.agg [a, b, c, e, f])).ca i.toNat 0 ≤ 1099511627776),
      .agg [.int .i64 (lowS (taskOf (.agg [a, b, c, e, f])) i.toNat), .int .i64 ((taskOf (.agg [a, b, c, e, f])).ca i.toNat 0 - 1)])
  | _ => none
end Go.Proofs.Ytlndpknjlmcibaa
end
section
set_option linter.unusedVariables false
set_option linter.unusedSimpArgs false
set_option maxRecDepth 100000
set_option maxHeartbeats 4000000
namespace Go.Proofs.Ytlndpknjlmcibaa
open Go.V

def empty (a : Nat → Nat → Int) (i : Nat) : Bool := decide (a i 1 < a i 0)
def lib20 : Lib := lib19
theorem lib20_ok : LibOK Go.Proofs.Try.prog lib20 := lib19_ok

def rSome : List D → Option (Prop × D) := fun ds => match ds with
  | [.rsl 2 n g] => some (IM n 2 g ∧ n ≤ 1099511627776, .bool (!anyBelow (empty (im g)) n))
  | _ => none
def lib21 : Lib := lib20
theorem lib21_ok : LibOK Go.Proofs.Try.prog lib21 := lib20_ok
def lib22 : Lib := lib21
theorem lib22_ok : LibOK Go.Proofs.Try.prog lib22 := lib21_ok
/-- The view of a task, if it is valid. -/
def rLook : List V.D → Option (Prop × V.D) := fun ds => match ds with
  | [d, .int .i64 tick, .int .i64 now] => some (TaskIs d ∧ (taskOf d).fits, .tup [.agg (viewL (taskOf d) tick now), .int .i64 (checkS (taskOf d)).2.2])
  | _ => none
end Go.Proofs.Ytlndpknjlmcibaa
end
section
set_option linter.unusedVariables false
set_option linter.unusedSimpArgs false
set_option maxRecDepth 100000
set_option maxHeartbeats 4000000
namespace Go.Proofs.Ytlndpknjlmcibaa
open Go.V

def lib23 : Lib := lib22
theorem lib23_ok : LibOK Go.Proofs.Try.prog lib23 := lib22_ok
def leftG (xl xh yl yh : Int) (i j : Nat) : V.D := .int .i64 (if i = 0 then (if j = 0 then xl else xh) else (if j = 0 then yl else yh))
def nrH (xl xh yl yh : Int) : HL := [none, none, none, none, none, some (.buf 23 2 2 (leftG xl xh yl yh)), none, none, none, none, none, none]
def rNarrow : CRule := fun ds H K => ∃ (x y d xl xh yl yh : Int), ds = [.own 5 2, .int .i64 x, .int .i64 y, .int .i64 d] ∧ H = nrH xl xh yl yh ∧ (sm x ∧ sm y ∧ sm d) ∧
  K (.ret (.tup [])) (nrH (max xl (x - d)) (min xh (x + d)) (max yl (y - d)) (min yh (y + d)))
def rViewSays : List V.D → Option (Prop × V.D) := fun ds => match ds with
  | [.agg [a, b, c, e, f, .int .i64 tick, .int .i64 now], .int .i64 s, .agg [.int .i64 low, .int .i64 high]] =>
    some (TaskIs (.agg [a, b, c, e, f]) ∧ (taskOf (.agg [a, b, c, e, f])).ok ∧ (0 ≤ low ∧ low < 100000000) ∧ (0 ≤ high ∧ high < 100000000) ∧ (0 ≤ tick ∧ tick ≤ 100000) ∧ (0 ≤ now ∧ now ≤ 100000),
      .tup [.rsl 2 2 (leftG (saysS (taskOf (.agg [a, b, c, e, f])) s low high tick now).xl (saysS (taskOf (.agg [a, b, c, e, f])) s low high tick now).xh (saysS (taskOf (.agg [a, b, c, e, f])) s low high tick now).yl (saysS (taskOf (.agg [a, b, c, e, f])) s low high tick now).yh), .bool (saysS (taskOf (.agg [a, b, c, e, f])) s low high tick now).some])
  | _ => none
end Go.Proofs.Ytlndpknjlmcibaa
end
section
set_option linter.unusedVariables false
set_option linter.unusedSimpArgs false
set_option maxRecDepth 100000
set_option maxHeartbeats 4000000
namespace Go.Proofs.Ytlndpknjlmcibaa
open Go.V

def lib24 : Lib := lib23
theorem lib24_ok : LibOK Go.Proofs.Try.prog lib24 := lib23_ok
def wH (t : Task) (tick now low high xl xh yl yh : Int) : HL := [some (.row (viewL t tick now)), some (.row [.int .i64 low, .int .i64 high]), some (.row [.int .i64 (-20000), .int .i64 20000]), some (.buf 23 2 2 (leftG xl xh yl yh))]
def rMeet : CRule := fun ds H K => ∃ (t : Task) (tick now low high a b c d xl xh yl yh : Int), ds = [.own 3 2, .rsl 2 2 (leftG a b c d)] ∧ H = wH t tick now low high xl xh yl yh ∧
  K (.ret (.tup [])) (wH t tick now low high (max xl a) (min xh b) (max yl c) (min yh d))
def leftD (l : Left) : V.D := .rsl 2 2 (leftG l.xl l.xh l.yl l.yh)
def rWithout : List V.D → Option (Prop × V.D) := fun ds => match ds with
  | [.agg [a, b, c, e, f, .int .i64 tick, .int .i64 now], .int .i64 s, .agg [.int .i64 low, .int .i64 high]] =>
    some (TaskIs (.agg [a, b, c, e, f]) ∧ (taskOf (.agg [a, b, c, e, f])).ok ∧ (0 ≤ low ∧ low < 100000000) ∧ (0 ≤ high ∧ high < 100000000) ∧ (0 ≤ tick ∧ tick ≤ 100000) ∧ (0 ≤ now ∧ now ≤ 100000),
      leftD (leftS (taskOf (.agg [a, b, c, e, f])) s low high tick now))
  | _ => none
end Go.Proofs.Ytlndpknjlmcibaa
end
section
set_option linter.unusedVariables false
set_option linter.unusedSimpArgs false
set_option maxRecDepth 100000
set_option maxHeartbeats 4000000
namespace Go.Proofs.Ytlndpknjlmcibaa
open Go.V

def lib25 : Lib := lib24
theorem lib25_ok : LibOK Go.Proofs.Try.prog lib25 := lib24_ok
theorem some_agree (l : Left) : (!anyBelow (empty (im (leftG l.xl l.xh l.yl l.yh))) 2) = l.agree := by
  simp [anyBelow, empty, im, leftG, toI, Left.agree]
theorem IM_leftG (a b c d : Int) : IM 2 2 (leftG a b c d) := fun i j hi hj => rfl
def rViewBlame : List V.D → Option (Prop × V.D) := fun ds => match ds with
  | [.agg [a, b, c, e, f, .int .i64 tick, .int .i64 now], .agg [.int .i64 low, .int .i64 high]] =>
    some (TaskIs (.agg [a, b, c, e, f]) ∧ (taskOf (.agg [a, b, c, e, f])).ok ∧ (0 ≤ low ∧ low < 100000000) ∧ (0 ≤ high ∧ high < 100000000) ∧ (0 ≤ tick ∧ tick ≤ 100000) ∧ (0 ≤ now ∧ now ≤ 100000),
      .tup [.rsl 1 (blameS (taskOf (.agg [a, b, c, e, f])) low high tick now).length (liD (blameS (taskOf (.agg [a, b, c, e, f])) low high tick now)), .bool (agreeS (taskOf (.agg [a, b, c, e, f])) low high tick now)])
  | _ => none
theorem blameFrom_agree {t : Task} {low high a now : Int} : ∀ (k i : Nat) (l : List Int), (∀ x ∈ l, (leftS t x low high a now).agree = true) → ∀ x ∈ blameFrom t low high a now i l k, (leftS t x low high a now).agree = true
  | 0, i, l, h, x, hx => h x hx
  | k + 1, i, l, h, x, hx => blameFrom_agree k (i + 1) _ (fun y hy => by
      unfold blameStep at hy
      split at hy
      · rename_i g
        rcases List.mem_append.mp hy with hy | hy
        · exact h y hy
        · rw [List.mem_singleton.mp hy]; exact g
      · exact h y hy) x hx
theorem blame_agree {t : Task} {low high a now : Int} (h : (blameS t low high a now).length = 1) : (leftS t ((blameS t low high a now).getD 0 0) low high a now).agree = true := by
  have hm : (blameS t low high a now).getD 0 0 ∈ blameS t low high a now := by
    cases hl : blameS t low high a now with
    | nil => rw [hl] at h; cases h
    | cons x r => simp
  generalize (blameS t low high a now).getD 0 0 = x at hm
  unfold blameS at hm
  split at hm
  · cases hm
  · exact blameFrom_agree t.ns 0 [] (fun y hy => by cases hy) x hm

def lib26 : Lib := lib25
theorem lib26_ok : LibOK Go.Proofs.Try.prog lib26 := lib25_ok
def answerN (t : Task) (low high a now : Int) : Nat := if (answerS t low high a now).2 = true then 2 else 0
def rViewAnswer : List V.D → Option (Prop × V.D) := fun ds => match ds with
  | [.agg [a, b, c, e, f, .int .i64 tick, .int .i64 now], .agg [.int .i64 low, .int .i64 high]] =>
    some (TaskIs (.agg [a, b, c, e, f]) ∧ (taskOf (.agg [a, b, c, e, f])).ok ∧ (0 ≤ low ∧ low < 100000000) ∧ (0 ≤ high ∧ high < 100000000) ∧ (0 ≤ tick ∧ tick ≤ 100000) ∧ (0 ≤ now ∧ now ≤ 100000),
      .tup [.rsl 2 (answerN (taskOf (.agg [a, b, c, e, f])) low high tick now) (leftG (answerS (taskOf (.agg [a, b, c, e, f])) low high tick now).1.xl (answerS (taskOf (.agg [a, b, c, e, f])) low high tick now).1.xh (answerS (taskOf (.agg [a, b, c, e, f])) low high tick now).1.yl (answerS (taskOf (.agg [a, b, c, e, f])) low high tick now).1.yh),
        .bool (answerS (taskOf (.agg [a, b, c, e, f])) low high tick now).2])
  | _ => none
end Go.Proofs.Ytlndpknjlmcibaa
end
section
set_option linter.unusedVariables false
set_option linter.unusedSimpArgs false
set_option maxRecDepth 100000
set_option maxHeartbeats 4000000
namespace Go.Proofs.Ytlndpknjlmcibaa
open Go.V

def lib27 : Lib := lib26
theorem lib27_ok : LibOK Go.Proofs.Try.prog lib27 := lib26_ok
def checkE (t : Task) : Int := (checkS t).2.2
theorem checkE_ok {t : Task} (h : checkE t = 0) : t.ok := check_ok h
def tickB (n : Int) : Bool := isin n 0 100000
def heightB (n : Int) : Bool := isin n 0 99999999

def doubtT (t : Task) (i h tick : Int) : Int × Int :=
  if checkE t ≠ 0 then (0, checkE t) else if isin i 0 (t.nx - 1) = false then (0, 4) else if (heightB h && tickB tick) = false then (0, 7) else (doubtS t i.toNat h tick, 0)
def rDoubtT : List V.D → Option (Prop × V.D) := fun ds => match ds with
  | [d, .int .i64 i, .int .i64 h, .int .i64 tick] => some (TaskIs d ∧ (taskOf d).fits, .tup [.int .i64 (doubtT (taskOf d) i h tick).1, .int .i64 (doubtT (taskOf d) i h tick).2])
  | _ => none
theorem doubtT_e {t : Task} {i h tick : Int} (h1 : checkE t ≠ 0) : doubtT t i h tick = (0, checkE t) := if_pos h1
theorem doubtT_4 {t : Task} {i h tick : Int} (h1 : checkE t = 0) (h2 : isin i 0 (t.nx - 1) = false) : doubtT t i h tick = (0, 4) := (if_neg (fun g => g h1)).trans (if_pos h2)
theorem doubtT_7 {t : Task} {i h tick : Int} (h1 : checkE t = 0) (h2 : isin i 0 (t.nx - 1) = true) (h3 : (heightB h && tickB tick) = false) : doubtT t i h tick = (0, 7) :=
  (if_neg (fun g => g h1)).trans ((if_neg (by rw [h2]; exact Bool.noConfusion)).trans (if_pos h3))
theorem doubtT_0 {t : Task} {i h tick : Int} (h1 : checkE t = 0) (h2 : isin i 0 (t.nx - 1) = true) (h3 : (heightB h && tickB tick) = true) : doubtT t i h tick = (doubtS t i.toNat h tick, 0) :=
  (if_neg (fun g => g h1)).trans ((if_neg (by rw [h2]; exact Bool.noConfusion)).trans (if_neg (by rw [h3]; exact Bool.noConfusion)))

theorem and_ff {b : Bool} {A B : Prop} (e : b = false) (h : B) : (b = true → A) ∧ (b = false → B) := ⟨fun h1 => (by rw [e] at h1; cases h1), fun _ => h⟩
theorem and_tt {b : Bool} {A B : Prop} (e : b = true) (h : A) : (b = true → A) ∧ (b = false → B) := ⟨fun _ => h, fun h1 => (by rw [e] at h1; cases h1)⟩
theorem fin2 {d d0 : V.D} {k : V.D → Prop} (h : k d0) (hi : impA noGh d d0 True) : ∃ d1, k d1 ∧ Imp d d1 := fin_of h hi
theorem eq_leaf {α : Type} {a b : α} (h : a = b) : a = b := h
theorem decT {p : Prop} {i : Decidable p} : (@decide p i = true) = p := by cases i <;> simp_all
theorem decF {p : Prop} {i : Decidable p} : (@decide p i = false) = ¬ p := by cases i <;> simp_all
theorem out_true (n a b : Int) : (out n a b = true) = (n < a ∨ b < n) := by simp [out]
theorem out_false (n a b : Int) : (out n a b = false) = (a ≤ n ∧ n ≤ b) := by simp [out]
theorem isin_true (n a b : Int) : (isin n a b = true) = (a ≤ n ∧ n ≤ b) := by simp [isin]
theorem isin_false (n a b : Int) : (isin n a b = false) = (n < a ∨ b < n) := by simp [isin]; omega
theorem ok_at {t : Task} (h : (checkS t).2.2 = 0) {i : Int} (h0 : 0 ≤ i) (h1 : i < t.nx) : (0 ≤ t.xa i.toNat 0 ∧ t.xa i.toNat 0 < t.ns) ∧ (0 ≤ t.xa i.toNat 1 ∧ t.xa i.toNat 1 ≤ 100000) ∧ (0 ≤ t.xa i.toNat 2 ∧ t.xa i.toNat 2 < 100000000) ∧
    (0 ≤ t.sa (t.xa i.toNat 0).toNat 1 ∧ t.sa (t.xa i.toNat 0).toNat 1 ≤ 5000) ∧ (0 ≤ t.age ∧ t.age ≤ 1000) ∧ (0 ≤ t.shear ∧ t.shear ≤ 1000) := by
  have hok := check_ok h
  have hi : i.toNat < t.nx := by omega
  have hs := hok.src _ hi
  exact ⟨hs, hok.tick _ hi, hok.height _ hi, hok.err _ (by omega), hok.age, hok.shear⟩
theorem small_nx {t : Task} (h : (checkS t).2.2 = 0) : t.nx ≤ 60 ∧ t.ns ≤ 6 ∧ 1 ≤ t.nc ∧ t.nc ≤ 20 := by
  have hok := check_ok h
  exact ⟨hok.nx, hok.ns, hok.nc.1, hok.nc.2⟩
end Go.Proofs.Ytlndpknjlmcibaa
end
section
set_option linter.unusedVariables false
set_option linter.unusedSimpArgs false
set_option maxRecDepth 100000
set_option maxHeartbeats 4000000
namespace Go.Proofs.Ytlndpknjlmcibaa
open Go.V

attribute [local irreducible] doubtS saysS leftS agreeS blameS answerS checkS begun nameS lowS answerN
def lib28 : Lib := lib27
theorem lib28_ok : LibOK Go.Proofs.Try.prog lib28 := lib27_ok

def left00 : Left := ⟨0, 0, 0, 0⟩
def atT (t : Task) (h a now : Int) : Left × Int :=
  if checkE t ≠ 0 then (left00, checkE t) else if (heightB h && tickB a && tickB now) = false then (left00, 7) else if (answerS t h h a now).2 = false then (left00, 9) else ((answerS t h h a now).1, 0)
def spansD (l : Left) (e : Int) : V.D := .tup [.agg [.int .i64 l.xl, .int .i64 l.xh], .agg [.int .i64 l.yl, .int .i64 l.yh], .int .i64 e]
def rAtT : List V.D → Option (Prop × V.D) := fun ds => match ds with
  | [d, .int .i64 h, .int .i64 a, .int .i64 now] => some (TaskIs d ∧ (taskOf d).fits, spansD (atT (taskOf d) h a now).1 (atT (taskOf d) h a now).2)
  | _ => none
theorem answerN_2 {t : Task} {l h a n : Int} (e : (answerS t l h a n).2 = true) : answerN t l h a n = 2 := by unfold answerN; exact if_pos e
theorem any2 (a b c d : Int) : anyBelow (empty (im (leftG a b c d))) 2 = (decide (b < a) || decide (d < c)) := by
  simp [anyBelow, empty, im, leftG, toI]
def saysT (t : Task) (s b a now : Int) : Left × Int :=
  if checkE t ≠ 0 then (left00, checkE t) else if (isin s 0 (t.ns - 1) && isin b 0 (t.nc - 1)) = false then (left00, 4) else if (tickB a && tickB now) = false then (left00, 7) else
    if (saysS t s (lowS t b.toNat) (t.ca b.toNat 0 - 1) a now).some = false then (left00, 4) else
      if (saysS t s (lowS t b.toNat) (t.ca b.toNat 0 - 1) a now).xh < (saysS t s (lowS t b.toNat) (t.ca b.toNat 0 - 1) a now).xl ∨ (saysS t s (lowS t b.toNat) (t.ca b.toNat 0 - 1) a now).yh < (saysS t s (lowS t b.toNat) (t.ca b.toNat 0 - 1) a now).yl then (left00, 9) else
        (⟨(saysS t s (lowS t b.toNat) (t.ca b.toNat 0 - 1) a now).xl, (saysS t s (lowS t b.toNat) (t.ca b.toNat 0 - 1) a now).xh, (saysS t s (lowS t b.toNat) (t.ca b.toNat 0 - 1) a now).yl, (saysS t s (lowS t b.toNat) (t.ca b.toNat 0 - 1) a now).yh⟩, 0)
def rSaysT : List V.D → Option (Prop × V.D) := fun ds => match ds with
  | [d, .int .i64 s, .int .i64 b, .int .i64 a, .int .i64 now] => some (TaskIs d ∧ (taskOf d).fits, spansD (saysT (taskOf d) s b a now).1 (saysT (taskOf d) s b a now).2)
  | _ => none
theorem low_ok {t : Task} (h : (checkS t).2.2 = 0) {b : Int} (h0 : 0 ≤ b) (h1 : b ≤ t.nc - 1) : (0 ≤ lowS t b.toNat ∧ lowS t b.toNat < 100000000) ∧ (1 ≤ t.ca b.toNat 0 ∧ t.ca b.toNat 0 ≤ 100000000) := by
  have hok := check_ok h
  have h2 := hok.cut b.toNat (by omega)
  refine ⟨?_, h2⟩
  unfold lowS
  split
  · omega
  · rename_i hb
    have h3 := hok.cut (b.toNat - 1) (by omega)
    have h4 := hok.rise (b.toNat - 1) (by omega)
    rw [show b.toNat - 1 + 1 = b.toNat by omega] at h4
    omega
end Go.Proofs.Ytlndpknjlmcibaa
end
section
set_option linter.unusedVariables false
set_option linter.unusedSimpArgs false
set_option maxRecDepth 100000
set_option maxHeartbeats 4000000
namespace Go.Proofs.Ytlndpknjlmcibaa
open Go.V
attribute [local irreducible] doubtS saysS leftS agreeS blameS answerS checkS begun nameS lowS answerN
def lib29 : Lib := lib28
theorem lib29_ok : LibOK Go.Proofs.Try.prog lib29 := lib28_ok

def blameT (t : Task) (b a now : Int) : List Int × Bool × Int :=
  if checkE t ≠ 0 then ([], false, checkE t) else if isin b 0 (t.nc - 1) = false then ([], false, 4) else if (tickB a && tickB now) = false then ([], false, 7) else
    (blameS t (lowS t b.toNat) (t.ca b.toNat 0 - 1) a now, agreeS t (lowS t b.toNat) (t.ca b.toNat 0 - 1) a now, 0)
def listD (l : List Int) : V.D := .rsl 1 l.length (liD l)
def rBlameT : List V.D → Option (Prop × V.D) := fun ds => match ds with
  | [d, .int .i64 b, .int .i64 a, .int .i64 now] => some (TaskIs d ∧ (taskOf d).fits, .tup [listD (blameT (taskOf d) b a now).1, .bool (blameT (taskOf d) b a now).2.1, .int .i64 (blameT (taskOf d) b a now).2.2])
  | _ => none
end Go.Proofs.Ytlndpknjlmcibaa
end
section
set_option linter.unusedVariables false
set_option linter.unusedSimpArgs false
set_option maxRecDepth 100000
set_option maxHeartbeats 4000000
namespace Go.Proofs.Ytlndpknjlmcibaa
open Go.V
attribute [local irreducible] doubtS saysS leftS agreeS blameS answerS checkS begun nameS lowS answerN knownS
def lib30 : Lib := lib29
theorem lib30_ok : LibOK Go.Proofs.Try.prog lib30 := lib29_ok

/-- The soundings that are known, of the first ones. -/
def knownUp (t : Task) (now : Int) : Nat → List Int
  | 0 => []
  | i + 1 => if knownS t i now = true then knownUp t now i ++ [(i : Int)] else knownUp t now i
theorem knownUp_length (t : Task) (now : Int) : ∀ i, (knownUp t now i).length ≤ i
  | 0 => Nat.le_refl _
  | i + 1 => by
    have := knownUp_length t now i
    unfold knownUp
    split
    · simp only [List.length_append, List.length_singleton]; omega
    · omega
theorem liD_snoc2 {l l' : List Int} {x : Int} {i j : Nat} (h : l' = l ++ [x]) (hi : i < l'.length) (hj : j < 1) : (if i < l.length then liD l i j else [D.int IntKind.i64 x].getD ((i - l.length) * 1 + j) D.top) = liD l' i j := by
  subst h
  exact liD_snoc hi hj
theorem known_t {t : Task} {i : Nat} {now : Int} (h1 : t.xa i 1 + t.sa (t.xa i 0).toNat 2 ≤ now) (h2 : now ≤ t.xa i 1 + t.sa (t.xa i 0).toNat 3) : knownS t i now = true := by
  unfold knownS
  rw [decide_eq_true h1, decide_eq_true (by omega)]
  rfl
theorem known_f {t : Task} {i : Nat} {now : Int} (h : ¬ (t.xa i 1 + t.sa (t.xa i 0).toNat 2 ≤ now) ∨ ¬ (now ≤ t.xa i 1 + t.sa (t.xa i 0).toNat 3)) : knownS t i now = false := by
  unfold knownS
  rcases h with h | h
  · rw [decide_eq_false h]; rfl
  · rw [decide_eq_false (by omega : ¬ now - t.xa i 1 ≤ t.sa (t.xa i 0).toNat 3), Bool.and_false]
def knownT (t : Task) (now : Int) : List Int × Int := if checkE t ≠ 0 then ([], checkE t) else if tickB now = false then ([], 7) else (knownUp t now t.nx, 0)
def rKnownT : List V.D → Option (Prop × V.D) := fun ds => match ds with
  | [d, .int .i64 now] => some (TaskIs d ∧ (taskOf d).fits, .tup [listD (knownT (taskOf d) now).1, .int .i64 (knownT (taskOf d) now).2])
  | _ => none
end Go.Proofs.Ytlndpknjlmcibaa
end
section
set_option linter.unusedVariables false
set_option linter.unusedSimpArgs false
set_option maxRecDepth 100000
set_option maxHeartbeats 4000000
namespace Go.Proofs.Ytlndpknjlmcibaa
open Go.V
attribute [local irreducible] doubtS saysS leftS agreeS blameS answerS checkS begun nameS lowS answerN knownS
def lib31 : Lib := lib30
theorem lib31_ok : LibOK Go.Proofs.Try.prog lib31 := lib30_ok

def ansB (t : Task) (a now : Int) (i : Nat) : Left × Bool := answerS t (lowS t i) (t.ca i 0 - 1) a now
def bandA (t : Task) (a now : Int) (i j : Nat) : Int := match j with
  | 0 => lowS t i
  | 1 => t.ca i 0
  | 2 => (ansB t a now i).1.xl
  | 3 => (ansB t a now i).1.xh
  | 4 => (ansB t a now i).1.yl
  | 5 => (ansB t a now i).1.yh
  | _ => 0
def badB (t : Task) (a now : Int) (i : Nat) : Bool := !(ansB t a now i).2
def bandsT (t : Task) (a now : Int) : Nat × Int := if checkE t ≠ 0 then (0, checkE t) else if (tickB a && tickB now) = false then (0, 7) else if anyBelow (badB t a now) t.nc = true then (0, 9) else (t.nc, 0)
def rBandsT : List V.D → Option (Prop × V.D) := fun ds => match ds with
  | [d, .int .i64 a, .int .i64 now] => some (TaskIs d ∧ (taskOf d).fits, .tup [.rsl 6 (bandsT (taskOf d) a now).1 (imD (bandA (taskOf d) a now)), .int .i64 (bandsT (taskOf d) a now).2])
  | _ => none
theorem band_snoc {t : Task} {a now : Int} {n i j : Nat} {l : List V.D} (hl : l = [.int .i64 (lowS t n), .int .i64 (t.ca n 0), .int .i64 (ansB t a now n).1.xl, .int .i64 (ansB t a now n).1.xh, .int .i64 (ansB t a now n).1.yl, .int .i64 (ansB t a now n).1.yh]) (hi : i < n + 1) (hj : j < 6) :
    (if i < n then imD (bandA t a now) i j else l.getD ((i - n) * 6 + j) D.top) = imD (bandA t a now) i j := by
  subst hl
  by_cases h : i < n
  · rw [if_pos h]
  · rw [if_neg h]
    obtain rfl : i = n := by omega
    have hj' : j = 0 ∨ j = 1 ∨ j = 2 ∨ j = 3 ∨ j = 4 ∨ j = 5 := by omega
    rcases hj' with rfl | rfl | rfl | rfl | rfl | rfl <;> simp [imD, bandA]
theorem band_snoc2 {t : Task} {a now x : Int} {n i j : Nat} {l : List V.D} (hl : l = [.int .i64 (lowS t n), .int .i64 x, .int .i64 (ansB t a now n).1.xl, .int .i64 (ansB t a now n).1.xh, .int .i64 (ansB t a now n).1.yl, .int .i64 (ansB t a now n).1.yh]) (hx : x = t.ca n 0) (hi : i < n + 1) (hj : j < 6) :
    (if i < n then imD (bandA t a now) i j else l.getD ((i - n) * 6 + j) D.top) = imD (bandA t a now) i j := by
  subst hx
  exact band_snoc hl hi hj
end Go.Proofs.Ytlndpknjlmcibaa
end
