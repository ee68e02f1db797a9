/-
  Contracts of the wind: whether bands are some.
-/
import Derived.Test.YtlecbjbjgfpfeaaMh
section
set_option linter.unusedVariables false
set_option linter.unusedSimpArgs false
set_option maxRecDepth 100000
set_option maxHeartbeats 4000000
namespace Go.Proofs.Ytlecbjbjgfpfeaa
open Go.V

def lib16 : Lib := (49, mk rWindSource) :: (64, mk rWindBand) :: lib15
theorem lib16_ok : LibOK Go.Proofs.Try.prog lib16 := .cons windSource_ok (.cons windBand_ok lib15_ok)
theorem bandE_zero {b0 b1 b2 b3 b4 b5 f : Int} (h : bandE b0 b1 b2 b3 b4 b5 f = 0) : f < b1 ∧ b1 ≤ 100000000 := by
  unfold bandE at h
  split at h
  · cases h
  split at h
  · cases h
  split at h
  · cases h
  omega
theorem windCheckBands_ok : PSound Go.Proofs.Try.prog 46 (mk rCheckBands) := by
  refine psound_mk Try.func46 (by kernel_rfl) rfl (ctx lib16_ok) ?_
  (intro ds p d h; unfold rCheckBands at h; split at h <;> first | (cases h; done) | skip; cases h; refine ⟨Nat.le_of_ble_eq_true rfl, fun hp k hk => ?_⟩)
  rename_i n g
  refine ⟨[.rsl 6 n (imD (im g))], rfl, hp, ?_⟩
  clear hp
  generalize im g = a at *
  generalize hS : checkBands n a = c at *
  have hS' : c = if isin n 1 20 = true then fe (bandErr a) 0 n else (0, 3) := hS.symm
  clear hS
  repeat' (first | ((with_reducible refine kok ?_); kernel_rfl) | ((with_reducible refine keq_mk ?_); kernel_rfl) | with_reducible rfl | ((conv => whnf); first | exact trivial | refine And.intro ?_ ?_ | intro _ | (with_reducible refine (?_ : _ = true); (conv => lhs; whnf); done) | exact rfl))
  · rename_i g1
    rw [out_isin] at g1
    rw [if_neg (by rw [(Bool.not_eq_true' _).mp g1]; exact Bool.noConfusion)] at hS'
    subst hS'
    (refine fin_of hk ?_; clear hk; (conv => whnf); repeat' (first | exact trivial | refine And.intro ?_ ?_ | exact rfl))
  rename_i g1
  rw [out_isin] at g1
  have g2 := (Bool.not_eq_false' _).mp g1
  rw [if_pos g2] at hS'
  have hn : n ≤ 20 := by simp [isin] at g2; omega
  clear g1 g2
  refine ⟨Nat, fun i => [(0, .rsl 6 n (imD a)), (4, .int .i64 (fromOf a i)), (10, .rsl 6 n (imD a)), (11, .int .i64 n), (12, .int .i64 i)], fun _ => [], fun i => n - i, fun i => i ≤ n ∧ c = fe (bandErr a) i (n - i) ∧ 0 ≤ fromOf a i ∧ fromOf a i ≤ 100000000, [], 0, fun _ => ⟨rfl, rfl⟩, ?_, fun i hI => ?_⟩
  · repeat' (first | ((with_reducible refine kok ?_); kernel_rfl) | ((with_reducible refine keq_mk ?_); kernel_rfl) | with_reducible rfl | ((conv => whnf); first | exact trivial | refine And.intro ?_ ?_ | intro _ | (with_reducible refine (?_ : _ = true); (conv => lhs; whnf); done) | exact rfl))
    · omega
    · exact hS'
    · exact Int.le_refl 0
    · exact Int.zero_le_ofNat 100000000
  obtain ⟨hi, hc, hf⟩ := hI
  clear hS'
  have f1 : decide ((i : Int) < n) = true → i < n := fun h => Int.ofNat_lt.mp (of_decide_eq_true h)
  repeat' (first | ((with_reducible refine kok ?_); kernel_rfl) | ((with_reducible refine keq_mk ?_); kernel_rfl) | with_reducible rfl | ((conv => whnf); first | exact trivial | refine And.intro ?_ ?_ | intro _ | (with_reducible refine (?_ : _ = true); (conv => lhs; whnf); done) | exact rfl))
  · omega
  · exact of_decide_eq_true (by assumption)
  · exact hf.1
  · exact hf.2
  · rename_i g1 g2
    have e1 : bandErr a i ≠ 0 := of_decide_eq_false ((Bool.not_eq_true' _).mp g2)
    rw [fe_step _ _ _ (f1 g1), if_pos e1] at hc
    subst hc
    (refine fin_of hk ?_; clear hk; (conv => whnf); repeat' (first | exact trivial | refine And.intro ?_ ?_ | exact rfl))
  · omega
  · omega
  · rename_i g1 g2
    have e1 : bandErr a i = 0 := of_decide_eq_true ((Bool.not_eq_false' _).mp g2)
    have e0 := f1 g1
    rw [fe_step _ _ _ e0, if_neg (fun h => h e1)] at hc
    have e2 := bandE_zero (show bandE (a i 0) (a i 1) (a i 2) (a i 3) (a i 4) (a i 5) (fromOf a i) = 0 from e1)
    have e3 : fromOf a (i + 1) = a i 1 := by rw [fromOf, if_neg (by omega)]; rfl
    clear hk
    refine ⟨i + 1, ?_⟩
    repeat' (first | ((with_reducible refine kok ?_); kernel_rfl) | ((with_reducible refine keq_mk ?_); kernel_rfl) | with_reducible rfl | ((conv => whnf); first | exact trivial | refine And.intro ?_ ?_ | intro _ | (with_reducible refine (?_ : _ = true); (conv => lhs; whnf); done) | exact rfl))
    · omega
    · exact hc
    · omega
    · omega
    · simp only; omega
  · rename_i g1
    rw [show n - i = 0 by have := of_decide_eq_false g1; omega] at hc
    subst hc
    (refine fin_of hk ?_; clear hk; (conv => whnf); repeat' (first | exact trivial | refine And.intro ?_ ?_ | exact rfl))
end Go.Proofs.Ytlecbjbjgfpfeaa
end
section
set_option linter.unusedVariables false
set_option linter.unusedSimpArgs false
set_option maxRecDepth 100000
set_option maxHeartbeats 4000000
namespace Go.Proofs.Ytlecbjbjgfpfeaa
open Go.V

def lib17 : Lib := (46, mk rCheckBands) :: (36, mk (r1 fun n => out n 0 100000)) :: lib16
theorem lib17_ok : LibOK Go.Proofs.Try.prog lib17 := .cons windCheckBands_ok (.cons never_ok lib16_ok)
def nameV (t : Task) (k : Nat) : Value := .string (t.nm k)
/-- Whether a key is among the first ones. -/
def hasK (f : Nat → Value) (i : Nat) (q : Value) : Bool := anyBelow (fun k => veqV q (f k)) i
def namesM (t : Task) (i : Nat) : Mp := ⟨.str, .bool, i, hasK (nameV t) i, fun _ _ => 1⟩
theorem hasK_name (t : Task) (n i : Nat) : hasK (nameV t) i (.string (t.nm n)) = anyBelow (sameName t n) i := by
  unfold hasK
  congr 1
  funext k
  simp only [nameV, veqV, sameName]
  exact decide_eq_decide.mpr eq_comm

theorem srcErr_kind {t : Task} {i : Nat} (h1 : nameS (t.nm i) = true) (h2 : anyBelow (sameName t i) i = false) : srcErr t i = srcKind (t.sa i 0) (t.sa i 1) (t.sa i 2) (t.sa i 3) (t.sa i 4) (t.sa i 5) := by
  simp [srcErr, srcKind, srcRange, h1, h2]
theorem namesM_has (t : Task) (i : Nat) : ((namesM t i).has (.string (t.nm i)) && decide ((namesM t i).get (.string (t.nm i)) 0 = 1)) = anyBelow (sameName t i) i := by
  rw [show (namesM t i).get (.string (t.nm i)) 0 = 1 from rfl, show (namesM t i).has (.string (t.nm i)) = hasK (nameV t) i (.string (t.nm i)) from rfl, hasK_name]
  simp

def spotV (t : Task) (k : Nat) : Value := .agg (([t.xa k 0, t.xa k 1, t.xa k 2].map (Value.int .i64)).toArray)
def spotC (t : Task) (k : Nat) (j : Nat) : Int := [t.xa k 0, t.xa k 1, t.xa k 2].getD j 0
def seenM (t : Task) (i : Nat) : Mp := ⟨.ints 3, .bool, i, hasK (spotV t) i, fun _ _ => 1⟩
def srcV (t : Task) (k : Nat) : Value := .int .i64 (t.xa k 0)
/-- How many different keys there are among the first ones. -/
def manyK (f : Nat → Value) : Nat → Nat
  | 0 => 0
  | k + 1 => if hasK f k (f k) = true then manyK f k else manyK f k + 1
/-- What the last one of the first ones with a key bears. -/
def lastK (f : Nat → Value) (g : Nat → Nat → Int) : Nat → Value → Nat → Int
  | 0, _, _ => 0
  | k + 1, q, j => if veqV q (f k) = true then g k j else lastK f g k q j
def lastM (t : Task) (i : Nat) : Mp := ⟨.int .i64, .ints 3, manyK (srcV t) i, hasK (srcV t) i, lastK (srcV t) (spotC t) i⟩

def taskRow (t : Task) : Ob := .row [.rsl 7 t.ns (smD t.nm t.sa), .rsl 5 t.nx (imD t.xa), .rsl 1 t.nc (imD t.ca), .int .i64 t.age, .int .i64 t.shear]
def sndX (t : Task) (i : Nat) : List V.D := [.int .i64 (t.xa i 0), .int .i64 (t.xa i 1), .int .i64 (t.xa i 2), .int .i64 (t.xa i 3), .int .i64 (t.xa i 4)]
def sndH (t : Task) (m i j : Nat) : HL := [some (taskRow t), some (.mp (namesM t m)), some (.mp (seenM t j)), some (.mp (lastM t j)), some (.row [.map 2, .map 3]), some (.row (sndX t i))]
def rWindSounding : CRule := fun ds H K => ∃ (t : Task) (m i : Nat), ds = [.ptr 4 0, t.D, .agg (sndX t i)] ∧ H = sndH t m i i ∧ ((t.ns ≤ 6 ∧ ∀ j, j < t.ns → srcErr t j = 0)) ∧
  (sndErr t i ≠ 0 → K (.ret (.int .i64 (sndErr t i))) (sndH t m i i)) ∧ (sndErr t i = 0 → K (.ret (.int .i64 0)) (sndH t m i (i + 1)))
theorem srcErr_zero {t : Task} {j : Nat} (h : srcErr t j = 0) : 0 ≤ t.sa j 4 ∧ t.sa j 5 ≤ 99999999 := by
  unfold srcErr at h
  split at h
  · cases h
  split at h
  · cases h
  split at h
  · cases h
  split at h
  · cases h
  rename_i h1
  simp only [srcRange, isin, Bool.not_eq_false, Bool.and_eq_true, decide_eq_true_eq] at h1
  omega
theorem sndErr_4 {t : Task} {i : Nat} (h : out (t.xa i 0) 0 (t.ns - 1) = true) : sndErr t i = 4 := by
  rw [out_isin] at h
  exact if_pos ((Bool.not_eq_true' _).mp h)
theorem sndErr_7 {t : Task} {i : Nat} (h : out (t.xa i 0) 0 (t.ns - 1) = false) (h1 : sndRange t i = false) : sndErr t i = 7 := by
  rw [out_isin] at h
  unfold sndErr
  rw [if_neg (by rw [(Bool.not_eq_false' _).mp h]; exact Bool.noConfusion), if_pos h1]
theorem sndErr_rest {t : Task} {i : Nat} (h : out (t.xa i 0) 0 (t.ns - 1) = false) (h1 : sndRange t i = true) : sndErr t i = if anyBelow (sameSpot t i) i = true then 5 else if falls t i = true then 2 else 0 := by
  rw [out_isin] at h
  unfold sndErr
  rw [if_neg (by rw [(Bool.not_eq_false' _).mp h]; exact Bool.noConfusion), if_neg (by rw [h1]; exact Bool.noConfusion)]
theorem sndErr_5 {t : Task} {i : Nat} (h : out (t.xa i 0) 0 (t.ns - 1) = false) (h1 : sndRange t i = true) (h2 : anyBelow (sameSpot t i) i = true) : sndErr t i = 5 := by
  rw [sndErr_rest h h1, if_pos h2]
theorem sndErr_2 {t : Task} {i : Nat} (h : out (t.xa i 0) 0 (t.ns - 1) = false) (h1 : sndRange t i = true) (h2 : anyBelow (sameSpot t i) i = false) (h3 : falls t i = true) : sndErr t i = 2 := by
  rw [sndErr_rest h h1, if_neg (by rw [h2]; exact Bool.noConfusion), if_pos h3]
theorem sndErr_0 {t : Task} {i : Nat} (h : out (t.xa i 0) 0 (t.ns - 1) = false) (h1 : sndRange t i = true) (h2 : anyBelow (sameSpot t i) i = false) (h3 : falls t i = false) : sndErr t i = 0 := by
  rw [sndErr_rest h h1, if_neg (by rw [h2]; exact Bool.noConfusion), if_neg (by rw [h3]; exact Bool.noConfusion)]
theorem storm2 (b2 b3 : Int) : anyBelow (stormy (im fun i j => [D.int .i64 b2, D.int .i64 b3].getD (i * 1 + j) D.top)) 2 = (!isin b2 (-20000) 20000 || !isin b3 (-20000) 20000) := by
  simp [anyBelow, stormy, im, toI, out_isin]
theorem sndRange_1 {t : Task} {i : Nat} (h : out (t.xa i 1) 0 100000 = true) : sndRange t i = false := by
  rw [out_isin] at h
  simp [sndRange, (Bool.not_eq_true' _).mp h]
theorem sndRange_2 {t : Task} {i : Nat} (h : out (t.xa i 2) (t.sa (t.xa i 0).toNat 4) (t.sa (t.xa i 0).toNat 5) = true) : sndRange t i = false := by
  rw [out_isin] at h
  simp [sndRange, (Bool.not_eq_true' _).mp h]
theorem sndRange_3 {t : Task} {i : Nat} (h : (!isin (t.xa i 3) (-20000) 20000 || !isin (t.xa i 4) (-20000) 20000) = true) : sndRange t i = false := by
  simp only [Bool.or_eq_true, Bool.not_eq_true'] at h
  rcases h with h | h <;> simp [sndRange, h]
theorem sndRange_true {t : Task} {i : Nat} (h1 : out (t.xa i 1) 0 100000 = false) (h2 : out (t.xa i 2) (t.sa (t.xa i 0).toNat 4) (t.sa (t.xa i 0).toNat 5) = false) (h3 : (!isin (t.xa i 3) (-20000) 20000 || !isin (t.xa i 4) (-20000) 20000) = false) : sndRange t i = true := by
  rw [out_isin] at h1 h2
  simp only [Bool.or_eq_false_iff, Bool.not_eq_false'] at h1 h2 h3
  simp [sndRange, h1, h2, h3]

theorem veq_spot (t : Task) (i k : Nat) : veqV (spotV t i) (spotV t k) = sameSpot t i k := by
  simp only [spotV, veqV, sameSpot]
  rw [Bool.eq_iff_iff]
  simp only [List.map_cons, List.map_nil, numV, decide_eq_true_eq, Bool.and_eq_true, List.cons.injEq, and_true]
  constructor
  · rintro ⟨h1, h2, h3⟩; exact ⟨⟨h1.symm, h2.symm⟩, h3.symm⟩
  · rintro ⟨⟨h1, h2⟩, h3⟩; exact ⟨h1.symm, h2.symm, h3.symm⟩
theorem hasK_spot (t : Task) (n i : Nat) : hasK (spotV t) i (spotV t n) = anyBelow (sameSpot t n) i := by
  unfold hasK
  congr 1
  funext k
  exact veq_spot t n k
theorem seen_has (t : Task) (i : Nat) : ((seenM t i).has (spotV t i) && decide ((seenM t i).get (spotV t i) 0 = 1)) = anyBelow (sameSpot t i) i := by
  rw [show (seenM t i).get (spotV t i) 0 = 1 from rfl, show (seenM t i).has (spotV t i) = hasK (spotV t) i (spotV t i) from rfl, hasK_spot]
  simp
theorem veq_src (t : Task) (i k : Nat) : veqV (srcV t i) (srcV t k) = sameSrc t i k := by
  simp only [srcV, veqV, sameSrc]
  rw [show keq IntKind.i64 IntKind.i64 = true from rfl, Bool.true_and]
  exact decide_eq_decide.mpr eq_comm
theorem hasK_src (t : Task) (n i : Nat) : hasK (srcV t) i (srcV t n) = anyBelow (sameSrc t n) i := by
  unfold hasK
  congr 1
  funext k
  exact veq_src t n k
theorem lastOf_any (p : Nat → Bool) (n : Nat) : anyBelow p n = decide (0 ≤ lastOf p n) := by
  induction n with
  | zero => rfl
  | succ n ih =>
    rw [anyBelow, ih]
    by_cases h : p n = true
    · simp [lastOf, h]
    · simp [lastOf, h]
theorem lastK_of (t : Task) (n : Nat) (j : Nat) : ∀ i, 0 ≤ lastOf (sameSrc t n) i → lastK (srcV t) (spotC t) i (srcV t n) j = spotC t (lastOf (sameSrc t n) i).toNat j := by
  intro i
  induction i with
  | zero => intro h; simp [lastOf] at h
  | succ i ih =>
    simp only [lastK, lastOf, veq_src]
    cases h : sameSrc t n i with
    | true => simp
    | false => simpa using ih
theorem last_has (t : Task) (i : Nat) : (lastM t i).has (srcV t i) = decide (0 ≤ lastS t i) := by
  rw [show (lastM t i).has (srcV t i) = hasK (srcV t) i (srcV t i) from rfl, hasK_src, lastOf_any]
  rfl
theorem last_get {t : Task} {i : Nat} (h : (lastM t i).has (srcV t i) = true) (j : Nat) : (lastM t i).get (srcV t i) j = spotC t (lastS t i).toNat j := by
  rw [last_has] at h
  exact lastK_of t i j i (of_decide_eq_true h)
theorem falls_1 {t : Task} {i : Nat} (h1 : decide (t.sa (t.xa i 0).toNat 0 = 2) = true) (h2 : (lastM t i).has (srcV t i) = true) (h3 : decide (t.xa i 1 < if (lastM t i).has (srcV t i) = true then (lastM t i).get (srcV t i) 1 else 0) = true) : falls t i = true := by
  rw [if_pos h2, last_get h2] at h3
  rw [last_has] at h2
  have h4 : t.xa i 1 < t.xa (lastS t i).toNat 1 := of_decide_eq_true h3
  simp only [falls, of_decide_eq_true h1, of_decide_eq_true h2, h4]
  simp
theorem falls_2 {t : Task} {i : Nat} (h1 : decide (t.sa (t.xa i 0).toNat 0 = 2) = true) (h2 : (lastM t i).has (srcV t i) = true) (h3 : decide (t.xa i 2 < if (lastM t i).has (srcV t i) = true then (lastM t i).get (srcV t i) 2 else 0) = true) : falls t i = true := by
  rw [if_pos h2, last_get h2] at h3
  rw [last_has] at h2
  have h4 : t.xa i 2 < t.xa (lastS t i).toNat 2 := of_decide_eq_true h3
  simp only [falls, of_decide_eq_true h1, of_decide_eq_true h2, h4]
  simp
theorem falls_3 {t : Task} {i : Nat} (h2 : (lastM t i).has (srcV t i) = true) (h3 : decide (t.xa i 1 < if (lastM t i).has (srcV t i) = true then (lastM t i).get (srcV t i) 1 else 0) = false) (h4 : decide (t.xa i 2 < if (lastM t i).has (srcV t i) = true then (lastM t i).get (srcV t i) 2 else 0) = false) : falls t i = false := by
  rw [if_pos h2, last_get h2] at h3 h4
  have h5 : ¬ t.xa i 1 < t.xa (lastS t i).toNat 1 := of_decide_eq_false h3
  have h6 : ¬ t.xa i 2 < t.xa (lastS t i).toNat 2 := of_decide_eq_false h4
  simp [falls, h5, h6]
theorem falls_4 {t : Task} {i : Nat} (h2 : (lastM t i).has (srcV t i) = false) : falls t i = false := by
  rw [last_has] at h2
  simp [falls, of_decide_eq_false h2]
theorem falls_5 {t : Task} {i : Nat} (h1 : decide (t.sa (t.xa i 0).toNat 0 = 2) = false) : falls t i = false := by
  simp [falls, of_decide_eq_false h1]
theorem seen_next_n {t : Task} {i : Nat} {g : Nat → Int} (h : anyBelow (sameSpot t i) i = false) : (withElem (withKey (seenM t i) (spotV t i)) (spotV t i) g).n = (seenM t (i + 1)).n := by
  show (if hasK (spotV t) i (spotV t i) = true then i else i + 1) = i + 1
  rw [hasK_spot, h]
  rfl
theorem seen_next_get {t : Task} {i : Nat} {q : Value} {j : Nat} (h : (seenM t (i + 1)).has q = true) : (withElem (withKey (seenM t i) (spotV t i)) (spotV t i) fun _ => 1).get q j = (seenM t (i + 1)).get q j := by
  show (bif veqV q (spotV t i) then (1 : Int) else if hasK (spotV t) i q = true then 1 else 0) = 1
  have h3 : (hasK (spotV t) i q || veqV q (spotV t i)) = true := h
  cases h4 : veqV q (spotV t i) with
  | true => rfl
  | false => rw [h4, Bool.or_false] at h3; rw [h3]; rfl
theorem last_next_get {t : Task} {i : Nat} {q : Value} {j : Nat} (h : (lastM t (i + 1)).has q = true) : (withElem (withKey (lastM t i) (srcV t i)) (srcV t i) (spotC t i)).get q j = (lastM t (i + 1)).get q j := by
  show (bif veqV q (srcV t i) then spotC t i j else if hasK (srcV t) i q = true then lastK (srcV t) (spotC t) i q j else 0) = if veqV q (srcV t i) = true then spotC t i j else lastK (srcV t) (spotC t) i q j
  have h3 : (hasK (srcV t) i q || veqV q (srcV t i)) = true := h
  cases h4 : veqV q (srcV t i) with
  | true => rfl
  | false => rw [h4, Bool.or_false] at h3; rw [h3]; rfl
theorem key_spot (t : Task) (i : Nat) : (withKey (seenM t i) (spotV t i)).has (spotV t i) = true := by
  show (hasK (spotV t) i (spotV t i) || veqV (spotV t i) (spotV t i)) = true
  rw [veq_spot]
  simp [sameSpot]
theorem key_src (t : Task) (i : Nat) : (withKey (lastM t i) (srcV t i)).has (srcV t i) = true := by
  show (hasK (srcV t) i (srcV t i) || veqV (srcV t i) (srcV t i)) = true
  rw [veq_src]
  simp [sameSrc]
theorem windSounding_ok : CSound Go.Proofs.Try.prog 50 rWindSounding := by
  refine csound_mk Try.func50 (by kernel_rfl) rfl (ctx lib17_ok) fun ds H K h => ?_
  obtain ⟨t, m, i, rfl, rfl, ⟨hns, hz⟩, hne, heq⟩ := h
  have hA : out (t.xa i 0) 0 (t.ns - 1) = false → 0 ≤ t.xa i 0 ∧ t.xa i 0 < t.ns := fun h => by simp [out] at h; omega
  have hA0 : out (t.xa i 0) 0 (t.ns - 1) = false → -9223372036854775808 ≤ t.xa i 0 := fun h => by have := hA h; omega
  have hA1 : out (t.xa i 0) 0 (t.ns - 1) = false → t.xa i 0 ≤ 9223372036854775807 := fun h => by have := hA h; omega
  have hB0 : out (t.xa i 1) 0 100000 = false → -9223372036854775808 ≤ t.xa i 1 := fun h => by simp [out] at h; omega
  have hB1 : out (t.xa i 1) 0 100000 = false → t.xa i 1 ≤ 9223372036854775807 := fun h => by simp [out] at h; omega
  have hC : out (t.xa i 0) 0 (t.ns - 1) = false → out (t.xa i 2) (t.sa (t.xa i 0).toNat 4) (t.sa (t.xa i 0).toNat 5) = false → 0 ≤ t.xa i 2 ∧ t.xa i 2 ≤ 99999999 := fun h1 h2 => by
    have h3 := hA h1
    have h4 := srcErr_zero (hz (t.xa i 0).toNat (by omega))
    simp [out] at h2
    omega
  have hC0 : out (t.xa i 0) 0 (t.ns - 1) = false → out (t.xa i 2) (t.sa (t.xa i 0).toNat 4) (t.sa (t.xa i 0).toNat 5) = false → -9223372036854775808 ≤ t.xa i 2 := fun h1 h2 => by have := hC h1 h2; omega
  have hC1 : out (t.xa i 0) 0 (t.ns - 1) = false → out (t.xa i 2) (t.sa (t.xa i 0).toNat 4) (t.sa (t.xa i 0).toNat 5) = false → t.xa i 2 ≤ 9223372036854775807 := fun h1 h2 => by have := hC h1 h2; omega
  have nA0 : out (t.xa i 0) 0 (t.ns - 1) = false → -9223372036854775808 ≤ numOf (D.int .i64 (t.xa i 0)) := hA0
  have nA1 : out (t.xa i 0) 0 (t.ns - 1) = false → numOf (D.int .i64 (t.xa i 0)) ≤ 9223372036854775807 := hA1
  have nB0 : out (t.xa i 1) 0 100000 = false → -9223372036854775808 ≤ numOf (D.int .i64 (t.xa i 1)) := hB0
  have nB1 : out (t.xa i 1) 0 100000 = false → numOf (D.int .i64 (t.xa i 1)) ≤ 9223372036854775807 := hB1
  have nC0 : out (t.xa i 0) 0 (t.ns - 1) = false → out (t.xa i 2) (t.sa (t.xa i 0).toNat 4) (t.sa (t.xa i 0).toNat 5) = false → -9223372036854775808 ≤ numOf (D.int .i64 (t.xa i 2)) := hC0
  have nC1 : out (t.xa i 0) 0 (t.ns - 1) = false → out (t.xa i 2) (t.sa (t.xa i 0).toNat 4) (t.sa (t.xa i 0).toNat 5) = false → numOf (D.int .i64 (t.xa i 2)) ≤ 9223372036854775807 := hC1
  repeat' (first | ((with_reducible refine kok ?_); kernel_rfl) | ((with_reducible refine keq_mk ?_); kernel_rfl) | with_reducible rfl | ((conv => whnf); first | exact trivial | refine And.intro ?_ ?_ | intro _ | (with_reducible refine (?_ : _ = true); (conv => lhs; whnf); done) | exact rfl))
  all_goals try first
    | with_reducible exact hA0 (by assumption)
    | with_reducible exact hA1 (by assumption)
    | with_reducible exact nA0 (by assumption)
    | with_reducible exact nA1 (by assumption)
    | with_reducible exact nB0 (by assumption)
    | with_reducible exact nB1 (by assumption)
    | with_reducible exact nC0 (by assumption) (by assumption)
    | with_reducible exact nC1 (by assumption) (by assumption)
    | with_reducible exact (hA (by assumption)).1
    | with_reducible exact (hA (by assumption)).2
  · omega
  · omega
  · rename_i q1
    have hE : sndErr t i = 4 := sndErr_4 q1
    have hk := hne (by rw [hE]; decide)
    rw [hE] at hk
    refine ⟨.int .i64 4, sndH t m i i, ?_⟩
    clear hne heq hA0 hA1 hB0 hB1 hC0 hC1 nA0 nA1 nB0 nB1 nC0 nC1
    repeat' (first | ((with_reducible refine kok ?_); kernel_rfl) | ((with_reducible refine keq_mk ?_); kernel_rfl) | with_reducible rfl | ((conv => whnf); first | exact trivial | refine And.intro ?_ ?_ | intro _ | (with_reducible refine (?_ : _ = true); (conv => lhs; whnf); done) | exact rfl))
    exact hk
  · rename_i q1 q2
    have hE : sndErr t i = 7 := sndErr_7 q1 (sndRange_1 q2)
    have hk := hne (by rw [hE]; decide)
    rw [hE] at hk
    refine ⟨.int .i64 7, sndH t m i i, ?_⟩
    clear hne heq hA0 hA1 hB0 hB1 hC0 hC1 nA0 nA1 nB0 nB1 nC0 nC1
    repeat' (first | ((with_reducible refine kok ?_); kernel_rfl) | ((with_reducible refine keq_mk ?_); kernel_rfl) | with_reducible rfl | ((conv => whnf); first | exact trivial | refine And.intro ?_ ?_ | intro _ | (with_reducible refine (?_ : _ = true); (conv => lhs; whnf); done) | exact rfl))
    exact hk
  · rename_i q1 q2 q3
    have hE : sndErr t i = 7 := sndErr_7 q1 (sndRange_2 q3)
    have hk := hne (by rw [hE]; decide)
    rw [hE] at hk
    refine ⟨.int .i64 7, sndH t m i i, ?_⟩
    clear hne heq hA0 hA1 hB0 hB1 hC0 hC1 nA0 nA1 nB0 nB1 nC0 nC1
    repeat' (first | ((with_reducible refine kok ?_); kernel_rfl) | ((with_reducible refine keq_mk ?_); kernel_rfl) | with_reducible rfl | ((conv => whnf); first | exact trivial | refine And.intro ?_ ?_ | intro _ | (with_reducible refine (?_ : _ = true); (conv => lhs; whnf); done) | exact rfl))
    exact hk
  · rename_i j1 j2 h1 h2
    have h3 : j1 = 0 ∨ j1 = 1 := by omega
    obtain rfl : j2 = 0 := by omega
    rcases h3 with rfl | rfl <;> rfl
  · exact Nat.le_of_ble_eq_true rfl
  · rename_i q1 q2 q3 q4
    have hE : sndErr t i = 7 := sndErr_7 q1 (sndRange_3 ((storm2 _ _).symm.trans q4))
    have hk := hne (by rw [hE]; decide)
    rw [hE] at hk
    refine ⟨.int .i64 7, sndH t m i i, ?_⟩
    clear hne heq hA0 hA1 hB0 hB1 hC0 hC1 nA0 nA1 nB0 nB1 nC0 nC1
    repeat' (first | ((with_reducible refine kok ?_); kernel_rfl) | ((with_reducible refine keq_mk ?_); kernel_rfl) | with_reducible rfl | ((conv => whnf); first | exact trivial | refine And.intro ?_ ?_ | intro _ | (with_reducible refine (?_ : _ = true); (conv => lhs; whnf); done) | exact rfl))
    exact hk
  · rename_i q1 q2 q3 q4 q5
    have hE : sndErr t i = 5 := sndErr_5 q1 (sndRange_true q2 q3 ((storm2 _ _).symm.trans q4)) ((seen_has t i).symm.trans q5)
    have hk := hne (by rw [hE]; decide)
    rw [hE] at hk
    refine ⟨.int .i64 5, sndH t m i i, ?_⟩
    clear hne heq hA0 hA1 hB0 hB1 hC0 hC1 nA0 nA1 nB0 nB1 nC0 nC1
    repeat' (first | ((with_reducible refine kok ?_); kernel_rfl) | ((with_reducible refine keq_mk ?_); kernel_rfl) | with_reducible rfl | ((conv => whnf); first | exact trivial | refine And.intro ?_ ?_ | intro _ | (with_reducible refine (?_ : _ = true); (conv => lhs; whnf); done) | exact rfl))
    exact hk
  · rename_i q1 q2 q3 q4 q5 q6 q7 q8
    have hE : sndErr t i = 2 := sndErr_2 q1 (sndRange_true q2 q3 ((storm2 _ _).symm.trans q4)) ((seen_has t i).symm.trans q5) (falls_1 q6 q7 q8)
    have hk := hne (by rw [hE]; decide)
    rw [hE] at hk
    refine ⟨.int .i64 2, sndH t m i i, ?_⟩
    clear hne heq hA0 hA1 hB0 hB1 hC0 hC1 nA0 nA1 nB0 nB1 nC0 nC1
    repeat' (first | ((with_reducible refine kok ?_); kernel_rfl) | ((with_reducible refine keq_mk ?_); kernel_rfl) | with_reducible rfl | ((conv => whnf); first | exact trivial | refine And.intro ?_ ?_ | intro _ | (with_reducible refine (?_ : _ = true); (conv => lhs; whnf); done) | exact rfl))
    exact hk
  · rename_i q1 q2 q3 q4 q5 q6 q7 q8 q9
    have hE : sndErr t i = 2 := sndErr_2 q1 (sndRange_true q2 q3 ((storm2 _ _).symm.trans q4)) ((seen_has t i).symm.trans q5) (falls_2 q6 q7 q9)
    have hk := hne (by rw [hE]; decide)
    rw [hE] at hk
    refine ⟨.int .i64 2, sndH t m i i, ?_⟩
    clear hne heq hA0 hA1 hB0 hB1 hC0 hC1 nA0 nA1 nB0 nB1 nC0 nC1
    repeat' (first | ((with_reducible refine kok ?_); kernel_rfl) | ((with_reducible refine keq_mk ?_); kernel_rfl) | with_reducible rfl | ((conv => whnf); first | exact trivial | refine And.intro ?_ ?_ | intro _ | (with_reducible refine (?_ : _ = true); (conv => lhs; whnf); done) | exact rfl))
    exact hk
  · exact key_spot t i
  · exact key_src t i
  · rename_i q1 q2 q3 q4 q5 q6 q7 q8 q9
    have h5 := (seen_has t i).symm.trans q5
    have hE : sndErr t i = 0 := sndErr_0 q1 (sndRange_true q2 q3 ((storm2 _ _).symm.trans q4)) h5 (falls_3 q7 q8 q9)
    have hk := heq hE
    refine ⟨.int .i64 0, sndH t m i (i + 1), ?_⟩
    clear hne heq hA0 hA1 hB0 hB1 hC0 hC1 nA0 nA1 nB0 nB1 nC0 nC1
    repeat' (first | ((with_reducible refine kok ?_); kernel_rfl) | ((with_reducible refine keq_mk ?_); kernel_rfl) | with_reducible rfl | ((conv => whnf); first | exact trivial | refine And.intro ?_ ?_ | intro _ | (with_reducible refine (?_ : _ = true); (conv => lhs; whnf); done) | exact rfl))
    · exact seen_next_n h5
    · exact seen_next_get (by assumption)
    · exact last_next_get (by assumption)
    · exact hk
  · exact key_spot t i
  · exact key_src t i
  · rename_i q1 q2 q3 q4 q5 q6 q7
    have h5 := (seen_has t i).symm.trans q5
    have hE : sndErr t i = 0 := sndErr_0 q1 (sndRange_true q2 q3 ((storm2 _ _).symm.trans q4)) h5 (falls_4 q7)
    have hk := heq hE
    refine ⟨.int .i64 0, sndH t m i (i + 1), ?_⟩
    clear hne heq hA0 hA1 hB0 hB1 hC0 hC1 nA0 nA1 nB0 nB1 nC0 nC1
    repeat' (first | ((with_reducible refine kok ?_); kernel_rfl) | ((with_reducible refine keq_mk ?_); kernel_rfl) | with_reducible rfl | ((conv => whnf); first | exact trivial | refine And.intro ?_ ?_ | intro _ | (with_reducible refine (?_ : _ = true); (conv => lhs; whnf); done) | exact rfl))
    · exact seen_next_n h5
    · exact seen_next_get (by assumption)
    · exact last_next_get (by assumption)
    · exact hk
  · exact key_spot t i
  · exact key_src t i
  · rename_i q1 q2 q3 q4 q5 q6
    have h5 := (seen_has t i).symm.trans q5
    have hE : sndErr t i = 0 := sndErr_0 q1 (sndRange_true q2 q3 ((storm2 _ _).symm.trans q4)) h5 (falls_5 q6)
    have hk := heq hE
    refine ⟨.int .i64 0, sndH t m i (i + 1), ?_⟩
    clear hne heq hA0 hA1 hB0 hB1 hC0 hC1 nA0 nA1 nB0 nB1 nC0 nC1
    repeat' (first | ((with_reducible refine kok ?_); kernel_rfl) | ((with_reducible refine keq_mk ?_); kernel_rfl) | with_reducible rfl | ((conv => whnf); first | exact trivial | refine And.intro ?_ ?_ | intro _ | (with_reducible refine (?_ : _ = true); (conv => lhs; whnf); done) | exact rfl))
    · exact seen_next_n h5
    · exact seen_next_get (by assumption)
    · exact last_next_get (by assumption)
    · exact hk
end Go.Proofs.Ytlecbjbjgfpfeaa
end
section
set_option linter.unusedVariables false
set_option linter.unusedSimpArgs false
set_option maxRecDepth 100000
set_option maxHeartbeats 4000000
namespace Go.Proofs.Ytlecbjbjgfpfeaa
open Go.V

def Lsnd : Libs := ⟨lib17, [(50, rWindSounding)], [], []⟩
theorem Lsnd_ok : LibsOK Go.Proofs.Try.prog Lsnd := ⟨lib17_ok, asGet_cons windSounding_ok (fun g s h => by cases h), fun f r h => (by cases h), fun f r h => (by cases h)⟩
theorem cutErr_7 {t : Task} {i : Nat} (h : out (t.ca i 0) 1 100000000 = true) : cutErr t i = 7 := by
  rw [out_isin] at h
  exact if_pos ((Bool.not_eq_true' _).mp h)
theorem cutErr_low {t : Task} {i : Nat} (h : out (t.ca i 0) 1 100000000 = false) : cutErr t i = if t.ca i 0 ≤ lowS t i then 2 else 0 := by
  rw [out_isin] at h
  have h1 := (Bool.not_eq_false' _).mp h
  unfold cutErr
  rw [if_neg (by rw [h1]; exact Bool.noConfusion)]
  unfold lowS
  by_cases h0 : i = 0
  · subst h0
    simp only [isin, Bool.and_eq_true, decide_eq_true_eq] at h1
    rw [if_neg (by omega), if_pos rfl, if_neg (by omega)]
  · rw [if_neg h0]
    by_cases h2 : t.ca i 0 ≤ t.ca (i - 1) 0
    · rw [if_pos ⟨by omega, h2⟩, if_pos h2]
    · rw [if_neg (fun h => h2 h.2), if_neg h2]
theorem windCheck_ok : PSound Go.Proofs.Try.prog 25 (mk rCheck) := by
  refine psound_mk Try.func25 (by kernel_rfl) rfl (ctxA Lsnd_ok) ?_
  (intro ds p d h; unfold rCheck at h; split at h <;> first | (cases h; done) | skip; cases h; refine ⟨Nat.le_of_ble_eq_true rfl, fun hp k hk => ?_⟩)
  rename_i d
  obtain ⟨ht, hf⟩ := hp
  refine ⟨[(taskOf d).D], task_imp ht ?_⟩
  clear ht
  generalize taskOf d = t at *
  generalize hS : checkS t = c at *
  have hS' : c = if tooLong t = true then (1, 0, 3) else pickE 2 (fe (srcErr t) 0 t.ns) (check2 t) := hS.symm
  clear hS
  repeat' (first | ((with_reducible refine kok ?_); kernel_rfl) | ((with_reducible refine keq_mk ?_); kernel_rfl) | with_reducible rfl | ((conv => whnf); first | exact trivial | refine And.intro ?_ ?_ | intro _ | (with_reducible refine (?_ : _ = true); (conv => lhs; whnf); done) | exact rfl))
  all_goals try (refine fin_of hk ?_; clear hk; rw [if_pos (by simp [tooLong, ← not_out, *])] at hS'; subst hS'; (conv => whnf); repeat' (first | exact trivial | refine And.intro ?_ ?_ | exact rfl))
  rename_i q1 q2 q3
  rw [out_isin] at q3
  have hlong : tooLong t = false := by simp_all [tooLong]
  have hns : t.ns ≤ 6 := by simp at q1; omega
  have hnx : t.nx ≤ 60 := by simp at q2; omega
  have hnc : t.nc ≤ 20 := by simp [isin] at q3; omega
  clear q1 q2 q3
  rw [if_neg (by rw [hlong]; exact Bool.false_ne_true)] at hS'
  refine ⟨Nat, fun i => [(1, .ptr 0 0), (5, .map 1), (32, .rsl 7 t.ns (smD t.nm t.sa)), (33, .int .i64 t.ns), (34, .int .i64 i)],
    fun i => [some (.row [.rsl 7 t.ns (smD t.nm t.sa), .rsl 5 t.nx (imD t.xa), .rsl 1 t.nc (imD t.ca), .int .i64 t.age, .int .i64 t.shear]), some (.mp (namesM t i))],
    fun i => t.ns - i, fun i => i ≤ t.ns ∧ c = pickE 2 (fe (srcErr t) i (t.ns - i)) (check2 t) ∧ ∀ j, j < i → srcErr t j = 0, [], 0, fun _ => ⟨rfl, rfl⟩, ?_, fun i hI => ?_⟩
  · repeat' (first | ((with_reducible refine kok ?_); kernel_rfl) | ((with_reducible refine keq_mk ?_); kernel_rfl) | with_reducible rfl | ((conv => whnf); first | exact trivial | refine And.intro ?_ ?_ | intro _ | (with_reducible refine (?_ : _ = true); (conv => lhs; whnf); done) | exact rfl))
    · rename_i q j hq hh; cases hh
    · omega
    · exact hS'
    · rename_i j hj; exact absurd hj (Nat.not_lt_zero j)
  obtain ⟨hi, hc, hz⟩ := hI
  clear hS'
  have f1 : decide ((i : Int) < t.ns) = true → i < t.ns := fun h => Int.ofNat_lt.mp (of_decide_eq_true h)
  repeat' (first | ((with_reducible refine kok ?_); kernel_rfl) | ((with_reducible refine keq_mk ?_); kernel_rfl) | with_reducible rfl | ((conv => whnf); first | exact trivial | refine And.intro ?_ ?_ | intro _ | (with_reducible refine (?_ : _ = true); (conv => lhs; whnf); done) | exact rfl))
  · omega
  · exact of_decide_eq_true (by assumption)
  · exact hf _ (f1 (by assumption))
  · rename_i g1 g2
    have e2 : srcErr t i = 6 := if_pos ((Bool.not_eq_true' _).mp g2)
    have hb := hc.trans (pick_bad (f1 g1) (by rw [e2]; decide))
    rw [e2] at hb
    subst hb
    (refine fin_of hk ?_; clear hk; (conv => whnf); repeat' (first | exact trivial | refine And.intro ?_ ?_ | exact rfl))
  · exact hf _ (f1 (by assumption))
  · rename_i g1 g2 g3
    have e1 := (namesM_has t i).symm.trans g3
    have e2 : srcErr t i = 5 := (if_neg (by rw [show nameS (t.nm i) = true from (Bool.not_eq_false' _).mp g2]; exact Bool.noConfusion)).trans (if_pos e1)
    have hb := hc.trans (pick_bad (f1 g1) (by rw [e2]; decide))
    rw [e2] at hb
    subst hb
    (refine fin_of hk ?_; clear hk; (conv => whnf); repeat' (first | exact trivial | refine And.intro ?_ ?_ | exact rfl))
  · rename_i g1 g2 g3 g4
    have e1 := (namesM_has t i).symm.trans g3
    have e2 := srcErr_kind (t := t) (i := i) ((Bool.not_eq_false' _).mp g2) e1
    have hb := hc.trans (pick_bad (f1 g1) (by rw [e2]; exact of_decide_eq_false ((Bool.not_eq_true' _).mp g4)))
    rw [e2] at hb
    subst hb
    (refine fin_of hk ?_; clear hk; (conv => whnf); repeat' (first | exact trivial | refine And.intro ?_ ?_ | exact rfl))
  · exact hf _ (f1 (by assumption))
  · omega
  · omega
  · rename_i g1 g2 g3 g4
    have e1 := (namesM_has t i).symm.trans g3
    have e2 := srcErr_kind (t := t) (i := i) ((Bool.not_eq_false' _).mp g2) e1
    have e4 : srcErr t i = 0 := by rw [e2]; exact of_decide_eq_true ((Bool.not_eq_false' _).mp g4)
    have e0 := f1 g1
    have hb := hc.trans (pick_next e0 e4)
    clear hc hk
    refine ⟨i + 1, ?_⟩
    repeat' (first | ((with_reducible refine kok ?_); kernel_rfl) | ((with_reducible refine keq_mk ?_); kernel_rfl) | with_reducible rfl | ((conv => whnf); first | exact trivial | refine And.intro ?_ ?_ | intro _ | (with_reducible refine (?_ : _ = true); (conv => lhs; whnf); done) | exact rfl))
    · show (if hasK (nameV t) i (.string (t.nm i)) = true then i else i + 1) = i + 1
      rw [hasK_name, e1]
      rfl
    · rename_i q j h1 h2
      show (bif veqV q (nameV t i) then (1 : Int) else if hasK (nameV t) i q = true then 1 else 0) = 1
      have h3 : (hasK (nameV t) i q || veqV q (nameV t i)) = true := h2
      cases h4 : veqV q (nameV t i) with
      | true => rfl
      | false => rw [h4, Bool.or_false] at h3; rw [h3]; rfl
    · omega
    · exact hb
    · rename_i j hj
      rcases Nat.lt_or_eq_of_le (Nat.le_of_lt_succ hj) with h | h
      · exact hz j h
      · rw [h]; exact e4
    · simp only; omega
  rename_i g1
  have e0 : i = t.ns := by have := of_decide_eq_false g1; omega
  have hc' : c = check2 t := hc.trans (pick_end (by omega))
  have hz' : ∀ j, j < t.ns → srcErr t j = 0 := fun j h => hz j (by omega)
  clear hc hi g1 hz e0 f1
  refine ⟨Nat, fun k => [(1, .ptr 0 0), (8, .ptr 4 0), (66, .rsl 5 t.nx (imD t.xa)), (67, .int .i64 t.nx), (68, .int .i64 k)],
    fun k => [some (.row [.rsl 7 t.ns (smD t.nm t.sa), .rsl 5 t.nx (imD t.xa), .rsl 1 t.nc (imD t.ca), .int .i64 t.age, .int .i64 t.shear]), some (.mp (namesM t i)), some (.mp (seenM t k)), some (.mp (lastM t k)), some (.row [.map 2, .map 3])],
    fun k => t.nx - k, fun k => k ≤ t.nx ∧ c = pickE 3 (fe (sndErr t) k (t.nx - k)) (check3 t), [], 0, fun _ => ⟨?_, ?_⟩, ?_, fun k2 hI => ?_⟩
  · conv => lhs; whnf
  · conv => lhs; whnf
  · clear hk
    repeat' (first | ((with_reducible refine kok ?_); kernel_rfl) | ((with_reducible refine keq_mk ?_); kernel_rfl) | with_reducible rfl | ((conv => whnf); first | exact trivial | refine And.intro ?_ ?_ | intro _ | (with_reducible refine (?_ : _ = true); (conv => lhs; whnf); done) | exact rfl))
    · rename_i q j hq hh; cases hh
    · omega
    · exact hc'
  obtain ⟨hi, hc⟩ := hI
  clear hc'
  have f1 : decide ((k2 : Int) < t.nx) = true → k2 < t.nx := fun h => Int.ofNat_lt.mp (of_decide_eq_true h)
  repeat' (first | ((with_reducible refine kok ?_); kernel_rfl) | ((with_reducible refine keq_mk ?_); kernel_rfl) | with_reducible rfl | ((conv => whnf); first | exact trivial | refine And.intro ?_ ?_ | intro _ | (with_reducible refine (?_ : _ = true); (conv => lhs; whnf); done) | exact rfl))
  · omega
  · exact of_decide_eq_true (by assumption)
  · rename_i g1
    have e1 := f1 g1
    refine ⟨t, i, k2, ?_⟩
    repeat' (first | ((with_reducible refine kok ?_); kernel_rfl) | ((with_reducible refine keq_mk ?_); kernel_rfl) | with_reducible rfl | ((conv => whnf); first | exact trivial | refine And.intro ?_ ?_ | intro _ | (with_reducible refine (?_ : _ = true); (conv => lhs; whnf); done) | exact rfl))
    · exact hns
    · exact hz' _ (by assumption)
    · rename_i g2 g3
      have hb := hc.trans (pick_bad e1 g2)
      subst hb
      (refine fin_of hk ?_; clear hk; (conv => whnf); repeat' (first | exact trivial | refine And.intro ?_ ?_ | exact rfl))
    · omega
    · omega
    · rename_i g2 g3
      exact absurd (of_decide_eq_true ((Bool.not_eq_false' _).mp g3)) g2
    · rename_i g2 g3
      exact absurd g3 (by decide)
    · omega
    · omega
    · rename_i g2 g3
      have hb := hc.trans (pick_next e1 g2)
      clear hk hc
      refine ⟨k2 + 1, ?_⟩
      repeat' (first | ((with_reducible refine kok ?_); kernel_rfl) | ((with_reducible refine keq_mk ?_); kernel_rfl) | with_reducible rfl | ((conv => whnf); first | exact trivial | refine And.intro ?_ ?_ | intro _ | (with_reducible refine (?_ : _ = true); (conv => lhs; whnf); done) | exact rfl))
      · omega
      · exact hb
      · simp only; omega
  rename_i g1
  have hc' : c = check3 t := hc.trans (pick_end (by have := of_decide_eq_false g1; omega))
  clear hc hi g1 f1
  refine ⟨Nat, fun k => [(1, .ptr 0 0), (11, .int .i64 (lowS t k)), (83, .rsl 1 t.nc (imD t.ca)), (84, .int .i64 t.nc), (85, .int .i64 k)],
    fun k => [some (.row [.rsl 7 t.ns (smD t.nm t.sa), .rsl 5 t.nx (imD t.xa), .rsl 1 t.nc (imD t.ca), .int .i64 t.age, .int .i64 t.shear]), some (.mp (namesM t i)), some (.mp (seenM t k2)), some (.mp (lastM t k2)), some (.row [.map 2, .map 3])],
    fun k => t.nc - k, fun k => k ≤ t.nc ∧ c = pickE 4 (fe (cutErr t) k (t.nc - k)) (check4 t), [], 0, fun _ => ⟨?_, ?_⟩, ?_, fun k3 hI => ?_⟩
  · conv => lhs; whnf
  · conv => lhs; whnf
  · clear hk
    repeat' (first | ((with_reducible refine kok ?_); kernel_rfl) | ((with_reducible refine keq_mk ?_); kernel_rfl) | with_reducible rfl | ((conv => whnf); first | exact trivial | refine And.intro ?_ ?_ | intro _ | (with_reducible refine (?_ : _ = true); (conv => lhs; whnf); done) | exact rfl))
    · omega
    · exact hc'
  obtain ⟨hi, hc⟩ := hI
  clear hc'
  have f1 : decide ((k3 : Int) < t.nc) = true → k3 < t.nc := fun h => Int.ofNat_lt.mp (of_decide_eq_true h)
  repeat' (first | ((with_reducible refine kok ?_); kernel_rfl) | ((with_reducible refine keq_mk ?_); kernel_rfl) | with_reducible rfl | ((conv => whnf); first | exact trivial | refine And.intro ?_ ?_ | intro _ | (with_reducible refine (?_ : _ = true); (conv => lhs; whnf); done) | exact rfl))
  · omega
  · exact of_decide_eq_true (by assumption)
  · rename_i g1 g2
    have e2 := cutErr_7 (t := t) (i := k3) g2
    have hb := hc.trans (pick_bad (f1 g1) (by rw [e2]; decide))
    rw [e2] at hb
    subst hb
    (refine fin_of hk ?_; clear hk; (conv => whnf); repeat' (first | exact trivial | refine And.intro ?_ ?_ | exact rfl))
  · rename_i g1 g2 g3
    have e2 := (cutErr_low (t := t) (i := k3) g2).trans (if_pos (of_decide_eq_true g3))
    have hb := hc.trans (pick_bad (f1 g1) (by rw [e2]; decide))
    rw [e2] at hb
    subst hb
    (refine fin_of hk ?_; clear hk; (conv => whnf); repeat' (first | exact trivial | refine And.intro ?_ ?_ | exact rfl))
  · omega
  · omega
  · rename_i g1 g2 g3
    have e2 := (cutErr_low (t := t) (i := k3) g2).trans (if_neg (of_decide_eq_false g3))
    have e1 := f1 g1
    have hb := hc.trans (pick_next e1 e2)
    clear hk hc
    refine ⟨k3 + 1, ?_⟩
    repeat' (first | ((with_reducible refine kok ?_); kernel_rfl) | ((with_reducible refine keq_mk ?_); kernel_rfl) | with_reducible rfl | ((conv => whnf); first | exact trivial | refine And.intro ?_ ?_ | intro _ | (with_reducible refine (?_ : _ = true); (conv => lhs; whnf); done) | exact rfl))
    · omega
    · exact hb
    · simp only; omega
  · rename_i g1 g2
    have hb : c = check4 t := hc.trans (pick_end (by have := of_decide_eq_false g1; omega))
    rw [out_isin] at g2
    rw [check4, if_neg (by rw [(Bool.not_eq_true' _).mp g2]; exact Bool.noConfusion)] at hb
    subst hb
    (refine fin_of hk ?_; clear hk; (conv => whnf); repeat' (first | exact trivial | refine And.intro ?_ ?_ | exact rfl))
  · rename_i g1 g2 g3
    have hb : c = check4 t := hc.trans (pick_end (by have := of_decide_eq_false g1; omega))
    rw [out_isin] at g3
    rw [check4, if_neg (by rw [(Bool.not_eq_true' _).mp g3, Bool.and_false]; exact Bool.noConfusion)] at hb
    subst hb
    (refine fin_of hk ?_; clear hk; (conv => whnf); repeat' (first | exact trivial | refine And.intro ?_ ?_ | exact rfl))
  · rename_i g1 g2 g3
    have hb : c = check4 t := hc.trans (pick_end (by have := of_decide_eq_false g1; omega))
    rw [out_isin] at g2 g3
    rw [check4, if_pos (by rw [(Bool.not_eq_false' _).mp g2, (Bool.not_eq_false' _).mp g3]; rfl)] at hb
    subst hb
    (refine fin_of hk ?_; clear hk; (conv => whnf); repeat' (first | exact trivial | refine And.intro ?_ ?_ | exact rfl))

theorem fe_zero {e : Nat → Int} : ∀ {n i : Nat}, (fe e i n).2 = 0 → ∀ j, i ≤ j → j < i + n → e j = 0
  | 0, i, _, j, h1, h2 => absurd h2 (by omega)
  | n + 1, i, h, j, h1, h2 => by
    simp only [fe] at h
    split at h
    · rename_i h3; exact absurd h h3
    · rename_i h3
      rcases Nat.eq_or_lt_of_le h1 with rfl | h4
      · exact Classical.not_not.mp h3
      · exact fe_zero h j h4 (by omega)
theorem pickE_zero {p : Int} {q : Int × Int} {r : Int × Int × Int} (h : (pickE p q r).2.2 = 0) : q.2 = 0 ∧ r.2.2 = 0 := by
  unfold pickE at h
  split at h
  · rename_i h1; exact absurd h h1
  · rename_i h1; exact ⟨Classical.not_not.mp h1, h⟩
/-- What Check has looked at. -/
theorem check_ok {t : Task} (h : (checkS t).2.2 = 0) : t.ok := by
  unfold checkS at h
  split at h
  · cases h
  rename_i hl
  obtain ⟨h1, h⟩ := pickE_zero h
  obtain ⟨h2, h⟩ := pickE_zero h
  obtain ⟨h3, h4⟩ := pickE_zero h
  have s1 := fun j (hj : j < t.ns) => fe_zero h1 j (Nat.zero_le j) (by omega : j < 0 + t.ns)
  have s2 := fun j (hj : j < t.nx) => fe_zero h2 j (Nat.zero_le j) (by omega : j < 0 + t.nx)
  have s3 := fun j (hj : j < t.nc) => fe_zero h3 j (Nat.zero_le j) (by omega : j < 0 + t.nc)
  simp only [tooLong, isin, Bool.or_eq_true, decide_eq_true_eq, Bool.not_eq_true', Bool.and_eq_false_iff, decide_eq_false_iff_not, not_or] at hl
  have src : ∀ j, j < t.ns → srcRange t j = true := fun j hj => by
    have := s1 j hj
    unfold srcErr at this
    split at this
    · cases this
    split at this
    · cases this
    split at this
    · cases this
    split at this
    · cases this
    rename_i h; simpa using h
  have snd : ∀ j, j < t.nx → isin (t.xa j 0) 0 (t.ns - 1) = true ∧ sndRange t j = true := fun j hj => by
    have := s2 j hj
    unfold sndErr at this
    split at this
    · cases this
    split at this
    · cases this
    rename_i h1 h2
    exact ⟨by simpa using h1, by simpa using h2⟩
  have cut : ∀ j, j < t.nc → isin (t.ca j 0) 1 100000000 = true ∧ (0 < j → t.ca (j - 1) 0 < t.ca j 0) := fun j hj => by
    have := s3 j hj
    unfold cutErr at this
    split at this
    · cases this
    split at this
    · cases this
    rename_i h1 h2
    exact ⟨by simpa using h1, fun h0 => by omega⟩
  have end4 : isin t.age 0 1000 = true ∧ isin t.shear 0 1000 = true := by
    unfold check4 at h4
    split at h4
    · rename_i h; simpa using h
    · cases h4
  simp only [srcRange, sndRange, isin, Bool.and_eq_true, decide_eq_true_eq] at src snd cut end4
  exact ⟨by omega, by omega, by omega, fun i hi => by have := src i hi; omega, fun i hi => by have := src i hi; omega, fun i hi => by have := src i hi; omega, fun i hi => by have := snd i hi; omega, fun i hi => by have := snd i hi; omega,
    fun i hi => by have h5 := snd i hi; have := src (t.xa i 0).toNat (by omega); omega, fun i hi => by have := snd i hi; omega, fun i hi => by have := snd i hi; omega, fun i hi => by have := cut i hi; omega, fun i hi => by have := (cut (i + 1) hi).2 (by omega); simpa using this, end4.1, end4.2⟩
end Go.Proofs.Ytlecbjbjgfpfeaa
end
section
set_option linter.unusedVariables false
set_option linter.unusedSimpArgs false
set_option maxRecDepth 100000
set_option maxHeartbeats 4000000
namespace Go.Proofs.Ytlecbjbjgfpfeaa
open Go.V

def lib18 : Lib := (25, mk rCheck) :: lib17
theorem lib18_ok : LibOK Go.Proofs.Try.prog lib18 := .cons windCheck_ok lib17_ok

def Task.cells (t : Task) : List V.D := [.rsl 7 t.ns (smD t.nm t.sa), .rsl 5 t.nx (imD t.xa), .rsl 1 t.nc (imD t.ca), .int .i64 t.age, .int .i64 t.shear]
def viewL (t : Task) (tick now : Int) : List V.D := [.rsl 7 t.ns (smD t.nm t.sa), .rsl 5 t.nx (imD t.xa), .rsl 1 t.nc (imD t.ca), .int .i64 t.age, .int .i64 t.shear, .int .i64 tick, .int .i64 now]
theorem view_imp {a b c e f : V.D} {tick now : Int} {k : Prop} (h : TaskIs (.agg [a, b, c, e, f])) (hk : k) : impB noGh (.agg [a, b, c, e, f, .int .i64 tick, .int .i64 now]) (.agg (viewL (taskOf (.agg [a, b, c, e, f])) tick now)) k := by
  unfold TaskIs at h
  split at h
  · rename_i heq
    cases heq
    exact ⟨rfl, h.1, rfl, h.2.1, rfl, h.2.2, rfl, rfl, rfl, rfl, hk⟩
  · exact h.elim

def rParts : List D → Option (Prop × D) := fun ds => match ds with
  | [.int .i64 a, .int .i64 b, .int .i64 l] => some (sm a ∧ sm b ∧ 0 < l ∧ l ≤ 1099511627776, .int .i64 (begun a b l))
  | _ => none
theorem parts_ok : PSound Go.Proofs.Try.prog 58 (mk rParts) := by
  refine psound_mk Try.func58 (by kernel_rfl) rfl (ctx (.nil _)) ?_
  (intro ds p d h; unfold rParts at h; split at h <;> first | (cases h; done) | skip; cases h; refine ⟨Nat.le_of_ble_eq_true rfl, fun hp k hk => ?_⟩)
  rename_i a b l
  refine ⟨[.int .i64 a, .int .i64 b, .int .i64 l], rfl, rfl, rfl, ?_⟩
  obtain ⟨ha, hb, hl, hl2⟩ := hp
  unfold sm at ha hb
  generalize hS : begun a b l = c at *
  have hS' : c = (max (a - b) (b - a) + l - 1).tdiv l := hS.symm
  clear hS
  have e1 : a > b → max (a - b) (b - a) + l - 1 = a - b + l - 1 := fun h => by omega
  have e2 : ¬ a > b → max (a - b) (b - a) + l - 1 = b - a + l - 1 := fun h => by omega
  repeat' (first | ((with_reducible refine kok ?_); kernel_rfl) | ((with_reducible refine keq_mk ?_); kernel_rfl) | with_reducible rfl | ((conv => whnf); first | exact trivial | refine And.intro ?_ ?_ | intro _ | (with_reducible refine (?_ : _ = true); (conv => lhs; whnf); done) | exact rfl))
  all_goals try refine fin_of hk ?_
  all_goals clear hk
  repeat' (first | ((with_reducible refine kok ?_); kernel_rfl) | ((with_reducible refine keq_mk ?_); kernel_rfl) | with_reducible rfl | ((conv => whnf); first | exact trivial | refine And.intro ?_ ?_ | intro _ | (with_reducible refine (?_ : _ = true); (conv => lhs; whnf); done) | exact rfl))
  all_goals try omega
  all_goals first
    | exact Int.le_trans (by omega) (tdiv_bound hl (by omega) (by omega)).1
    | exact Int.le_trans (tdiv_bound hl (by omega) (by omega)).2 (by omega)
    | (rw [hS', e1 (of_decide_eq_true (by assumption))]; done)
    | (rw [hS', e2 (of_decide_eq_false (by assumption))]; done)

def doubtX (t : Task) (x0 x1 x2 h a : Int) : Int := t.sa x0.toNat 1 + t.age * begun x1 a 600 + t.shear * begun x2 h 100000
def rDoubtX : List V.D → Option (Prop × V.D) := fun ds => match ds with
  | [.agg [a, b, c, e, f, .int .i64 tick, .int .i64 now], .agg [.int .i64 x0, .int .i64 x1, .int .i64 x2, .int .i64 x3, .int .i64 x4], .int .i64 h] =>
    some (TaskIs (.agg [a, b, c, e, f]) ∧ (0 ≤ x0 ∧ x0 < (taskOf (.agg [a, b, c, e, f])).ns) ∧ (0 ≤ x1 ∧ x1 ≤ 100000) ∧ (0 ≤ x2 ∧ x2 < 100000000) ∧
      (0 ≤ (taskOf (.agg [a, b, c, e, f])).sa x0.toNat 1 ∧ (taskOf (.agg [a, b, c, e, f])).sa x0.toNat 1 ≤ 5000) ∧ (0 ≤ (taskOf (.agg [a, b, c, e, f])).age ∧ (taskOf (.agg [a, b, c, e, f])).age ≤ 1000) ∧
      (0 ≤ (taskOf (.agg [a, b, c, e, f])).shear ∧ (taskOf (.agg [a, b, c, e, f])).shear ≤ 1000) ∧ (0 ≤ h ∧ h < 100000000) ∧ (0 ≤ tick ∧ tick ≤ 100000), .int .i64 (doubtX (taskOf (.agg [a, b, c, e, f])) x0 x1 x2 h tick))
  | _ => none
def lib19 : Lib := (58, mk rParts) :: lib18
theorem lib19_ok : LibOK Go.Proofs.Try.prog lib19 := .cons parts_ok lib18_ok
theorem viewDoubt_ok : PSound Go.Proofs.Try.prog 40 (mk rDoubtX) := by
  refine psound_mk Try.func40 (by kernel_rfl) rfl (ctx lib19_ok) ?_
  (intro ds p d h; unfold rDoubtX at h; split at h <;> first | (cases h; done) | skip; cases h; refine ⟨Nat.le_of_ble_eq_true rfl, fun hp k hk => ?_⟩)
  rename_i a b c e f tick now x0 x1 x2 x3 x4 h
  obtain ⟨ht, h3, h5, h6, h7, h8, h9, h10, h11⟩ := hp
  refine ⟨[.agg (viewL (taskOf (.agg [a, b, c, e, f])) tick now), .agg [.int .i64 x0, .int .i64 x1, .int .i64 x2, .int .i64 x3, .int .i64 x4], .int .i64 h], view_imp ht ⟨rfl, rfl, rfl, rfl, rfl, rfl, ?_⟩⟩
  clear ht
  generalize taskOf (.agg [a, b, c, e, f]) = t at *
  have b1 := begun_bound (l := 600) ⟨h5.1, by omega⟩ ⟨h11.1, by omega⟩ (by omega)
  have b2 := begun_bound (l := 100000) (b := h) ⟨h6.1, by omega⟩ ⟨h10.1, by omega⟩ (by omega)
  have m1 := mul_bound h8 b1
  have m2 := mul_bound h9 b2
  generalize hS : doubtX t x0 x1 x2 h tick = w at *
  have hS' : w = t.sa x0.toNat 1 + t.age * begun x1 tick 600 + t.shear * begun x2 h 100000 := hS.symm
  clear hS
  repeat' (first | ((with_reducible refine kok ?_); kernel_rfl) | ((with_reducible refine keq_mk ?_); kernel_rfl) | with_reducible rfl | ((conv => whnf); first | exact trivial | refine And.intro ?_ ?_ | intro _ | (with_reducible refine (?_ : _ = true); (conv => lhs; whnf); done) | exact rfl))
  all_goals try refine fin_of hk ?_
  all_goals clear hk
  repeat' (first | ((with_reducible refine kok ?_); kernel_rfl) | ((with_reducible refine keq_mk ?_); kernel_rfl) | with_reducible rfl | ((conv => whnf); first | exact trivial | refine And.intro ?_ ?_ | intro _ | (with_reducible refine (?_ : _ = true); (conv => lhs; whnf); done) | exact rfl))
  all_goals try simp only [sm, Nat.zero_add, Nat.add_zero, Nat.reduceAdd] at *
  all_goals try omega

/-- The heights of a band. -/
def rBand : List V.D → Option (Prop × V.D) := fun ds => match ds with
  | [.agg [a, b, c, e, f, .int .i64 tick, .int .i64 now], .int .i64 i] =>
    some (TaskIs (.agg [a, b, c, e, f]) ∧ (0 ≤ i ∧ i < (taskOf (.agg [a, b, c, e, f])).nc) ∧ (taskOf (.agg [a, b, c, e, f])).nc ≤ 20 ∧ (-1099511627776 ≤ (taskOf (.agg [a, b, c, e, f])).ca i.toNat 0 ∧ (taskOf (.agg [a, b, c, e, f])).ca i.toNat 0 ≤ 1099511627776),
      .agg [.int .i64 (lowS (taskOf (.agg [a, b, c, e, f])) i.toNat), .int .i64 ((taskOf (.agg [a, b, c, e, f])).ca i.toNat 0 - 1)])
  | _ => none
theorem viewBand_ok : PSound Go.Proofs.Try.prog 42 (mk rBand) := by
  refine psound_mk Try.func42 (by kernel_rfl) rfl (ctx lib19_ok) ?_
  (intro ds p d h; unfold rBand at h; split at h <;> first | (cases h; done) | skip; cases h; refine ⟨Nat.le_of_ble_eq_true rfl, fun hp k hk => ?_⟩)
  rename_i a b c e f tick now i
  obtain ⟨ht, ⟨h1, h2⟩, h3, h4⟩ := hp
  refine ⟨[.agg (viewL (taskOf (.agg [a, b, c, e, f])) tick now), .int .i64 i], view_imp ht ⟨rfl, ?_⟩⟩
  clear ht
  generalize taskOf (.agg [a, b, c, e, f]) = t at *
  obtain ⟨n, rfl⟩ := Int.eq_ofNat_of_zero_le h1
  have e1 : 0 < n → ((n : Int) - 1).toNat = n - 1 := fun h => by omega
  repeat' (first | ((with_reducible refine kok ?_); kernel_rfl) | ((with_reducible refine keq_mk ?_); kernel_rfl) | with_reducible rfl | ((conv => whnf); first | exact trivial | refine And.intro ?_ ?_ | intro _ | (with_reducible refine (?_ : _ = true); (conv => lhs; whnf); done) | exact rfl))
  all_goals try refine fin_of hk ?_
  all_goals clear hk
  repeat' (first | ((with_reducible refine kok ?_); kernel_rfl) | ((with_reducible refine keq_mk ?_); kernel_rfl) | with_reducible rfl | ((conv => whnf); first | exact trivial | refine And.intro ?_ ?_ | intro _ | (with_reducible refine (?_ : _ = true); (conv => lhs; whnf); done) | exact rfl))
  all_goals try simp only [lowS, Int.toNat_natCast, Nat.zero_add, Nat.add_zero, Nat.reduceAdd, decide_eq_true_eq, decide_eq_false_iff_not] at *
  all_goals try omega
  all_goals (rw [e1 (by omega), if_neg (by omega)])
end Go.Proofs.Ytlecbjbjgfpfeaa
end
section
set_option linter.unusedVariables false
set_option linter.unusedSimpArgs false
set_option maxRecDepth 100000
set_option maxHeartbeats 4000000
namespace Go.Proofs.Ytlecbjbjgfpfeaa
open Go.V

def empty (a : Nat → Nat → Int) (i : Nat) : Bool := decide (a i 1 < a i 0)
theorem emptyOne_ok : PSound Go.Proofs.Try.prog 62 (mk (r11 fun a b => decide (b < a))) := by
  refine psound_mk Try.func62 (by kernel_rfl) rfl (ctx lib1_ok) ?_
  (intro ds p d h; unfold r11 at h; split at h <;> first | (cases h; done) | skip; cases h; refine ⟨Nat.le_of_ble_eq_true rfl, fun hp k hk => ?_⟩)
  rename_i a b
  refine ⟨[.agg [.int .i64 a, .int .i64 b]], ?_⟩
  repeat' (first | ((with_reducible refine kok ?_); kernel_rfl) | ((with_reducible refine keq_mk ?_); kernel_rfl) | with_reducible rfl | ((conv => whnf); first | exact trivial | refine And.intro ?_ ?_ | intro _ | (with_reducible refine (?_ : _ = true); (conv => lhs; whnf); done) | exact rfl))
  all_goals (refine fin_of hk ?_; clear hk; repeat' (first | ((with_reducible refine kok ?_); kernel_rfl) | ((with_reducible refine keq_mk ?_); kernel_rfl) | with_reducible rfl | ((conv => whnf); first | exact trivial | refine And.intro ?_ ?_ | intro _ | (with_reducible refine (?_ : _ = true); (conv => lhs; whnf); done) | exact rfl)))
def lib20 : Lib := (62, mk (r11 fun a b => decide (b < a))) :: (40, mk rDoubtX) :: (42, mk rBand) :: lib19
theorem lib20_ok : LibOK Go.Proofs.Try.prog lib20 := .cons emptyOne_ok (.cons viewDoubt_ok (.cons viewBand_ok lib19_ok))

def rIndexSpan : List D → Option (Prop × D) := fun ds => match ds with
  | [.rsl 2 n g, .fn 62 [] []] => some (IM n 2 g ∧ n ≤ 1099511627776, .int .i64 (firstFrom (empty (im g)) 0 n))
  | _ => none
theorem indexSpan_ok : PSound Go.Proofs.Try.prog 70 (mk rIndexSpan) := by
  refine psound_mk Try.func70 (by kernel_rfl) rfl (ctx lib20_ok) ?_
  (intro ds p d h; unfold rIndexSpan at h; split at h <;> first | (cases h; done) | skip; cases h; refine ⟨Nat.le_of_ble_eq_true rfl, fun hp k hk => ?_⟩)
  rename_i n g
  obtain ⟨h1, h2⟩ := hp
  refine ⟨[.rsl 2 n (imD (im g)), .fn 62 [] []], rfl, h1, ?_⟩
  clear h1
  generalize im g = a at *
  generalize hS : firstFrom (empty a) 0 n = c at *
  repeat' (first | ((with_reducible refine kok ?_); kernel_rfl) | ((with_reducible refine keq_mk ?_); kernel_rfl) | with_reducible rfl | ((conv => whnf); first | exact trivial | refine And.intro ?_ ?_ | intro _ | (with_reducible refine (?_ : _ = true); (conv => lhs; whnf); done) | exact rfl))
  refine ⟨Nat, fun i => [(0, .rsl 2 n (imD a)), (1, .fn 62 [] []), (7, .int .i64 n), (8, .int .i64 i)], fun _ => [], fun i => n - i, fun i => i ≤ n ∧ c = firstFrom (empty a) i (n - i), [], 0, fun _ => ⟨rfl, rfl⟩, ?_, fun i hI => ?_⟩
  · repeat' (first | ((with_reducible refine kok ?_); kernel_rfl) | ((with_reducible refine keq_mk ?_); kernel_rfl) | with_reducible rfl | ((conv => whnf); first | exact trivial | refine And.intro ?_ ?_ | intro _ | (with_reducible refine (?_ : _ = true); (conv => lhs; whnf); done) | exact rfl))
    · omega
    · exact hS.symm
  obtain ⟨hi, hc⟩ := hI
  clear hS
  have f1 : decide ((i : Int) < n) = true → i < n := fun h => Int.ofNat_lt.mp (of_decide_eq_true h)
  repeat' (first | ((with_reducible refine kok ?_); kernel_rfl) | ((with_reducible refine keq_mk ?_); kernel_rfl) | with_reducible rfl | ((conv => whnf); first | exact trivial | refine And.intro ?_ ?_ | intro _ | (with_reducible refine (?_ : _ = true); (conv => lhs; whnf); done) | exact rfl))
  · omega
  · exact of_decide_eq_true (by assumption)
  · rename_i g1 g2
    rw [firstFrom_step (f1 g1), if_pos (by exact g2)] at hc
    subst hc
    (refine fin_of hk ?_; clear hk; (conv => whnf); repeat' (first | exact trivial | refine And.intro ?_ ?_ | exact rfl))
  · omega
  · omega
  · rename_i g1 g2
    have e1 := f1 g1
    rw [firstFrom_step e1, if_neg (by rw [show empty a i = false from g2]; exact Bool.noConfusion)] at hc
    clear hk
    refine ⟨i + 1, ?_⟩
    repeat' (first | ((with_reducible refine kok ?_); kernel_rfl) | ((with_reducible refine keq_mk ?_); kernel_rfl) | with_reducible rfl | ((conv => whnf); first | exact trivial | refine And.intro ?_ ?_ | intro _ | (with_reducible refine (?_ : _ = true); (conv => lhs; whnf); done) | exact rfl))
    · omega
    · exact hc
    · simp only; omega
  · rename_i g1
    rw [firstFrom_end (by have := of_decide_eq_false g1; omega)] at hc
    subst hc
    (refine fin_of hk ?_; clear hk; (conv => whnf); repeat' (first | exact trivial | refine And.intro ?_ ?_ | exact rfl))
def rEmptyAny : List D → Option (Prop × D) := fun ds => match ds with
  | [.rsl 2 n g, .fn 62 [] []] => some (IM n 2 g ∧ n ≤ 1099511627776, .bool (anyBelow (empty (im g)) n))
  | _ => none
def rSome : List D → Option (Prop × D) := fun ds => match ds with
  | [.rsl 2 n g] => some (IM n 2 g ∧ n ≤ 1099511627776, .bool (!anyBelow (empty (im g)) n))
  | _ => none
def lib21 : Lib := (70, mk rIndexSpan) :: lib20
theorem lib21_ok : LibOK Go.Proofs.Try.prog lib21 := .cons indexSpan_ok lib20_ok
theorem containsSpan_ok : PSound Go.Proofs.Try.prog 61 (mk rEmptyAny) := by
  refine psound_mk Try.func61 (by kernel_rfl) rfl (ctx lib21_ok) ?_
  (intro ds p d h; unfold rEmptyAny at h; split at h <;> first | (cases h; done) | skip; cases h; refine ⟨Nat.le_of_ble_eq_true rfl, fun hp k hk => ?_⟩)
  rename_i n g
  obtain ⟨h1, h2⟩ := hp
  refine ⟨[.rsl 2 n (imD (im g)), .fn 62 [] []], rfl, h1, ?_⟩
  clear h1
  generalize im g = a at *
  repeat' (first | ((with_reducible refine kok ?_); kernel_rfl) | ((with_reducible refine keq_mk ?_); kernel_rfl) | with_reducible rfl | ((conv => whnf); first | exact trivial | refine And.intro ?_ ?_ | intro _ | (with_reducible refine (?_ : _ = true); (conv => lhs; whnf); done) | exact rfl))
  · exact h2
  · (refine fin_of hk ?_; clear hk; repeat' (first | ((with_reducible refine kok ?_); kernel_rfl) | ((with_reducible refine keq_mk ?_); kernel_rfl) | with_reducible rfl | ((conv => whnf); first | exact trivial | refine And.intro ?_ ?_ | intro _ | (with_reducible refine (?_ : _ = true); (conv => lhs; whnf); done) | exact rfl)))
    exact firstFrom_any _ _
def lib22 : Lib := (61, mk rEmptyAny) :: lib21
theorem lib22_ok : LibOK Go.Proofs.Try.prog lib22 := .cons containsSpan_ok lib21_ok
theorem leftSome_ok : PSound Go.Proofs.Try.prog 43 (mk rSome) := by
  refine psound_mk Try.func43 (by kernel_rfl) rfl (ctx lib22_ok) ?_
  (intro ds p d h; unfold rSome at h; split at h <;> first | (cases h; done) | skip; cases h; refine ⟨Nat.le_of_ble_eq_true rfl, fun hp k hk => ?_⟩)
  rename_i n g
  obtain ⟨h1, h2⟩ := hp
  refine ⟨[.rsl 2 n (imD (im g))], rfl, h1, ?_⟩
  clear h1
  generalize im g = a at *
  repeat' (first | ((with_reducible refine kok ?_); kernel_rfl) | ((with_reducible refine keq_mk ?_); kernel_rfl) | with_reducible rfl | ((conv => whnf); first | exact trivial | refine And.intro ?_ ?_ | intro _ | (with_reducible refine (?_ : _ = true); (conv => lhs; whnf); done) | exact rfl))
  · exact h2
  · (refine fin_of hk ?_; clear hk; repeat' (first | ((with_reducible refine kok ?_); kernel_rfl) | ((with_reducible refine keq_mk ?_); kernel_rfl) | with_reducible rfl | ((conv => whnf); first | exact trivial | refine And.intro ?_ ?_ | intro _ | (with_reducible refine (?_ : _ = true); (conv => lhs; whnf); done) | exact rfl)))

/-- The view of a task, if it is valid. -/
def rLook : List V.D → Option (Prop × V.D) := fun ds => match ds with
  | [d, .int .i64 tick, .int .i64 now] => some (TaskIs d ∧ (taskOf d).fits, .tup [.agg (viewL (taskOf d) tick now), .int .i64 (checkS (taskOf d)).2.2])
  | _ => none
theorem look_ok : PSound Go.Proofs.Try.prog 35 (mk rLook) := by
  refine psound_mk Try.func35 (by kernel_rfl) rfl (ctx lib22_ok) ?_
  (intro ds p d h; unfold rLook at h; split at h <;> first | (cases h; done) | skip; cases h; refine ⟨Nat.le_of_ble_eq_true rfl, fun hp k hk => ?_⟩)
  rename_i d tick now
  obtain ⟨ht, hf⟩ := hp
  refine ⟨[(taskOf d).D, .int .i64 tick, .int .i64 now], task_imp ht ⟨rfl, rfl, ?_⟩⟩
  clear ht
  generalize taskOf d = t at *
  generalize hS : checkS t = c at *
  repeat' (first | ((with_reducible refine kok ?_); kernel_rfl) | ((with_reducible refine keq_mk ?_); kernel_rfl) | with_reducible rfl | ((conv => whnf); first | exact trivial | refine And.intro ?_ ?_ | intro _ | (with_reducible refine (?_ : _ = true); (conv => lhs; whnf); done) | exact rfl))
  · exact hf _ (by assumption)
  · (refine fin_of hk ?_; clear hk; repeat' (first | ((with_reducible refine kok ?_); kernel_rfl) | ((with_reducible refine keq_mk ?_); kernel_rfl) | with_reducible rfl | ((conv => whnf); first | exact trivial | refine And.intro ?_ ?_ | intro _ | (with_reducible refine (?_ : _ = true); (conv => lhs; whnf); done) | exact rfl)))
    all_goals (rw [← hS]; rfl)
end Go.Proofs.Ytlecbjbjgfpfeaa
end
section
set_option linter.unusedVariables false
set_option linter.unusedSimpArgs false
set_option maxRecDepth 100000
set_option maxHeartbeats 4000000
namespace Go.Proofs.Ytlecbjbjgfpfeaa
open Go.V

def lib23 : Lib := (43, mk rSome) :: (35, mk rLook) :: lib22
theorem lib23_ok : LibOK Go.Proofs.Try.prog lib23 := .cons leftSome_ok (.cons look_ok lib22_ok)
def leftG (xl xh yl yh : Int) (i j : Nat) : V.D := .int .i64 (if i = 0 then (if j = 0 then xl else xh) else (if j = 0 then yl else yh))
def nrH (xl xh yl yh : Int) : HL := [none, none, none, none, none, some (.buf 53 2 2 (leftG xl xh yl yh)), none, none, none, none, none, none]
def rNarrow : CRule := fun ds H K => ∃ (x y d xl xh yl yh : Int), ds = [.own 5 2, .int .i64 x, .int .i64 y, .int .i64 d] ∧ H = nrH xl xh yl yh ∧ (sm x ∧ sm y ∧ sm d) ∧
  K (.ret (.tup [])) (nrH (max xl (x - d)) (min xh (x + d)) (max yl (y - d)) (min yh (y + d)))
theorem narrow_ok : CSound Go.Proofs.Try.prog 60 rNarrow := by
  refine csound_mk Try.func60 (by kernel_rfl) rfl (ctx lib23_ok) fun ds H K h => ?_
  obtain ⟨x, y, d, xl, xh, yl, yh, rfl, rfl, ⟨h1, h2, h3⟩, hk⟩ := h
  unfold sm at h1 h2 h3
  repeat' (first | ((with_reducible refine kok ?_); kernel_rfl) | ((with_reducible refine keq_mk ?_); kernel_rfl) | with_reducible rfl | ((conv => whnf); first | exact trivial | refine And.intro ?_ ?_ | intro _ | (with_reducible refine (?_ : _ = true); (conv => lhs; whnf); done) | exact rfl))
  refine ⟨Nat, fun j => [(0, .own 5 2), (3, .int .i64 d), (12, .agg [.int .i64 x, .int .i64 y]), (13, .int .i64 j)],
    fun j => nrH (if 1 ≤ j then max xl (x - d) else xl) (if 1 ≤ j then min xh (x + d) else xh) (if 2 ≤ j then max yl (y - d) else yl) (if 2 ≤ j then min yh (y + d) else yh),
    fun j => 2 - j, fun j => j ≤ 2, [], 0, fun _ => ⟨?_, ?_⟩, ?_, fun j hj => ?_⟩
  · conv => lhs; whnf
  · conv => lhs; whnf
  · clear hk
    repeat' (first | ((with_reducible refine kok ?_); kernel_rfl) | ((with_reducible refine keq_mk ?_); kernel_rfl) | with_reducible rfl | ((conv => whnf); first | exact trivial | refine And.intro ?_ ?_ | intro _ | (with_reducible refine (?_ : _ = true); (conv => lhs; whnf); done) | exact rfl))
    exact Nat.zero_le 2
  have c0 : (List.map numOf [D.int .i64 x, D.int .i64 y]).getD ((0 : Nat) : Int).toNat 0 = x := rfl
  have c1 : (List.map numOf [D.int .i64 x, D.int .i64 y]).getD ((1 : Nat) : Int).toNat 0 = y := rfl
  have hj3 : j = 0 ∨ j = 1 ∨ j = 2 := by omega
  rcases hj3 with rfl | rfl | rfl
  · repeat' (first | ((with_reducible refine kok ?_); kernel_rfl) | ((with_reducible refine keq_mk ?_); kernel_rfl) | with_reducible rfl | ((conv => whnf); first | exact trivial | refine And.intro ?_ ?_ | intro _ | (with_reducible refine (?_ : _ = true); (conv => lhs; whnf); done) | exact rfl))
    all_goals try omega
    · refine ⟨1, ?_⟩
      clear hk
      repeat' (first | ((with_reducible refine kok ?_); kernel_rfl) | ((with_reducible refine keq_mk ?_); kernel_rfl) | with_reducible rfl | ((conv => whnf); first | exact trivial | refine And.intro ?_ ?_ | intro _ | (with_reducible refine (?_ : _ = true); (conv => lhs; whnf); done) | exact rfl))
      · rename_i i j hi hj
        have hi' : i = 0 ∨ i = 1 := by omega
        have hj' : j = 0 ∨ j = 1 := by omega
        rcases hi' with rfl | rfl <;> rcases hj' with rfl | rfl <;> rfl
      · simp only; omega
      · simp only; omega
    · rename_i g1; exact absurd g1 (by decide)
  · repeat' (first | ((with_reducible refine kok ?_); kernel_rfl) | ((with_reducible refine keq_mk ?_); kernel_rfl) | with_reducible rfl | ((conv => whnf); first | exact trivial | refine And.intro ?_ ?_ | intro _ | (with_reducible refine (?_ : _ = true); (conv => lhs; whnf); done) | exact rfl))
    all_goals try omega
    · refine ⟨2, ?_⟩
      clear hk
      repeat' (first | ((with_reducible refine kok ?_); kernel_rfl) | ((with_reducible refine keq_mk ?_); kernel_rfl) | with_reducible rfl | ((conv => whnf); first | exact trivial | refine And.intro ?_ ?_ | intro _ | (with_reducible refine (?_ : _ = true); (conv => lhs; whnf); done) | exact rfl))
      · rename_i i j hi hj
        have hi' : i = 0 ∨ i = 1 := by omega
        have hj' : j = 0 ∨ j = 1 := by omega
        rcases hi' with rfl | rfl <;> rcases hj' with rfl | rfl <;> rfl
      · simp only; omega
      · simp only; omega
    · rename_i g1; exact absurd g1 (by decide)
  · have g0 : decide (((2 : Nat) : Int) < 2) = false := rfl
    repeat' (first | ((with_reducible refine kok ?_); kernel_rfl) | ((with_reducible refine keq_mk ?_); kernel_rfl) | with_reducible rfl | ((conv => whnf); first | exact trivial | refine And.intro ?_ ?_ | intro _ | (with_reducible refine (?_ : _ = true); (conv => lhs; whnf); done) | exact rfl))
    all_goals try (exfalso; exact absurd (by assumption : decide (((2 : Nat) : Int) < 2) = true) (by rw [g0]; exact Bool.noConfusion))
    refine ⟨.tup [], nrH (max xl (x - d)) (min xh (x + d)) (max yl (y - d)) (min yh (y + d)), ?_⟩
    repeat' (first | ((with_reducible refine kok ?_); kernel_rfl) | ((with_reducible refine keq_mk ?_); kernel_rfl) | with_reducible rfl | ((conv => whnf); first | exact trivial | refine And.intro ?_ ?_ | intro _ | (with_reducible refine (?_ : _ = true); (conv => lhs; whnf); done) | exact rfl))
    exact hk
def Lsays : Libs := ⟨lib23, [(59, inl (cxOf tab lib23) Go.Proofs.Try.f59), (60, rNarrow), (37, inl (cxOf tab lib23) Go.Proofs.Try.f37)],
  [(57, inlI (cxOf tab lib23) Go.Proofs.Try.f57 (codeOf Go.Proofs.Try.f57))], []⟩
theorem Lsays_ok : LibsOK Go.Proofs.Try.prog Lsays := ⟨lib23_ok,
  asGet_cons (csound_in Try.func59 (by kernel_rfl) rfl (ctx lib23_ok)) (asGet_cons narrow_ok (asGet_cons (csound_in Try.func37 (by kernel_rfl) rfl (ctx lib23_ok)) (fun g s h => by cases h))),
  asGet_cons (isound_of Try.func57 (by kernel_rfl) rfl (ctx lib23_ok)) (fun g s h => by cases h), fun f r h => (by cases h)⟩

def rViewSays : List V.D → Option (Prop × V.D) := fun ds => match ds with
  | [.agg [a, b, c, e, f, .int .i64 tick, .int .i64 now], .int .i64 s, .agg [.int .i64 low, .int .i64 high]] =>
    some (TaskIs (.agg [a, b, c, e, f]) ∧ (taskOf (.agg [a, b, c, e, f])).ok ∧ (0 ≤ low ∧ low < 100000000) ∧ (0 ≤ high ∧ high < 100000000) ∧ (0 ≤ tick ∧ tick ≤ 100000) ∧ (0 ≤ now ∧ now ≤ 100000),
      .tup [.rsl 2 2 (leftG (saysS (taskOf (.agg [a, b, c, e, f])) s low high tick now).xl (saysS (taskOf (.agg [a, b, c, e, f])) s low high tick now).xh (saysS (taskOf (.agg [a, b, c, e, f])) s low high tick now).yl (saysS (taskOf (.agg [a, b, c, e, f])) s low high tick now).yh), .bool (saysS (taskOf (.agg [a, b, c, e, f])) s low high tick now).some])
  | _ => none
theorem viewSays_ok : PSound Go.Proofs.Try.prog 41 (mk rViewSays) := by
  refine psound_mk Try.func41 (by kernel_rfl) rfl (ctxA Lsays_ok) ?_
  (intro ds p d h; unfold rViewSays at h; split at h <;> first | (cases h; done) | skip; cases h; refine ⟨Nat.le_of_ble_eq_true rfl, fun hp k hk => ?_⟩)
  rename_i a b c e f tick now s low high
  obtain ⟨ht, hok, hl, hh, ha, hnow⟩ := hp
  refine ⟨[.agg (viewL (taskOf (.agg [a, b, c, e, f])) tick now), .int .i64 s, .agg [.int .i64 low, .int .i64 high]], view_imp ht ⟨rfl, rfl, rfl, ?_⟩⟩
  clear ht
  generalize taskOf (.agg [a, b, c, e, f]) = t at *
  generalize hS : saysS t s low high tick now = w0 at *
  repeat' (first | ((with_reducible refine kok ?_); kernel_rfl) | ((with_reducible refine keq_mk ?_); kernel_rfl) | with_reducible rfl | ((conv => whnf); first | exact trivial | refine And.intro ?_ ?_ | intro _ | (with_reducible refine (?_ : _ = true); (conv => lhs; whnf); done) | exact rfl))
  rename_i r0
  refine ⟨Nat × Word, fun g => [(0, .yld 8), (1, .ptr 7 0), (8, .rsl 5 t.nx (imD t.xa)), (9, .int .i64 t.nx), (10, .int .i64 g.1)],
    fun g => [some (.row (viewL t tick now)), some (.row [.int .i64 s]), some (.row [.int .i64 low, .int .i64 high]), some (.row [.bool g.2.some]), some (.row [.int .i64 (-20000), .int .i64 20000]), some (.buf 53 2 2 (leftG g.2.xl g.2.xh g.2.yl g.2.yh)), some (.row [.fn 60 [.own 5 2] []]), some (.row (viewL t tick now)), some (.lp r0 .ready)],
    fun g => t.nx - g.1, fun g => g.1 ≤ t.nx ∧ w0 = saysFrom t s low high tick now g.1 g.2 (t.nx - g.1), [], (0, word0), fun _ => ⟨?_, ?_⟩, ?_, fun g hI => ?_⟩
  · conv => lhs; whnf
  · conv => lhs; whnf
  · clear hk
    repeat' (first | ((with_reducible refine kok ?_); kernel_rfl) | ((with_reducible refine keq_mk ?_); kernel_rfl) | with_reducible rfl | ((conv => whnf); first | exact trivial | refine And.intro ?_ ?_ | intro _ | (with_reducible refine (?_ : _ = true); (conv => lhs; whnf); done) | exact rfl))
    · rename_i i j hi hj
      have hi' : i = 0 ∨ i = 1 := by omega
      have hj' : j = 0 ∨ j = 1 := by omega
      rcases hi' with rfl | rfl <;> rcases hj' with rfl | rfl <;> rfl
    · exact Nat.zero_le _
    · exact hS.symm
  obtain ⟨i, w⟩ := g
  obtain ⟨hi, hc⟩ := hI
  simp only at hi hc
  clear hS
  have f1 : decide (((i, w).fst : Int) < t.nx) = true → i < t.nx := fun h => Int.ofNat_lt.mp (of_decide_eq_true h)
  have F : i < t.nx → (0 ≤ t.xa i 0 ∧ t.xa i 0 < t.ns) ∧ (0 ≤ t.xa i 1 ∧ t.xa i 1 ≤ 100000) ∧ (0 ≤ t.xa i 2 ∧ t.xa i 2 < 100000000) ∧ (-20000 ≤ t.xa i 3 ∧ t.xa i 3 ≤ 20000) ∧ (-20000 ≤ t.xa i 4 ∧ t.xa i 4 ≤ 20000) ∧
      (0 ≤ t.sa (t.xa i 0).toNat 1 ∧ t.sa (t.xa i 0).toNat 1 ≤ 5000) ∧ (0 ≤ t.sa (t.xa i 0).toNat 2 ∧ t.sa (t.xa i 0).toNat 2 ≤ 6000) ∧ (1 ≤ t.sa (t.xa i 0).toNat 3 ∧ t.sa (t.xa i 0).toNat 3 ≤ 60000) ∧ (0 ≤ doubtS t i low tick ∧ doubtS t i low tick ≤ 2002005000) ∧ (0 ≤ doubtS t i high tick ∧ doubtS t i high tick ≤ 2002005000) := fun h => by
    have h3 := hok.src i h
    exact ⟨h3, hok.tick i h, hok.height i h, hok.x i h, hok.y i h, hok.err _ (by omega), hok.late _ (by omega), hok.life _ (by omega), doubt_bound hok h hl ha, doubt_bound hok h hh ha⟩
  have hnx := hok.nx
  have hage := hok.age
  have hshear := hok.shear
  clear hok
  repeat' (first | ((with_reducible refine kok ?_); kernel_rfl) | ((with_reducible refine keq_mk ?_); kernel_rfl) | with_reducible rfl | ((conv => whnf); first | exact trivial | refine And.intro ?_ ?_ | intro _ | (with_reducible refine (?_ : _ = true); (conv => lhs; whnf); done) | exact rfl))
  all_goals try ((first | with_reducible refine (?_ : (_ : Int) ≤ _) | with_reducible refine (?_ : (_ : Int) < _)); have F' := F (f1 (by assumption)); clear F hc; (try simp only [taskOf_agg, Int.toNat_natCast]); omega)
  · exact of_decide_eq_true (by assumption)
  · rename_i g1 g2 g3 g4
    have e1 := f1 g1
    have F' := F e1
    have hw : sayStep t s low high tick now i w = ⟨true, max w.xl (t.xa i 3 - dOf t low high tick i), min w.xh (t.xa i 3 + dOf t low high tick i), max w.yl (t.xa i 4 - dOf t low high tick i), min w.yh (t.xa i 4 + dOf t low high tick i)⟩ := by
      have h1 : t.xa i 0 = s := of_decide_eq_true g4
      have h2 : t.xa i 1 + t.sa (t.xa i 0).toNat 2 ≤ now := of_decide_eq_true g2
      have h3 : now ≤ t.xa i 1 + t.sa (t.xa i 0).toNat 3 := of_decide_eq_true g3
      have h4 : knownS t i now = true := by
        rw [knownS, decide_eq_true h2, decide_eq_true (by omega)]
        rfl
      rw [sayStep, if_neg (fun h => h h1), if_neg (by rw [h4]; exact Bool.noConfusion)]
    refine ⟨t.xa i 3, t.xa i 4, dOf t low high tick i, w.xl, w.xh, w.yl, w.yh, ?_⟩
    clear hk
    repeat' (first | ((with_reducible refine kok ?_); kernel_rfl) | ((with_reducible refine keq_mk ?_); kernel_rfl) | with_reducible rfl | ((conv => whnf); first | exact trivial | refine And.intro ?_ ?_ | intro _ | (with_reducible refine (?_ : _ = true); (conv => lhs; whnf); done) | exact rfl))
    all_goals try (with_reducible refine (?_ : (_ : Int) ≤ _); clear F hc hw; (try unfold dOf); omega)
    refine ⟨(i + 1, ⟨true, max w.xl (t.xa i 3 - dOf t low high tick i), min w.xh (t.xa i 3 + dOf t low high tick i), max w.yl (t.xa i 4 - dOf t low high tick i), min w.yh (t.xa i 4 + dOf t low high tick i)⟩), ?_⟩
    repeat' (first | ((with_reducible refine kok ?_); kernel_rfl) | ((with_reducible refine keq_mk ?_); kernel_rfl) | with_reducible rfl | ((conv => whnf); first | exact trivial | refine And.intro ?_ ?_ | intro _ | (with_reducible refine (?_ : _ = true); (conv => lhs; whnf); done) | exact rfl))
    · exact e1
    · exact (hc.trans (saysFrom_step e1)).trans (congrArg (fun w => saysFrom t s low high tick now (i + 1) w (t.nx - (i + 1))) hw)
    · simp only; omega
  · rename_i g1 g2 g3 g4
    have e1 := f1 g1
    have hw : sayStep t s low high tick now i w = w := if_pos (of_decide_eq_false g4)
    clear hk
    repeat' (first | ((with_reducible refine kok ?_); kernel_rfl) | ((with_reducible refine keq_mk ?_); kernel_rfl) | with_reducible rfl | ((conv => whnf); first | exact trivial | refine And.intro ?_ ?_ | intro _ | (with_reducible refine (?_ : _ = true); (conv => lhs; whnf); done) | exact rfl))
    all_goals try omega
    refine ⟨(i + 1, w), ?_⟩
    repeat' (first | ((with_reducible refine kok ?_); kernel_rfl) | ((with_reducible refine keq_mk ?_); kernel_rfl) | with_reducible rfl | ((conv => whnf); first | exact trivial | refine And.intro ?_ ?_ | intro _ | (with_reducible refine (?_ : _ = true); (conv => lhs; whnf); done) | exact rfl))
    · exact e1
    · exact (hc.trans (saysFrom_step e1)).trans (congrArg (fun w => saysFrom t s low high tick now (i + 1) w (t.nx - (i + 1))) hw)
    · simp only; omega
  · rename_i g1 g2 g3
    have e1 := f1 g1
    have h3 : ¬ now ≤ t.xa i 1 + t.sa (t.xa i 0).toNat 3 := of_decide_eq_false g3
    have hw : sayStep t s low high tick now i w = w := by
      rw [sayStep]
      split
      · rfl
      · rw [if_pos]
        rw [knownS, decide_eq_false (by omega : ¬ now - t.xa i 1 ≤ t.sa (t.xa i 0).toNat 3), Bool.and_false]
    clear hk
    repeat' (first | ((with_reducible refine kok ?_); kernel_rfl) | ((with_reducible refine keq_mk ?_); kernel_rfl) | with_reducible rfl | ((conv => whnf); first | exact trivial | refine And.intro ?_ ?_ | intro _ | (with_reducible refine (?_ : _ = true); (conv => lhs; whnf); done) | exact rfl))
    all_goals try omega
    refine ⟨(i + 1, w), ?_⟩
    repeat' (first | ((with_reducible refine kok ?_); kernel_rfl) | ((with_reducible refine keq_mk ?_); kernel_rfl) | with_reducible rfl | ((conv => whnf); first | exact trivial | refine And.intro ?_ ?_ | intro _ | (with_reducible refine (?_ : _ = true); (conv => lhs; whnf); done) | exact rfl))
    · exact e1
    · exact (hc.trans (saysFrom_step e1)).trans (congrArg (fun w => saysFrom t s low high tick now (i + 1) w (t.nx - (i + 1))) hw)
    · simp only; omega
  · rename_i g1 g2
    have e1 := f1 g1
    have h3 : ¬ t.xa i 1 + t.sa (t.xa i 0).toNat 2 ≤ now := of_decide_eq_false g2
    have hw : sayStep t s low high tick now i w = w := by
      rw [sayStep]
      split
      · rfl
      · rw [if_pos]
        rw [knownS, decide_eq_false h3, Bool.false_and]
    clear hk
    repeat' (first | ((with_reducible refine kok ?_); kernel_rfl) | ((with_reducible refine keq_mk ?_); kernel_rfl) | with_reducible rfl | ((conv => whnf); first | exact trivial | refine And.intro ?_ ?_ | intro _ | (with_reducible refine (?_ : _ = true); (conv => lhs; whnf); done) | exact rfl))
    all_goals try omega
    refine ⟨(i + 1, w), ?_⟩
    repeat' (first | ((with_reducible refine kok ?_); kernel_rfl) | ((with_reducible refine keq_mk ?_); kernel_rfl) | with_reducible rfl | ((conv => whnf); first | exact trivial | refine And.intro ?_ ?_ | intro _ | (with_reducible refine (?_ : _ = true); (conv => lhs; whnf); done) | exact rfl))
    · exact e1
    · exact (hc.trans (saysFrom_step e1)).trans (congrArg (fun w => saysFrom t s low high tick now (i + 1) w (t.nx - (i + 1))) hw)
    · simp only; omega
  · rename_i g1
    have hb : w0 = w := by
      have := of_decide_eq_false g1
      rw [hc, show t.nx - i = 0 by simp only at this; omega]
      rfl
    subst hb
    (refine fin_of hk ?_; clear hk; repeat' (first | ((with_reducible refine kok ?_); kernel_rfl) | ((with_reducible refine keq_mk ?_); kernel_rfl) | with_reducible rfl | ((conv => whnf); first | exact trivial | refine And.intro ?_ ?_ | intro _ | (with_reducible refine (?_ : _ = true); (conv => lhs; whnf); done) | exact rfl)))
    all_goals trace_state
end Go.Proofs.Ytlecbjbjgfpfeaa
end
section
set_option linter.unusedVariables false
set_option linter.unusedSimpArgs false
set_option maxRecDepth 100000
set_option maxHeartbeats 4000000
namespace Go.Proofs.Ytlecbjbjgfpfeaa
open Go.V

def lib24 : Lib := (41, mk rViewSays) :: lib23
theorem lib24_ok : LibOK Go.Proofs.Try.prog lib24 := .cons viewSays_ok lib23_ok
def wH (t : Task) (tick now low high xl xh yl yh : Int) : HL := [some (.row (viewL t tick now)), some (.row [.int .i64 low, .int .i64 high]), some (.row [.int .i64 (-20000), .int .i64 20000]), some (.buf 53 2 2 (leftG xl xh yl yh))]
def rMeet : CRule := fun ds H K => ∃ (t : Task) (tick now low high a b c d xl xh yl yh : Int), ds = [.own 3 2, .rsl 2 2 (leftG a b c d)] ∧ H = wH t tick now low high xl xh yl yh ∧
  K (.ret (.tup [])) (wH t tick now low high (max xl a) (min xh b) (max yl c) (min yh d))
theorem meet_ok : CSound Go.Proofs.Try.prog 71 rMeet := by
  refine csound_mk Try.func71 (by kernel_rfl) rfl (ctx lib24_ok) fun ds H K h => ?_
  obtain ⟨t, tick, now, low, high, a, b, c, d, xl, xh, yl, yh, rfl, rfl, hk⟩ := h
  repeat' (first | ((with_reducible refine kok ?_); kernel_rfl) | ((with_reducible refine keq_mk ?_); kernel_rfl) | with_reducible rfl | ((conv => whnf); first | exact trivial | refine And.intro ?_ ?_ | intro _ | (with_reducible refine (?_ : _ = true); (conv => lhs; whnf); done) | exact rfl))
  refine ⟨Nat, fun j => [(0, .own 3 2), (6, .rsl 2 2 (leftG a b c d)), (7, .int .i64 (2 : Nat)), (8, .int .i64 j)],
    fun j => wH t tick now low high (if 1 ≤ j then max xl a else xl) (if 1 ≤ j then min xh b else xh) (if 2 ≤ j then max yl c else yl) (if 2 ≤ j then min yh d else yh),
    fun j => 2 - j, fun j => j ≤ 2, [], 0, fun _ => ⟨?_, ?_⟩, ?_, fun j hj => ?_⟩
  · conv => lhs; whnf
  · conv => lhs; whnf
  · clear hk
    repeat' (first | ((with_reducible refine kok ?_); kernel_rfl) | ((with_reducible refine keq_mk ?_); kernel_rfl) | with_reducible rfl | ((conv => whnf); first | exact trivial | refine And.intro ?_ ?_ | intro _ | (with_reducible refine (?_ : _ = true); (conv => lhs; whnf); done) | exact rfl))
    exact Nat.zero_le 2
  have hj3 : j = 0 ∨ j = 1 ∨ j = 2 := by omega
  rcases hj3 with rfl | rfl | rfl
  · repeat' (first | ((with_reducible refine kok ?_); kernel_rfl) | ((with_reducible refine keq_mk ?_); kernel_rfl) | with_reducible rfl | ((conv => whnf); first | exact trivial | refine And.intro ?_ ?_ | intro _ | (with_reducible refine (?_ : _ = true); (conv => lhs; whnf); done) | exact rfl))
    all_goals try omega
    · refine ⟨1, ?_⟩
      clear hk
      repeat' (first | ((with_reducible refine kok ?_); kernel_rfl) | ((with_reducible refine keq_mk ?_); kernel_rfl) | with_reducible rfl | ((conv => whnf); first | exact trivial | refine And.intro ?_ ?_ | intro _ | (with_reducible refine (?_ : _ = true); (conv => lhs; whnf); done) | exact rfl))
      · rename_i i j hi hj
        have hi' : i = 0 ∨ i = 1 := by omega
        have hj' : j = 0 ∨ j = 1 := by omega
        rcases hi' with rfl | rfl <;> rcases hj' with rfl | rfl <;> rfl
      · simp only; omega
      · simp only; omega
    · rename_i g1; exact absurd g1 (by decide)
  · repeat' (first | ((with_reducible refine kok ?_); kernel_rfl) | ((with_reducible refine keq_mk ?_); kernel_rfl) | with_reducible rfl | ((conv => whnf); first | exact trivial | refine And.intro ?_ ?_ | intro _ | (with_reducible refine (?_ : _ = true); (conv => lhs; whnf); done) | exact rfl))
    all_goals try omega
    · refine ⟨2, ?_⟩
      clear hk
      repeat' (first | ((with_reducible refine kok ?_); kernel_rfl) | ((with_reducible refine keq_mk ?_); kernel_rfl) | with_reducible rfl | ((conv => whnf); first | exact trivial | refine And.intro ?_ ?_ | intro _ | (with_reducible refine (?_ : _ = true); (conv => lhs; whnf); done) | exact rfl))
      · rename_i i j hi hj
        have hi' : i = 0 ∨ i = 1 := by omega
        have hj' : j = 0 ∨ j = 1 := by omega
        rcases hi' with rfl | rfl <;> rcases hj' with rfl | rfl <;> rfl
      · simp only; omega
      · simp only; omega
    · rename_i g1; exact absurd g1 (by decide)
  · have g0 : decide (((2 : Nat) : Int) < (2 : Nat)) = false := rfl
    repeat' (first | ((with_reducible refine kok ?_); kernel_rfl) | ((with_reducible refine keq_mk ?_); kernel_rfl) | with_reducible rfl | ((conv => whnf); first | exact trivial | refine And.intro ?_ ?_ | intro _ | (with_reducible refine (?_ : _ = true); (conv => lhs; whnf); done) | exact rfl))
    all_goals try (exfalso; exact absurd (by assumption : decide (((2 : Nat) : Int) < (2 : Nat)) = true) (by rw [g0]; exact Bool.noConfusion))
    refine ⟨.tup [], wH t tick now low high (max xl a) (min xh b) (max yl c) (min yh d), ?_⟩
    repeat' (first | ((with_reducible refine kok ?_); kernel_rfl) | ((with_reducible refine keq_mk ?_); kernel_rfl) | with_reducible rfl | ((conv => whnf); first | exact trivial | refine And.intro ?_ ?_ | intro _ | (with_reducible refine (?_ : _ = true); (conv => lhs; whnf); done) | exact rfl))
    exact hk

def Lwithout : Libs := ⟨lib24, [(59, inl (cxOf tab lib23) Go.Proofs.Try.f59), (71, rMeet)], [], []⟩
theorem Lwithout_ok : LibsOK Go.Proofs.Try.prog Lwithout := ⟨lib24_ok, asGet_cons (csound_in Try.func59 (by kernel_rfl) rfl (ctx lib23_ok)) (asGet_cons meet_ok (fun g s h => by cases h)), fun f r h => (by cases h), fun f r h => (by cases h)⟩
def leftD (l : Left) : V.D := .rsl 2 2 (leftG l.xl l.xh l.yl l.yh)
def rWithout : List V.D → Option (Prop × V.D) := fun ds => match ds with
  | [.agg [a, b, c, e, f, .int .i64 tick, .int .i64 now], .int .i64 s, .agg [.int .i64 low, .int .i64 high]] =>
    some (TaskIs (.agg [a, b, c, e, f]) ∧ (taskOf (.agg [a, b, c, e, f])).ok ∧ (0 ≤ low ∧ low < 100000000) ∧ (0 ≤ high ∧ high < 100000000) ∧ (0 ≤ tick ∧ tick ≤ 100000) ∧ (0 ≤ now ∧ now ≤ 100000),
      leftD (leftS (taskOf (.agg [a, b, c, e, f])) s low high tick now))
  | _ => none
theorem without_ok : PSound Go.Proofs.Try.prog 63 (mk rWithout) := by
  refine psound_mk Try.func63 (by kernel_rfl) rfl (ctxA Lwithout_ok) ?_
  (intro ds p d h; unfold rWithout at h; split at h <;> first | (cases h; done) | skip; cases h; refine ⟨Nat.le_of_ble_eq_true rfl, fun hp k hk => ?_⟩)
  rename_i a b c e f tick now s low high
  obtain ⟨ht, hok, hl, hh, ha, hnow⟩ := hp
  refine ⟨[.agg (viewL (taskOf (.agg [a, b, c, e, f])) tick now), .int .i64 s, .agg [.int .i64 low, .int .i64 high]], view_imp ht ⟨rfl, rfl, rfl, ?_⟩⟩
  clear ht
  generalize taskOf (.agg [a, b, c, e, f]) = t at *
  generalize hS : leftS t s low high tick now = w0 at *
  repeat' (first | ((with_reducible refine kok ?_); kernel_rfl) | ((with_reducible refine keq_mk ?_); kernel_rfl) | with_reducible rfl | ((conv => whnf); first | exact trivial | refine And.intro ?_ ?_ | intro _ | (with_reducible refine (?_ : _ = true); (conv => lhs; whnf); done) | exact rfl))
  refine ⟨Nat × Left, fun g => [(1, .int .i64 s), (3, .ptr 0 0), (5, .ptr 1 0), (7, .own 3 2), (15, .int .i64 t.ns), (16, .int .i64 g.1)],
    fun g => wH t tick now low high g.2.xl g.2.xh g.2.yl g.2.yh, fun g => t.ns - g.1, fun g => g.1 ≤ t.ns ∧ w0 = leftFrom t s low high tick now g.1 g.2 (t.ns - g.1), [], (0, left0), fun _ => ⟨?_, ?_⟩, ?_, fun g hI => ?_⟩
  · conv => lhs; whnf
  · conv => lhs; whnf
  · clear hk
    repeat' (first | ((with_reducible refine kok ?_); kernel_rfl) | ((with_reducible refine keq_mk ?_); kernel_rfl) | with_reducible rfl | ((conv => whnf); first | exact trivial | refine And.intro ?_ ?_ | intro _ | (with_reducible refine (?_ : _ = true); (conv => lhs; whnf); done) | exact rfl))
    · rename_i i j hi hj
      have hi' : i = 0 ∨ i = 1 := by omega
      have hj' : j = 0 ∨ j = 1 := by omega
      rcases hi' with rfl | rfl <;> rcases hj' with rfl | rfl <;> rfl
    · exact Nat.zero_le _
    · exact hS.symm
  obtain ⟨i, l⟩ := g
  obtain ⟨hi, hc⟩ := hI
  simp only at hi hc
  clear hS
  have f1 : decide (((i, l).fst : Int) < t.ns) = true → i < t.ns := fun h => Int.ofNat_lt.mp (of_decide_eq_true h)
  have hns := hok.ns
  repeat' (first | ((with_reducible refine kok ?_); kernel_rfl) | ((with_reducible refine keq_mk ?_); kernel_rfl) | with_reducible rfl | ((conv => whnf); first | exact trivial | refine And.intro ?_ ?_ | intro _ | (with_reducible refine (?_ : _ = true); (conv => lhs; whnf); done) | exact rfl))
  all_goals try (with_reducible refine (?_ : (_ : Int) ≤ _); simp only; omega)
  all_goals try (with_reducible refine (?_ : (_ : Int) ≤ _); omega)
  all_goals try (with_reducible refine (?_ : (_ : Int) < _); omega)
  · rename_i g1 g2
    have e1 := f1 g1
    have hw : leftStep t s low high tick now i l = l := if_pos (of_decide_eq_true g2)
    clear hk
    refine ⟨(i + 1, l), ?_⟩
    repeat' (first | ((with_reducible refine kok ?_); kernel_rfl) | ((with_reducible refine keq_mk ?_); kernel_rfl) | with_reducible rfl | ((conv => whnf); first | exact trivial | refine And.intro ?_ ?_ | intro _ | (with_reducible refine (?_ : _ = true); (conv => lhs; whnf); done) | exact rfl))
    · exact e1
    · exact (hc.trans (leftFrom_step e1)).trans (congrArg (fun l => leftFrom t s low high tick now (i + 1) l (t.ns - (i + 1))) hw)
    · simp only; omega
  · exact hok
  · rename_i g1 g2 g3
    have e1 := f1 g1
    have hw : leftStep t s low high tick now i l = ⟨max l.xl (saysS t i low high tick now).xl, min l.xh (saysS t i low high tick now).xh, max l.yl (saysS t i low high tick now).yl, min l.yh (saysS t i low high tick now).yh⟩ := (if_neg (of_decide_eq_false g2)).trans (if_neg (by rw [show (saysS t i low high tick now).some = true from g3]; exact Bool.noConfusion))
    clear hk
    refine ⟨t, tick, now, low, high, (saysS t i low high tick now).xl, (saysS t i low high tick now).xh, (saysS t i low high tick now).yl, (saysS t i low high tick now).yh, l.xl, l.xh, l.yl, l.yh, ?_⟩
    repeat' (first | ((with_reducible refine kok ?_); kernel_rfl) | ((with_reducible refine keq_mk ?_); kernel_rfl) | with_reducible rfl | ((conv => whnf); first | exact trivial | refine And.intro ?_ ?_ | intro _ | (with_reducible refine (?_ : _ = true); (conv => lhs; whnf); done) | exact rfl))
    all_goals try (with_reducible refine (?_ : (_ : Int) ≤ _); simp only; omega)
    refine ⟨(i + 1, ⟨max l.xl (saysS t i low high tick now).xl, min l.xh (saysS t i low high tick now).xh, max l.yl (saysS t i low high tick now).yl, min l.yh (saysS t i low high tick now).yh⟩), ?_⟩
    repeat' (first | ((with_reducible refine kok ?_); kernel_rfl) | ((with_reducible refine keq_mk ?_); kernel_rfl) | with_reducible rfl | ((conv => whnf); first | exact trivial | refine And.intro ?_ ?_ | intro _ | (with_reducible refine (?_ : _ = true); (conv => lhs; whnf); done) | exact rfl))
    · exact e1
    · exact (hc.trans (leftFrom_step e1)).trans (congrArg (fun l => leftFrom t s low high tick now (i + 1) l (t.ns - (i + 1))) hw)
    · simp only; omega
  · rename_i g1 g2 g3
    have e1 := f1 g1
    have hw : leftStep t s low high tick now i l = l := (if_neg (of_decide_eq_false g2)).trans (if_pos g3)
    clear hk
    repeat' (first | ((with_reducible refine kok ?_); kernel_rfl) | ((with_reducible refine keq_mk ?_); kernel_rfl) | with_reducible rfl | ((conv => whnf); first | exact trivial | refine And.intro ?_ ?_ | intro _ | (with_reducible refine (?_ : _ = true); (conv => lhs; whnf); done) | exact rfl))
    all_goals try (with_reducible refine (?_ : (_ : Int) ≤ _); simp only; omega)
    refine ⟨(i + 1, l), ?_⟩
    repeat' (first | ((with_reducible refine kok ?_); kernel_rfl) | ((with_reducible refine keq_mk ?_); kernel_rfl) | with_reducible rfl | ((conv => whnf); first | exact trivial | refine And.intro ?_ ?_ | intro _ | (with_reducible refine (?_ : _ = true); (conv => lhs; whnf); done) | exact rfl))
    · exact e1
    · exact (hc.trans (leftFrom_step e1)).trans (congrArg (fun l => leftFrom t s low high tick now (i + 1) l (t.ns - (i + 1))) hw)
    · simp only; omega
  · rename_i g1
    have hb : w0 = l := by
      have := of_decide_eq_false g1
      rw [hc, show t.ns - i = 0 by simp only at this; omega]
      rfl
    subst hb
    (refine fin_of hk ?_; clear hk; repeat' (first | ((with_reducible refine kok ?_); kernel_rfl) | ((with_reducible refine keq_mk ?_); kernel_rfl) | with_reducible rfl | ((conv => whnf); first | exact trivial | refine And.intro ?_ ?_ | intro _ | (with_reducible refine (?_ : _ = true); (conv => lhs; whnf); done) | exact rfl)))
end Go.Proofs.Ytlecbjbjgfpfeaa
end
section
set_option linter.unusedVariables false
set_option linter.unusedSimpArgs false
set_option maxRecDepth 100000
set_option maxHeartbeats 4000000
namespace Go.Proofs.Ytlecbjbjgfpfeaa
open Go.V

def lib25 : Lib := (63, mk rWithout) :: lib24
theorem lib25_ok : LibOK Go.Proofs.Try.prog lib25 := .cons without_ok lib24_ok
theorem some_agree (l : Left) : (!anyBelow (empty (im (leftG l.xl l.xh l.yl l.yh))) 2) = l.agree := by
  simp [anyBelow, empty, im, leftG, toI, Left.agree]
theorem IM_leftG (a b c d : Int) : IM 2 2 (leftG a b c d) := fun i j hi hj => rfl
def rViewBlame : List V.D → Option (Prop × V.D) := fun ds => match ds with
  | [.agg [a, b, c, e, f, .int .i64 tick, .int .i64 now], .agg [.int .i64 low, .int .i64 high]] =>
    some (TaskIs (.agg [a, b, c, e, f]) ∧ (taskOf (.agg [a, b, c, e, f])).ok ∧ (0 ≤ low ∧ low < 100000000) ∧ (0 ≤ high ∧ high < 100000000) ∧ (0 ≤ tick ∧ tick ≤ 100000) ∧ (0 ≤ now ∧ now ≤ 100000),
      .tup [.rsl 1 (blameS (taskOf (.agg [a, b, c, e, f])) low high tick now).length (liD (blameS (taskOf (.agg [a, b, c, e, f])) low high tick now)), .bool (agreeS (taskOf (.agg [a, b, c, e, f])) low high tick now)])
  | _ => none
theorem viewBlame_ok : PSound Go.Proofs.Try.prog 44 (mk rViewBlame) := by
  refine psound_mk Try.func44 (by kernel_rfl) rfl (ctx lib25_ok) ?_
  (intro ds p d h; unfold rViewBlame at h; split at h <;> first | (cases h; done) | skip; cases h; refine ⟨Nat.le_of_ble_eq_true rfl, fun hp k hk => ?_⟩)
  rename_i a b c e f tick now low high
  obtain ⟨ht, hok, hl, hh, ha, hnow⟩ := hp
  refine ⟨[.agg (viewL (taskOf (.agg [a, b, c, e, f])) tick now), .agg [.int .i64 low, .int .i64 high]], view_imp ht ⟨rfl, rfl, ?_⟩⟩
  clear ht
  generalize taskOf (.agg [a, b, c, e, f]) = t at *
  generalize hS : blameS t low high tick now = w0 at *
  generalize hA : agreeS t low high tick now = g0 at *
  have hA' : (leftS t (-1) low high tick now).agree = g0 := hA
  have hns := hok.ns
  repeat' (first | ((with_reducible refine kok ?_); kernel_rfl) | ((with_reducible refine keq_mk ?_); kernel_rfl) | with_reducible rfl | ((conv => whnf); first | exact trivial | refine And.intro ?_ ?_ | intro _ | (with_reducible refine (?_ : _ = true); (conv => lhs; whnf); done) | exact rfl))
  all_goals try (with_reducible refine (?_ : (_ : Int) ≤ _); omega)
  all_goals try (with_reducible refine (?_ : (_ : Int) < _); omega)
  · exact hok
  · exact Nat.le_of_ble_eq_true rfl
  · rename_i g1
    have h1 : g0 = true := hA'.symm.trans ((some_agree (leftS t (-1) low high tick now)).symm.trans g1)
    have h2 : w0 = [] := hS.symm.trans (if_pos (hA.trans h1))
    subst h1; subst h2
    (refine fin_of hk ?_; clear hk; repeat' (first | ((with_reducible refine kok ?_); kernel_rfl) | ((with_reducible refine keq_mk ?_); kernel_rfl) | with_reducible rfl | ((conv => whnf); first | exact trivial | refine And.intro ?_ ?_ | intro _ | (with_reducible refine (?_ : _ = true); (conv => lhs; whnf); done) | exact rfl)))
    all_goals (intro i j hi; exact absurd hi (Nat.not_lt_zero i))
  rename_i g1
  have h1 : g0 = false := hA'.symm.trans ((some_agree (leftS t (-1) low high tick now)).symm.trans g1)
  have h2 : w0 = blameFrom t low high tick now 0 [] t.ns := hS.symm.trans (if_neg (by rw [hA, h1]; exact Bool.noConfusion))
  subst h1
  clear hS hA hA' g1
  refine ⟨Nat × List Int, fun g => [(2, .ptr 0 0), (3, .ptr 1 0), (4, .own 2 g.2.length), (14, .int .i64 t.ns), (15, .int .i64 g.1)],
    fun g => [some (.row (viewL t tick now)), some (.row [.int .i64 low, .int .i64 high]), some (.buf 3 1 g.2.length (liD g.2))],
    fun g => t.ns - g.1, fun g => g.1 ≤ t.ns ∧ g.2.length ≤ g.1 ∧ w0 = blameFrom t low high tick now g.1 g.2 (t.ns - g.1), [(3, 1)], (0, []), fun _ => ⟨?_, ?_⟩, ?_, fun g hI => ?_⟩
  · conv => lhs; whnf
  · conv => lhs; whnf
  · clear hk
    repeat' (first | ((with_reducible refine kok ?_); kernel_rfl) | ((with_reducible refine keq_mk ?_); kernel_rfl) | with_reducible rfl | ((conv => whnf); first | exact trivial | refine And.intro ?_ ?_ | intro _ | (with_reducible refine (?_ : _ = true); (conv => lhs; whnf); done) | exact rfl))
    · rename_i i j hi hj; exact absurd hi (Nat.not_lt_zero i)
    · exact Nat.zero_le _
    · exact Nat.le_refl _
    · exact h2
  obtain ⟨i, l⟩ := g
  obtain ⟨hi, hll, hc⟩ := hI
  simp only at hi hll hc
  clear h2
  have f1 : decide (((i, l).fst : Int) < t.ns) = true → i < t.ns := fun h => Int.ofNat_lt.mp (of_decide_eq_true h)
  repeat' (first | ((with_reducible refine kok ?_); kernel_rfl) | ((with_reducible refine keq_mk ?_); kernel_rfl) | with_reducible rfl | ((conv => whnf); first | exact trivial | refine And.intro ?_ ?_ | intro _ | (with_reducible refine (?_ : _ = true); (conv => lhs; whnf); done) | exact rfl))
  all_goals try (with_reducible refine (?_ : (_ : Int) ≤ _); simp only; omega)
  all_goals try (with_reducible refine (?_ : (_ : Int) ≤ _); omega)
  all_goals try (with_reducible refine (?_ : (_ : Int) < _); omega)
  · exact hok
  · exact Nat.le_of_ble_eq_true rfl
  · simp only; omega
  · rename_i g1 g2
    have e1 := f1 g1
    have e2 : (leftS t i low high tick now).agree = true := (some_agree (leftS t i low high tick now)).symm.trans g2
    have hw : blameStep t low high tick now i l = l ++ [(i : Int)] := if_pos e2
    clear hk
    refine ⟨(i + 1, l ++ [(i : Int)]), ?_⟩
    repeat' (first | ((with_reducible refine kok ?_); kernel_rfl) | ((with_reducible refine keq_mk ?_); kernel_rfl) | with_reducible rfl | ((conv => whnf); first | exact trivial | refine And.intro ?_ ?_ | intro _ | (with_reducible refine (?_ : _ = true); (conv => lhs; whnf); done) | exact rfl))
    · simp
    · simp
    · exact liD_snoc (by assumption) (by assumption)
    · exact e1
    · simp; omega
    · exact (hc.trans (blameFrom_step e1)).trans (congrArg (fun l => blameFrom t low high tick now (i + 1) l (t.ns - (i + 1))) hw)
    · simp only; omega
  · rename_i g1 g2
    have e1 := f1 g1
    have e2 : (leftS t i low high tick now).agree = false := (some_agree (leftS t i low high tick now)).symm.trans g2
    have hw : blameStep t low high tick now i l = l := if_neg (by rw [e2]; exact Bool.noConfusion)
    clear hk
    refine ⟨(i + 1, l), ?_⟩
    repeat' (first | ((with_reducible refine kok ?_); kernel_rfl) | ((with_reducible refine keq_mk ?_); kernel_rfl) | with_reducible rfl | ((conv => whnf); first | exact trivial | refine And.intro ?_ ?_ | intro _ | (with_reducible refine (?_ : _ = true); (conv => lhs; whnf); done) | exact rfl))
    · exact e1
    · simp only; omega
    · exact (hc.trans (blameFrom_step e1)).trans (congrArg (fun l => blameFrom t low high tick now (i + 1) l (t.ns - (i + 1))) hw)
    · simp only; omega
  · rename_i g1
    have hb : w0 = l := by
      have := of_decide_eq_false g1
      rw [hc, show t.ns - i = 0 by simp only at this; omega]
      rfl
    subst hb
    (refine fin_of hk ?_; clear hk; repeat' (first | ((with_reducible refine kok ?_); kernel_rfl) | ((with_reducible refine keq_mk ?_); kernel_rfl) | with_reducible rfl | ((conv => whnf); first | exact trivial | refine And.intro ?_ ?_ | intro _ | (with_reducible refine (?_ : _ = true); (conv => lhs; whnf); done) | exact rfl)))
    all_goals trace_state

theorem blameFrom_agree {t : Task} {low high a now : Int} : ∀ (k i : Nat) (l : List Int), (∀ x ∈ l, (leftS t x low high a now).agree = true) → ∀ x ∈ blameFrom t low high a now i l k, (leftS t x low high a now).agree = true
  | 0, i, l, h, x, hx => h x hx
  | k + 1, i, l, h, x, hx => blameFrom_agree k (i + 1) _ (fun y hy => by
      unfold blameStep at hy
      split at hy
      · rename_i g
        rcases List.mem_append.mp hy with hy | hy
        · exact h y hy
        · rw [List.mem_singleton.mp hy]; exact g
      · exact h y hy) x hx
theorem blame_agree {t : Task} {low high a now : Int} (h : (blameS t low high a now).length = 1) : (leftS t ((blameS t low high a now).getD 0 0) low high a now).agree = true := by
  have hm : (blameS t low high a now).getD 0 0 ∈ blameS t low high a now := by
    cases hl : blameS t low high a now with
    | nil => rw [hl] at h; cases h
    | cons x r => simp
  generalize (blameS t low high a now).getD 0 0 = x at hm
  unfold blameS at hm
  split at hm
  · cases hm
  · exact blameFrom_agree t.ns 0 [] (fun y hy => by cases hy) x hm

def lib26 : Lib := (44, mk rViewBlame) :: lib25
theorem lib26_ok : LibOK Go.Proofs.Try.prog lib26 := .cons viewBlame_ok lib25_ok
def answerN (t : Task) (low high a now : Int) : Nat := if (answerS t low high a now).2 = true then 2 else 0
def rViewAnswer : List V.D → Option (Prop × V.D) := fun ds => match ds with
  | [.agg [a, b, c, e, f, .int .i64 tick, .int .i64 now], .agg [.int .i64 low, .int .i64 high]] =>
    some (TaskIs (.agg [a, b, c, e, f]) ∧ (taskOf (.agg [a, b, c, e, f])).ok ∧ (0 ≤ low ∧ low < 100000000) ∧ (0 ≤ high ∧ high < 100000000) ∧ (0 ≤ tick ∧ tick ≤ 100000) ∧ (0 ≤ now ∧ now ≤ 100000),
      .tup [.rsl 2 (answerN (taskOf (.agg [a, b, c, e, f])) low high tick now) (leftG (answerS (taskOf (.agg [a, b, c, e, f])) low high tick now).1.xl (answerS (taskOf (.agg [a, b, c, e, f])) low high tick now).1.xh (answerS (taskOf (.agg [a, b, c, e, f])) low high tick now).1.yl (answerS (taskOf (.agg [a, b, c, e, f])) low high tick now).1.yh),
        .bool (answerS (taskOf (.agg [a, b, c, e, f])) low high tick now).2])
  | _ => none
theorem viewAnswer_ok : PSound Go.Proofs.Try.prog 45 (mk rViewAnswer) := by
  refine psound_mk Try.func45 (by kernel_rfl) rfl (ctx lib26_ok) ?_
  (intro ds p d h; unfold rViewAnswer at h; split at h <;> first | (cases h; done) | skip; cases h; refine ⟨Nat.le_of_ble_eq_true rfl, fun hp k hk => ?_⟩)
  rename_i a b c e f tick now low high
  obtain ⟨ht, hok, hl, hh, ha, hnow⟩ := hp
  refine ⟨[.agg (viewL (taskOf (.agg [a, b, c, e, f])) tick now), .agg [.int .i64 low, .int .i64 high]], view_imp ht ⟨rfl, rfl, ?_⟩⟩
  clear ht
  generalize taskOf (.agg [a, b, c, e, f]) = t at *
  generalize hN : answerN t low high tick now = n0 at *
  generalize hS : answerS t low high tick now = w0 at *
  have hN' : n0 = if w0.2 = true then 2 else 0 := by rw [← hN, answerN, hS]
  clear hN
  repeat' (first | ((with_reducible refine kok ?_); kernel_rfl) | ((with_reducible refine keq_mk ?_); kernel_rfl) | with_reducible rfl | ((conv => whnf); first | exact trivial | refine And.intro ?_ ?_ | intro _ | (with_reducible refine (?_ : _ = true); (conv => lhs; whnf); done) | exact rfl))
  all_goals try (with_reducible refine (?_ : (_ : Int) ≤ _); omega)
  all_goals try (with_reducible refine (?_ : (_ : Int) < _); omega)
  · exact hok
  · exact hok
  · rename_i g1
    have e1 : agreeS t low high tick now = true := g1
    have hw : w0 = (leftS t (-1) low high tick now, true) := by
      rw [← hS, answerS, if_pos e1]
      exact congrArg (Prod.mk _) e1
    subst hw
    subst hN'
    (refine fin_of hk ?_; clear hk; repeat' (first | ((with_reducible refine kok ?_); kernel_rfl) | ((with_reducible refine keq_mk ?_); kernel_rfl) | with_reducible rfl | ((conv => whnf); first | exact trivial | refine And.intro ?_ ?_ | intro _ | (with_reducible refine (?_ : _ = true); (conv => lhs; whnf); done) | exact rfl)))
  · rename_i g1 g2
    have e2 := of_decide_eq_true g2
    omega
  · exact hok
  · rename_i g1 g2
    have e1 : agreeS t low high tick now = false := g1
    have e2 : (blameS t low high tick now).length = 1 := by have : ((blameS t low high tick now).length : Int) = 1 := of_decide_eq_true g2; omega
    have hw : w0 = (leftS t ((blameS t low high tick now).getD 0 0) low high tick now, true) := by
      rw [← hS, answerS, if_neg (by rw [e1]; exact Bool.noConfusion), if_neg (fun h => h e2)]
      exact congrArg (Prod.mk _) (blame_agree e2)
    subst hw
    subst hN'
    (refine fin_of hk ?_; clear hk; repeat' (first | ((with_reducible refine kok ?_); kernel_rfl) | ((with_reducible refine keq_mk ?_); kernel_rfl) | with_reducible rfl | ((conv => whnf); first | exact trivial | refine And.intro ?_ ?_ | intro _ | (with_reducible refine (?_ : _ = true); (conv => lhs; whnf); done) | exact rfl)))
  · rename_i g1 g2
    have e1 : agreeS t low high tick now = false := g1
    have e2 : (blameS t low high tick now).length ≠ 1 := by have : ¬ ((blameS t low high tick now).length : Int) = 1 := of_decide_eq_false g2; omega
    have hw : w0 = (⟨0, 0, 0, 0⟩, false) := by
      rw [← hS, answerS, if_neg (by rw [e1]; exact Bool.noConfusion), if_pos e2]
    subst hw
    subst hN'
    (refine fin_of hk ?_; clear hk; repeat' (first | ((with_reducible refine kok ?_); kernel_rfl) | ((with_reducible refine keq_mk ?_); kernel_rfl) | with_reducible rfl | ((conv => whnf); first | exact trivial | refine And.intro ?_ ?_ | intro _ | (with_reducible refine (?_ : _ = true); (conv => lhs; whnf); done) | exact rfl)))
    all_goals trace_state
end Go.Proofs.Ytlecbjbjgfpfeaa
end
section
set_option linter.unusedVariables false
set_option linter.unusedSimpArgs false
set_option maxRecDepth 100000
set_option maxHeartbeats 4000000
namespace Go.Proofs.Ytlecbjbjgfpfeaa
open Go.V

def lib27 : Lib := (45, mk rViewAnswer) :: lib26
theorem lib27_ok : LibOK Go.Proofs.Try.prog lib27 := .cons viewAnswer_ok lib26_ok
def checkE (t : Task) : Int := (checkS t).2.2
theorem checkE_ok {t : Task} (h : checkE t = 0) : t.ok := check_ok h
def tickB (n : Int) : Bool := isin n 0 100000
def heightB (n : Int) : Bool := isin n 0 99999999

def doubtT (t : Task) (i h tick : Int) : Int × Int :=
  if checkE t ≠ 0 then (0, checkE t) else if isin i 0 (t.nx - 1) = false then (0, 4) else if (heightB h && tickB tick) = false then (0, 7) else (doubtS t i.toNat h tick, 0)
def rDoubtT : List V.D → Option (Prop × V.D) := fun ds => match ds with
  | [d, .int .i64 i, .int .i64 h, .int .i64 tick] => some (TaskIs d ∧ (taskOf d).fits, .tup [.int .i64 (doubtT (taskOf d) i h tick).1, .int .i64 (doubtT (taskOf d) i h tick).2])
  | _ => none
theorem doubtT_e {t : Task} {i h tick : Int} (h1 : checkE t ≠ 0) : doubtT t i h tick = (0, checkE t) := if_pos h1
theorem doubtT_4 {t : Task} {i h tick : Int} (h1 : checkE t = 0) (h2 : isin i 0 (t.nx - 1) = false) : doubtT t i h tick = (0, 4) := (if_neg (fun g => g h1)).trans (if_pos h2)
theorem doubtT_7 {t : Task} {i h tick : Int} (h1 : checkE t = 0) (h2 : isin i 0 (t.nx - 1) = true) (h3 : (heightB h && tickB tick) = false) : doubtT t i h tick = (0, 7) :=
  (if_neg (fun g => g h1)).trans ((if_neg (by rw [h2]; exact Bool.noConfusion)).trans (if_pos h3))
theorem doubtT_0 {t : Task} {i h tick : Int} (h1 : checkE t = 0) (h2 : isin i 0 (t.nx - 1) = true) (h3 : (heightB h && tickB tick) = true) : doubtT t i h tick = (doubtS t i.toNat h tick, 0) :=
  (if_neg (fun g => g h1)).trans ((if_neg (by rw [h2]; exact Bool.noConfusion)).trans (if_neg (by rw [h3]; exact Bool.noConfusion)))

theorem and_ff {b : Bool} {A B : Prop} (e : b = false) (h : B) : (b = true → A) ∧ (b = false → B) := ⟨fun h1 => (by rw [e] at h1; cases h1), fun _ => h⟩
theorem and_tt {b : Bool} {A B : Prop} (e : b = true) (h : A) : (b = true → A) ∧ (b = false → B) := ⟨fun _ => h, fun h1 => (by rw [e] at h1; cases h1)⟩
theorem fin2 {d d0 : V.D} {k : V.D → Prop} (h : k d0) (hi : impA noGh d d0 True) : ∃ d1, k d1 ∧ Imp d d1 := fin_of h hi
theorem eq_leaf {α : Type} {a b : α} (h : a = b) : a = b := h
theorem decT {p : Prop} {i : Decidable p} : (@decide p i = true) = p := by cases i <;> simp_all
theorem decF {p : Prop} {i : Decidable p} : (@decide p i = false) = ¬ p := by cases i <;> simp_all
theorem out_true (n a b : Int) : (out n a b = true) = (n < a ∨ b < n) := by simp [out]
theorem out_false (n a b : Int) : (out n a b = false) = (a ≤ n ∧ n ≤ b) := by simp [out]
theorem isin_true (n a b : Int) : (isin n a b = true) = (a ≤ n ∧ n ≤ b) := by simp [isin]
theorem isin_false (n a b : Int) : (isin n a b = false) = (n < a ∨ b < n) := by simp [isin]; omega
theorem ok_at {t : Task} (h : (checkS t).2.2 = 0) {i : Int} (h0 : 0 ≤ i) (h1 : i < t.nx) : (0 ≤ t.xa i.toNat 0 ∧ t.xa i.toNat 0 < t.ns) ∧ (0 ≤ t.xa i.toNat 1 ∧ t.xa i.toNat 1 ≤ 100000) ∧ (0 ≤ t.xa i.toNat 2 ∧ t.xa i.toNat 2 < 100000000) ∧
    (0 ≤ t.sa (t.xa i.toNat 0).toNat 1 ∧ t.sa (t.xa i.toNat 0).toNat 1 ≤ 5000) ∧ (0 ≤ t.age ∧ t.age ≤ 1000) ∧ (0 ≤ t.shear ∧ t.shear ≤ 1000) := by
  have hok := check_ok h
  have hi : i.toNat < t.nx := by omega
  have hs := hok.src _ hi
  exact ⟨hs, hok.tick _ hi, hok.height _ hi, hok.err _ (by omega), hok.age, hok.shear⟩
theorem small_nx {t : Task} (h : (checkS t).2.2 = 0) : t.nx ≤ 60 ∧ t.ns ≤ 6 ∧ 1 ≤ t.nc ∧ t.nc ≤ 20 := by
  have hok := check_ok h
  exact ⟨hok.nx, hok.ns, hok.nc.1, hok.nc.2⟩
theorem windDoubt_ok : PSound Go.Proofs.Try.prog 16 (mk rDoubtT) := by
  refine psound_mk Try.func16 (by kernel_rfl) rfl (ctx lib27_ok) ?_
  (intro ds p d h; unfold rDoubtT at h; split at h <;> first | (cases h; done) | skip; cases h; refine ⟨Nat.le_of_ble_eq_true rfl, fun hp k hk => ?_⟩)
  rename_i d i h tick
  obtain ⟨ht, hf⟩ := hp
  refine ⟨[(taskOf d).D, .int .i64 i, .int .i64 h, .int .i64 tick], task_imp ht ⟨rfl, rfl, rfl, ?_⟩⟩
  clear ht
  generalize taskOf d = t at *
  generalize hS : doubtT t i h tick = c at *
  repeat' (first | ((with_reducible refine kok ?_); kernel_rfl) | ((with_reducible refine keq_mk ?_); kernel_rfl) | with_reducible rfl | ((conv => whnf); first | exact trivial | refine And.intro ?_ ?_ | intro _ | (with_reducible refine (?_ : _ = true); (conv => lhs; whnf); done) | exact rfl))
  all_goals try exact hf _ (by assumption)
  all_goals clear hf
  all_goals try ((first | with_reducible refine (?_ : (_ : Int) ≤ _) | with_reducible refine (?_ : (_ : Int) < _)); clear hS hk; simp only [taskOf_agg, ↓Bool.not_eq_true', ↓Bool.not_eq_false', ↓decT, ↓decF, out_true, out_false, isin_true, isin_false, Int.toNat_natCast, Int.ofNat_lt, Nat.zero_add, Nat.add_zero, Nat.reduceAdd] at *; have F1 := small_nx (t := t) (by assumption); first | omega | (have F2 := ok_at (t := t) (i := i) (by assumption) (by omega) (by omega); omega))
  all_goals refine fin_of hk ?_
  all_goals clear hk
  repeat' (first | ((with_reducible refine kok ?_); kernel_rfl) | ((with_reducible refine keq_mk ?_); kernel_rfl) | with_reducible rfl | ((conv => whnf); first | exact trivial | refine And.intro ?_ ?_ | intro _ | (with_reducible refine (?_ : _ = true); (conv => lhs; whnf); done) | exact rfl))
  all_goals subst hS
  all_goals try simp only [taskOf_agg, ↓Bool.not_eq_true', ↓Bool.not_eq_false', ↓decT, ↓decF, out_true, out_false, isin_true, isin_false, Int.toNat_natCast, Int.ofNat_lt, Nat.zero_add, Nat.add_zero, Nat.reduceAdd] at *
  all_goals try simp only [doubtT, checkE, heightB, tickB, taskOf_agg, ↓Bool.not_eq_true', ↓Bool.not_eq_false', ↓decT, ↓decF, out_true, out_false, isin_true, isin_false, Int.toNat_natCast, Int.ofNat_lt, Nat.zero_add, Nat.add_zero, Nat.reduceAdd, Bool.and_eq_false_iff]
  all_goals repeat' split
  all_goals first | rfl | omega
end Go.Proofs.Ytlecbjbjgfpfeaa
end
section
set_option linter.unusedVariables false
set_option linter.unusedSimpArgs false
set_option maxRecDepth 100000
set_option maxHeartbeats 4000000
namespace Go.Proofs.Ytlecbjbjgfpfeaa
open Go.V

attribute [local irreducible] doubtS saysS leftS agreeS blameS answerS checkS begun nameS lowS answerN
def lib28 : Lib := (16, mk rDoubtT) :: lib27
theorem lib28_ok : LibOK Go.Proofs.Try.prog lib28 := .cons windDoubt_ok lib27_ok

def left00 : Left := ⟨0, 0, 0, 0⟩
def atT (t : Task) (h a now : Int) : Left × Int :=
  if checkE t ≠ 0 then (left00, checkE t) else if (heightB h && tickB a && tickB now) = false then (left00, 7) else if (answerS t h h a now).2 = false then (left00, 9) else ((answerS t h h a now).1, 0)
def spansD (l : Left) (e : Int) : V.D := .tup [.agg [.int .i64 l.xl, .int .i64 l.xh], .agg [.int .i64 l.yl, .int .i64 l.yh], .int .i64 e]
def rAtT : List V.D → Option (Prop × V.D) := fun ds => match ds with
  | [d, .int .i64 h, .int .i64 a, .int .i64 now] => some (TaskIs d ∧ (taskOf d).fits, spansD (atT (taskOf d) h a now).1 (atT (taskOf d) h a now).2)
  | _ => none
theorem answerN_2 {t : Task} {l h a n : Int} (e : (answerS t l h a n).2 = true) : answerN t l h a n = 2 := by unfold answerN; exact if_pos e
theorem any2 (a b c d : Int) : anyBelow (empty (im (leftG a b c d))) 2 = (decide (b < a) || decide (d < c)) := by
  simp [anyBelow, empty, im, leftG, toI]
theorem windAt_ok : PSound Go.Proofs.Try.prog 20 (mk rAtT) := by
  refine psound_mk Try.func20 (by kernel_rfl) rfl (ctx lib28_ok) ?_
  (intro ds p d h; unfold rAtT at h; split at h <;> first | (cases h; done) | skip; cases h; refine ⟨Nat.le_of_ble_eq_true rfl, fun hp k hk => ?_⟩)
  rename_i d h a now
  obtain ⟨ht, hf⟩ := hp
  refine ⟨[(taskOf d).D, .int .i64 h, .int .i64 a, .int .i64 now], task_imp ht ⟨rfl, rfl, rfl, ?_⟩⟩
  clear ht
  generalize taskOf d = t at *
  generalize hS : atT t h a now = c at *
  repeat' (first | ((with_reducible refine kok ?_); kernel_rfl) | ((with_reducible refine keq_mk ?_); kernel_rfl) | with_reducible rfl | ((conv => whnf); first | (with_reducible exact trivial) | ((with_reducible refine and_ff ?_ ?_); · exact rfl) | ((with_reducible refine and_tt ?_ ?_); · exact rfl) | (with_reducible refine And.intro ?_ ?_) | intro _ | (with_reducible refine fin2 hk ?_) | ((with_reducible refine eq_leaf ?_); exact rfl) | exact trivial))
  all_goals try exact hf _ (by assumption)
  all_goals clear hf
  all_goals try ((with_reducible refine (?_ : Task.ok _)); clear hS hk; simp only [taskOf_agg, ↓Bool.not_eq_true', ↓Bool.not_eq_false', ↓decT, ↓decF, out_true, out_false, isin_true, isin_false, Int.toNat_natCast, Int.ofNat_lt, Nat.zero_add, Nat.add_zero, Nat.reduceAdd] at *; exact check_ok (by assumption))
  all_goals try ((first | with_reducible refine (?_ : (_ : Int) ≤ _) | with_reducible refine (?_ : (_ : Int) < _) | with_reducible refine (?_ : (_ : Nat) ≤ _) | with_reducible refine (?_ : (_ : Nat) < _)); clear hS hk; try simp only [taskOf_agg, ↓Bool.not_eq_true', ↓Bool.not_eq_false', ↓decT, ↓decF, out_true, out_false, isin_true, isin_false, Int.toNat_natCast, Int.ofNat_lt, Nat.zero_add, Nat.add_zero, Nat.reduceAdd] at *; first | omega | (have F3 := answerN_2 (by assumption); omega))
  all_goals clear hk
  all_goals subst hS
  all_goals try simp only [any2, taskOf_agg, ↓Bool.not_eq_true', ↓Bool.not_eq_false', ↓decT, ↓decF, out_true, out_false, isin_true, isin_false, Int.toNat_natCast, Int.ofNat_lt, Nat.zero_add, Nat.add_zero, Nat.reduceAdd, Int.toNat_zero, Int.reduceToNat, ↓reduceIte, reduceCtorEq, Bool.or_eq_true, Bool.or_eq_false_iff, Bool.and_eq_true, Bool.and_eq_false_iff] at *
  all_goals try simp only [atT, left00, checkE, heightB, tickB, taskOf_agg, ↓Bool.not_eq_true', ↓Bool.not_eq_false', ↓decT, ↓decF, out_true, out_false, isin_true, isin_false, Int.toNat_natCast, Int.ofNat_lt, Nat.zero_add, Nat.add_zero, Nat.reduceAdd, Int.toNat_zero, Int.reduceToNat, ↓reduceIte, reduceCtorEq, Bool.or_eq_true, Bool.or_eq_false_iff, Bool.and_eq_true, Bool.and_eq_false_iff]
  all_goals repeat' split
  all_goals first | with_reducible rfl | omega | (simp_all only [reduceCtorEq]; done)
def saysT (t : Task) (s b a now : Int) : Left × Int :=
  if checkE t ≠ 0 then (left00, checkE t) else if (isin s 0 (t.ns - 1) && isin b 0 (t.nc - 1)) = false then (left00, 4) else if (tickB a && tickB now) = false then (left00, 7) else
    if (saysS t s (lowS t b.toNat) (t.ca b.toNat 0 - 1) a now).some = false then (left00, 4) else
      if (saysS t s (lowS t b.toNat) (t.ca b.toNat 0 - 1) a now).xh < (saysS t s (lowS t b.toNat) (t.ca b.toNat 0 - 1) a now).xl ∨ (saysS t s (lowS t b.toNat) (t.ca b.toNat 0 - 1) a now).yh < (saysS t s (lowS t b.toNat) (t.ca b.toNat 0 - 1) a now).yl then (left00, 9) else
        (⟨(saysS t s (lowS t b.toNat) (t.ca b.toNat 0 - 1) a now).xl, (saysS t s (lowS t b.toNat) (t.ca b.toNat 0 - 1) a now).xh, (saysS t s (lowS t b.toNat) (t.ca b.toNat 0 - 1) a now).yl, (saysS t s (lowS t b.toNat) (t.ca b.toNat 0 - 1) a now).yh⟩, 0)
def rSaysT : List V.D → Option (Prop × V.D) := fun ds => match ds with
  | [d, .int .i64 s, .int .i64 b, .int .i64 a, .int .i64 now] => some (TaskIs d ∧ (taskOf d).fits, spansD (saysT (taskOf d) s b a now).1 (saysT (taskOf d) s b a now).2)
  | _ => none
theorem low_ok {t : Task} (h : (checkS t).2.2 = 0) {b : Int} (h0 : 0 ≤ b) (h1 : b ≤ t.nc - 1) : (0 ≤ lowS t b.toNat ∧ lowS t b.toNat < 100000000) ∧ (1 ≤ t.ca b.toNat 0 ∧ t.ca b.toNat 0 ≤ 100000000) := by
  have hok := check_ok h
  have h2 := hok.cut b.toNat (by omega)
  refine ⟨?_, h2⟩
  unfold lowS
  split
  · omega
  · rename_i hb
    have h3 := hok.cut (b.toNat - 1) (by omega)
    have h4 := hok.rise (b.toNat - 1) (by omega)
    rw [show b.toNat - 1 + 1 = b.toNat by omega] at h4
    omega
theorem windSays_ok : PSound Go.Proofs.Try.prog 18 (mk rSaysT) := by
  refine psound_mk Try.func18 (by kernel_rfl) rfl (ctx lib28_ok) ?_
  (intro ds p d h; unfold rSaysT at h; split at h <;> first | (cases h; done) | skip; cases h; refine ⟨Nat.le_of_ble_eq_true rfl, fun hp k hk => ?_⟩)
  rename_i d s b a now
  obtain ⟨ht, hf⟩ := hp
  refine ⟨[(taskOf d).D, .int .i64 s, .int .i64 b, .int .i64 a, .int .i64 now], task_imp ht ⟨rfl, rfl, rfl, rfl, ?_⟩⟩
  clear ht
  generalize taskOf d = t at *
  generalize hS : saysT t s b a now = c at *
  repeat' (first | ((with_reducible refine kok ?_); kernel_rfl) | ((with_reducible refine keq_mk ?_); kernel_rfl) | with_reducible rfl | ((conv => whnf); first | (with_reducible exact trivial) | ((with_reducible refine and_ff ?_ ?_); · exact rfl) | ((with_reducible refine and_tt ?_ ?_); · exact rfl) | (with_reducible refine And.intro ?_ ?_) | intro _ | (with_reducible refine fin2 hk ?_) | ((with_reducible refine eq_leaf ?_); exact rfl) | exact trivial))
  all_goals try exact hf _ (by assumption)
  all_goals clear hf
  all_goals try ((with_reducible refine (?_ : Task.ok _)); clear hS hk; simp only [taskOf_agg, ↓Bool.not_eq_true', ↓Bool.not_eq_false', ↓decT, ↓decF, out_true, out_false, isin_true, isin_false, Int.toNat_natCast, Int.ofNat_lt, Nat.zero_add, Nat.add_zero, Nat.reduceAdd] at *; exact check_ok (by assumption))
  all_goals try ((first | with_reducible refine (?_ : (_ : Int) ≤ _) | with_reducible refine (?_ : (_ : Int) < _) | with_reducible refine (?_ : (_ : Nat) ≤ _) | with_reducible refine (?_ : (_ : Nat) < _)); clear hS hk; try simp only [taskOf_agg, ↓Bool.not_eq_true', ↓Bool.not_eq_false', ↓decT, ↓decF, out_true, out_false, isin_true, isin_false, Int.toNat_natCast, Int.ofNat_lt, Nat.zero_add, Nat.add_zero, Nat.reduceAdd] at *; first | omega | (have F1 := small_nx (t := t) (by assumption); first | omega | (have F2 := low_ok (t := t) (b := b) (by assumption) (by omega) (by omega); omega)))
  all_goals clear hk
  all_goals subst hS
  all_goals try simp only [any2, taskOf_agg, ↓Bool.not_eq_true', ↓Bool.not_eq_false', ↓decT, ↓decF, out_true, out_false, isin_true, isin_false, Int.toNat_natCast, Int.ofNat_lt, Nat.zero_add, Nat.add_zero, Nat.reduceAdd, Int.toNat_zero, Int.reduceToNat, ↓reduceIte, reduceCtorEq, Bool.or_eq_true, Bool.or_eq_false_iff, Bool.and_eq_true, Bool.and_eq_false_iff] at *
  all_goals try simp only [saysT, left00, checkE, heightB, tickB, taskOf_agg, ↓Bool.not_eq_true', ↓Bool.not_eq_false', ↓decT, ↓decF, out_true, out_false, isin_true, isin_false, Int.toNat_natCast, Int.ofNat_lt, Nat.zero_add, Nat.add_zero, Nat.reduceAdd, Int.toNat_zero, Int.reduceToNat, ↓reduceIte, reduceCtorEq, Bool.or_eq_true, Bool.or_eq_false_iff, Bool.and_eq_true, Bool.and_eq_false_iff]
  all_goals repeat' split
  all_goals first | with_reducible rfl | omega | (simp_all only [reduceCtorEq]; done)
end Go.Proofs.Ytlecbjbjgfpfeaa
end
section
set_option linter.unusedVariables false
set_option linter.unusedSimpArgs false
set_option maxRecDepth 100000
set_option maxHeartbeats 4000000
namespace Go.Proofs.Ytlecbjbjgfpfeaa
open Go.V
attribute [local irreducible] doubtS saysS leftS agreeS blameS answerS checkS begun nameS lowS answerN
def lib29 : Lib := (20, mk rAtT) :: (18, mk rSaysT) :: lib28
theorem lib29_ok : LibOK Go.Proofs.Try.prog lib29 := .cons windAt_ok (.cons windSays_ok lib28_ok)

def blameT (t : Task) (b a now : Int) : List Int × Bool × Int :=
  if checkE t ≠ 0 then ([], false, checkE t) else if isin b 0 (t.nc - 1) = false then ([], false, 4) else if (tickB a && tickB now) = false then ([], false, 7) else
    (blameS t (lowS t b.toNat) (t.ca b.toNat 0 - 1) a now, agreeS t (lowS t b.toNat) (t.ca b.toNat 0 - 1) a now, 0)
def listD (l : List Int) : V.D := .rsl 1 l.length (liD l)
def rBlameT : List V.D → Option (Prop × V.D) := fun ds => match ds with
  | [d, .int .i64 b, .int .i64 a, .int .i64 now] => some (TaskIs d ∧ (taskOf d).fits, .tup [listD (blameT (taskOf d) b a now).1, .bool (blameT (taskOf d) b a now).2.1, .int .i64 (blameT (taskOf d) b a now).2.2])
  | _ => none
theorem windBlameT_ok : PSound Go.Proofs.Try.prog 19 (mk rBlameT) := by
  refine psound_mk Try.func19 (by kernel_rfl) rfl (ctx lib29_ok) ?_
  (intro ds p d h; unfold rBlameT at h; split at h <;> first | (cases h; done) | skip; cases h; refine ⟨Nat.le_of_ble_eq_true rfl, fun hp k hk => ?_⟩)
  rename_i d b a now
  obtain ⟨ht, hf⟩ := hp
  refine ⟨[(taskOf d).D, .int .i64 b, .int .i64 a, .int .i64 now], task_imp ht ⟨rfl, rfl, rfl, ?_⟩⟩
  clear ht
  generalize taskOf d = t at *
  generalize hS : blameT t b a now = c at *
  repeat' (first | ((with_reducible refine kok ?_); kernel_rfl) | ((with_reducible refine keq_mk ?_); kernel_rfl) | with_reducible rfl | ((conv => whnf); first | (with_reducible exact trivial) | ((with_reducible refine and_ff ?_ ?_); · exact rfl) | ((with_reducible refine and_tt ?_ ?_); · exact rfl) | (with_reducible refine And.intro ?_ ?_) | intro _ | (with_reducible refine fin2 hk ?_) | ((with_reducible refine eq_leaf ?_); exact rfl) | exact trivial))
  all_goals try exact hf _ (by assumption)
  all_goals clear hf
  all_goals try ((with_reducible refine (?_ : Task.ok _)); clear hS hk; simp only [taskOf_agg, ↓Bool.not_eq_true', ↓Bool.not_eq_false', ↓decT, ↓decF, out_true, out_false, isin_true, isin_false, Int.toNat_natCast, Int.ofNat_lt, Nat.zero_add, Nat.add_zero, Nat.reduceAdd] at *; exact check_ok (by assumption))
  all_goals try ((first | with_reducible refine (?_ : (_ : Int) ≤ _) | with_reducible refine (?_ : (_ : Int) < _) | with_reducible refine (?_ : (_ : Nat) ≤ _) | with_reducible refine (?_ : (_ : Nat) < _)); clear hS hk; try simp only [taskOf_agg, ↓Bool.not_eq_true', ↓Bool.not_eq_false', ↓decT, ↓decF, out_true, out_false, isin_true, isin_false, Int.toNat_natCast, Int.ofNat_lt, Nat.zero_add, Nat.add_zero, Nat.reduceAdd] at *; first | omega | (have F1 := small_nx (t := t) (by assumption); first | omega | (have F2 := low_ok (t := t) (b := b) (by assumption) (by omega) (by omega); omega)))
  all_goals clear hk
  all_goals subst hS
  all_goals try simp only [any2, taskOf_agg, ↓Bool.not_eq_true', ↓Bool.not_eq_false', ↓decT, ↓decF, out_true, out_false, isin_true, isin_false, Int.toNat_natCast, Int.ofNat_lt, Nat.zero_add, Nat.add_zero, Nat.reduceAdd, Int.toNat_zero, Int.reduceToNat, ↓reduceIte, reduceCtorEq, Bool.or_eq_true, Bool.or_eq_false_iff, Bool.and_eq_true, Bool.and_eq_false_iff] at *
  all_goals try simp only [blameT, checkE, heightB, tickB, taskOf_agg, ↓Bool.not_eq_true', ↓Bool.not_eq_false', ↓decT, ↓decF, out_true, out_false, isin_true, isin_false, Int.toNat_natCast, Int.ofNat_lt, Nat.zero_add, Nat.add_zero, Nat.reduceAdd, Int.toNat_zero, Int.reduceToNat, ↓reduceIte, reduceCtorEq, Bool.or_eq_true, Bool.or_eq_false_iff, Bool.and_eq_true, Bool.and_eq_false_iff]
  all_goals repeat' split
  all_goals first | with_reducible rfl | omega | (simp_all only [reduceCtorEq]; done) | rfl
end Go.Proofs.Ytlecbjbjgfpfeaa
end
section
set_option linter.unusedVariables false
set_option linter.unusedSimpArgs false
set_option maxRecDepth 100000
set_option maxHeartbeats 4000000
namespace Go.Proofs.Ytlecbjbjgfpfeaa
open Go.V
attribute [local irreducible] doubtS saysS leftS agreeS blameS answerS checkS begun nameS lowS answerN knownS
def lib30 : Lib := (19, mk rBlameT) :: lib29
theorem lib30_ok : LibOK Go.Proofs.Try.prog lib30 := .cons windBlameT_ok lib29_ok

/-- The soundings that are known, of the first ones. -/
def knownUp (t : Task) (now : Int) : Nat → List Int
  | 0 => []
  | i + 1 => if knownS t i now = true then knownUp t now i ++ [(i : Int)] else knownUp t now i
theorem knownUp_length (t : Task) (now : Int) : ∀ i, (knownUp t now i).length ≤ i
  | 0 => Nat.le_refl _
  | i + 1 => by
    have := knownUp_length t now i
    unfold knownUp
    split
    · simp only [List.length_append, List.length_singleton]; omega
    · omega
theorem liD_snoc2 {l l' : List Int} {x : Int} {i j : Nat} (h : l' = l ++ [x]) (hi : i < l'.length) (hj : j < 1) : (if i < l.length then liD l i j else [D.int IntKind.i64 x].getD ((i - l.length) * 1 + j) D.top) = liD l' i j := by
  subst h
  exact liD_snoc hi hj
theorem known_t {t : Task} {i : Nat} {now : Int} (h1 : t.xa i 1 + t.sa (t.xa i 0).toNat 2 ≤ now) (h2 : now ≤ t.xa i 1 + t.sa (t.xa i 0).toNat 3) : knownS t i now = true := by
  unfold knownS
  rw [decide_eq_true h1, decide_eq_true (by omega)]
  rfl
theorem known_f {t : Task} {i : Nat} {now : Int} (h : ¬ (t.xa i 1 + t.sa (t.xa i 0).toNat 2 ≤ now) ∨ ¬ (now ≤ t.xa i 1 + t.sa (t.xa i 0).toNat 3)) : knownS t i now = false := by
  unfold knownS
  rcases h with h | h
  · rw [decide_eq_false h]; rfl
  · rw [decide_eq_false (by omega : ¬ now - t.xa i 1 ≤ t.sa (t.xa i 0).toNat 3), Bool.and_false]
def knownT (t : Task) (now : Int) : List Int × Int := if checkE t ≠ 0 then ([], checkE t) else if tickB now = false then ([], 7) else (knownUp t now t.nx, 0)
def rKnownT : List V.D → Option (Prop × V.D) := fun ds => match ds with
  | [d, .int .i64 now] => some (TaskIs d ∧ (taskOf d).fits, .tup [listD (knownT (taskOf d) now).1, .int .i64 (knownT (taskOf d) now).2])
  | _ => none
def Lknown : Libs := ⟨lib30, [(37, inl (cxOf tab lib23) Go.Proofs.Try.f37)],
  [(57, inlI (cxOf tab lib23) Go.Proofs.Try.f57 (codeOf Go.Proofs.Try.f57))], []⟩
theorem Lknown_ok : LibsOK Go.Proofs.Try.prog Lknown := ⟨lib30_ok,
  asGet_cons (csound_in Try.func37 (by kernel_rfl) rfl (ctx lib23_ok)) (fun g s h => by cases h),
  asGet_cons (isound_of Try.func57 (by kernel_rfl) rfl (ctx lib23_ok)) (fun g s h => by cases h), fun f r h => (by cases h)⟩
theorem windKnownT_ok : PSound Go.Proofs.Try.prog 14 (mk rKnownT) := by
  refine psound_mk Try.func14 (by kernel_rfl) rfl (ctxA Lknown_ok) ?_
  (intro ds p d h; unfold rKnownT at h; split at h <;> first | (cases h; done) | skip; cases h; refine ⟨Nat.le_of_ble_eq_true rfl, fun hp k hk => ?_⟩)
  rename_i d now
  obtain ⟨ht, hf⟩ := hp
  refine ⟨[(taskOf d).D, .int .i64 now], task_imp ht ⟨rfl, ?_⟩⟩
  clear ht
  generalize taskOf d = t at *
  generalize hS : knownT t now = c at *
  repeat' (first | ((with_reducible refine kok ?_); kernel_rfl) | ((with_reducible refine keq_mk ?_); kernel_rfl) | with_reducible rfl | ((conv => whnf); first | (with_reducible exact trivial) | ((with_reducible refine and_ff ?_ ?_); · exact rfl) | ((with_reducible refine and_tt ?_ ?_); · exact rfl) | (with_reducible refine And.intro ?_ ?_) | intro _ | (with_reducible refine fin2 hk ?_) | ((with_reducible refine eq_leaf ?_); exact rfl) | exact trivial))
  all_goals try exact hf _ (by assumption)
  all_goals clear hf
  rotate_left 4
  · have E : checkE t = 0 := by
      rename_i g1 g2 r0
      clear hS hk
      simp only [taskOf_agg, ↓Bool.not_eq_true', ↓Bool.not_eq_false', ↓decT, ↓decF, out_true, out_false, isin_true, isin_false, Int.toNat_natCast, Int.ofNat_lt, Nat.zero_add, Nat.add_zero, Nat.reduceAdd] at *
      assumption
    have F1 := small_nx (t := t) E
    have hok := check_ok E
    have hnow : 0 ≤ now ∧ now ≤ 100000 := by
      rename_i g1 g2 r0
      clear hS hk
      simp only [taskOf_agg, ↓Bool.not_eq_true', ↓Bool.not_eq_false', ↓decT, ↓decF, out_true, out_false, isin_true, isin_false, Int.toNat_natCast, Int.ofNat_lt, Nat.zero_add, Nat.add_zero, Nat.reduceAdd] at *
      assumption
    have hc : c = (knownUp t now t.nx, 0) := by
      rw [← hS, knownT, if_neg (fun h => h E), if_neg]
      rw [show tickB now = true from by simp only [tickB, taskOf_agg, ↓Bool.not_eq_true', ↓Bool.not_eq_false', ↓decT, ↓decF, out_true, out_false, isin_true, isin_false, Int.toNat_natCast, Int.ofNat_lt, Nat.zero_add, Nat.add_zero, Nat.reduceAdd]; exact hnow]
      exact Bool.noConfusion
    subst hc
    clear hS
    rename_i r0
    refine ⟨Nat, fun i => [(0, .yld 4), (1, .ptr 3 0), (8, .rsl 5 t.nx (imD t.xa)), (9, .int .i64 t.nx), (10, .int .i64 i)], fun i => [some (taskRow t), some (.row [.own 5 (knownUp t now i).length]), some (.row (viewL t 0 now)), some (.row (viewL t 0 now)), some (.lp r0 .ready), some (.buf 3 1 (knownUp t now i).length (liD (knownUp t now i)))],
      fun i => t.nx - i, fun i => i ≤ t.nx, [(3, 1)], 0, fun _ => ⟨?_, ?_⟩, ?_, fun i hi => ?_⟩
    · conv => lhs; whnf
    · conv => lhs; whnf
    · clear hk
      repeat' (first | ((with_reducible refine kok ?_); kernel_rfl) | ((with_reducible refine keq_mk ?_); kernel_rfl) | with_reducible rfl | ((conv => whnf); first | (with_reducible exact trivial) | ((with_reducible refine and_ff ?_ ?_); · exact rfl) | ((with_reducible refine and_tt ?_ ?_); · exact rfl) | (with_reducible refine And.intro ?_ ?_) | intro _ | (with_reducible refine fin2 hk ?_) | ((with_reducible refine eq_leaf ?_); exact rfl) | exact trivial))
      all_goals first | exact Nat.zero_le _ | (intro i j h; exact absurd h (Nat.not_lt_zero _)) | (exact absurd (by assumption) (Nat.not_lt_zero _))
    have hlen := knownUp_length t now i
    have F : i < t.nx → (0 ≤ t.xa i 0 ∧ t.xa i 0 < t.ns) ∧ (0 ≤ t.xa i 1 ∧ t.xa i 1 ≤ 100000) ∧ (0 ≤ t.sa (t.xa i 0).toNat 2 ∧ t.sa (t.xa i 0).toNat 2 ≤ 6000) ∧ (1 ≤ t.sa (t.xa i 0).toNat 3 ∧ t.sa (t.xa i 0).toNat 3 ≤ 60000) := fun h => by
      have h3 := hok.src i h
      exact ⟨h3, hok.tick i h, hok.late _ (by omega), hok.life _ (by omega)⟩
    repeat' (first | ((with_reducible refine kok ?_); kernel_rfl) | ((with_reducible refine keq_mk ?_); kernel_rfl) | with_reducible rfl | ((conv => whnf); first | (with_reducible exact trivial) | ((with_reducible refine and_ff ?_ ?_); · exact rfl) | ((with_reducible refine and_tt ?_ ?_); · exact rfl) | (with_reducible refine And.intro ?_ ?_) | intro _ | (with_reducible refine fin2 hk ?_) | ((with_reducible refine eq_leaf ?_); exact rfl) | exact trivial))
    all_goals try ((first | with_reducible refine (?_ : (_ : Int) ≤ _) | with_reducible refine (?_ : (_ : Int) < _) | with_reducible refine (?_ : (_ : Nat) ≤ _) | with_reducible refine (?_ : (_ : Nat) < _)); clear hk; try simp only [taskOf_agg, ↓Bool.not_eq_true', ↓Bool.not_eq_false', ↓decT, ↓decF, out_true, out_false, isin_true, isin_false, Int.toNat_natCast, Int.ofNat_lt, Nat.zero_add, Nat.add_zero, Nat.reduceAdd] at *; first | omega | (have F' := F (by assumption); omega))
    all_goals try conv => whnf
    · rename_i g1 g2 g4 g5 g6
      simp only [taskOf_agg, ↓Bool.not_eq_true', ↓Bool.not_eq_false', ↓decT, ↓decF, out_true, out_false, isin_true, isin_false, Int.toNat_natCast, Int.ofNat_lt, Nat.zero_add, Nat.add_zero, Nat.reduceAdd] at g4 g5 g6
      have hw : knownUp t now (i + 1) = knownUp t now i ++ [(i : Int)] := if_pos (known_t g5 g6)
      clear hk F hok
      refine ⟨i + 1, ?_⟩
      repeat' (first | ((with_reducible refine kok ?_); kernel_rfl) | ((with_reducible refine keq_mk ?_); kernel_rfl) | with_reducible rfl | ((conv => whnf); first | (with_reducible exact trivial) | ((with_reducible refine and_ff ?_ ?_); · exact rfl) | ((with_reducible refine and_tt ?_ ?_); · exact rfl) | (with_reducible refine And.intro ?_ ?_) | intro _ | (with_reducible refine fin2 hk ?_) | ((with_reducible refine eq_leaf ?_); exact rfl) | exact trivial))
      all_goals first
        | omega
        | (rw [hw]; simp only [List.length_append, List.length_singleton]; done)
        | exact liD_snoc2 hw (by assumption) (by assumption)
        | (simp only; omega)
    · rename_i g1 g2 g4 g5 g6
      simp only [taskOf_agg, ↓Bool.not_eq_true', ↓Bool.not_eq_false', ↓decT, ↓decF, out_true, out_false, isin_true, isin_false, Int.toNat_natCast, Int.ofNat_lt, Nat.zero_add, Nat.add_zero, Nat.reduceAdd] at g4 g5 g6
      have hw : knownUp t now (i + 1) = knownUp t now i := if_neg (by rw [known_f (.inr g6)]; exact Bool.noConfusion)
      clear hk F hok
      refine ⟨i + 1, ?_⟩
      repeat' (first | ((with_reducible refine kok ?_); kernel_rfl) | ((with_reducible refine keq_mk ?_); kernel_rfl) | with_reducible rfl | ((conv => whnf); first | (with_reducible exact trivial) | ((with_reducible refine and_ff ?_ ?_); · exact rfl) | ((with_reducible refine and_tt ?_ ?_); · exact rfl) | (with_reducible refine And.intro ?_ ?_) | intro _ | (with_reducible refine fin2 hk ?_) | ((with_reducible refine eq_leaf ?_); exact rfl) | exact trivial))
      all_goals first
        | omega
        | (rw [hw]; done)
        | (rw [hw]; rfl)
        | (simp only; omega)
    · rename_i g1 g2 g4 g5
      simp only [taskOf_agg, ↓Bool.not_eq_true', ↓Bool.not_eq_false', ↓decT, ↓decF, out_true, out_false, isin_true, isin_false, Int.toNat_natCast, Int.ofNat_lt, Nat.zero_add, Nat.add_zero, Nat.reduceAdd] at g4 g5
      have hw : knownUp t now (i + 1) = knownUp t now i := if_neg (by rw [known_f (.inl g5)]; exact Bool.noConfusion)
      clear hk F hok
      refine ⟨i + 1, ?_⟩
      repeat' (first | ((with_reducible refine kok ?_); kernel_rfl) | ((with_reducible refine keq_mk ?_); kernel_rfl) | with_reducible rfl | ((conv => whnf); first | (with_reducible exact trivial) | ((with_reducible refine and_ff ?_ ?_); · exact rfl) | ((with_reducible refine and_tt ?_ ?_); · exact rfl) | (with_reducible refine And.intro ?_ ?_) | intro _ | (with_reducible refine fin2 hk ?_) | ((with_reducible refine eq_leaf ?_); exact rfl) | exact trivial))
      all_goals first
        | omega
        | (rw [hw]; done)
        | (rw [hw]; rfl)
        | (simp only; omega)
    all_goals (have e : i = t.nx := by (clear hk; simp only [taskOf_agg, ↓Bool.not_eq_true', ↓Bool.not_eq_false', ↓decT, ↓decF, out_true, out_false, isin_true, isin_false, Int.toNat_natCast, Int.ofNat_lt, Nat.zero_add, Nat.add_zero, Nat.reduceAdd] at *; omega))
    all_goals subst e
    all_goals rfl
  all_goals clear hk
  all_goals subst hS
  all_goals try simp only [taskOf_agg, ↓Bool.not_eq_true', ↓Bool.not_eq_false', ↓decT, ↓decF, out_true, out_false, isin_true, isin_false, Int.toNat_natCast, Int.ofNat_lt, Nat.zero_add, Nat.add_zero, Nat.reduceAdd, Int.toNat_zero, Int.reduceToNat, ↓reduceIte, reduceCtorEq, Bool.or_eq_true, Bool.or_eq_false_iff, Bool.and_eq_true, Bool.and_eq_false_iff] at *
  all_goals try simp only [knownT, checkE, tickB, taskOf_agg, ↓Bool.not_eq_true', ↓Bool.not_eq_false', ↓decT, ↓decF, out_true, out_false, isin_true, isin_false, Int.toNat_natCast, Int.ofNat_lt, Nat.zero_add, Nat.add_zero, Nat.reduceAdd, Int.toNat_zero, Int.reduceToNat, ↓reduceIte, reduceCtorEq, Bool.or_eq_true, Bool.or_eq_false_iff, Bool.and_eq_true, Bool.and_eq_false_iff]
  all_goals repeat' split
  all_goals first | with_reducible rfl | omega | (simp_all only [reduceCtorEq]; done) | rfl
end Go.Proofs.Ytlecbjbjgfpfeaa
end
section
set_option linter.unusedVariables false
set_option linter.unusedSimpArgs false
set_option maxRecDepth 100000
set_option maxHeartbeats 4000000
namespace Go.Proofs.Ytlecbjbjgfpfeaa
open Go.V
attribute [local irreducible] doubtS saysS leftS agreeS blameS answerS checkS begun nameS lowS answerN knownS
def lib31 : Lib := (14, mk rKnownT) :: lib30
theorem lib31_ok : LibOK Go.Proofs.Try.prog lib31 := .cons windKnownT_ok lib30_ok

def ansB (t : Task) (a now : Int) (i : Nat) : Left × Bool := answerS t (lowS t i) (t.ca i 0 - 1) a now
def bandA (t : Task) (a now : Int) (i j : Nat) : Int := match j with
  | 0 => lowS t i
  | 1 => t.ca i 0
  | 2 => (ansB t a now i).1.xl
  | 3 => (ansB t a now i).1.xh
  | 4 => (ansB t a now i).1.yl
  | 5 => (ansB t a now i).1.yh
  | _ => 0
def badB (t : Task) (a now : Int) (i : Nat) : Bool := !(ansB t a now i).2
def bandsT (t : Task) (a now : Int) : Nat × Int := if checkE t ≠ 0 then (0, checkE t) else if (tickB a && tickB now) = false then (0, 7) else if anyBelow (badB t a now) t.nc = true then (0, 9) else (t.nc, 0)
def rBandsT : List V.D → Option (Prop × V.D) := fun ds => match ds with
  | [d, .int .i64 a, .int .i64 now] => some (TaskIs d ∧ (taskOf d).fits, .tup [.rsl 6 (bandsT (taskOf d) a now).1 (imD (bandA (taskOf d) a now)), .int .i64 (bandsT (taskOf d) a now).2])
  | _ => none
theorem band_snoc {t : Task} {a now : Int} {n i j : Nat} {l : List V.D} (hl : l = [.int .i64 (lowS t n), .int .i64 (t.ca n 0), .int .i64 (ansB t a now n).1.xl, .int .i64 (ansB t a now n).1.xh, .int .i64 (ansB t a now n).1.yl, .int .i64 (ansB t a now n).1.yh]) (hi : i < n + 1) (hj : j < 6) :
    (if i < n then imD (bandA t a now) i j else l.getD ((i - n) * 6 + j) D.top) = imD (bandA t a now) i j := by
  subst hl
  by_cases h : i < n
  · rw [if_pos h]
  · rw [if_neg h]
    obtain rfl : i = n := by omega
    have hj' : j = 0 ∨ j = 1 ∨ j = 2 ∨ j = 3 ∨ j = 4 ∨ j = 5 := by omega
    rcases hj' with rfl | rfl | rfl | rfl | rfl | rfl <;> simp [imD, bandA]
theorem band_snoc2 {t : Task} {a now x : Int} {n i j : Nat} {l : List V.D} (hl : l = [.int .i64 (lowS t n), .int .i64 x, .int .i64 (ansB t a now n).1.xl, .int .i64 (ansB t a now n).1.xh, .int .i64 (ansB t a now n).1.yl, .int .i64 (ansB t a now n).1.yh]) (hx : x = t.ca n 0) (hi : i < n + 1) (hj : j < 6) :
    (if i < n then imD (bandA t a now) i j else l.getD ((i - n) * 6 + j) D.top) = imD (bandA t a now) i j := by
  subst hx
  exact band_snoc hl hi hj
theorem windBandsT_ok : PSound Go.Proofs.Try.prog 21 (mk rBandsT) := by
  refine psound_mk Try.func21 (by kernel_rfl) rfl (ctx lib31_ok) ?_
  (intro ds p d h; unfold rBandsT at h; split at h <;> first | (cases h; done) | skip; cases h; refine ⟨Nat.le_of_ble_eq_true rfl, fun hp k hk => ?_⟩)
  rename_i d a now
  obtain ⟨ht, hf⟩ := hp
  refine ⟨[(taskOf d).D, .int .i64 a, .int .i64 now], task_imp ht ⟨rfl, rfl, ?_⟩⟩
  clear ht
  generalize taskOf d = t at *
  generalize hS : bandsT t a now = c at *
  repeat' (first | ((with_reducible refine kok ?_); kernel_rfl) | ((with_reducible refine keq_mk ?_); kernel_rfl) | with_reducible rfl | ((conv => whnf); first | (with_reducible exact trivial) | ((with_reducible refine and_ff ?_ ?_); · exact rfl) | ((with_reducible refine and_tt ?_ ?_); · exact rfl) | (with_reducible refine And.intro ?_ ?_) | intro _ | (with_reducible refine fin2 hk ?_) | ((with_reducible refine eq_leaf ?_); exact rfl) | exact trivial))
  all_goals try exact hf _ (by assumption)
  all_goals clear hf
  rotate_left 6
  · rename_i g1 g2 g3
    have E : checkE t = 0 := by
      clear hS hk
      simp only [taskOf_agg, ↓Bool.not_eq_true', ↓Bool.not_eq_false', ↓decT, ↓decF, out_true, out_false, isin_true, isin_false, Int.toNat_natCast, Int.ofNat_lt, Nat.zero_add, Nat.add_zero, Nat.reduceAdd] at *
      assumption
    have hok := check_ok E
    have ha : 0 ≤ a ∧ a ≤ 100000 := by
      clear hS hk
      simp only [taskOf_agg, ↓Bool.not_eq_true', ↓Bool.not_eq_false', ↓decT, ↓decF, out_true, out_false, isin_true, isin_false, Int.toNat_natCast, Int.ofNat_lt, Nat.zero_add, Nat.add_zero, Nat.reduceAdd] at *
      omega
    have hnow : 0 ≤ now ∧ now ≤ 100000 := by
      clear hS hk
      simp only [taskOf_agg, ↓Bool.not_eq_true', ↓Bool.not_eq_false', ↓decT, ↓decF, out_true, out_false, isin_true, isin_false, Int.toNat_natCast, Int.ofNat_lt, Nat.zero_add, Nat.add_zero, Nat.reduceAdd] at *
      omega
    have hc : c = if anyBelow (badB t a now) t.nc = true then (0, 9) else (t.nc, 0) := by
      rw [← hS, bandsT, if_neg (fun h => h E), if_neg]
      rw [show tickB a = true from by simp only [tickB, taskOf_agg, ↓Bool.not_eq_true', ↓Bool.not_eq_false', ↓decT, ↓decF, out_true, out_false, isin_true, isin_false, Int.toNat_natCast, Int.ofNat_lt, Nat.zero_add, Nat.add_zero, Nat.reduceAdd]; exact ha, show tickB now = true from by simp only [tickB, taskOf_agg, ↓Bool.not_eq_true', ↓Bool.not_eq_false', ↓decT, ↓decF, out_true, out_false, isin_true, isin_false, Int.toNat_natCast, Int.ofNat_lt, Nat.zero_add, Nat.add_zero, Nat.reduceAdd]; exact hnow]
      exact Bool.noConfusion
    have hnc := hok.nc
    clear hS g1 g2 g3
    refine ⟨Nat, fun i => [(1, .int .i64 a), (2, .int .i64 now), (3, .ptr 0 0), (6, .own 2 i), (8, .ptr 1 0), (33, .rsl 1 t.nc (imD t.ca)), (34, .int .i64 t.nc), (35, .int .i64 i)], fun i => [some (taskRow t), some (.row (viewL t a now)), some (.buf 67 6 i (imD (bandA t a now)))],
      fun i => t.nc - i, fun i => i ≤ t.nc ∧ anyBelow (badB t a now) i = false, [(67, 6)], 0, fun _ => ⟨?_, ?_⟩, ?_, fun i hi => ?_⟩
    · conv => lhs; whnf
    · conv => lhs; whnf
    · clear hk
      repeat' (first | ((with_reducible refine kok ?_); kernel_rfl) | ((with_reducible refine keq_mk ?_); kernel_rfl) | with_reducible rfl | ((conv => whnf); first | (with_reducible exact trivial) | ((with_reducible refine and_ff ?_ ?_); · exact rfl) | ((with_reducible refine and_tt ?_ ?_); · exact rfl) | (with_reducible refine And.intro ?_ ?_) | intro _ | (with_reducible refine fin2 hk ?_) | ((with_reducible refine eq_leaf ?_); exact rfl) | exact trivial))
      all_goals first | exact Nat.zero_le _ | (exact absurd (by assumption) (Nat.not_lt_zero _)) | rfl
    obtain ⟨hi, hq⟩ := hi
    have F : i < t.nc → (0 ≤ lowS t i ∧ lowS t i < 100000000) ∧ (1 ≤ t.ca i 0 ∧ t.ca i 0 ≤ 100000000) := fun h => by
      have := low_ok E (b := (i : Int)) (by omega) (by omega)
      rwa [Int.toNat_natCast] at this
    have FN : ∀ l h : Int, (answerS t l h a now).2 = true → answerN t l h a now = 2 := fun l h e => answerN_2 e
    repeat' (first | ((with_reducible refine kok ?_); kernel_rfl) | ((with_reducible refine keq_mk ?_); kernel_rfl) | with_reducible rfl | ((conv => whnf); first | (with_reducible exact trivial) | ((with_reducible refine and_ff ?_ ?_); · exact rfl) | ((with_reducible refine and_tt ?_ ?_); · exact rfl) | (with_reducible refine And.intro ?_ ?_) | intro _ | (with_reducible refine fin2 hk ?_) | ((with_reducible refine eq_leaf ?_); exact rfl) | exact trivial))
    all_goals try ((with_reducible refine (?_ : Task.ok _)); exact hok)
    all_goals clear hok
    all_goals try ((first | with_reducible refine (?_ : (_ : Int) ≤ _) | with_reducible refine (?_ : (_ : Int) < _) | with_reducible refine (?_ : (_ : Nat) ≤ _) | with_reducible refine (?_ : (_ : Nat) < _)); clear hk; try simp only [taskOf_agg, ↓Bool.not_eq_true', ↓Bool.not_eq_false', ↓decT, ↓decF, out_true, out_false, isin_true, isin_false, Int.toNat_natCast, Int.ofNat_lt, Nat.zero_add, Nat.add_zero, Nat.reduceAdd] at *; first | omega | (have F' := F (by assumption); omega) | (have F' := FN _ _ (by assumption); omega))
    all_goals try conv => whnf
    rotate_left 2
    · rename_i g1 g2
      clear hk F FN hc
      simp only [taskOf_agg, ↓Bool.not_eq_true', ↓Bool.not_eq_false', ↓decT, ↓decF, out_true, out_false, isin_true, isin_false, Int.toNat_natCast, Int.ofNat_lt, Nat.zero_add, Nat.add_zero, Nat.reduceAdd] at g1 g2
      have hb : badB t a now i = false := by unfold badB ansB; rw [g2]; rfl
      refine ⟨i + 1, ?_⟩
      repeat' (first | ((with_reducible refine kok ?_); kernel_rfl) | ((with_reducible refine keq_mk ?_); kernel_rfl) | with_reducible rfl | ((conv => whnf); first | (with_reducible exact trivial) | ((with_reducible refine and_ff ?_ ?_); · exact rfl) | ((with_reducible refine and_tt ?_ ?_); · exact rfl) | (with_reducible refine And.intro ?_ ?_) | intro _ | (with_reducible refine fin2 hk ?_) | ((with_reducible refine eq_leaf ?_); exact rfl) | exact trivial))
      all_goals first
        | omega
        | exact band_snoc rfl (by assumption) (by assumption)
        | exact band_snoc2 (x := t.ca i 0 - 1 + 1) rfl (by omega) (by assumption) (by assumption)
        | (rw [anyBelow, hq, hb]; rfl)
        | (simp only; omega)
    · have e : i = t.nc := by (clear hk; simp only [taskOf_agg, ↓Bool.not_eq_true', ↓Bool.not_eq_false', ↓decT, ↓decF, out_true, out_false, isin_true, isin_false, Int.toNat_natCast, Int.ofNat_lt, Nat.zero_add, Nat.add_zero, Nat.reduceAdd] at *; omega)
      rw [hc, if_neg (by rw [← e, hq]; exact Bool.noConfusion)]
      exact e
    · have e : i = t.nc := by (clear hk; simp only [taskOf_agg, ↓Bool.not_eq_true', ↓Bool.not_eq_false', ↓decT, ↓decF, out_true, out_false, isin_true, isin_false, Int.toNat_natCast, Int.ofNat_lt, Nat.zero_add, Nat.add_zero, Nat.reduceAdd] at *; omega)
      rw [hc, if_neg (by rw [← e, hq]; exact Bool.noConfusion)]
    all_goals (rename_i g1 g2; clear hk; simp only [taskOf_agg, ↓Bool.not_eq_true', ↓Bool.not_eq_false', ↓decT, ↓decF, out_true, out_false, isin_true, isin_false, Int.toNat_natCast, Int.ofNat_lt, Nat.zero_add, Nat.add_zero, Nat.reduceAdd] at g1 g2; have hb : anyBelow (badB t a now) t.nc = true := anyBelow_iff.mpr ⟨i, g1, by unfold badB ansB; rw [g2]; rfl⟩)
    all_goals rw [hc, if_pos hb]
  all_goals clear hk
  all_goals subst hS
  all_goals try simp only [taskOf_agg, ↓Bool.not_eq_true', ↓Bool.not_eq_false', ↓decT, ↓decF, out_true, out_false, isin_true, isin_false, Int.toNat_natCast, Int.ofNat_lt, Nat.zero_add, Nat.add_zero, Nat.reduceAdd, Int.toNat_zero, Int.reduceToNat, ↓reduceIte, reduceCtorEq, Bool.or_eq_true, Bool.or_eq_false_iff, Bool.and_eq_true, Bool.and_eq_false_iff] at *
  all_goals try simp only [bandsT, checkE, tickB, taskOf_agg, ↓Bool.not_eq_true', ↓Bool.not_eq_false', ↓decT, ↓decF, out_true, out_false, isin_true, isin_false, Int.toNat_natCast, Int.ofNat_lt, Nat.zero_add, Nat.add_zero, Nat.reduceAdd, Int.toNat_zero, Int.reduceToNat, ↓reduceIte, reduceCtorEq, Bool.or_eq_true, Bool.or_eq_false_iff, Bool.and_eq_true, Bool.and_eq_false_iff]
  all_goals repeat' split
  all_goals first | with_reducible rfl | omega | (simp_all only [reduceCtorEq]; done) | rfl
end Go.Proofs.Ytlecbjbjgfpfeaa
end
