/-
  Contracts of the wind: whether a task is one (the reference).
-/
import Derived.Test.YtbkehkiflfhpfaaWj
set_option linter.unusedVariables false
set_option linter.unusedSimpArgs false
set_option maxRecDepth 100000
set_option maxHeartbeats 4000000
namespace Go.Proofs.Ytbkehkiflfhpfaa
open Go.V

/-- Whether something is so for a number below another one. -/
def anyBelow (p : Nat → Bool) : Nat → Bool
  | 0 => false
  | k + 1 => anyBelow p k || p k
theorem anyBelow_iff {p : Nat → Bool} {n : Nat} : anyBelow p n = true ↔ ∃ k, k < n ∧ p k = true := by
  induction n with
  | zero => simp [anyBelow]
  | succ n ih =>
    simp only [anyBelow, Bool.or_eq_true, ih]
    constructor
    · rintro (⟨k, h1, h2⟩ | h)
      · exact ⟨k, by omega, h2⟩
      · exact ⟨n, by omega, h⟩
    · rintro ⟨k, h1, h2⟩
      rcases Nat.lt_or_eq_of_le (Nat.le_of_lt_succ h1) with h | rfl
      · exact .inl ⟨k, h, h2⟩
      · exact .inr h2
theorem anyBelow_succ {p : Nat → Bool} {n : Nat} : anyBelow p (n + 1) = (anyBelow p n || p n) := rfl

def srcRange (t : Task) (i : Nat) : Bool := isin (t.sa i 1) 0 5000 && isin (t.sa i 2) 0 6000 && isin (t.sa i 3) 1 60000 && isin (t.sa i 4) 0 99999999 && isin (t.sa i 5) 0 99999999 && decide (t.sa i 4 ≤ t.sa i 5)
def sameName (t : Task) (i k : Nat) : Bool := decide (t.nm k = t.nm i)
def srcErr (t : Task) (i : Nat) : Int :=
  if nameS (t.nm i) = false then 6 else if anyBelow (sameName t i) i = true then 5 else if isin (t.sa i 0) 1 3 = false then 2 else if srcRange t i = false then 7 else 0
/-- Names are not longer than any slice can be. -/
def Task.fits (t : Task) : Prop := ∀ i, i < t.ns → (t.nm i).size ≤ 9223372036854775807
def rRefSource : List V.D → Option (Prop × V.D) := fun ds => match ds with
  | [d, .int .i64 i] => some (TaskIs d ∧ (taskOf d).fits ∧ (0 ≤ i ∧ i < (taskOf d).ns) ∧ (taskOf d).ns ≤ 6, .int .i64 (srcErr (taskOf d) i.toNat))
  | _ => none
def lib10 : Lib := (71, mk rAnswer) :: (22, mk rName) :: (23, mk rName) :: lib9
theorem lib10_ok : LibOK Go.Proofs.Try.prog lib10 := .cons refAnswer_ok (.cons windName_ok (.cons refName_ok lib9_ok))

theorem refSource_ok : PSound Go.Proofs.Try.prog 63 (mk rRefSource) := by
  refine psound_mk Try.func63 (by kernel_rfl) rfl (ctx lib10_ok) ?_
  (intro ds p d h; unfold rRefSource at h; split at h <;> first | (cases h; done) | skip; cases h; refine ⟨Nat.le_of_ble_eq_true rfl, fun hp k hk => ?_⟩)
  rename_i d i
  obtain ⟨ht, hf, ⟨h1, h2⟩, hn⟩ := hp
  refine ⟨[(taskOf d).D, .int .i64 i], task_imp ht ⟨rfl, ?_⟩⟩
  clear ht
  generalize taskOf d = t at *
  obtain ⟨n, rfl⟩ := Int.eq_ofNat_of_zero_le h1
  have hf1 := hf n (by omega)
  rw [Int.toNat_natCast] at hk
  repeat' (first | with_reducible rfl | ((conv => whnf); first | exact trivial | refine And.intro ?_ ?_ | intro _ | (with_reducible refine (?_ : _ = true); (conv => lhs; whnf); done) | exact rfl))
  · omega
  · omega
  · exact hf1
  · refine fin_of hk ?_
    clear hk
    repeat' (first | with_reducible rfl | ((conv => whnf); first | exact trivial | refine And.intro ?_ ?_ | intro _ | (with_reducible refine (?_ : _ = true); (conv => lhs; whnf); done) | exact rfl))
    all_goals first | exact trivial | (simp_all [srcErr]; done)
  rename_i hname
  refine ⟨Nat, fun k => [(1, .int .i64 n), (2, .ptr 0 0), (5, .ptr 1 0), (6, .int .i64 k)],
    fun k => [some (.row [.rsl 7 t.ns (smD t.nm t.sa), .rsl 5 t.nx (imD t.xa), .rsl 1 t.nc (imD t.ca), .int .i64 t.age, .int .i64 t.shear]), some (.row [.str (t.nm n), .int .i64 (t.sa n 0), .int .i64 (t.sa n 1), .int .i64 (t.sa n 2), .int .i64 (t.sa n 3), .int .i64 (t.sa n 4), .int .i64 (t.sa n 5)])],
    fun k => n - k, fun k => k ≤ n ∧ anyBelow (sameName t n) k = false, [], 0, fun _ => ⟨rfl, rfl⟩, ?_, fun k hI => ?_⟩
  · repeat' (first | with_reducible rfl | ((conv => whnf); first | exact trivial | refine And.intro ?_ ?_ | intro _ | (with_reducible refine (?_ : _ = true); (conv => lhs; whnf); done) | exact rfl))
    all_goals simp_all [anyBelow]
  · obtain ⟨hi, hc⟩ := hI
    have hany : k < n → t.nm k = t.nm n → anyBelow (sameName t n) n = true := fun h1 h2 => anyBelow_iff.mpr ⟨k, h1, by simp [sameName, h2]⟩
    have hend : ¬ k < n → anyBelow (sameName t n) n = false := fun h => by rw [show n = k by omega] at hc ⊢; exact hc
    repeat' (first | with_reducible rfl | ((conv => whnf); first | exact trivial | refine And.intro ?_ ?_ | intro _ | (with_reducible refine (?_ : _ = true); (conv => lhs; whnf); done) | exact rfl))
    all_goals try refine fin_of hk ?_
    all_goals try refine ⟨k + 1, ?_⟩
    all_goals clear hk
    repeat' (first | with_reducible rfl | ((conv => whnf); first | exact trivial | refine And.intro ?_ ?_ | intro _ | (with_reducible refine (?_ : _ = true); (conv => lhs; whnf); done) | exact rfl))
    all_goals try simp only [Int.toNat_natCast, Nat.zero_add, Nat.add_zero, Nat.reduceAdd, decide_eq_true_eq, decide_eq_false_iff_not, Bool.not_eq_true', Bool.not_eq_false', Int.ofNat_lt] at *
    all_goals try omega
    all_goals first
      | (have hb := hany (by assumption) (by assumption); simp [srcErr, hb, hname]; done)
      | (rw [anyBelow_succ, hc]; simp [sameName, *]; done)
      | (have hb := hend (by assumption); simp [srcErr, srcRange, hb, *]; done)
      | (have hb := hend (by assumption); simp [srcErr, srcRange, hb, *]; omega)

/-- The last number below another one for which something is so; -1: there is none. -/
def lastOf (p : Nat → Bool) : Nat → Int
  | 0 => -1
  | k + 1 => if p k = true then (k : Int) else lastOf p k
theorem lastOf_bound {p : Nat → Bool} {n : Nat} : -1 ≤ lastOf p n ∧ lastOf p n < n ∨ lastOf p n = -1 := by
  induction n with
  | zero => exact .inr rfl
  | succ n ih =>
    simp only [lastOf]
    split
    · left; omega
    · rcases ih with ih | ih
      · left; omega
      · exact .inr ih
def sndRange (t : Task) (i : Nat) : Bool := isin (t.xa i 1) 0 100000 && isin (t.xa i 2) (t.sa (t.xa i 0).toNat 4) (t.sa (t.xa i 0).toNat 5) && isin (t.xa i 3) (-20000) 20000 && isin (t.xa i 4) (-20000) 20000
def sameSpot (t : Task) (i k : Nat) : Bool := decide (t.xa k 0 = t.xa i 0) && decide (t.xa k 1 = t.xa i 1) && decide (t.xa k 2 = t.xa i 2)
def sameSrc (t : Task) (i k : Nat) : Bool := decide (t.xa k 0 = t.xa i 0)
def lastS (t : Task) (i : Nat) : Int := lastOf (sameSrc t i) i
def falls (t : Task) (i : Nat) : Bool := decide (t.sa (t.xa i 0).toNat 0 = 2) && decide (0 ≤ lastS t i) && (decide (t.xa i 1 < t.xa (lastS t i).toNat 1) || decide (t.xa i 2 < t.xa (lastS t i).toNat 2))
def sndErr (t : Task) (i : Nat) : Int :=
  if isin (t.xa i 0) 0 (t.ns - 1) = false then 4 else if sndRange t i = false then 7 else if anyBelow (sameSpot t i) i = true then 5 else if falls t i = true then 2 else 0
def rRefSounding : List V.D → Option (Prop × V.D) := fun ds => match ds with
  | [d, .int .i64 i] => some (TaskIs d ∧ (0 ≤ i ∧ i < (taskOf d).nx) ∧ (taskOf d).ns ≤ 6 ∧ (taskOf d).nx ≤ 60, .int .i64 (sndErr (taskOf d) i.toNat))
  | _ => none
theorem refSounding_ok : PSound Go.Proofs.Try.prog 64 (mk rRefSounding) := by
  refine psound_mk Try.func64 (by kernel_rfl) rfl (ctx lib10_ok) ?_
  (intro ds p d h; unfold rRefSounding at h; split at h <;> first | (cases h; done) | skip; cases h; refine ⟨Nat.le_of_ble_eq_true rfl, fun hp k hk => ?_⟩)
  rename_i d i
  obtain ⟨ht, ⟨h1, h2⟩, hns, hnx⟩ := hp
  refine ⟨[(taskOf d).D, .int .i64 i], task_imp ht ⟨rfl, ?_⟩⟩
  clear ht
  generalize taskOf d = t at *
  obtain ⟨n, rfl⟩ := Int.eq_ofNat_of_zero_le h1
  rw [Int.toNat_natCast] at hk
  have hr : (!isin (t.xa (n : Int).toNat 0) 0 (t.ns - 1)) = false → 0 ≤ t.xa n 0 ∧ t.xa n 0 < t.ns := fun h => by
    rw [Int.toNat_natCast] at h
    simp [isin] at h
    omega
  repeat' (first | with_reducible rfl | ((conv => whnf); first | exact trivial | refine And.intro ?_ ?_ | intro _ | (with_reducible refine (?_ : _ = true); (conv => lhs; whnf); done) | exact rfl))
  · omega
  · omega
  · omega
  · omega
  · refine fin_of hk ?_
    clear hk
    repeat' (first | with_reducible rfl | ((conv => whnf); first | exact trivial | refine And.intro ?_ ?_ | intro _ | (with_reducible refine (?_ : _ = true); (conv => lhs; whnf); done) | exact rfl))
    all_goals first | exact trivial | (simp_all [sndErr]; done)
  · exact (hr (by assumption)).1
  · exact (hr (by assumption)).2
  all_goals try (refine fin_of hk ?_; clear hk; repeat' (first | with_reducible rfl | ((conv => whnf); first | exact trivial | refine And.intro ?_ ?_ | intro _ | (with_reducible refine (?_ : _ = true); (conv => lhs; whnf); done) | exact rfl)); all_goals first | exact trivial | (simp_all [sndErr, sndRange]; done))
  rename_i q1 q2 q3 q4 q5
  have hs := hr q1
  rw [Int.toNat_natCast] at q1 q2 q3 q4 q5
  clear hr
  refine ⟨Nat, fun k => [(1, .int .i64 n), (2, .ptr 0 0), (5, .ptr 1 0), (6, .ptr 2 0), (7, .int .i64 (lastOf (sameSrc t n) k)), (8, .int .i64 k)],
    fun k => [some (.row [.rsl 7 t.ns (smD t.nm t.sa), .rsl 5 t.nx (imD t.xa), .rsl 1 t.nc (imD t.ca), .int .i64 t.age, .int .i64 t.shear]), some (.row [.int .i64 (t.xa n 0), .int .i64 (t.xa n 1), .int .i64 (t.xa n 2), .int .i64 (t.xa n 3), .int .i64 (t.xa n 4)]),
      some (.row [.top, .int .i64 (t.sa (t.xa n 0).toNat 0), .int .i64 (t.sa (t.xa n 0).toNat 1), .int .i64 (t.sa (t.xa n 0).toNat 2), .int .i64 (t.sa (t.xa n 0).toNat 3), .int .i64 (t.sa (t.xa n 0).toNat 4), .int .i64 (t.sa (t.xa n 0).toNat 5)])],
    fun k => n - k, fun k => k ≤ n ∧ anyBelow (sameSpot t n) k = false, [], 0, fun _ => ⟨rfl, rfl⟩, ?_, fun k hI => ?_⟩
  · repeat' (first | with_reducible rfl | ((conv => whnf); first | exact trivial | refine And.intro ?_ ?_ | intro _ | (with_reducible refine (?_ : _ = true); (conv => lhs; whnf); done) | exact rfl))
    all_goals simp_all [anyBelow, lastOf]
  · obtain ⟨hi, hc⟩ := hI
    have hany : k < n → t.xa k 0 = t.xa n 0 → t.xa k 1 = t.xa n 1 → t.xa k 2 = t.xa n 2 → anyBelow (sameSpot t n) n = true := fun h1 h2 h3 h4 => anyBelow_iff.mpr ⟨k, h1, by simp [sameSpot, h2, h3, h4]⟩
    have hend : ¬ k < n → k = n := fun h => by omega
    have hlb := lastOf_bound (p := sameSrc t n) (n := k)
    have hrange : sndRange t n = true := by simp_all [sndRange]
    have hsrc : isin (t.xa n 0) 0 (t.ns - 1) = true := by simp_all
    clear q1 q2 q3 q4 q5
    repeat' (first | with_reducible rfl | ((conv => whnf); first | exact trivial | refine And.intro ?_ ?_ | intro _ | (with_reducible refine (?_ : _ = true); (conv => lhs; whnf); done) | exact rfl))
    all_goals try refine fin_of hk ?_
    all_goals try refine ⟨k + 1, ?_⟩
    all_goals clear hk
    repeat' (first | with_reducible rfl | ((conv => whnf); first | exact trivial | refine And.intro ?_ ?_ | intro _ | (with_reducible refine (?_ : _ = true); (conv => lhs; whnf); done) | exact rfl))
    all_goals try simp only [Int.toNat_natCast, Nat.zero_add, Nat.add_zero, Nat.reduceAdd, decide_eq_true_eq, decide_eq_false_iff_not, Bool.not_eq_true', Bool.not_eq_false', Int.ofNat_lt] at *
    all_goals try omega
    all_goals first
      | (have hb := hany (by assumption) (by assumption) (by assumption) (by assumption); simp [sndErr, hsrc, hrange, hb]; done)
      | (simp [lastOf, sameSrc, *]; done)
      | (rw [anyBelow_succ, hc]; simp [sameSpot, *]; done)
      | (obtain rfl := hend (by assumption); simp [sndErr, falls, lastS, hsrc, hrange, hc, *]; done)

def tooLong (t : Task) : Bool := decide ((6 : Int) < t.ns) || decide ((60 : Int) < t.nx) || !isin t.nc 1 20
def cutErr (t : Task) (i : Nat) : Int := if isin (t.ca i 0) 1 100000000 = false then 7 else if 0 < i ∧ t.ca i 0 ≤ t.ca (i - 1) 0 then 2 else 0
def pickE (part : Int) (p : Int × Int) (r : Int × Int × Int) : Int × Int × Int := if p.2 ≠ 0 then (part, p.1, p.2) else r
def check4 (t : Task) : Int × Int × Int := if (isin t.age 0 1000 && isin t.shear 0 1000) = true then (0, 0, 0) else (5, 0, 7)
def check3 (t : Task) : Int × Int × Int := pickE 4 (fe (cutErr t) 0 t.nc) (check4 t)
def check2 (t : Task) : Int × Int × Int := pickE 3 (fe (sndErr t) 0 t.nx) (check3 t)
def checkS (t : Task) : Int × Int × Int := if tooLong t = true then (1, 0, 3) else pickE 2 (fe (srcErr t) 0 t.ns) (check2 t)
theorem pick_bad {e : Nat → Int} {i n : Nat} {p : Int} {r : Int × Int × Int} (h : i < n) (he : e i ≠ 0) : pickE p (fe e i (n - i)) r = (p, (i : Int), e i) := by
  rw [fe_step _ _ _ h, if_pos he]; exact if_pos he
theorem pick_next {e : Nat → Int} {i n : Nat} {p : Int} {r : Int × Int × Int} (h : i < n) (he : e i = 0) : pickE p (fe e i (n - i)) r = pickE p (fe e (i + 1) (n - (i + 1))) r := by
  rw [fe_step _ _ _ h, if_neg (fun h => h he)]
theorem pick_end {e : Nat → Int} {i n : Nat} {p : Int} {r : Int × Int × Int} (h : n ≤ i) : pickE p (fe e i (n - i)) r = r := by
  rw [show n - i = 0 by omega]; rfl
def rCheck : List V.D → Option (Prop × V.D) := fun ds => match ds with
  | [d] => some (TaskIs d ∧ (taskOf d).fits, .tup [.int .i64 (checkS (taskOf d)).1, .int .i64 (checkS (taskOf d)).2.1, .int .i64 (checkS (taskOf d)).2.2])
  | _ => none
def lib11 : Lib := (63, mk rRefSource) :: (64, mk rRefSounding) :: lib10
theorem lib11_ok : LibOK Go.Proofs.Try.prog lib11 := .cons refSource_ok (.cons refSounding_ok lib10_ok)
theorem refCheck_ok : PSound Go.Proofs.Try.prog 21 (mk rCheck) := by
  refine psound_mk Try.func21 (by kernel_rfl) rfl (ctx lib11_ok) ?_
  (intro ds p d h; unfold rCheck at h; split at h <;> first | (cases h; done) | skip; cases h; refine ⟨Nat.le_of_ble_eq_true rfl, fun hp k hk => ?_⟩)
  rename_i d
  obtain ⟨ht, hf⟩ := hp
  refine ⟨[(taskOf d).D], task_imp ht ?_⟩
  clear ht
  generalize taskOf d = t at *
  generalize hS : checkS t = c at *
  have hS' : c = if tooLong t = true then (1, 0, 3) else pickE 2 (fe (srcErr t) 0 t.ns) (check2 t) := hS.symm
  clear hS
  repeat' (first | with_reducible rfl | ((conv => whnf); first | exact trivial | refine And.intro ?_ ?_ | intro _ | (with_reducible refine (?_ : _ = true); (conv => lhs; whnf); done) | exact rfl))
  all_goals try (refine fin_of hk ?_; clear hk; rw [if_pos (by simp [tooLong, *])] at hS'; subst hS'; (conv => whnf); repeat' (first | exact trivial | refine And.intro ?_ ?_ | exact rfl))
  rename_i q1 q2 q3
  have hlong : tooLong t = false := by simp_all [tooLong]
  have hns : t.ns ≤ 6 := by simp at q1; omega
  have hnx : t.nx ≤ 60 := by simp at q2; omega
  have hnc : t.nc ≤ 20 := by simp [isin] at q3; omega
  clear q1 q2 q3
  rw [if_neg (by rw [hlong]; exact Bool.false_ne_true)] at hS'
  refine ⟨Nat, fun k => [(1, .ptr 0 0), (5, .int .i64 k)],
    fun k => [some (.row [.rsl 7 t.ns (smD t.nm t.sa), .rsl 5 t.nx (imD t.xa), .rsl 1 t.nc (imD t.ca), .int .i64 t.age, .int .i64 t.shear])],
    fun k => t.ns - k, fun k => k ≤ t.ns ∧ c = pickE 2 (fe (srcErr t) k (t.ns - k)) (check2 t), [], 0, fun _ => ⟨rfl, rfl⟩, ?_, fun k hI => ?_⟩
  · repeat' (first | with_reducible rfl | ((conv => whnf); first | exact trivial | refine And.intro ?_ ?_ | intro _ | (with_reducible refine (?_ : _ = true); (conv => lhs; whnf); done) | exact rfl))
    all_goals simp_all
  obtain ⟨hi, hc⟩ := hI
  clear hS'
  repeat' (first | with_reducible rfl | ((conv => whnf); first | exact trivial | refine And.intro ?_ ?_ | intro _ | (with_reducible refine (?_ : _ = true); (conv => lhs; whnf); done) | exact rfl))
  · exact hf _ (by assumption)
  · omega
  · exact of_decide_eq_true (by assumption)
  · exact hns
  · rename_i g1 g2
    have e1 : k < t.ns := Int.ofNat_lt.mp (of_decide_eq_true g1)
    have e2 : srcErr t k ≠ 0 := of_decide_eq_false ((Bool.not_eq_true' _).mp g2)
    have hb := hc.trans (pick_bad e1 e2)
    subst hb
    (refine fin_of hk ?_; clear hk; (conv => whnf); repeat' (first | exact trivial | refine And.intro ?_ ?_ | exact rfl))
  · omega
  · omega
  · rename_i g1 g2
    have e1 : k < t.ns := Int.ofNat_lt.mp (of_decide_eq_true g1)
    have e2 : srcErr t k = 0 := of_decide_eq_true ((Bool.not_eq_false' _).mp g2)
    have hb := hc.trans (pick_next e1 e2)
    clear hc hk
    refine ⟨k + 1, ?_⟩
    repeat' (first | with_reducible rfl | ((conv => whnf); first | exact trivial | refine And.intro ?_ ?_ | intro _ | (with_reducible refine (?_ : _ = true); (conv => lhs; whnf); done) | exact rfl))
    · omega
    · exact hb
    · simp only; omega
  rename_i g1
  have hc' : c = check2 t := hc.trans (pick_end (by simp at g1; omega))
  clear hc hi g1
  refine ⟨Nat, fun k2 => [(1, .ptr 0 0), (7, .int .i64 k2)],
    fun k2 => [some (.row [.rsl 7 t.ns (smD t.nm t.sa), .rsl 5 t.nx (imD t.xa), .rsl 1 t.nc (imD t.ca), .int .i64 t.age, .int .i64 t.shear])],
    fun k2 => t.nx - k2, fun k2 => k2 ≤ t.nx ∧ c = pickE 3 (fe (sndErr t) k2 (t.nx - k2)) (check3 t), [], 0, fun _ => ⟨rfl, rfl⟩, ?_, fun k2 hI => ?_⟩
  · clear hk
    repeat' (first | with_reducible rfl | ((conv => whnf); first | exact trivial | refine And.intro ?_ ?_ | intro _ | (with_reducible refine (?_ : _ = true); (conv => lhs; whnf); done) | exact rfl))
    · omega
    · exact hc'
  obtain ⟨hi, hc⟩ := hI
  clear hc'
  repeat' (first | with_reducible rfl | ((conv => whnf); first | exact trivial | refine And.intro ?_ ?_ | intro _ | (with_reducible refine (?_ : _ = true); (conv => lhs; whnf); done) | exact rfl))
  · omega
  · exact of_decide_eq_true (by assumption)
  · exact hns
  · exact hnx
  · rename_i g1 g2
    have e1 : k2 < t.nx := Int.ofNat_lt.mp (of_decide_eq_true g1)
    have e2 : sndErr t k2 ≠ 0 := of_decide_eq_false ((Bool.not_eq_true' _).mp g2)
    have hb := hc.trans (pick_bad e1 e2)
    subst hb
    (refine fin_of hk ?_; clear hk; (conv => whnf); repeat' (first | exact trivial | refine And.intro ?_ ?_ | exact rfl))
  · omega
  · omega
  · rename_i g1 g2
    have e1 : k2 < t.nx := Int.ofNat_lt.mp (of_decide_eq_true g1)
    have e2 : sndErr t k2 = 0 := of_decide_eq_true ((Bool.not_eq_false' _).mp g2)
    have hb := hc.trans (pick_next e1 e2)
    clear hc hk
    refine ⟨k2 + 1, ?_⟩
    repeat' (first | with_reducible rfl | ((conv => whnf); first | exact trivial | refine And.intro ?_ ?_ | intro _ | (with_reducible refine (?_ : _ = true); (conv => lhs; whnf); done) | exact rfl))
    · omega
    · exact hb
    · simp only; omega
  rename_i g1
  have hc' : c = check3 t := hc.trans (pick_end (by simp at g1; omega))
  clear hc hi g1
  refine ⟨Nat, fun k3 => [(1, .ptr 0 0), (9, .int .i64 k3)],
    fun k3 => [some (.row [.rsl 7 t.ns (smD t.nm t.sa), .rsl 5 t.nx (imD t.xa), .rsl 1 t.nc (imD t.ca), .int .i64 t.age, .int .i64 t.shear])],
    fun k3 => t.nc - k3, fun k3 => k3 ≤ t.nc ∧ c = pickE 4 (fe (cutErr t) k3 (t.nc - k3)) (check4 t), [], 0, fun _ => ⟨rfl, rfl⟩, ?_, fun k3 hI => ?_⟩
  · clear hk
    repeat' (first | with_reducible rfl | ((conv => whnf); first | exact trivial | refine And.intro ?_ ?_ | intro _ | (with_reducible refine (?_ : _ = true); (conv => lhs; whnf); done) | exact rfl))
    · omega
    · exact hc'
  obtain ⟨hi, hc⟩ := hI
  clear hc'
  have f1 : decide ((k3 : Int) < t.nc) = true → k3 < t.nc := fun h => Int.ofNat_lt.mp (of_decide_eq_true h)
  have f2 : decide ((0 : Int) < k3) = true → 0 < k3 := fun h => by have := of_decide_eq_true h; omega
  have f3 : decide ((0 : Int) < k3) = false → ¬ 0 < k3 := fun h => by have := of_decide_eq_false h; omega
  repeat' (first | with_reducible rfl | ((conv => whnf); first | exact trivial | refine And.intro ?_ ?_ | intro _ | (with_reducible refine (?_ : _ = true); (conv => lhs; whnf); done) | exact rfl))
  · omega
  · exact of_decide_eq_true (by assumption)
  · rename_i g1 g2
    have e1 := f1 g1
    have e2 : cutErr t k3 = 7 := if_pos ((Bool.not_eq_true' _).mp g2)
    have hb := hc.trans (pick_bad e1 (by rw [e2]; decide))
    rw [e2] at hb
    subst hb
    (refine fin_of hk ?_; clear hk; (conv => whnf); repeat' (first | exact trivial | refine And.intro ?_ ?_ | exact rfl))
  · omega
  · exact of_decide_eq_true (by assumption)
  · omega
  · omega
  · have := f2 (by assumption); omega
  · have := f1 (by assumption); omega
  · rename_i g1 g2 g3 g4
    have e1 := f1 g1
    have e3 := f2 g3
    have e5 : t.ca k3 0 ≤ t.ca (k3 - 1) 0 := by
      have := of_decide_eq_true g4
      rw [show ((k3 : Int) - 1).toNat = k3 - 1 by omega] at this
      exact this
    have e2 : cutErr t k3 = 2 := (if_neg (by rw [show isin (t.ca k3 0) 1 100000000 = true from (Bool.not_eq_false' _).mp g2]; exact Bool.noConfusion)).trans (if_pos ⟨e3, e5⟩)
    have hb := hc.trans (pick_bad e1 (by rw [e2]; decide))
    rw [e2] at hb
    subst hb
    (refine fin_of hk ?_; clear hk; (conv => whnf); repeat' (first | exact trivial | refine And.intro ?_ ?_ | exact rfl))
  · omega
  · omega
  · rename_i g1 g2 g3 g4
    have e1 := f1 g1
    have e3 := f2 g3
    have e5 : ¬ t.ca k3 0 ≤ t.ca (k3 - 1) 0 := by
      have := of_decide_eq_false g4
      rw [show ((k3 : Int) - 1).toNat = k3 - 1 by omega] at this
      exact this
    have e4 : cutErr t k3 = 0 := (if_neg (by rw [show isin (t.ca k3 0) 1 100000000 = true from (Bool.not_eq_false' _).mp g2]; exact Bool.noConfusion)).trans (if_neg fun h => e5 h.2)
    have hb := hc.trans (pick_next e1 e4)
    clear hc hk
    refine ⟨k3 + 1, ?_⟩
    repeat' (first | with_reducible rfl | ((conv => whnf); first | exact trivial | refine And.intro ?_ ?_ | intro _ | (with_reducible refine (?_ : _ = true); (conv => lhs; whnf); done) | exact rfl))
    · omega
    · exact hb
    · simp only; omega
  · omega
  · omega
  · rename_i g1 g2 g3
    have e1 := f1 g1
    have e3 := f3 g3
    have e4 : cutErr t k3 = 0 := (if_neg (by rw [show isin (t.ca k3 0) 1 100000000 = true from (Bool.not_eq_false' _).mp g2]; exact Bool.noConfusion)).trans (if_neg fun h => e3 h.1)
    have hb := hc.trans (pick_next e1 e4)
    clear hc hk
    refine ⟨k3 + 1, ?_⟩
    repeat' (first | with_reducible rfl | ((conv => whnf); first | exact trivial | refine And.intro ?_ ?_ | intro _ | (with_reducible refine (?_ : _ = true); (conv => lhs; whnf); done) | exact rfl))
    · omega
    · exact hb
    · simp only; omega
  all_goals (rename_i g1 g2; have hb : c = check4 t := hc.trans (pick_end (by first | (have := of_decide_eq_false g1; omega) | (have := of_decide_eq_false (by assumption : decide ((k3 : Int) < t.nc) = false); omega))))
  · rw [check4, if_neg (by rw [show isin t.age 0 1000 = false from (Bool.not_eq_true' _).mp g2]; exact Bool.noConfusion)] at hb
    subst hb
    (refine fin_of hk ?_; clear hk; (conv => whnf); repeat' (first | exact trivial | refine And.intro ?_ ?_ | exact rfl))
  · rw [check4, if_neg (by rw [show isin t.shear 0 1000 = false from (Bool.not_eq_true' _).mp g2, Bool.and_false]; exact Bool.noConfusion)] at hb
    subst hb
    (refine fin_of hk ?_; clear hk; (conv => whnf); repeat' (first | exact trivial | refine And.intro ?_ ?_ | exact rfl))
  · rw [check4, if_pos (by rw [show isin t.shear 0 1000 = true from (Bool.not_eq_false' _).mp g2, show isin t.age 0 1000 = true from (Bool.not_eq_false' _).mp g1]; rfl)] at hb
    subst hb
    (refine fin_of hk ?_; clear hk; (conv => whnf); repeat' (first | exact trivial | refine And.intro ?_ ?_ | exact rfl))
end Go.Proofs.Ytbkehkiflfhpfaa
