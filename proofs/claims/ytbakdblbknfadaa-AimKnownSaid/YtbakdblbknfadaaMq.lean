/-
  Aiming: what a round does; the errors of rounds (plain).
-/
import Derived.Test.YtbakdblbknfadaaMo
import Derived.Test.YtbakdblbknfadaaMp
import Derived.Test.YtbakdblbknfadaaMn
section
set_option linter.unusedVariables false
set_option linter.unusedSimpArgs false
set_option maxRecDepth 100000
set_option maxHeartbeats 4000000
namespace Go.Proofs.Ytbakdblbknfadaa
open Go.V
/-- There are no bands, or they do not reach up to the last weight. -/
def noB (t : ATask) (u : Task) (la now : Int) : Bool := !decide ((bandsT u la now).2 = 0) || lowB t (bandsT u la now).1 (bandA u la now)
def scR (t : ATask) (u : Task) (la now : Int) : Scn := weighS t (bandsT u la now).1 (bandA u la now)
/-- The setting that is kept. -/
def keepR (s : Scn) (k : Int) : Int := if 0 ≤ k ∧ alwB s k.toNat = false then -1 else k
/-- Is the launcher set? -/
def canR (s : Scn) (la now k : Int) : Bool := decide (0 ≤ bestTo s s.t.ns) && (decide (now + s.t.turn + s.t.freeze ≤ la) && (decide (k < 0) || decide (missS s (bestTo s s.t.ns).toNat + s.t.gain ≤ missS s k.toNat)))
def stR (s : Scn) (la now k : Int) : Int := if canR s la now (keepR s k) = true then bestTo s s.t.ns else keepR s k
def nextR (t : ATask) (u : Task) (la now k : Int) : Int := if noB t u la now = true then k else stR (scR t u la now) la now k
def setR (t : ATask) (u : Task) (la now k : Int) : Bool := !noB t u la now && canR (scR t u la now) la now (keepR (scR t u la now) k)
def mssR (s : Scn) (k : Int) : Int := if k < 0 then -1 else missS s k.toNat
def misR (t : ATask) (u : Task) (la now k : Int) : Int := if noB t u la now = true then -1 else mssR (scR t u la now) (nextR t u la now k)
theorem keep_in {s : Scn} {k n : Int} (h : -1 ≤ k ∧ k < n) (hn : 0 ≤ n) : -1 ≤ keepR s k ∧ keepR s k < n := by
  unfold keepR
  split <;> omega
theorem st_in {s : Scn} {la now k : Int} (h : -1 ≤ k ∧ k < s.t.ns) : -1 ≤ stR s la now k ∧ stR s la now k < s.t.ns := by
  unfold stR
  have := best_in s s.t.ns
  split
  · omega
  · exact keep_in h (by omega)
theorem next_in {t : ATask} {u : Task} {la now k : Int} (h : -1 ≤ k ∧ k < t.ns) : -1 ≤ nextR t u la now k ∧ nextR t u la now k < t.ns := by
  unfold nextR
  split
  · exact h
  · exact st_in (s := scR t u la now) h
/-- The setting after the first rounds. -/
def setTo (t : ATask) (u : Task) (la : Int) (w : Nat → Nat → Int) : Nat → Int
  | 0 => -1
  | i + 1 => nextR t u la (w i 0) (setTo t u la w i)
theorem setTo_in {t : ATask} (u : Task) (la : Int) (w : Nat → Nat → Int) : ∀ i, -1 ≤ setTo t u la w i ∧ setTo t u la w i < t.ns
  | 0 => by simp only [setTo]; omega
  | i + 1 => next_in (setTo_in u la w i)
/-- What is told of the rounds. -/
def rndA (t : ATask) (u : Task) (la : Int) (w : Nat → Nat → Int) (i j : Nat) : V.D := match j with
  | 0 => .int .i64 (w i 0)
  | 1 => .int .i64 (setTo t u la w (i + 1))
  | 2 => .int .i64 (misR t u la (w i 0) (setTo t u la w i))
  | _ => .bool (setR t u la (w i 0) (setTo t u la w i))
theorem noB_t {t : ATask} {u : Task} {la now : Int} (h : (bandsT u la now).2 = 0 → lowB t (bandsT u la now).1 (bandA u la now) = true) : noB t u la now = true := by
  unfold noB
  by_cases q : (bandsT u la now).2 = 0
  · rw [h q, Bool.or_true]
  · simp [q]
theorem noB_f {t : ATask} {u : Task} {la now : Int} (h : (bandsT u la now).2 = 0) (h2 : lowB t (bandsT u la now).1 (bandA u la now) = false) : noB t u la now = false := by
  unfold noB
  rw [h, h2]
  rfl
theorem noB_0 {t : ATask} {u : Task} {la now : Int} (h : noB t u la now = false) : (bandsT u la now).2 = 0 ∧ lowB t (bandsT u la now).1 (bandA u la now) = false := by
  unfold noB at h
  rw [Bool.or_eq_false_iff, Bool.not_eq_false', decide_eq_true_eq] at h
  exact h
theorem bandsT_1 {u : Task} {la now : Int} (h : (bandsT u la now).2 = 0) : (bandsT u la now).1 = u.nc := by
  have e : bandsT u la now = if checkE u ≠ 0 then (0, checkE u) else if (tickB la && tickB now) = false then (0, 7) else if anyBelow (badB u la now) u.nc = true then (0, 9) else (u.nc, 0) := by delta bandsT; rfl
  rw [e] at h ⊢
  by_cases q : checkE u = 0
  · rw [if_neg (fun g => g q)] at h ⊢
    by_cases q2 : (tickB la && tickB now) = false
    · rw [if_pos q2] at h; exact absurd h (by decide)
    · rw [if_neg q2] at h ⊢
      by_cases q3 : anyBelow (badB u la now) u.nc = true
      · rw [if_pos q3] at h; exact absurd h (by decide)
      · rw [if_neg q3]
  · rw [if_pos q] at h; exact absurd h q
theorem bandsT_chk {u : Task} {la now : Int} (h : (bandsT u la now).2 = 0) : (checkBands (bandsT u la now).1 (bandA u la now)).2 = 0 := by
  rw [bandsT_1 h]
  exact bands_check h
theorem bandsT_B {u : Task} {la now : Int} (h : (bandsT u la now).2 = 0) : BandsOK (bandsT u la now).1 (bandA u la now) := bands_ok (bandsT_chk h)
/-- The error of rounds. -/
def outN (la : Int) (w : Nat → Nat → Int) (i : Nat) : Bool := out (w i 0) 0 la
def descB (w : Nat → Nat → Int) (i : Nat) : Bool := decide (w (i + 1) 0 < w i 0)
def rndE (t : ATask) (u : Task) (la : Int) (n : Nat) (w : Nat → Nat → Int) : Int :=
  if (chkA t).2.2 ≠ 0 then (chkA t).2.2 else if checkE u ≠ 0 then checkE u else if out la 0 100000 = true then 7 else if 40 < n then 3 else if anyBelow (outN la w) n = true then 7 else if anyBelow (descB w) (n - 1) = true then 2 else 0
structure RndOK (t : ATask) (u : Task) (la : Int) (n : Nat) (w : Nat → Nat → Int) : Prop where
  am : AmOK t
  chk : checkE u = 0
  la0 : 0 ≤ la ∧ la ≤ 100000
  len : n ≤ 40
  now : ∀ i, i < n → 0 ≤ w i 0 ∧ w i 0 ≤ la
  up : ∀ i, i + 1 < n → w i 0 ≤ w (i + 1) 0
theorem out_t {n a b : Int} : out n a b = true ↔ ¬ (a ≤ n ∧ n ≤ b) := by
  unfold out
  simp
  omega
theorem any_f {p : Nat → Bool} {n : Nat} (h : ¬ anyBelow p n = true) {i : Nat} (hi : i < n) : p i = false := by
  cases q : p i with
  | false => rfl
  | true => exact absurd (anyBelow_iff.mpr ⟨i, hi, q⟩) h
theorem rnd_ok {t : ATask} {u : Task} {la : Int} {n : Nat} {w : Nat → Nat → Int} (h : rndE t u la n w = 0) : RndOK t u la n w := by
  have e : rndE t u la n w = if (chkA t).2.2 ≠ 0 then (chkA t).2.2 else if checkE u ≠ 0 then checkE u else if out la 0 100000 = true then 7 else if 40 < n then 3 else if anyBelow (outN la w) n = true then 7 else if anyBelow (descB w) (n - 1) = true then 2 else 0 := by delta rndE; rfl
  rw [e] at h
  by_cases q1 : (chkA t).2.2 = 0
  rotate_left
  · rw [if_pos q1] at h; exact absurd h q1
  rw [if_neg (fun g => g q1)] at h
  by_cases q2 : checkE u = 0
  rotate_left
  · rw [if_pos q2] at h; exact absurd h q2
  rw [if_neg (fun g => g q2)] at h
  by_cases q3 : out la 0 100000 = true
  · rw [if_pos q3] at h; exact absurd h (by decide)
  rw [if_neg q3] at h
  by_cases q4 : 40 < n
  · rw [if_pos q4] at h; exact absurd h (by decide)
  rw [if_neg q4] at h
  by_cases q5 : anyBelow (outN la w) n = true
  · rw [if_pos q5] at h; exact absurd h (by decide)
  rw [if_neg q5] at h
  by_cases q6 : anyBelow (descB w) (n - 1) = true
  · rw [if_pos q6] at h; exact absurd h (by decide)
  refine ⟨am_ok q1, q2, ?_, by omega, fun i hi => ?_, fun i hi => ?_⟩
  · rw [out_t] at q3; omega
  · have z := any_f q5 hi
    have z2 : ¬ out (w i 0) 0 la = true := by rw [show out (w i 0) 0 la = false from z]; exact Bool.noConfusion
    rw [out_t] at z2
    omega
  · have z := of_decide_eq_false (any_f q6 (i := i) (by omega))
    omega
theorem rnd_e1 {t : ATask} {u : Task} {la : Int} {n : Nat} {w : Nat → Nat → Int} (h : ¬ (chkA t).2.2 = 0) : rndE t u la n w = (chkA t).2.2 := if_pos h
theorem rnd_e2 {t : ATask} {u : Task} {la : Int} {n : Nat} {w : Nat → Nat → Int} (h : (chkA t).2.2 = 0) (h2 : ¬ checkE u = 0) : rndE t u la n w = checkE u := (if_neg (fun g => g h)).trans (if_pos h2)
theorem rnd_e3 {t : ATask} {u : Task} {la : Int} {n : Nat} {w : Nat → Nat → Int} (h : (chkA t).2.2 = 0) (h2 : checkE u = 0) : rndE t u la n w = if out la 0 100000 = true then 7 else if 40 < n then 3 else if anyBelow (outN la w) n = true then 7 else if anyBelow (descB w) (n - 1) = true then 2 else 0 := (if_neg (fun g => g h)).trans (if_neg (fun g => g h2))
theorem rnd_mk {t : ATask} {u : Task} {la : Int} {n : Nat} {w : Nat → Nat → Int} (h : (chkA t).2.2 = 0) (o : RndOK t u la n w) : rndE t u la n w = 0 := by
  rw [rnd_e3 h o.chk, if_neg, if_neg (by have := o.len; omega), if_neg, if_neg]
  · intro g
    obtain ⟨i, h1, h2⟩ := anyBelow_iff.mp g
    have := of_decide_eq_true h2
    have := o.up i (by omega)
    omega
  · intro g
    obtain ⟨i, h1, h2⟩ := anyBelow_iff.mp g
    exact (out_t.mp h2) (o.now i h1)
  · rw [out_t]
    have := o.la0
    omega
end Go.Proofs.Ytbakdblbknfadaa
end
section
set_option linter.unusedVariables false
set_option linter.unusedSimpArgs false
set_option maxRecDepth 100000
set_option maxHeartbeats 4000000
namespace Go.Proofs.Ytbakdblbknfadaa
open Go.V
def rOutC : List V.D → Option (Prop × V.D) := fun ds => match ds with
  | [.int .i64 n, .eptr 1 e] => some (e 0 = .int .i64 (toI (e 0)), .bool (out n 0 (toI (e 0))))
  | _ => none
theorem aOutC_ok : PSound Go.Proofs.Try.prog 68 (mk rOutC) := by
  refine psound_mk Try.func68 (by kernel_rfl) rfl (ctx la28_ok) ?_
  (intro ds p d h; unfold rOutC at h; split at h <;> first | (cases h; done) | skip; cases h; refine ⟨Nat.le_of_ble_eq_true rfl, fun hp k hk => ?_⟩)
  rename_i n e
  refine ⟨[.int .i64 n, .eptr 1 (fun _ => .int .i64 (toI (e 0)))], rfl, rfl, fun j hj => ?_, ?_⟩
  · obtain rfl : j = 0 := by omega
    exact hp
  generalize toI (e 0) = la at *
  repeat' (first | ((with_reducible refine kok ?_); kernel_rfl) | ((with_reducible refine keq_mk ?_); kernel_rfl) | with_reducible rfl | ((conv => whnf); first | (with_reducible exact trivial) | ((with_reducible refine and_ff ?_ ?_); · exact rfl) | ((with_reducible refine and_tt ?_ ?_); · exact rfl) | (with_reducible refine And.intro ?_ ?_) | intro _ | (with_reducible refine fin2 hk ?_) | ((with_reducible refine eq_leaf ?_); exact rfl) | exact trivial))
noncomputable def la31 : Lib := (68, mk rOutC) :: la28
theorem la31_ok : LibOK Go.Proofs.Try.prog la31 := .cons aOutC_ok la28_ok
def rIdxOut : List V.D → Option (Prop × V.D) := fun ds => match ds with
  | [.rsl 1 n g, .fn 68 [] [.eptr 1 e]] => some (IM n 1 g ∧ n ≤ 1099511627776 ∧ e 0 = .int .i64 (toI (e 0)), .int .i64 (firstFrom (outN (toI (e 0)) (im g)) 0 n))
  | _ => none
def rAnyOut : List V.D → Option (Prop × V.D) := fun ds => match ds with
  | [.rsl 1 n g, .fn 68 [] [.eptr 1 e]] => some (IM n 1 g ∧ n ≤ 1099511627776 ∧ e 0 = .int .i64 (toI (e 0)), .bool (anyBelow (outN (toI (e 0)) (im g)) n))
  | _ => none
theorem idxOut_ok : PSound Go.Proofs.Try.prog 96 (mk rIdxOut) := by
  refine psound_mk Try.func96 (by kernel_rfl) rfl (ctx la31_ok) ?_
  (intro ds p d h; unfold rIdxOut at h; split at h <;> first | (cases h; done) | skip; cases h; refine ⟨Nat.le_of_ble_eq_true rfl, fun hp k hk => ?_⟩)
  rename_i n g e
  obtain ⟨h1, h2, he⟩ := hp
  refine ⟨[.rsl 1 n (imD (im g)), .fn 68 [] [.eptr 1 e]], rfl, h1, ?_⟩
  clear h1
  generalize im g = a at *
  generalize hS : firstFrom (outN (toI (e 0)) a) 0 n = c at *
  repeat' (first | ((with_reducible refine kok ?_); kernel_rfl) | ((with_reducible refine keq_mk ?_); kernel_rfl) | with_reducible rfl | ((conv => whnf); first | (with_reducible exact trivial) | ((with_reducible refine and_ff ?_ ?_); · exact rfl) | ((with_reducible refine and_tt ?_ ?_); · exact rfl) | (with_reducible refine And.intro ?_ ?_) | intro _ | (with_reducible refine fin2 hk ?_) | ((with_reducible refine eq_leaf ?_); exact rfl) | exact trivial))
  conv => whnf
  refine ⟨Nat, fun i => [(0, .rsl 1 n (imD a)), (1, .fn 68 [] [.eptr 1 e]), (7, .int .i64 n), (8, .int .i64 i)], fun _ => [], fun i => n - i, fun i => i ≤ n ∧ c = firstFrom (outN (toI (e 0)) a) i (n - i), [], 0, fun _ => ⟨rfl, rfl⟩, ?_, fun i hI => ?_⟩
  · clear hk
    repeat' (first | ((with_reducible refine kok ?_); kernel_rfl) | ((with_reducible refine keq_mk ?_); kernel_rfl) | with_reducible rfl | ((conv => whnf); first | (with_reducible exact trivial) | ((with_reducible refine and_ff ?_ ?_); · exact rfl) | ((with_reducible refine and_tt ?_ ?_); · exact rfl) | (with_reducible refine And.intro ?_ ?_) | intro _ | (with_reducible refine fin2 hk ?_) | ((with_reducible refine eq_leaf ?_); exact rfl) | exact trivial))
    all_goals first | exact Nat.zero_le _ | exact hS.symm
  obtain ⟨hi, hc⟩ := hI
  have hi : i ≤ n := hi
  clear hS
  conv => whnf
  refine ⟨fun g1 => ?_, fun g1 => ?_⟩
  rotate_left
  · have q := of_decide_eq_false g1
    rw [firstFrom_end (by omega)] at hc
    subst hc
    repeat' (first | ((with_reducible refine kok ?_); kernel_rfl) | ((with_reducible refine keq_mk ?_); kernel_rfl) | with_reducible rfl | ((conv => whnf); first | (with_reducible exact trivial) | ((with_reducible refine and_ff ?_ ?_); · exact rfl) | ((with_reducible refine and_tt ?_ ?_); · exact rfl) | (with_reducible refine And.intro ?_ ?_) | intro _ | (with_reducible refine fin2 hk ?_) | ((with_reducible refine eq_leaf ?_); exact rfl) | exact trivial))
  have hlt : i < n := by have := of_decide_eq_true g1; omega
  repeat' (first | ((with_reducible refine kok ?_); kernel_rfl) | ((with_reducible refine keq_mk ?_); kernel_rfl) | with_reducible rfl | ((conv => whnf); first | (with_reducible exact trivial) | ((with_reducible refine and_ff ?_ ?_); · exact rfl) | ((with_reducible refine and_tt ?_ ?_); · exact rfl) | (with_reducible refine And.intro ?_ ?_) | intro _ | (with_reducible refine fin2 hk ?_) | ((with_reducible refine eq_leaf ?_); exact rfl) | exact trivial))
  all_goals try exact he
  all_goals try ((first | with_reducible refine (?_ : (_ : Int) ≤ _) | with_reducible refine (?_ : (_ : Int) < _)); clear hk; omega)
  · rename_i g2
    rw [firstFrom_step hlt, if_pos (show outN (toI (e 0)) a i = true from g2)] at hc
    exact hc.symm
  · rename_i g2
    rw [firstFrom_step hlt, if_neg (by rw [show outN (toI (e 0)) a i = false from g2]; exact Bool.noConfusion)] at hc
    clear hk
    conv => whnf
    refine ⟨i + 1, ?_⟩
    repeat' (first | ((with_reducible refine kok ?_); kernel_rfl) | ((with_reducible refine keq_mk ?_); kernel_rfl) | with_reducible rfl | ((conv => whnf); first | (with_reducible exact trivial) | ((with_reducible refine and_ff ?_ ?_); · exact rfl) | ((with_reducible refine and_tt ?_ ?_); · exact rfl) | (with_reducible refine And.intro ?_ ?_) | intro _ | (with_reducible refine fin2 hk ?_) | ((with_reducible refine eq_leaf ?_); exact rfl) | exact trivial))
    all_goals first | exact hlt | exact hc | (simp only; omega)
noncomputable def la32 : Lib := (96, mk rIdxOut) :: la31
theorem la32_ok : LibOK Go.Proofs.Try.prog la32 := .cons idxOut_ok la31_ok
theorem anyOut_ok : PSound Go.Proofs.Try.prog 67 (mk rAnyOut) := by
  refine psound_mk Try.func67 (by kernel_rfl) rfl (ctx la32_ok) ?_
  (intro ds p d h; unfold rAnyOut at h; split at h <;> first | (cases h; done) | skip; cases h; refine ⟨Nat.le_of_ble_eq_true rfl, fun hp k hk => ?_⟩)
  rename_i n g e
  obtain ⟨h1, h2, he⟩ := hp
  refine ⟨[.rsl 1 n (imD (im g)), .fn 68 [] [.eptr 1 e]], rfl, h1, ?_⟩
  clear h1
  generalize im g = a at *
  repeat' (first | ((with_reducible refine kok ?_); kernel_rfl) | ((with_reducible refine keq_mk ?_); kernel_rfl) | with_reducible rfl | ((conv => whnf); first | (with_reducible exact trivial) | ((with_reducible refine and_ff ?_ ?_); · exact rfl) | ((with_reducible refine and_tt ?_ ?_); · exact rfl) | (with_reducible refine And.intro ?_ ?_) | intro _ | (with_reducible refine fin2 hk ?_) | ((with_reducible refine eq_leaf ?_); exact rfl) | exact trivial))
  all_goals first
    | exact h2
    | exact he
    | exact firstFrom_any _ _
def rNaN : List V.D → Option (Prop × V.D) := fun ds => match ds with
  | [.int .i64 n] => some (True, .ff)
  | _ => none
theorem isNaN_ok : PSound Go.Proofs.Try.prog 114 (mk rNaN) := by
  refine psound_mk Try.func114 (by kernel_rfl) rfl (ctx la32_ok) ?_
  (intro ds p d h; unfold rNaN at h; split at h <;> first | (cases h; done) | skip; cases h; refine ⟨Nat.le_of_ble_eq_true rfl, fun hp k hk => ?_⟩)
  rename_i n
  refine ⟨[.int .i64 n], rfl, ?_⟩
  repeat' (first | ((with_reducible refine kok ?_); kernel_rfl) | ((with_reducible refine keq_mk ?_); kernel_rfl) | with_reducible rfl | ((conv => whnf); first | (with_reducible exact trivial) | ((with_reducible refine and_ff ?_ ?_); · exact rfl) | ((with_reducible refine and_tt ?_ ?_); · exact rfl) | (with_reducible refine And.intro ?_ ?_) | intro _ | (with_reducible refine fin2 hk ?_) | ((with_reducible refine eq_leaf ?_); exact rfl) | exact trivial))
  all_goals (clear hk; simp_all)
noncomputable def la33 : Lib := (114, mk rNaN) :: (67, mk rAnyOut) :: la32
theorem la33_ok : LibOK Go.Proofs.Try.prog la33 := .cons isNaN_ok (.cons anyOut_ok la32_ok)
def rLess : List V.D → Option (Prop × V.D) := fun ds => match ds with
  | [.int .i64 a, .int .i64 b] => some (True, .bool (decide (a < b)))
  | _ => none
theorem cmpLess_ok : PSound Go.Proofs.Try.prog 97 (mk rLess) := by
  refine psound_mk Try.func97 (by kernel_rfl) rfl (ctx la33_ok) ?_
  (intro ds p d h; unfold rLess at h; split at h <;> first | (cases h; done) | skip; cases h; refine ⟨Nat.le_of_ble_eq_true rfl, fun hp k hk => ?_⟩)
  rename_i a b
  refine ⟨[.int .i64 a, .int .i64 b], rfl, rfl, ?_⟩
  repeat' (first | ((with_reducible refine kok ?_); kernel_rfl) | ((with_reducible refine keq_mk ?_); kernel_rfl) | with_reducible rfl | ((conv => whnf); first | (with_reducible exact trivial) | ((with_reducible refine and_ff ?_ ?_); · exact rfl) | ((with_reducible refine and_tt ?_ ?_); · exact rfl) | (with_reducible refine And.intro ?_ ?_) | intro _ | (with_reducible refine fin2 hk ?_) | ((with_reducible refine eq_leaf ?_); exact rfl) | exact trivial))
noncomputable def la34 : Lib := (97, mk rLess) :: la33
theorem la34_ok : LibOK Go.Proofs.Try.prog la34 := .cons cmpLess_ok la33_ok
def rSorted : List V.D → Option (Prop × V.D) := fun ds => match ds with
  | [.rsl 1 n g] => some (IM n 1 g ∧ n ≤ 1099511627776, .bool (!anyBelow (descB (im g)) (n - 1)))
  | _ => none
theorem sorted_ok : PSound Go.Proofs.Try.prog 69 (mk rSorted) := by
  refine psound_mk Try.func69 (by kernel_rfl) rfl (ctx la34_ok) ?_
  (intro ds p d h; unfold rSorted at h; split at h <;> first | (cases h; done) | skip; cases h; refine ⟨Nat.le_of_ble_eq_true rfl, fun hp k hk => ?_⟩)
  rename_i n g
  obtain ⟨h1, h2⟩ := hp
  refine ⟨[.rsl 1 n (imD (im g))], rfl, h1, ?_⟩
  clear h1
  generalize im g = a at *
  generalize hS : (!anyBelow (descB a) (n - 1)) = c at *
  repeat' (first | ((with_reducible refine kok ?_); kernel_rfl) | ((with_reducible refine keq_mk ?_); kernel_rfl) | with_reducible rfl | ((conv => whnf); first | (with_reducible exact trivial) | ((with_reducible refine and_ff ?_ ?_); · exact rfl) | ((with_reducible refine and_tt ?_ ?_); · exact rfl) | (with_reducible refine And.intro ?_ ?_) | intro _ | (with_reducible refine fin2 hk ?_) | ((with_reducible refine eq_leaf ?_); exact rfl) | exact trivial))
  all_goals try ((first | with_reducible refine (?_ : (_ : Int) ≤ _) | with_reducible refine (?_ : (_ : Int) < _)); clear hk; omega)
  conv => whnf
  refine ⟨Nat, fun j => [(0, .rsl 1 n (imD a)), (3, .int .i64 ((n : Int) - 1 - j))], fun _ => [], fun j => n - j, fun j => j ≤ n - 1 ∧ c = !anyBelow (descB a) (n - 1 - j), [], 0, fun _ => ⟨rfl, rfl⟩, ?_, fun j hI => ?_⟩
  · clear hk
    repeat' (first | ((with_reducible refine kok ?_); kernel_rfl) | ((with_reducible refine keq_mk ?_); kernel_rfl) | with_reducible rfl | ((conv => whnf); first | (with_reducible exact trivial) | ((with_reducible refine and_ff ?_ ?_); · exact rfl) | ((with_reducible refine and_tt ?_ ?_); · exact rfl) | (with_reducible refine And.intro ?_ ?_) | intro _ | (with_reducible refine fin2 hk ?_) | ((with_reducible refine eq_leaf ?_); exact rfl) | exact trivial))
    all_goals first | exact Nat.zero_le _ | exact hS.symm | (show (n : Int) - 1 = (n : Int) - 1 - ((0 : Nat) : Int); omega) | skip
  obtain ⟨hj, hc⟩ := hI
  have hj : j ≤ n - 1 := hj
  clear hS
  have hc : c = !anyBelow (descB a) (n - 1 - j) := hc
  conv => whnf
  refine ⟨fun g1 => ?_, fun g1 => ?_⟩
  rotate_left
  · have q : ¬ (0 : Int) < (n : Int) - 1 - j := of_decide_eq_false g1
    rw [show n - 1 - j = 0 by omega] at hc
    have hc : c = true := hc
    subst hc
    repeat' (first | ((with_reducible refine kok ?_); kernel_rfl) | ((with_reducible refine keq_mk ?_); kernel_rfl) | with_reducible rfl | ((conv => whnf); first | (with_reducible exact trivial) | ((with_reducible refine and_ff ?_ ?_); · exact rfl) | ((with_reducible refine and_tt ?_ ?_); · exact rfl) | (with_reducible refine And.intro ?_ ?_) | intro _ | (with_reducible refine fin2 hk ?_) | ((with_reducible refine eq_leaf ?_); exact rfl) | exact trivial))
  have q : (0 : Int) < (n : Int) - 1 - j := of_decide_eq_true g1
  obtain ⟨m, hm⟩ : ∃ m, n - 1 - j = m + 1 := ⟨n - 1 - j - 1, by omega⟩
  rw [hm] at hc
  have e1 : ((n : Int) - 1 - j).toNat = m + 1 := by omega
  have e2 : ((n : Int) - 1 - j - 1).toNat = m := by omega
  repeat' (first | ((with_reducible refine kok ?_); kernel_rfl) | ((with_reducible refine keq_mk ?_); kernel_rfl) | with_reducible rfl | ((conv => whnf); first | (with_reducible exact trivial) | ((with_reducible refine and_ff ?_ ?_); · exact rfl) | ((with_reducible refine and_tt ?_ ?_); · exact rfl) | (with_reducible refine And.intro ?_ ?_) | intro _ | (with_reducible refine fin2 hk ?_) | ((with_reducible refine eq_leaf ?_); exact rfl) | exact trivial))
  all_goals try ((first | with_reducible refine (?_ : (_ : Int) ≤ _) | with_reducible refine (?_ : (_ : Int) < _)); clear hk; omega)
  · rename_i g2
    have z : descB a m = true := by
      have g2 : decide (a ((n : Int) - 1 - j).toNat 0 < a ((n : Int) - 1 - j - 1).toNat 0) = true := g2
      rw [e1, e2] at g2
      exact g2
    rw [hc, anyBelow_succ, z, Bool.or_true]
    rfl
  · rename_i g2
    have z : descB a m = false := by
      have g2 : decide (a ((n : Int) - 1 - j).toNat 0 < a ((n : Int) - 1 - j - 1).toNat 0) = false := g2
      rw [e1, e2] at g2
      exact g2
    clear hk
    conv => whnf
    refine ⟨j + 1, ?_⟩
    repeat' (first | ((with_reducible refine kok ?_); kernel_rfl) | ((with_reducible refine keq_mk ?_); kernel_rfl) | with_reducible rfl | ((conv => whnf); first | (with_reducible exact trivial) | ((with_reducible refine and_ff ?_ ?_); · exact rfl) | ((with_reducible refine and_tt ?_ ?_); · exact rfl) | (with_reducible refine And.intro ?_ ?_) | intro _ | (with_reducible refine fin2 hk ?_) | ((with_reducible refine eq_leaf ?_); exact rfl) | exact trivial))
    all_goals first
      | (show (n : Int) - 1 - j - 1 = (n : Int) - 1 - ((j + 1 : Nat) : Int); omega)
      | (show j + 1 ≤ n - 1; omega)
      | (rw [hc, anyBelow_succ, z, Bool.or_false, show n - 1 - (j + 1) = m by omega]; done)
      | (simp only; omega)
noncomputable def la35 : Lib := (69, mk rSorted) :: la34
theorem la35_ok : LibOK Go.Proofs.Try.prog la35 := .cons sorted_ok la34_ok
end Go.Proofs.Ytbakdblbknfadaa
end
section
set_option linter.unusedVariables false
set_option linter.unusedSimpArgs false
set_option maxRecDepth 100000
set_option maxHeartbeats 4000000
namespace Go.Proofs.Ytbakdblbknfadaa
open Go.V
theorem can_iff {s : Scn} {la now k : Int} : canR s la now k = true ↔ 0 ≤ bestTo s s.t.ns ∧ now + s.t.turn + s.t.freeze ≤ la ∧ (k < 0 ∨ missS s (bestTo s s.t.ns).toNat + s.t.gain ≤ missS s k.toNat) := by
  unfold canR
  rw [Bool.and_eq_true, Bool.and_eq_true, Bool.or_eq_true, decide_eq_true_eq, decide_eq_true_eq, decide_eq_true_eq, decide_eq_true_eq]
theorem keep_alw {s : Scn} {k : Int} (h : 0 ≤ keepR s k) : alwB s (keepR s k).toNat = true ∧ keepR s k = k := by
  unfold keepR at h ⊢
  by_cases q : 0 ≤ k ∧ alwB s k.toNat = false
  · rw [if_pos q] at h; omega
  · rw [if_neg q] at h ⊢
    cases a : alwB s k.toNat with
    | true => exact ⟨rfl, rfl⟩
    | false => exact absurd ⟨h, a⟩ q
theorem st_held {s : Scn} {la now k : Int} (hk : k < s.t.ns) (h : 0 ≤ stR s la now k) : alwB s (stR s la now k).toNat = true ∧ 0 ≤ bestTo s s.t.ns ∧ (now + s.t.turn + s.t.freeze ≤ la → 0 < s.t.gain → ¬ missS s (bestTo s s.t.ns).toNat + s.t.gain ≤ missS s (stR s la now k).toNat) := by
  unfold stR at h ⊢
  by_cases q : canR s la now (keepR s k) = true
  · rw [if_pos q] at h ⊢
    have c := can_iff.1 q
    exact ⟨best_alw s s.t.ns c.1, c.1, fun _ _ => by omega⟩
  · rw [if_neg q] at h ⊢
    have a := keep_alw h
    have b := best_le s s.t.ns (keepR s k).toNat (by rw [a.2] at h ⊢; omega) a.1
    exact ⟨a.1, b.1, fun h1 h2 h3 => q (can_iff.2 ⟨b.1, h1, .inr h3⟩)⟩
theorem st_none {s : Scn} {la now k : Int} (h : stR s la now k < 0) : canR s la now (keepR s k) = false ∧ ¬ (0 ≤ bestTo s s.t.ns ∧ now + s.t.turn + s.t.freeze ≤ la) := by
  unfold stR at h
  by_cases q : canR s la now (keepR s k) = true
  · rw [if_pos q] at h
    have c := can_iff.1 q
    omega
  · rw [if_neg q] at h
    refine ⟨by simpa using q, fun g => q (can_iff.2 ⟨g.1, g.2, .inl h⟩)⟩
/-- In time. -/
theorem set_time {t : ATask} {u : Task} {la now k : Int} (h : setR t u la now k = true) : now + t.turn + t.freeze ≤ la ∧ 0 ≤ nextR t u la now k := by
  unfold setR at h
  rw [Bool.and_eq_true, Bool.not_eq_true'] at h
  have c := can_iff.1 h.2
  refine ⟨c.2.1, ?_⟩
  unfold nextR stR
  rw [if_neg (by rw [h.1]; exact Bool.noConfusion), if_pos h.2]
  exact c.1
theorem set_not {t : ATask} {u : Task} {la now k : Int} (h : setR t u la now k = false) : nextR t u la now k = k ∨ nextR t u la now k = -1 := by
  unfold setR at h
  unfold nextR stR
  cases q : noB t u la now with
  | true => rw [if_pos rfl]; exact .inl rfl
  | false =>
    rw [q] at h
    have h : canR (scR t u la now) la now (keepR (scR t u la now) k) = false := h
    rw [if_neg (by decide), if_neg (by rw [h]; exact Bool.noConfusion)]
    unfold keepR
    split
    · exact .inr rfl
    · exact .inl rfl
end Go.Proofs.Ytbakdblbknfadaa
end
section
set_option linter.unusedVariables false
set_option linter.unusedSimpArgs false
set_option maxRecDepth 100000
set_option maxHeartbeats 4000000
namespace Go.Proofs.Ytbakdblbknfadaa
open Go.V
def lnchRow (t : ATask) (u : Task) (la k : Int) : List V.D := [.rsl 4 t.nr (imD t.ra), .rsl 5 t.ns (imD t.sa), .int .i64 t.tx, .int .i64 t.ty, .int .i64 t.al, .int .i64 t.ah, .int .i64 t.bl, .int .i64 t.bh, .int .i64 t.gain, .int .i64 t.turn, .int .i64 t.freeze,
  .rsl 7 u.ns (smD u.nm u.sa), .rsl 5 u.nx (imD u.xa), .rsl 1 u.nc (imD u.ca), .int .i64 u.age, .int .i64 u.shear, .int .i64 la, .int .i64 k]
attribute [local irreducible] weighS chkA checkS bandsT bandA lowB ScOK imp missS alwB bestTo rndE noB scR keepR canR stR nextR setR misR setTo anyBelow checkBands
def rndRow (t : ATask) (u : Task) (la now k : Int) : List V.D := [.int .i64 now, .int .i64 (nextR t u la now k), .int .i64 (misR t u la now k), .bool (setR t u la now k)]
def rndH (t : ATask) (u : Task) (la k : Int) (i : Nat) (g : Nat → Nat → V.D) : HL := [some (.row t.cells), some (taskRow u), some (.row [.int .i64 la]), some (.row (lnchRow t u la k)), some (.buf 57 4 i g)]
def rRound : CRule := fun ds H K => ∃ (t : ATask) (u : Task) (la k now : Int) (i : Nat) (g : Nat → Nat → V.D), ds = [.ptr 3 0, .int .i64 now] ∧ H = rndH t u la k i g ∧ (t.fits ∧ u.fits ∧ AmOK t ∧ -1 ≤ k ∧ k < t.ns ∧ (0 ≤ now ∧ now ≤ 100000) ∧ 0 ≤ la ∧ la ≤ 100000) ∧
  K (.ret (.agg (rndRow t u la now k))) (rndH t u la (nextR t u la now k) i g)
theorem bestC_in {s : Scn} (h : 1 ≤ s.t.ns) : 0 ≤ bestC s ∧ bestC s < s.t.ns := by
  have := best_in s s.t.ns
  unfold bestC
  split <;> omega
theorem bestC_eq {s : Scn} (h : 0 ≤ bestTo s s.t.ns) : bestC s = bestTo s s.t.ns := if_neg (by omega)
theorem nx_no {t : ATask} {u : Task} {la now k : Int} (h : noB t u la now = true) : nextR t u la now k = k ∧ misR t u la now k = -1 ∧ setR t u la now k = false := by
  refine ⟨?_, ?_, ?_⟩
  · delta nextR; exact if_pos h
  · delta misR; exact if_pos h
  · delta setR; simp only [h]; rfl
theorem nx_keep {t : ATask} {u : Task} {la now k : Int} {s : Scn} (h : noB t u la now = false) (hs : scR t u la now = s) (hc : canR s la now (keepR s k) = false) : nextR t u la now k = keepR s k ∧ misR t u la now k = mssR s (keepR s k) ∧ setR t u la now k = false := by
  have e : nextR t u la now k = keepR s k := by delta nextR stR; simp only [h, hs, hc]; rfl
  refine ⟨e, ?_, ?_⟩
  · delta misR; simp only [h, hs, e]; rfl
  · delta setR; simp only [h, hs, hc]; rfl
theorem nx_set {t : ATask} {u : Task} {la now k : Int} {s : Scn} (h : noB t u la now = false) (hs : scR t u la now = s) (hc : canR s la now (keepR s k) = true) : nextR t u la now k = bestTo s s.t.ns ∧ misR t u la now k = mssR s (bestTo s s.t.ns) ∧ setR t u la now k = true := by
  have e : nextR t u la now k = bestTo s s.t.ns := by delta nextR stR; simp only [h, hs, hc]; rfl
  refine ⟨e, ?_, ?_⟩
  · delta misR; simp only [h, hs, e]; rfl
  · delta setR; simp only [h, hs, hc]; rfl
theorem keep_1 {s : Scn} {k : Int} (h : 0 ≤ k) (h2 : alwB s k.toNat = false) : keepR s k = -1 := by delta keepR; exact if_pos ⟨h, h2⟩
theorem keep_2 {s : Scn} {k : Int} (h2 : alwB s k.toNat = true) : keepR s k = k := by delta keepR; exact if_neg (fun g => by rw [h2] at g; cases g.2)
theorem keep_3 {s : Scn} {k : Int} (h : k < 0) : keepR s k = k := by delta keepR; exact if_neg (fun g => by omega)
theorem mss_n {s : Scn} {k : Int} (h : k < 0) : mssR s k = -1 := if_pos h
theorem mss_p {s : Scn} {k : Int} (h : ¬ k < 0) : mssR s k = missS s k.toNat := if_neg h
theorem can_f {s : Scn} {la now k : Int} (h : ¬ (0 ≤ bestTo s s.t.ns ∧ now + s.t.turn + s.t.freeze ≤ la ∧ (k < 0 ∨ missS s (bestTo s s.t.ns).toNat + s.t.gain ≤ missS s k.toNat))) : canR s la now k = false := by
  cases e : canR s la now k with
  | false => rfl
  | true => exact absurd (can_iff.1 e) h
attribute [local irreducible] mssR bestC
theorem aRound_ok : CSound Go.Proofs.Try.prog 70 rRound := by
  refine csound_mk Try.func70 (by kernel_rfl) rfl (ctx la35_ok) fun ds H K h => ?_
  obtain ⟨t, u, la, k0, now, i, g, rfl, rfl, ⟨hf, hwf, ho, hk1, hk2, hnow, hla⟩, hk⟩ := h
  have hns := ho.ns
  have hnr := ho.nr
  have R := ho.rest
  unfold RestOK at R
  have hB := @bandsT_B u la now
  repeat' (first | ((with_reducible refine kok ?_); kernel_rfl) | ((with_reducible refine keq_mk ?_); kernel_rfl) | with_reducible rfl | ((conv => whnf); first | (with_reducible exact trivial) | ((with_reducible refine and_ff ?_ ?_); · exact rfl) | ((with_reducible refine and_tt ?_ ?_); · exact rfl) | (with_reducible refine And.intro ?_ ?_) | intro _ | (with_reducible refine fin2 hk ?_) | ((with_reducible refine eq_leaf ?_); exact rfl) | exact trivial))
  all_goals try exact hwf _ (by assumption)
  all_goals try first | exact hf.1 | exact hf.2
  all_goals try exact ho
  all_goals try (
    have hb0 : (!decide ((bandsT u la now).2 = 0)) = false := (by assumption)
    have hb1 := hB (by simpa using hb0)
    have hlen := hb1.len
    have hsc := weighS_ok ho hb1)
  all_goals try exact hb1
  all_goals try exact hlen.1
  all_goals try exact hlen.2
  all_goals try exact hsc
  all_goals try (
    have hbi := bestC_in (s := weighS t (bandsT u la now).1 (bandA u la now)) (by rw [weighS_t]; exact hns.1)
    have hmb := miss_in hsc (i := (bestC (weighS t (bandsT u la now).1 (bandA u la now))).toNat) (by simp only [weighS_t] at hbi ⊢; omega))
  all_goals try (
    have hmk : 0 ≤ k0 → 0 ≤ missS (weighS t (bandsT u la now).1 (bandA u la now)) k0.toNat ∧ missS (weighS t (bandsT u la now).1 (bandA u la now)) k0.toNat ≤ 20000000400000002 := fun h => miss_in hsc (by rw [weighS_t]; omega))
  all_goals try ((first | with_reducible refine (?_ : (_ : Int) ≤ _) | with_reducible refine (?_ : (_ : Int) < _)); clear hk; simp only [atOf_agg, taskOf_agg, im_imD, scT_e, weighS_t, Int.toNat_natCast, taskOf_agg, ↓Bool.not_eq_true', ↓Bool.not_eq_false', ↓decT, ↓decF, out_true, out_false, isin_true, isin_false, Int.toNat_natCast, Int.ofNat_lt, Nat.zero_add, Nat.add_zero, Nat.reduceAdd] at *; omega)
  all_goals try (
    conv => whnf
    refine ⟨.agg (rndRow t u la now k0), rndH t u la (nextR t u la now k0) i g, ?_⟩
    repeat' (first | ((with_reducible refine kok ?_); kernel_rfl) | ((with_reducible refine keq_mk ?_); kernel_rfl) | with_reducible rfl | ((conv => whnf); first | (with_reducible exact trivial) | ((with_reducible refine and_ff ?_ ?_); · exact rfl) | ((with_reducible refine and_tt ?_ ?_); · exact rfl) | (with_reducible refine And.intro ?_ ?_) | intro _ | (with_reducible refine fin2 hk ?_) | ((with_reducible refine eq_leaf ?_); exact rfl) | exact trivial)))
  all_goals try exact hk
  all_goals clear hk
  all_goals try (
    have N := nx_no (k := k0) (noB_t (t := t) (u := u) (la := la) (now := now) (fun h => absurd h (by simpa using (by assumption : (!decide ((bandsT u la now).2 = 0)) = true))))
    first | exact N.1.symm | exact N.2.1.symm | exact N.2.2.symm)
  all_goals try (
    have N := nx_no (k := k0) (noB_t (t := t) (u := u) (la := la) (now := now) (fun h => (by assumption : lowB t (bandsT u la now).1 (bandA u la now) = true)))
    first | exact N.1.symm | exact N.2.1.symm | exact N.2.2.symm)
  all_goals (
    have nb : noB t u la now = false := noB_f (by simpa using hb0) (by assumption)
    have hs : scR t u la now = weighS t (bandsT u la now).1 (bandA u la now) := by delta scR; rfl
    clear hB hwf hf hlen hb1 hsc hb0
    simp only [atOf_agg, taskOf_agg, im_imD, scT_e, weighS_t, Int.toNat_natCast, taskOf_agg, ↓Bool.not_eq_true', ↓Bool.not_eq_false', ↓decT, ↓decF, out_true, out_false, isin_true, isin_false, Int.toNat_natCast, Int.ofNat_lt, Nat.zero_add, Nat.add_zero, Nat.reduceAdd, id] at *)
  all_goals (
    have ht := weighS_t t (bandsT u la now).1 (bandA u la now)
    generalize weighS t (bandsT u la now).1 (bandA u la now) = s at *
    first
      | have K := keep_1 (s := s) (k := k0) (by assumption) (by assumption)
      | have K := keep_2 (s := s) (k := k0) (by assumption)
      | have K := keep_3 (s := s) (k := k0) (by omega)
    by_cases hb : 0 ≤ bestTo s t.ns
    · have B : bestC s = bestTo s t.ns := by
        have z := bestC_eq (s := s) (by rw [ht]; exact hb)
        rw [ht] at z
        exact z
      simp only [B] at *
      by_cases c : canR s la now (keepR s k0) = true
      · have N := nx_set nb hs c
        have c' := can_iff.1 c
        rw [K] at c'
        rw [ht] at c' N
        first
          | exact N.1.symm
          | exact N.2.2.symm
          | (exfalso; omega)
          | (rw [N.2.1, mss_p (by omega)])
          | (rw [N.2.1, mss_n (by omega)])
      · have N := nx_keep nb hs (by simpa using c)
        have c' : ¬ (0 ≤ bestTo s s.t.ns ∧ now + s.t.turn + s.t.freeze ≤ la ∧ (keepR s k0 < 0 ∨ missS s (bestTo s s.t.ns).toNat + s.t.gain ≤ missS s (keepR s k0).toNat)) := fun h => c (can_iff.2 h)
        rw [K] at N c'
        rw [ht] at c'
        first
          | exact N.1.symm
          | exact N.2.2.symm
          | (exfalso; omega)
          | (rw [N.2.1, mss_p (by omega)])
          | (rw [N.2.1, mss_n (by omega)])
    · have c : canR s la now (keepR s k0) = false := can_f (by rw [ht]; omega)
      have N := nx_keep nb hs c
      rw [K] at N
      first
          | exact N.1.symm
          | exact N.2.2.symm
          | (exfalso; omega)
          | (rw [N.2.1, mss_p (by omega)])
          | (rw [N.2.1, mss_n (by omega)]))
  skip
end Go.Proofs.Ytbakdblbknfadaa
end
section
set_option linter.unusedVariables false
set_option linter.unusedSimpArgs false
set_option maxRecDepth 100000
set_option maxHeartbeats 4000000
namespace Go.Proofs.Ytbakdblbknfadaa
open Go.V
noncomputable def Lrnd : Libs := ⟨la35, [(70, rRound)], [], []⟩
theorem Lrnd_ok : LibsOK Go.Proofs.Try.prog Lrnd := ⟨la35_ok, asGet_cons aRound_ok (fun _ _ h => by cases h), (fun _ _ h => by cases h), fun _ _ h => by cases h⟩
def roundsT (t : ATask) (u : Task) (la : Int) (n : Nat) (w : Nat → Nat → Int) : V.D := .tup [.rsl 4 (ifn (rndE t u la n w) n) (rndA t u la w), .int .i64 (rndE t u la n w)]
def rRoundsT : List V.D → Option (Prop × V.D) := fun ds => match ds with
  | [d, w, .int .i64 la, .rsl 1 n g] => some (AtIs d ∧ TaskIs w ∧ (taskOf w).fits ∧ IM n 1 g, roundsT (atOf d) (taskOf w) la n (im g))
  | _ => none
attribute [local irreducible] weighS chkA checkS bandsT bandA lowB ScOK imp missS alwB bestTo rndE noB scR keepR canR stR nextR setR misR setTo anyBelow checkBands
theorem checkE_S (u : Task) : checkE u = (checkS u).2.2 := rfl
theorem rnd_snoc {t : ATask} {u : Task} {la : Int} {w : Nat → Nat → Int} {i i' j' : Nat} {l : List V.D} (hl : l = rndRow t u la (w i 0) (setTo t u la w i)) (hi' : i' < i + 1) (hj' : j' < 4) :
    (if i' < i then rndA t u la w i' j' else l.getD ((i' - i) * 4 + j') .top) = rndA t u la w i' j' := by
  by_cases h : i' < i
  · rw [if_pos h]
  · rw [if_neg h]
    obtain rfl : i' = i := by omega
    have e1 : setTo t u la w (i' + 1) = nextR t u la (w i' 0) (setTo t u la w i') := by delta setTo; rfl
    have z : j' = 0 ∨ j' = 1 ∨ j' = 2 ∨ j' = 3 := by omega
    subst hl
    rcases z with rfl | rfl | rfl | rfl <;> simp [rndRow, rndA, e1]
theorem aRounds_ok : PSound Go.Proofs.Try.prog 24 (mk rRoundsT) := by
  refine psound_mk Try.func24 (by kernel_rfl) rfl (ctxA Lrnd_ok) ?_
  (intro ds p d h; unfold rRoundsT at h; split at h <;> first | (cases h; done) | skip; cases h; refine ⟨Nat.le_of_ble_eq_true rfl, fun hp k hk => ?_⟩)
  rename_i d x la n g
  obtain ⟨ht, hw, hwf, hg⟩ := hp
  have hf := at_fits ht
  refine ⟨[(atOf d).D, (taskOf x).D, .int .i64 la, .rsl 1 n (imD (im g))], at_imp ht (task_imp hw ⟨rfl, rfl, hg, ?_⟩)⟩
  clear ht hw hg
  generalize atOf d = t at *
  generalize taskOf x = u at *
  generalize im g = w at *
  have E1 := @rnd_e1 t u la n w
  have E2 := @rnd_e2 t u la n w
  have E3 := @rnd_e3 t u la n w
  unfold roundsT at hk
  by_cases e0 : rndE t u la n w = 0
  rotate_left
  · generalize rndE t u la n w = e at *
    have key : ∀ {b : Bool}, anyBelow (outN la w) n = b → anyBelow (outN (toI ((fun _ => V.D.int .i64 la) 0)) w) n = b := fun h => h
    repeat' (first | ((with_reducible refine kok ?_); kernel_rfl) | ((with_reducible refine keq_mk ?_); kernel_rfl) | with_reducible rfl | ((conv => whnf); first | (with_reducible exact trivial) | ((with_reducible refine and_ff ?_ ?_); · exact rfl) | ((with_reducible refine and_tt ?_ ?_); · exact rfl) | (with_reducible refine And.intro ?_ ?_) | intro _ | (with_reducible refine fin2 hk ?_) | ((with_reducible refine eq_leaf ?_); exact rfl) | exact trivial))
    all_goals clear hk key
    all_goals try exact (ifn_ne e0).symm
    all_goals try first | exact hf.1 | exact hf.2 | exact hwf _ (by assumption)
    all_goals try (have z : ¬ (40 : Int) < n := of_decide_eq_false (by assumption); omega)
    all_goals simp only [atOf_agg, taskOf_agg, im_imD, taskOf_agg, ↓Bool.not_eq_true', ↓Bool.not_eq_false', ↓decT, ↓decF, out_true, out_false, isin_true, isin_false, Int.toNat_natCast, Int.ofNat_lt, Nat.zero_add, Nat.add_zero, Nat.reduceAdd] at *
    all_goals try (have h1 : (chkA t).2.2 = 0 := (by assumption); have E2 := E2 h1; have E3 := E3 h1)
    all_goals try (have h2 : checkE u = 0 := (by assumption); have E3 := E3 h2)
    all_goals first
      | exact (E1 (by assumption)).symm
      | exact (E2 (by assumption)).symm
      | (rw [E3, if_pos (by omega)]; done)
      | (rw [E3, if_neg (by omega), if_pos (by omega)]; done)
      | (rw [E3, if_neg (by omega), if_neg (by omega), if_pos (by assumption)]; done)
      | (rw [E3, if_neg (by omega), if_neg (by omega), if_neg (Bool.eq_false_iff.1 (by assumption)), if_pos (by assumption)]; done)
      | (exfalso; exact e0 (by rw [E3, if_neg (by omega), if_neg (by omega), if_neg (Bool.eq_false_iff.1 (by assumption)), if_neg (Bool.eq_false_iff.1 (by assumption))]))
  have o := rnd_ok e0
  have hnr := o.am.nr
  have hns := o.am.ns
  have hn := o.len
  have hla := o.la0
  have hc : (chkA t).2.2 = 0 := by rw [o.am.check]
  have hcu : (checkS u).2.2 = 0 := o.chk
  have h3 : out la 0 100000 = false := by
    have z : ¬ out la 0 100000 = true := by rw [out_t]; omega
    simpa using z
  have E3 := E3 hc o.chk
  rw [e0, h3, if_neg Bool.noConfusion, if_neg (by omega)] at E3
  have h4 : anyBelow (outN la w) n = false := by
    by_cases q : anyBelow (outN la w) n = true
    · rw [if_pos q] at E3; exact absurd E3 (by decide)
    · simpa using q
  have h5 : anyBelow (descB w) (n - 1) = false := by
    rw [h4, if_neg Bool.noConfusion] at E3
    by_cases q : anyBelow (descB w) (n - 1) = true
    · rw [if_pos q] at E3; exact absurd E3 (by decide)
    · simpa using q
  rw [e0] at hk
  repeat' (first | ((with_reducible refine kok ?_); kernel_rfl) | ((with_reducible refine keq_mk ?_); kernel_rfl) | with_reducible rfl | ((conv => whnf); first | (with_reducible exact trivial) | ((with_reducible refine and_ff ?_ ?_); · exact rfl) | ((with_reducible refine and_tt ?_ ?_); · exact rfl) | (with_reducible refine And.intro ?_ ?_) | intro _ | (with_reducible refine fin2 hk ?_) | ((with_reducible refine eq_leaf ?_); exact rfl) | exact trivial))
  all_goals try (clear hk; first | exact hf.1 | exact hf.2 | exact hwf _ (by assumption) | omega)
  all_goals try (exfalso; have z : (!decide ((chkA t).2.2 = 0)) = true := (by assumption); rw [hc] at z; exact absurd z (by decide))
  all_goals try (exfalso; have z : (!decide ((checkS u).2.2 = 0)) = true := (by assumption); rw [hcu] at z; exact absurd z (by decide))
  all_goals try (exfalso; exact absurd (h3.symm.trans (by assumption : out la 0 100000 = true)) (by decide))
  all_goals try (exfalso; have z := of_decide_eq_true (by assumption : decide ((40 : Int) < (n : Int)) = true); omega)
  all_goals try (exfalso; exact absurd (h4.symm.trans (by assumption : anyBelow (outN la w) n = true)) (by decide))
  all_goals try (exfalso; have z : (!!anyBelow (descB w) (n - 1)) = true := (by assumption); rw [h5] at z; exact absurd z (by decide))
  conv => whnf
  refine ⟨Nat, fun i => [(8, .own 4 i), (11, .fn 70 [.ptr 3 0] []), (54, .rsl 1 n (imD w)), (55, .int .i64 n), (56, .int .i64 i)],
    fun i => [some (.row t.cells), some (taskRow u), some (.row [.int .i64 la]), some (.row (lnchRow t u la (setTo t u la w i))), some (.buf 57 4 i (rndA t u la w))],
    fun i => n - i, fun i => i ≤ n, [(57, 4)], 0, fun _ => ⟨?_, ?_⟩, ?_, fun i hi => ?_⟩
  · conv => lhs; whnf
  · conv => lhs; whnf
  · clear hk
    repeat' (first | ((with_reducible refine kok ?_); kernel_rfl) | ((with_reducible refine keq_mk ?_); kernel_rfl) | with_reducible rfl | ((conv => whnf); first | (with_reducible exact trivial) | ((with_reducible refine and_ff ?_ ?_); · exact rfl) | ((with_reducible refine and_tt ?_ ?_); · exact rfl) | (with_reducible refine And.intro ?_ ?_) | intro _ | (with_reducible refine fin2 hk ?_) | ((with_reducible refine eq_leaf ?_); exact rfl) | exact trivial))
    all_goals first
      | exact Nat.zero_le _
      | (exact absurd (by assumption) (Nat.not_lt_zero _))
      | (show (-1 : Int) = setTo t u la w 0; delta setTo; rfl)
      | rfl
      | skip
  have hi : i ≤ n := hi
  conv => whnf
  refine ⟨fun g1 => ?_, fun g1 => ?_⟩
  rotate_left
  · have e : i = n := by have := of_decide_eq_false g1; omega
    subst e
    repeat' (first | ((with_reducible refine kok ?_); kernel_rfl) | ((with_reducible refine keq_mk ?_); kernel_rfl) | with_reducible rfl | ((conv => whnf); first | (with_reducible exact trivial) | ((with_reducible refine and_ff ?_ ?_); · exact rfl) | ((with_reducible refine and_tt ?_ ?_); · exact rfl) | (with_reducible refine And.intro ?_ ?_) | intro _ | (with_reducible refine fin2 hk ?_) | ((with_reducible refine eq_leaf ?_); exact rfl) | exact trivial))
    skip
  have hlt : i < n := by have := of_decide_eq_true g1; omega
  have hnow := o.now i hlt
  have hst := setTo_in (t := t) u la w i
  have hS1 : setTo t u la w (i + 1) = nextR t u la (w i 0) (setTo t u la w i) := by delta setTo; rfl
  repeat' (first | ((with_reducible refine kok ?_); kernel_rfl) | ((with_reducible refine keq_mk ?_); kernel_rfl) | with_reducible rfl | ((conv => whnf); first | (with_reducible exact trivial) | ((with_reducible refine and_ff ?_ ?_); · exact rfl) | ((with_reducible refine and_tt ?_ ?_); · exact rfl) | (with_reducible refine And.intro ?_ ?_) | intro _ | (with_reducible refine fin2 hk ?_) | ((with_reducible refine eq_leaf ?_); exact rfl) | exact trivial))
  all_goals try first | (clear hk; first | omega | exact Int.ofNat_lt.2 hlt)
  conv => whnf
  refine ⟨t, u, la, setTo t u la w i, w i 0, i, rndA t u la w, ?_⟩
  repeat' (first | ((with_reducible refine kok ?_); kernel_rfl) | ((with_reducible refine keq_mk ?_); kernel_rfl) | with_reducible rfl | ((conv => whnf); first | (with_reducible exact trivial) | ((with_reducible refine and_ff ?_ ?_); · exact rfl) | ((with_reducible refine and_tt ?_ ?_); · exact rfl) | (with_reducible refine And.intro ?_ ?_) | intro _ | (with_reducible refine fin2 hk ?_) | ((with_reducible refine eq_leaf ?_); exact rfl) | exact trivial))
  all_goals try (clear hk; (first | with_reducible refine (?_ : (_ : Int) ≤ _) | with_reducible refine (?_ : (_ : Int) < _) | with_reducible refine (?_ : (_ : Nat) ≤ _)); omega)
  all_goals try first | exact hf.1 | exact hf.2 | exact hwf _ (by assumption) | exact o.am
  clear hk
  conv => whnf
  refine ⟨i + 1, ?_⟩
  repeat' (first | ((with_reducible refine kok ?_); kernel_rfl) | ((with_reducible refine keq_mk ?_); kernel_rfl) | with_reducible rfl | ((conv => whnf); first | (with_reducible exact trivial) | ((with_reducible refine and_ff ?_ ?_); · exact rfl) | ((with_reducible refine and_tt ?_ ?_); · exact rfl) | (with_reducible refine And.intro ?_ ?_) | intro _ | (with_reducible refine fin2 hk ?_) | ((with_reducible refine eq_leaf ?_); exact rfl) | exact trivial))
  all_goals first
    | exact rnd_snoc rfl (by assumption) (by assumption)
    | exact hS1.symm
    | exact hlt
    | (simp only; omega)
end Go.Proofs.Ytbakdblbknfadaa
end
section
set_option linter.unusedVariables false
set_option linter.unusedSimpArgs false
set_option maxRecDepth 100000
set_option maxHeartbeats 4000000
namespace Go.Proofs.Ytbakdblbknfadaa
open Go.V
def toBo : V.D → Bool
  | .bool b => b
  | .tt => true
  | _ => false
def bmA (g : Nat → Nat → V.D) (i : Nat) : Bool := toBo (g i 3)
/-- Rounds: three numbers, and whether the launcher was set. -/
def rdD (a : Nat → Nat → Int) (b : Nat → Bool) (i j : Nat) : V.D := match j with
  | 0 => .int .i64 (a i 0)
  | 1 => .int .i64 (a i 1)
  | 2 => .int .i64 (a i 2)
  | _ => .bool (b i)
def RDs (n : Nat) (g : Nat → Nat → V.D) : Prop := ∀ i j, i < n → j < 4 → g i j = rdD (im g) (bmA g) i j
theorem RDs_rnd (n : Nat) (t : ATask) (u : Task) (la : Int) (w : Nat → Nat → Int) : RDs n (rndA t u la w) := fun i j hi hj => by
  have z : j = 0 ∨ j = 1 ∨ j = 2 ∨ j = 3 := by omega
  rcases z with rfl | rfl | rfl | rfl <;> rfl
def rSameR : List V.D → Option (Prop × V.D) := fun ds => match ds with
  | [.rsl 4 n g, .rsl 4 m h] => some (RDs n g ∧ n ≤ 1099511627776 ∧ n = m ∧ ∀ i j, i < n → j < 4 → h i j = g i j, .tt)
  | _ => none
theorem qSameR_ok : PSound Go.Proofs.Try.prog 25 (mk rSameR) := by
  refine psound_mk Try.func25 (by kernel_rfl) rfl (ctx la35_ok) ?_
  (intro ds p d h; unfold rSameR at h; split at h <;> first | (cases h; done) | skip; cases h; refine ⟨Nat.le_of_ble_eq_true rfl, fun hp k hk => ?_⟩)
  rename_i n g m h
  obtain ⟨h1, h2, rfl, h3⟩ := hp
  refine ⟨[.rsl 4 n (rdD (im g) (bmA g)), .rsl 4 n (rdD (im g) (bmA g))], rfl, h1, rfl, (fun i j hi hj => (h3 i j hi hj).trans (h1 i j hi hj)), ?_⟩
  clear h1 h3
  generalize im g = a at *
  generalize bmA g = b at *
  repeat' (first | ((with_reducible refine kok ?_); kernel_rfl) | ((with_reducible refine keq_mk ?_); kernel_rfl) | with_reducible rfl | ((conv => whnf); first | (with_reducible exact trivial) | ((with_reducible refine and_ff ?_ ?_); · exact rfl) | ((with_reducible refine and_tt ?_ ?_); · exact rfl) | (with_reducible refine And.intro ?_ ?_) | intro _ | (with_reducible refine fin2 hk ?_) | ((with_reducible refine eq_leaf ?_); exact rfl) | exact trivial))
  all_goals try (exfalso; clear hk; simp only [taskOf_agg, ↓Bool.not_eq_true', ↓Bool.not_eq_false', ↓decT, ↓decF, out_true, out_false, isin_true, isin_false, Int.toNat_natCast, Int.ofNat_lt, Nat.zero_add, Nat.add_zero, Nat.reduceAdd] at *; first | omega | contradiction | (simp_all; done))
  conv => whnf
  refine ⟨Nat, fun i => [(0, .rsl 4 n (rdD a b)), (1, .rsl 4 n (rdD a b)), (5, .int .i64 i)], fun _ => [], fun i => n - i, fun i => i ≤ n, [], 0, fun _ => ⟨rfl, rfl⟩, ?_, fun i hi => ?_⟩
  · clear hk
    repeat' (first | ((with_reducible refine kok ?_); kernel_rfl) | ((with_reducible refine keq_mk ?_); kernel_rfl) | with_reducible rfl | ((conv => whnf); first | (with_reducible exact trivial) | ((with_reducible refine and_ff ?_ ?_); · exact rfl) | ((with_reducible refine and_tt ?_ ?_); · exact rfl) | (with_reducible refine And.intro ?_ ?_) | intro _ | (with_reducible refine fin2 hk ?_) | ((with_reducible refine eq_leaf ?_); exact rfl) | exact trivial))
    all_goals first | exact Nat.zero_le _ | skip
  have hi : i ≤ n := hi
  conv => whnf
  refine ⟨fun g1 => ?_, fun g1 => ?_⟩
  rotate_left
  · repeat' (first | ((with_reducible refine kok ?_); kernel_rfl) | ((with_reducible refine keq_mk ?_); kernel_rfl) | with_reducible rfl | ((conv => whnf); first | (with_reducible exact trivial) | ((with_reducible refine and_ff ?_ ?_); · exact rfl) | ((with_reducible refine and_tt ?_ ?_); · exact rfl) | (with_reducible refine And.intro ?_ ?_) | intro _ | (with_reducible refine fin2 hk ?_) | ((with_reducible refine eq_leaf ?_); exact rfl) | exact trivial))
  have hlt : i < n := by have := of_decide_eq_true g1; omega
  repeat' (first | ((with_reducible refine kok ?_); kernel_rfl) | ((with_reducible refine keq_mk ?_); kernel_rfl) | with_reducible rfl | ((conv => whnf); first | (with_reducible exact trivial) | ((with_reducible refine and_ff ?_ ?_); · exact rfl) | ((with_reducible refine and_tt ?_ ?_); · exact rfl) | (with_reducible refine And.intro ?_ ?_) | intro _ | (with_reducible refine fin2 hk ?_) | ((with_reducible refine eq_leaf ?_); exact rfl) | exact trivial))
  all_goals try ((first | with_reducible refine (?_ : (_ : Int) ≤ _) | with_reducible refine (?_ : (_ : Int) < _)); clear hk; omega)
  all_goals clear hk
  all_goals try (exfalso; simp at *; done)
  conv => whnf
  refine ⟨i + 1, ?_⟩
  repeat' (first | ((with_reducible refine kok ?_); kernel_rfl) | ((with_reducible refine keq_mk ?_); kernel_rfl) | with_reducible rfl | ((conv => whnf); first | (with_reducible exact trivial) | ((with_reducible refine and_ff ?_ ?_); · exact rfl) | ((with_reducible refine and_tt ?_ ?_); · exact rfl) | (with_reducible refine And.intro ?_ ?_) | intro _ | (with_reducible refine fin2 hk ?_) | ((with_reducible refine eq_leaf ?_); exact rfl) | exact trivial))
  all_goals first | exact hlt | (simp only; omega)
noncomputable def la36 : Lib := (24, mk rRoundsT) :: (25, mk rSameR) :: la35
theorem la36_ok : LibOK Go.Proofs.Try.prog la36 := .cons aRounds_ok (.cons qSameR_ok la35_ok)
/-- Winds, a launch and ticks. -/
def winD (u : Task) (la : Int) (n : Nat) (w : Nat → Nat → Int) : V.D := .agg [.rsl 7 u.ns (smD u.nm u.sa), .rsl 5 u.nx (imD u.xa), .rsl 1 u.nc (imD u.ca), .int .i64 u.age, .int .i64 u.shear, .int .i64 la, .rsl 1 n (imD w)]
def WinIs (d : V.D) : Prop := match d with
  | .agg [.rsl 7 ns sg, .rsl 5 nx xg, .rsl 1 nc cg, .int .i64 _, .int .i64 _, .int .i64 _, .rsl 1 n g] => (SM ns 7 sg ∧ IM nx 5 xg ∧ IM nc 1 cg) ∧ (∀ i, i < ns → (nmOf sg i).size ≤ 9223372036854775807) ∧ IM n 1 g ∧ n ≤ 9223372036854775807
  | _ => False
def wTask (d : V.D) : Task := match d with
  | .agg [.rsl _ ns g, .rsl _ nx h, .rsl _ nc c, .int _ a, .int _ s, _, _] => ⟨ns, nx, nc, nmOf g, imS g, im h, im c, a, s⟩
  | _ => ⟨0, 0, 0, fun _ => ⟨#[]⟩, fun _ _ => 0, fun _ _ => 0, fun _ _ => 0, 0, 0⟩
def wLa (d : V.D) : Int := match d with
  | .agg [_, _, _, _, _, .int _ la, _] => la
  | _ => 0
def wN (d : V.D) : Nat := match d with
  | .agg [_, _, _, _, _, _, .rsl _ n _] => n
  | _ => 0
def wA (d : V.D) : Nat → Nat → Int := match d with
  | .agg [_, _, _, _, _, _, .rsl _ _ g] => im g
  | _ => fun _ _ => 0
theorem win_imp {d : V.D} {k : Prop} (h : WinIs d) (hk : k) : impB noGh d (winD (wTask d) (wLa d) (wN d) (wA d)) k := by
  unfold WinIs at h
  split at h
  · exact ⟨rfl, h.1.1, rfl, h.1.2.1, rfl, h.1.2.2, rfl, rfl, rfl, rfl, h.2.2.1, hk⟩
  · exact h.elim
theorem win_fits {d : V.D} (h : WinIs d) : (wTask d).fits ∧ wN d ≤ 9223372036854775807 := by
  unfold WinIs at h
  split at h
  · exact ⟨h.2.1, h.2.2.2⟩
  · exact h.elim
def rLWin : List V.D → Option (Prop × V.D) := fun ds => match ds with
  | [d, x] => some (AtIs d ∧ WinIs x, .tt)
  | _ => none
attribute [local irreducible] weighS chkA checkS bandsT bandA lowB ScOK imp missS alwB bestTo rndE noB scR keepR canR stR nextR setR misR setTo anyBelow checkBands
theorem lawAInTime_ok : PSound Go.Proofs.Try.prog 7 (mk rLWin) := by
  refine psound_mk Try.func7 (by kernel_rfl) rfl (ctx la36_ok) ?_
  (intro ds p d h; unfold rLWin at h; split at h <;> first | (cases h; done) | skip; cases h; refine ⟨Nat.le_of_ble_eq_true rfl, fun hp k hk => ?_⟩)
  rename_i d x
  obtain ⟨ht, hx⟩ := hp
  have hf := at_fits ht
  have hwf := win_fits hx
  refine ⟨[(atOf d).D, winD (wTask x) (wLa x) (wN x) (wA x)], at_imp ht (win_imp hx ?_)⟩
  clear ht hx
  generalize atOf d = t at *
  generalize wTask x = u at *
  generalize wLa x = la at *
  generalize wN x = n at *
  generalize wA x = w at *
  by_cases e0 : rndE t u la n w = 0
  rotate_left
  · repeat' (first | ((with_reducible refine kok ?_); kernel_rfl) | ((with_reducible refine keq_mk ?_); kernel_rfl) | with_reducible rfl | ((conv => whnf); first | (with_reducible exact trivial) | ((with_reducible refine and_ff ?_ ?_); · exact rfl) | ((with_reducible refine and_tt ?_ ?_); · exact rfl) | (with_reducible refine And.intro ?_ ?_) | intro _ | (with_reducible refine fin2 hk ?_) | ((with_reducible refine eq_leaf ?_); exact rfl) | exact trivial))
    all_goals clear hk
    all_goals try first | exact hf.1 | exact hf.2 | exact hwf.1 _ (by assumption)
    all_goals (exfalso; simp only [atOf_agg, taskOf_agg, im_imD, taskOf_agg, ↓Bool.not_eq_true', ↓Bool.not_eq_false', ↓decT, ↓decF, out_true, out_false, isin_true, isin_false, Int.toNat_natCast, Int.ofNat_lt, Nat.zero_add, Nat.add_zero, Nat.reduceAdd] at *; contradiction)
  have o := rnd_ok e0
  repeat' (first | ((with_reducible refine kok ?_); kernel_rfl) | ((with_reducible refine keq_mk ?_); kernel_rfl) | with_reducible rfl | ((conv => whnf); first | (with_reducible exact trivial) | ((with_reducible refine and_ff ?_ ?_); · exact rfl) | ((with_reducible refine and_tt ?_ ?_); · exact rfl) | (with_reducible refine And.intro ?_ ?_) | intro _ | (with_reducible refine fin2 hk ?_) | ((with_reducible refine eq_leaf ?_); exact rfl) | exact trivial))
  all_goals try first | exact hf.1 | exact hf.2 | exact hwf.1 _ (by assumption)
  have hR := o.am.rest
  unfold RestOK at hR
  have hla := o.la0
  have hn := o.len
  have E : ifn (rndE t u la n w) n = n := by rw [e0]; rfl
  conv => whnf
  refine ⟨Nat, fun i => [(2, .ptr 0 0), (3, .ptr 1 0), (5, .rsl 4 n (rndA t u la w)), (7, .int .i64 (setTo t u la w i)), (8, .int .i64 i)],
    fun i => [some (.row t.cells), some (.row [.rsl 7 u.ns (smD u.nm u.sa), .rsl 5 u.nx (imD u.xa), .rsl 1 u.nc (imD u.ca), .int .i64 u.age, .int .i64 u.shear, .int .i64 la, .rsl 1 n (imD w)])],
    fun i => n - i, fun i => i ≤ n, [], 0, fun _ => ⟨rfl, rfl⟩, ?_, fun i hi => ?_⟩
  · clear hk
    repeat' (first | ((with_reducible refine kok ?_); kernel_rfl) | ((with_reducible refine keq_mk ?_); kernel_rfl) | with_reducible rfl | ((conv => whnf); first | (with_reducible exact trivial) | ((with_reducible refine and_ff ?_ ?_); · exact rfl) | ((with_reducible refine and_tt ?_ ?_); · exact rfl) | (with_reducible refine And.intro ?_ ?_) | intro _ | (with_reducible refine fin2 hk ?_) | ((with_reducible refine eq_leaf ?_); exact rfl) | exact trivial))
    all_goals first
      | exact Nat.zero_le _
      | exact E
      | (show (-1 : Int) = setTo t u la w 0; delta setTo; rfl)
      | rfl
      | skip
  have hi : i ≤ n := hi
  conv => whnf
  refine ⟨fun g1 => ?_, fun g1 => ?_⟩
  rotate_left
  · repeat' (first | ((with_reducible refine kok ?_); kernel_rfl) | ((with_reducible refine keq_mk ?_); kernel_rfl) | with_reducible rfl | ((conv => whnf); first | (with_reducible exact trivial) | ((with_reducible refine and_ff ?_ ?_); · exact rfl) | ((with_reducible refine and_tt ?_ ?_); · exact rfl) | (with_reducible refine And.intro ?_ ?_) | intro _ | (with_reducible refine fin2 hk ?_) | ((with_reducible refine eq_leaf ?_); exact rfl) | exact trivial))
    skip
  have hlt : i < n := by have := of_decide_eq_true g1; omega
  have hnow := o.now i hlt
  have S := setTo_in (t := t) u la w i
  have S1 : setTo t u la w (i + 1) = nextR t u la (w i 0) (setTo t u la w i) := by delta setTo; rfl
  have T := @set_time t u la (w i 0) (setTo t u la w i)
  have F := @set_not t u la (w i 0) (setTo t u la w i)
  rw [← S1] at T F
  repeat' (first | ((with_reducible refine kok ?_); kernel_rfl) | ((with_reducible refine keq_mk ?_); kernel_rfl) | with_reducible rfl | ((conv => whnf); first | (with_reducible exact trivial) | ((with_reducible refine and_ff ?_ ?_); · exact rfl) | ((with_reducible refine and_tt ?_ ?_); · exact rfl) | (with_reducible refine And.intro ?_ ?_) | intro _ | (with_reducible refine fin2 hk ?_) | ((with_reducible refine eq_leaf ?_); exact rfl) | exact trivial))
  all_goals try ((first | with_reducible refine (?_ : (_ : Int) ≤ _) | with_reducible refine (?_ : (_ : Int) < _)); clear hk; first | omega | (simp only [Int.toNat_natCast]; omega))
  all_goals clear hk
  all_goals try (
    exfalso
    simp only [Int.toNat_natCast, taskOf_agg, ↓Bool.not_eq_true', ↓Bool.not_eq_false', ↓decT, ↓decF, out_true, out_false, isin_true, isin_false, Int.toNat_natCast, Int.ofNat_lt, Nat.zero_add, Nat.add_zero, Nat.reduceAdd] at *
    rcases Bool.eq_false_or_eq_true (setR t u la (w i 0) (setTo t u la w i)) with b | b
    · have z := T b
      first | exact absurd (b.symm.trans (by assumption : setR t u la (w i 0) (setTo t u la w i) = false)) (by decide) | omega
    · have z := F b
      first | exact absurd (b.symm.trans (by assumption : setR t u la (w i 0) (setTo t u la w i) = true)) (by decide) | omega)
  all_goals (
    conv => whnf
    refine ⟨i + 1, ?_⟩
    repeat' (first | ((with_reducible refine kok ?_); kernel_rfl) | ((with_reducible refine keq_mk ?_); kernel_rfl) | with_reducible rfl | ((conv => whnf); first | (with_reducible exact trivial) | ((with_reducible refine and_ff ?_ ?_); · exact rfl) | ((with_reducible refine and_tt ?_ ?_); · exact rfl) | (with_reducible refine And.intro ?_ ?_) | intro _ | (with_reducible refine fin2 hk ?_) | ((with_reducible refine eq_leaf ?_); exact rfl) | exact trivial)))
  all_goals first | exact hlt | (simp only; omega)
end Go.Proofs.Ytbakdblbknfadaa
end
section
set_option linter.unusedVariables false
set_option linter.unusedSimpArgs false
set_option maxRecDepth 100000
namespace Go.Proofs.Ytbakdblbknfadaa
open Go.V
def winK : AK := .agg [.sl [.str, .int .i64, .int .i64, .int .i64, .int .i64, .int .i64, .int .i64], .sl [.int .i64, .int .i64, .int .i64, .int .i64, .int .i64], .sl [.int .i64], .int .i64, .int .i64, .int .i64, .sl [.int .i64]]
theorem win_of_kinds {d : V.D} (h : IsA winK d) : WinIs d := by
  obtain ⟨ds, rfl, hl, h⟩ := h
  match ds, hl with
  | [d0, d1, d2, d3, d4, d5, d6], _ =>
    obtain ⟨n0, g0, rfl, hn0, hg0⟩ := h 0 _ _ rfl rfl
    obtain ⟨n1, g1, rfl, hn1, hg1⟩ := h 1 _ _ rfl rfl
    obtain ⟨n2, g2, rfl, hn2, hg2⟩ := h 2 _ _ rfl rfl
    obtain ⟨n3, rfl, _⟩ := h 3 _ _ rfl rfl
    obtain ⟨n4, rfl, _⟩ := h 4 _ _ rfl rfl
    obtain ⟨n5, rfl, _⟩ := h 5 _ _ rfl rfl
    obtain ⟨n6, g6, rfl, hn6, hg6⟩ := h 6 _ _ rfl rfl
    obtain ⟨s1, s2⟩ := SM_of hg0 rfl
    exact ⟨⟨s1, IM_of hg1 rfl, IM_of hg2 rfl⟩, s2, IM_of hg6 rfl, hn6⟩
end Go.Proofs.Ytbakdblbknfadaa
end
