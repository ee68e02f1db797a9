/-
  Contracts of the wind: numbers.
-/
import Derived.Test.YtlecbjbjgfpfeaaMf
section
set_option linter.unusedVariables false
set_option linter.unusedSimpArgs false
set_option maxRecDepth 100000
namespace Go.Proofs.Ytlecbjbjgfpfeaa
open Go.V

theorem mixed : Go.Proofs.Try.prog.follows .mixedOrders = true := by kernel_rfl
theorem ctx {l : Lib} (h : LibOK Go.Proofs.Try.prog l) : CallsOK Go.Proofs.Try.prog (cxOf tab l) TT := callsOK_of tab_ok mixed h
theorem ctxA {L : Libs} (h : LibsOK Go.Proofs.Try.prog L) : CallsOK Go.Proofs.Try.prog (cxA tab L) TT := callsOK_A tab_ok mixed h

def out (n lo hi : Int) : Bool := decide (n < lo) || decide (hi < n)
def rOut : List D → Option (Prop × D) := fun ds => match ds with
  | [.int .i64 a, .int .i64 b, .int .i64 c] => some (True, .bool (out a b c))
  | _ => none
theorem out_ok : PSound Go.Proofs.Try.prog 38 (mk rOut) := by
  refine psound_mk Try.func38 (by kernel_rfl) rfl (ctx (.nil _)) ?_
  (intro ds p d h; unfold rOut at h; split at h <;> first | (cases h; done) | skip; cases h; refine ⟨Nat.le_of_ble_eq_true rfl, fun hp k hk => ?_⟩)
  rename_i a b c
  refine ⟨[.int .i64 a, .int .i64 b, .int .i64 c], ?_⟩
  repeat' (first | ((with_reducible refine kok ?_); kernel_rfl) | ((with_reducible refine keq_mk ?_); kernel_rfl) | with_reducible rfl | ((conv => whnf); first | exact trivial | refine And.intro ?_ ?_ | intro _ | (with_reducible refine (?_ : _ = true); (conv => lhs; whnf); done) | exact rfl))
  all_goals (refine fin_of hk ?_; clear hk; repeat' (first | ((with_reducible refine kok ?_); kernel_rfl) | ((with_reducible refine keq_mk ?_); kernel_rfl) | with_reducible rfl | ((conv => whnf); first | exact trivial | refine And.intro ?_ ?_ | intro _ | (with_reducible refine (?_ : _ = true); (conv => lhs; whnf); done) | exact rfl)))
  all_goals (simp_all [out] <;> omega)
def lib1 : Lib := (38, mk rOut) :: []
theorem lib1_ok : LibOK Go.Proofs.Try.prog lib1 := .cons out_ok (.nil _)

def r1 (f : Int → Bool) : List D → Option (Prop × D) := fun ds => match ds with
  | [.int .i64 a] => some (True, .bool (f a))
  | _ => none
theorem never_ok : PSound Go.Proofs.Try.prog 36 (mk (r1 fun n => out n 0 100000)) := by
  refine psound_mk Try.func36 (by kernel_rfl) rfl (ctx lib1_ok) ?_
  (intro ds p d h; unfold r1 at h; split at h <;> first | (cases h; done) | skip; cases h; refine ⟨Nat.le_of_ble_eq_true rfl, fun hp k hk => ?_⟩)
  rename_i a
  refine ⟨[.int .i64 a], ?_⟩
  repeat' (first | ((with_reducible refine kok ?_); kernel_rfl) | ((with_reducible refine keq_mk ?_); kernel_rfl) | with_reducible rfl | ((conv => whnf); first | exact trivial | refine And.intro ?_ ?_ | intro _ | (with_reducible refine (?_ : _ = true); (conv => lhs; whnf); done) | exact rfl))
  all_goals (refine fin_of hk ?_; clear hk; repeat' (first | ((with_reducible refine kok ?_); kernel_rfl) | ((with_reducible refine keq_mk ?_); kernel_rfl) | with_reducible rfl | ((conv => whnf); first | exact trivial | refine And.intro ?_ ?_ | intro _ | (with_reducible refine (?_ : _ = true); (conv => lhs; whnf); done) | exact rfl)))
theorem nowhere_ok : PSound Go.Proofs.Try.prog 39 (mk (r1 fun n => out n 0 99999999)) := by
  refine psound_mk Try.func39 (by kernel_rfl) rfl (ctx lib1_ok) ?_
  (intro ds p d h; unfold r1 at h; split at h <;> first | (cases h; done) | skip; cases h; refine ⟨Nat.le_of_ble_eq_true rfl, fun hp k hk => ?_⟩)
  rename_i a
  refine ⟨[.int .i64 a], ?_⟩
  repeat' (first | ((with_reducible refine kok ?_); kernel_rfl) | ((with_reducible refine keq_mk ?_); kernel_rfl) | with_reducible rfl | ((conv => whnf); first | exact trivial | refine And.intro ?_ ?_ | intro _ | (with_reducible refine (?_ : _ = true); (conv => lhs; whnf); done) | exact rfl))
  all_goals (refine fin_of hk ?_; clear hk; repeat' (first | ((with_reducible refine kok ?_); kernel_rfl) | ((with_reducible refine keq_mk ?_); kernel_rfl) | with_reducible rfl | ((conv => whnf); first | exact trivial | refine And.intro ?_ ?_ | intro _ | (with_reducible refine (?_ : _ = true); (conv => lhs; whnf); done) | exact rfl)))

def isin (n lo hi : Int) : Bool := decide (lo ≤ n) && decide (n ≤ hi)
def rIn : List D → Option (Prop × D) := fun ds => match ds with
  | [.int .i64 a, .int .i64 b, .int .i64 c] => some (True, .bool (isin a b c))
  | _ => none
theorem in_ok : PSound Go.Proofs.Try.prog 51 (mk rIn) := by
  refine psound_mk Try.func51 (by kernel_rfl) rfl (ctx (.nil _)) ?_
  (intro ds p d h; unfold rIn at h; split at h <;> first | (cases h; done) | skip; cases h; refine ⟨Nat.le_of_ble_eq_true rfl, fun hp k hk => ?_⟩)
  rename_i a b c
  refine ⟨[.int .i64 a, .int .i64 b, .int .i64 c], ?_⟩
  repeat' (first | ((with_reducible refine kok ?_); kernel_rfl) | ((with_reducible refine keq_mk ?_); kernel_rfl) | with_reducible rfl | ((conv => whnf); first | exact trivial | refine And.intro ?_ ?_ | intro _ | (with_reducible refine (?_ : _ = true); (conv => lhs; whnf); done) | exact rfl))
  all_goals (refine fin_of hk ?_; clear hk; repeat' (first | ((with_reducible refine kok ?_); kernel_rfl) | ((with_reducible refine keq_mk ?_); kernel_rfl) | with_reducible rfl | ((conv => whnf); first | exact trivial | refine And.intro ?_ ?_ | intro _ | (with_reducible refine (?_ : _ = true); (conv => lhs; whnf); done) | exact rfl)))
  all_goals (simp_all [isin] <;> omega)
def lib2 : Lib := (51, mk rIn) :: lib1
theorem lib2_ok : LibOK Go.Proofs.Try.prog lib2 := .cons in_ok lib1_ok
theorem height_ok : PSound Go.Proofs.Try.prog 67 (mk (r1 fun n => isin n 0 99999999)) := by
  refine psound_mk Try.func67 (by kernel_rfl) rfl (ctx lib2_ok) ?_
  (intro ds p d h; unfold r1 at h; split at h <;> first | (cases h; done) | skip; cases h; refine ⟨Nat.le_of_ble_eq_true rfl, fun hp k hk => ?_⟩)
  rename_i a
  refine ⟨[.int .i64 a], ?_⟩
  repeat' (first | ((with_reducible refine kok ?_); kernel_rfl) | ((with_reducible refine keq_mk ?_); kernel_rfl) | with_reducible rfl | ((conv => whnf); first | exact trivial | refine And.intro ?_ ?_ | intro _ | (with_reducible refine (?_ : _ = true); (conv => lhs; whnf); done) | exact rfl))
  all_goals (refine fin_of hk ?_; clear hk; repeat' (first | ((with_reducible refine kok ?_); kernel_rfl) | ((with_reducible refine keq_mk ?_); kernel_rfl) | with_reducible rfl | ((conv => whnf); first | exact trivial | refine And.intro ?_ ?_ | intro _ | (with_reducible refine (?_ : _ = true); (conv => lhs; whnf); done) | exact rfl)))
theorem tick_ok : PSound Go.Proofs.Try.prog 68 (mk (r1 fun n => isin n 0 100000)) := by
  refine psound_mk Try.func68 (by kernel_rfl) rfl (ctx lib2_ok) ?_
  (intro ds p d h; unfold r1 at h; split at h <;> first | (cases h; done) | skip; cases h; refine ⟨Nat.le_of_ble_eq_true rfl, fun hp k hk => ?_⟩)
  rename_i a
  refine ⟨[.int .i64 a], ?_⟩
  repeat' (first | ((with_reducible refine kok ?_); kernel_rfl) | ((with_reducible refine keq_mk ?_); kernel_rfl) | with_reducible rfl | ((conv => whnf); first | exact trivial | refine And.intro ?_ ?_ | intro _ | (with_reducible refine (?_ : _ = true); (conv => lhs; whnf); done) | exact rfl))
  all_goals (refine fin_of hk ?_; clear hk; repeat' (first | ((with_reducible refine kok ?_); kernel_rfl) | ((with_reducible refine keq_mk ?_); kernel_rfl) | with_reducible rfl | ((conv => whnf); first | exact trivial | refine And.intro ?_ ?_ | intro _ | (with_reducible refine (?_ : _ = true); (conv => lhs; whnf); done) | exact rfl)))
theorem wind_ok : PSound Go.Proofs.Try.prog 69 (mk (r1 fun n => isin n (-20000) 20000)) := by
  refine psound_mk Try.func69 (by kernel_rfl) rfl (ctx lib2_ok) ?_
  (intro ds p d h; unfold r1 at h; split at h <;> first | (cases h; done) | skip; cases h; refine ⟨Nat.le_of_ble_eq_true rfl, fun hp k hk => ?_⟩)
  rename_i a
  refine ⟨[.int .i64 a], ?_⟩
  repeat' (first | ((with_reducible refine kok ?_); kernel_rfl) | ((with_reducible refine keq_mk ?_); kernel_rfl) | with_reducible rfl | ((conv => whnf); first | exact trivial | refine And.intro ?_ ?_ | intro _ | (with_reducible refine (?_ : _ = true); (conv => lhs; whnf); done) | exact rfl))
  all_goals (refine fin_of hk ?_; clear hk; repeat' (first | ((with_reducible refine kok ?_); kernel_rfl) | ((with_reducible refine keq_mk ?_); kernel_rfl) | with_reducible rfl | ((conv => whnf); first | exact trivial | refine And.intro ?_ ?_ | intro _ | (with_reducible refine (?_ : _ = true); (conv => lhs; whnf); done) | exact rfl)))
def lib3 : Lib := (36, mk (r1 fun n => out n 0 100000)) :: (39, mk (r1 fun n => out n 0 99999999)) :: (67, mk (r1 fun n => isin n 0 99999999)) :: (68, mk (r1 fun n => isin n 0 100000)) ::
  (69, mk (r1 fun n => isin n (-20000) 20000)) :: lib2
theorem lib3_ok : LibOK Go.Proofs.Try.prog lib3 := .cons never_ok (.cons nowhere_ok (.cons height_ok (.cons tick_ok (.cons wind_ok lib2_ok))))

/-- A span. -/
def r11 (f : Int → Int → Bool) : List D → Option (Prop × D) := fun ds => match ds with
  | [.agg [.int .i64 a, .int .i64 b]] => some (True, .bool (f a b))
  | _ => none
def winds (a b : Int) : Bool := isin a (-20000) 20000 && isin b (-20000) 20000 && decide (a ≤ b)
def rWithin : List D → Option (Prop × D) := fun ds => match ds with
  | [.agg [.int .i64 a, .int .i64 b], .agg [.int .i64 c, .int .i64 d]] => some (True, .bool (decide (c ≤ a) && decide (b ≤ d)))
  | _ => none
def rAll : List D → Option (Prop × D) := fun ds => match ds with
  | [] => some (True, .agg [.int .i64 (-20000), .int .i64 20000])
  | _ => none
def rCommon : List D → Option (Prop × D) := fun ds => match ds with
  | [.agg [.int .i64 a, .int .i64 b], .agg [.int .i64 c, .int .i64 d]] => some (True, .agg [.int .i64 (max a c), .int .i64 (min b d)])
  | _ => none
end Go.Proofs.Ytlecbjbjgfpfeaa
end
section
set_option linter.unusedVariables false
set_option linter.unusedSimpArgs false
set_option maxRecDepth 100000
namespace Go.Proofs.Ytlecbjbjgfpfeaa
open Go.V

def lib4 : Lib := lib3
theorem lib4_ok : LibOK Go.Proofs.Try.prog lib4 := lib3_ok

/-- The first place that is wrong, and how. -/
def fe (e : Nat → Int) (i : Nat) : Nat → Int × Int
  | 0 => (0, 0)
  | k + 1 => if e i ≠ 0 then (i, e i) else fe e (i + 1) k
theorem fe_step (e : Nat → Int) (i n : Nat) (h : i < n) : fe e i (n - i) = if e i ≠ 0 then ((i : Int), e i) else fe e (i + 1) (n - (i + 1)) := by
  rw [show n - i = (n - (i + 1)) + 1 by omega, fe]

def fromOf (a : Nat → Nat → Int) (i : Nat) : Int := if i = 0 then 0 else a (i - 1) 1
def bandErr (a : Nat → Nat → Int) (i : Nat) : Int :=
  if a i 0 ≠ fromOf a i then 2 else if a i 1 ≤ a i 0 then 7 else if 100000000 < a i 1 then 7 else if winds (a i 2) (a i 3) = false then 7 else if winds (a i 4) (a i 5) = false then 7 else 0
def checkBands (n : Nat) (a : Nat → Nat → Int) : Int × Int := if isin n 1 20 = true then fe (bandErr a) 0 n else (0, 3)

def rCheckBands : List D → Option (Prop × D) := fun ds => match ds with
  | [.rsl 6 n g] => some (IM n 6 g, .tup [.int .i64 (checkBands n (im g)).1, .int .i64 (checkBands n (im g)).2])
  | _ => none

end Go.Proofs.Ytlecbjbjgfpfeaa
end
section
set_option linter.unusedVariables false
set_option linter.unusedSimpArgs false
set_option maxRecDepth 100000
namespace Go.Proofs.Ytlecbjbjgfpfeaa
open Go.V

/-- A number that is far from the ends of its type. -/
def sm (n : Int) : Prop := -1099511627776 ≤ n ∧ n ≤ 1099511627776

def begun (a b l : Int) : Int := (max (a - b) (b - a) + l - 1).tdiv l
def rBegun : List D → Option (Prop × D) := fun ds => match ds with
  | [.int .i64 a, .int .i64 b, .int .i64 l] => some (sm a ∧ sm b ∧ 0 < l ∧ l ≤ 1099511627776, .int .i64 (begun a b l))
  | _ => none
theorem tdiv_bound {x l : Int} (hl : 0 < l) (hx : -4398046511104 ≤ x) (hx2 : x ≤ 4398046511104) : -4398046511104 ≤ x.tdiv l ∧ x.tdiv l ≤ 4398046511104 := by
  have h := Int.natAbs_tdiv x l
  have h2 : x.natAbs.div l.natAbs ≤ x.natAbs := Nat.div_le_self _ _
  rw [← h] at h2
  omega
def rAround : List D → Option (Prop × D) := fun ds => match ds with
  | [.int .i64 n, .int .i64 d] => some (sm n ∧ sm d, .agg [.int .i64 (n - d), .int .i64 (n + d)])
  | _ => none
/-- Two lists of numbers are the same. -/
def sameFrom (s : Nat) (a b : Nat → Nat → Int) (n : Nat) (i : Nat) : Prop := ∀ x, i ≤ x → x < n → ∀ j, j < s → a x j = b x j
theorem sameFrom_step {s : Nat} {a b : Nat → Nat → Int} {n i : Nat} (h : i < n) : sameFrom s a b n i ↔ (∀ j, j < s → a i j = b i j) ∧ sameFrom s a b n (i + 1) := by
  constructor
  · exact fun g => ⟨g i (Nat.le_refl _) h, fun x hx => g x (by omega)⟩
  · rintro ⟨g1, g2⟩ x hx hn
    rcases Nat.eq_or_lt_of_le hx with rfl | h1
    · exact g1
    · exact g2 x h1 hn
theorem sameFrom_end {s : Nat} {a b : Nat → Nat → Int} {n i : Nat} (h : n ≤ i) : sameFrom s a b n i := fun x hx hn => absurd hn (by omega)

open Classical in
noncomputable def sameB (s n m : Nat) (a b : Nat → Nat → Int) : Bool := decide (n = m ∧ sameFrom s a b n 0)
noncomputable def rInts : List D → Option (Prop × D) := fun ds => match ds with
  | [.rsl 1 n g, .rsl 1 m h] => some (IM n 1 g ∧ IM m 1 h ∧ n ≤ 1099511627776, .bool (sameB 1 n m (im g) (im h)))
  | _ => none
theorem ints_ok : PSound Go.Proofs.Try.prog 15 (mk rInts) := by
  refine psound_mk Try.func15 (by kernel_rfl) rfl (ctx (.nil _)) ?_
  (intro ds p d h; unfold rInts at h; split at h <;> first | (cases h; done) | skip; cases h; refine ⟨Nat.le_of_ble_eq_true rfl, fun hp k hk => ?_⟩)
  rename_i n g m h
  obtain ⟨h1, h2, h3⟩ := hp
  refine ⟨[.rsl 1 n (imD (im g)), .rsl 1 m (imD (im h))], rfl, h1, rfl, h2, ?_⟩
  clear h1 h2
  generalize im g = a at *
  generalize im h = b at *
  repeat' (first | ((with_reducible refine kok ?_); kernel_rfl) | ((with_reducible refine keq_mk ?_); kernel_rfl) | with_reducible rfl | ((conv => whnf); first | exact trivial | refine And.intro ?_ ?_ | intro _ | (with_reducible refine (?_ : _ = true); (conv => lhs; whnf); done) | exact rfl))
  · (refine fin_of hk ?_; clear hk; repeat' (first | ((with_reducible refine kok ?_); kernel_rfl) | ((with_reducible refine keq_mk ?_); kernel_rfl) | with_reducible rfl | ((conv => whnf); first | exact trivial | refine And.intro ?_ ?_ | intro _ | (with_reducible refine (?_ : _ = true); (conv => lhs; whnf); done) | exact rfl)))
    all_goals simp_all [sameB]
    all_goals omega
  · rename_i hlen
    refine ⟨Nat, fun i => [(0, .rsl 1 n (imD a)), (1, .rsl 1 m (imD b)), (5, .int .i64 i)], fun _ => [], fun i => n - i, fun i => i ≤ n ∧ (sameFrom 1 a b n 0 ↔ sameFrom 1 a b n i), [], 0, fun _ => ⟨rfl, rfl⟩, ?_, fun i hI => ?_⟩
    · repeat' (first | ((with_reducible refine kok ?_); kernel_rfl) | ((with_reducible refine keq_mk ?_); kernel_rfl) | with_reducible rfl | ((conv => whnf); first | exact trivial | refine And.intro ?_ ?_ | intro _ | (with_reducible refine (?_ : _ = true); (conv => lhs; whnf); done) | exact rfl))
      all_goals simp_all
    · obtain ⟨hi, hc⟩ := hI
      have hnm : n = m := by simp at hlen; omega
      subst hnm
      have key : i < n → (sameFrom 1 a b n 0 ↔ a i 0 = b i 0 ∧ sameFrom 1 a b n (i + 1)) := fun h => by
        rw [hc, sameFrom_step h]
        exact and_congr_left' ⟨fun h => h 0 (by omega), fun h j hj => by rw [show j = 0 by omega]; exact h⟩
      have key2 : n ≤ i → sameFrom 1 a b n 0 := fun h => hc.2 (sameFrom_end h)
      clear hc hlen
      repeat' (first | ((with_reducible refine kok ?_); kernel_rfl) | ((with_reducible refine keq_mk ?_); kernel_rfl) | with_reducible rfl | ((conv => whnf); first | exact trivial | refine And.intro ?_ ?_ | intro _ | (with_reducible refine (?_ : _ = true); (conv => lhs; whnf); done) | exact rfl))
      all_goals try refine fin_of hk ?_
      all_goals try refine ⟨i + 1, ?_⟩
      all_goals clear hk
      repeat' (first | ((with_reducible refine kok ?_); kernel_rfl) | ((with_reducible refine keq_mk ?_); kernel_rfl) | with_reducible rfl | ((conv => whnf); first | exact trivial | refine And.intro ?_ ?_ | intro _ | (with_reducible refine (?_ : _ = true); (conv => lhs; whnf); done) | exact rfl))
      all_goals simp only [sameB, Nat.zero_add, Nat.add_zero, Int.toNat_natCast, decide_eq_true_eq, decide_eq_false_iff_not, Bool.not_eq_true', Bool.not_eq_false', Int.ofNat_lt, Int.natCast_pos, Nat.pos_iff_ne_zero, Nat.reduceAdd] at *
      all_goals try omega
      all_goals simp_all
end Go.Proofs.Ytlecbjbjgfpfeaa
end
section
set_option linter.unusedVariables false
set_option linter.unusedSimpArgs false
set_option maxRecDepth 100000
namespace Go.Proofs.Ytlecbjbjgfpfeaa
open Go.V

/-- A task: sources (name; kind, error, late, life, low, high), soundings (source, tick, height, x, y), cuts. -/
structure Task where
  ns : Nat
  nx : Nat
  nc : Nat
  nm : Nat → ByteArray
  sa : Nat → Nat → Int
  xa : Nat → Nat → Int
  ca : Nat → Nat → Int
  age : Int
  shear : Int
def Task.D (t : Task) : V.D := .agg [.rsl 7 t.ns (smD t.nm t.sa), .rsl 5 t.nx (imD t.xa), .rsl 1 t.nc (imD t.ca), .int .i64 t.age, .int .i64 t.shear]
def taskOf (d : V.D) : Task := match d with
  | .agg [.rsl _ ns g, .rsl _ nx h, .rsl _ nc c, .int _ a, .int _ s] => ⟨ns, nx, nc, nmOf g, imS g, im h, im c, a, s⟩
  | _ => ⟨0, 0, 0, fun _ => ⟨#[]⟩, fun _ _ => 0, fun _ _ => 0, fun _ _ => 0, 0, 0⟩
def TaskIs (d : V.D) : Prop := match d with
  | .agg [.rsl 7 ns g, .rsl 5 nx h, .rsl 1 nc c, .int .i64 _, .int .i64 _] => SM ns 7 g ∧ IM nx 5 h ∧ IM nc 1 c
  | _ => False
theorem taskOf_agg (t : Task) : taskOf (.agg [.rsl 7 t.ns (smD t.nm t.sa), .rsl 5 t.nx (imD t.xa), .rsl 1 t.nc (imD t.ca), .int .i64 t.age, .int .i64 t.shear]) = t := rfl
theorem task_imp {d : V.D} {k : Prop} (h : TaskIs d) (hk : k) : impB noGh d (taskOf d).D k := by
  unfold TaskIs at h
  split at h
  · exact ⟨rfl, h.1, rfl, h.2.1, rfl, h.2.2, rfl, rfl, hk⟩
  · exact h.elim

def knownS (t : Task) (i : Nat) (now : Int) : Bool := decide (t.xa i 1 + t.sa (t.xa i 0).toNat 2 ≤ now) && decide (now - t.xa i 1 ≤ t.sa (t.xa i 0).toNat 3)
def rKnown : List V.D → Option (Prop × V.D) := fun ds => match ds with
  | [d, .int .i64 i, .int .i64 now] => some (TaskIs d ∧ (0 ≤ i ∧ i < (taskOf d).nx) ∧ (0 ≤ (taskOf d).xa i.toNat 0 ∧ (taskOf d).xa i.toNat 0 < (taskOf d).ns) ∧ sm ((taskOf d).xa i.toNat 1) ∧ sm ((taskOf d).sa ((taskOf d).xa i.toNat 0).toNat 2) ∧ sm now,
      .bool (knownS (taskOf d) i.toNat now))
  | _ => none
def doubtS (t : Task) (i : Nat) (h at' : Int) : Int := t.sa (t.xa i 0).toNat 1 + t.age * begun (t.xa i 1) at' 600 + t.shear * begun (t.xa i 2) h 100000
def rDoubt : List V.D → Option (Prop × V.D) := fun ds => match ds with
  | [d, .int .i64 i, .int .i64 h, .int .i64 a] => some (TaskIs d ∧ (0 ≤ i ∧ i < (taskOf d).nx) ∧ (0 ≤ (taskOf d).xa i.toNat 0 ∧ (taskOf d).xa i.toNat 0 < (taskOf d).ns) ∧ (0 ≤ (taskOf d).xa i.toNat 1 ∧ (taskOf d).xa i.toNat 1 ≤ 100000) ∧
      (0 ≤ (taskOf d).xa i.toNat 2 ∧ (taskOf d).xa i.toNat 2 < 100000000) ∧ (0 ≤ (taskOf d).sa ((taskOf d).xa i.toNat 0).toNat 1 ∧ (taskOf d).sa ((taskOf d).xa i.toNat 0).toNat 1 ≤ 5000) ∧
      (0 ≤ (taskOf d).age ∧ (taskOf d).age ≤ 1000) ∧ (0 ≤ (taskOf d).shear ∧ (taskOf d).shear ≤ 1000) ∧ (0 ≤ h ∧ h < 100000000) ∧ (0 ≤ a ∧ a ≤ 100000), .int .i64 (doubtS (taskOf d) i.toNat h a))
  | _ => none
def lib5 : Lib := (15, mk rInts) :: lib4
theorem lib5_ok : LibOK Go.Proofs.Try.prog lib5 := .cons ints_ok lib4_ok

theorem begun_bound {a b l : Int} (ha : 0 ≤ a ∧ a ≤ 100000000) (hb : 0 ≤ b ∧ b ≤ 100000000) (hl : 100 ≤ l ∧ l ≤ 100000) : 0 ≤ begun a b l ∧ begun a b l ≤ 1001000 := by
  unfold begun
  have h1 : 0 ≤ max (a - b) (b - a) + l - 1 := by omega
  have h2 : max (a - b) (b - a) + l - 1 ≤ 100000000 + l := by omega
  generalize max (a - b) (b - a) + l - 1 = x at *
  rw [Int.tdiv_eq_ediv_of_nonneg h1]
  refine ⟨Int.ediv_nonneg h1 (by omega), ?_⟩
  have h3 : x / l ≤ (100000000 + l) / l := Int.ediv_le_ediv (by omega) h2
  have h4 : (100000000 + l) / l = 100000000 / l + 1 := by
    rw [Int.add_ediv_of_dvd_right (Int.dvd_refl l), Int.ediv_self (by omega)]
  have h5 : 100000000 / l ≤ 1000000 := by
    apply Int.ediv_le_of_le_mul (by omega)
    omega
  omega
theorem mul_bound {x y : Int} (hx : 0 ≤ x ∧ x ≤ 1000) (hy : 0 ≤ y ∧ y ≤ 1001000) : 0 ≤ x * y ∧ x * y ≤ 1001000000 := by
  refine ⟨Int.mul_nonneg hx.1 hy.1, ?_⟩
  have h1 : x * y ≤ 1000 * y := Int.mul_le_mul_of_nonneg_right hx.2 hy.1
  omega

end Go.Proofs.Ytlecbjbjgfpfeaa
end
section
set_option linter.unusedVariables false
set_option linter.unusedSimpArgs false
set_option maxRecDepth 100000
namespace Go.Proofs.Ytlecbjbjgfpfeaa
open Go.V

/-- What Check has looked at, of sources and soundings. -/
structure Task.ok (t : Task) : Prop where
  ns : t.ns ≤ 6
  nx : t.nx ≤ 60
  nc : 1 ≤ t.nc ∧ t.nc ≤ 20
  err : ∀ i, i < t.ns → 0 ≤ t.sa i 1 ∧ t.sa i 1 ≤ 5000
  late : ∀ i, i < t.ns → 0 ≤ t.sa i 2 ∧ t.sa i 2 ≤ 6000
  life : ∀ i, i < t.ns → 1 ≤ t.sa i 3 ∧ t.sa i 3 ≤ 60000
  src : ∀ i, i < t.nx → 0 ≤ t.xa i 0 ∧ t.xa i 0 < t.ns
  tick : ∀ i, i < t.nx → 0 ≤ t.xa i 1 ∧ t.xa i 1 ≤ 100000
  height : ∀ i, i < t.nx → 0 ≤ t.xa i 2 ∧ t.xa i 2 < 100000000
  x : ∀ i, i < t.nx → -20000 ≤ t.xa i 3 ∧ t.xa i 3 ≤ 20000
  y : ∀ i, i < t.nx → -20000 ≤ t.xa i 4 ∧ t.xa i 4 ≤ 20000
  cut : ∀ i, i < t.nc → 1 ≤ t.ca i 0 ∧ t.ca i 0 ≤ 100000000
  rise : ∀ i, i + 1 < t.nc → t.ca i 0 < t.ca (i + 1) 0
  age : 0 ≤ t.age ∧ t.age ≤ 1000
  shear : 0 ≤ t.shear ∧ t.shear ≤ 1000

def lowS (t : Task) (b : Nat) : Int := if b = 0 then 0 else t.ca (b - 1) 0
def rEnds : List V.D → Option (Prop × V.D) := fun ds => match ds with
  | [d, .int .i64 b] => some (TaskIs d ∧ (taskOf d).ok ∧ (0 ≤ b ∧ b < (taskOf d).nc), .tup [.int .i64 (lowS (taskOf d) b.toNat), .int .i64 ((taskOf d).ca b.toNat 0 - 1)])
  | _ => none
/-- What a source says: whether it says something, and what it leaves. -/
structure Word where
  some : Bool
  xl : Int
  xh : Int
  yl : Int
  yh : Int
def Word.cells (w : Word) : List V.D := [.bool w.some, .int .i64 w.xl, .int .i64 w.xh, .int .i64 w.yl, .int .i64 w.yh]
def word0 : Word := ⟨false, -20000, 20000, -20000, 20000⟩
def dOf (t : Task) (low high at' : Int) (i : Nat) : Int := max (doubtS t i low at') (doubtS t i high at')
def sayStep (t : Task) (s low high at' now : Int) (i : Nat) (w : Word) : Word :=
  if t.xa i 0 ≠ s then w else if knownS t i now = false then w else
    ⟨true, max w.xl (t.xa i 3 - dOf t low high at' i), min w.xh (t.xa i 3 + dOf t low high at' i), max w.yl (t.xa i 4 - dOf t low high at' i), min w.yh (t.xa i 4 + dOf t low high at' i)⟩
def saysFrom (t : Task) (s low high at' now : Int) (i : Nat) (w : Word) : Nat → Word
  | 0 => w
  | k + 1 => saysFrom t s low high at' now (i + 1) (sayStep t s low high at' now i w) k
theorem saysFrom_step {t : Task} {s low high at' now : Int} {i n : Nat} {w : Word} (h : i < n) :
    saysFrom t s low high at' now i w (n - i) = saysFrom t s low high at' now (i + 1) (sayStep t s low high at' now i w) (n - (i + 1)) := by
  rw [show n - i = (n - (i + 1)) + 1 by omega, saysFrom]
def saysS (t : Task) (s low high at' now : Int) : Word := saysFrom t s low high at' now 0 word0 t.nx

def rSays : List V.D → Option (Prop × V.D) := fun ds => match ds with
  | [d, .int .i64 s, .int .i64 low, .int .i64 high, .int .i64 a, .int .i64 now] => some (TaskIs d ∧ (taskOf d).ok ∧ (0 ≤ low ∧ low < 100000000) ∧ (0 ≤ high ∧ high < 100000000) ∧ (0 ≤ a ∧ a ≤ 100000) ∧ (0 ≤ now ∧ now ≤ 100000),
      .agg (saysS (taskOf d) s low high a now).cells)
  | _ => none
def lib6 : Lib := lib5
theorem lib6_ok : LibOK Go.Proofs.Try.prog lib6 := lib5_ok
end Go.Proofs.Ytlecbjbjgfpfeaa
end
section
set_option linter.unusedVariables false
set_option linter.unusedSimpArgs false
set_option maxRecDepth 100000
namespace Go.Proofs.Ytlecbjbjgfpfeaa
open Go.V

theorem doubt_bound {t : Task} (hok : t.ok) {i : Nat} (hi : i < t.nx) {h a : Int} (hh : 0 ≤ h ∧ h < 100000000) (ha : 0 ≤ a ∧ a ≤ 100000) : 0 ≤ doubtS t i h a ∧ doubtS t i h a ≤ 2002005000 := by
  have h5 := hok.tick i hi
  have h6 := hok.height i hi
  have h3 := hok.src i hi
  have h7 := hok.err (t.xa i 0).toNat (by omega)
  have b1 := begun_bound (l := 600) ⟨h5.1, by omega⟩ ⟨ha.1, by omega⟩ (by omega)
  have b2 := begun_bound (l := 100000) (b := h) ⟨h6.1, by omega⟩ ⟨hh.1, by omega⟩ (by omega)
  have m1 := mul_bound hok.age b1
  have m2 := mul_bound hok.shear b2
  unfold doubtS
  omega

/-- What all sources but one leave, and whether they agree. -/
structure Left where
  xl : Int
  xh : Int
  yl : Int
  yh : Int
def left0 : Left := ⟨-20000, 20000, -20000, 20000⟩
def leftStep (t : Task) (but low high a now : Int) (i : Nat) (l : Left) : Left :=
  if (i : Int) = but then l else if (saysS t i low high a now).some = false then l else
    ⟨max l.xl (saysS t i low high a now).xl, min l.xh (saysS t i low high a now).xh, max l.yl (saysS t i low high a now).yl, min l.yh (saysS t i low high a now).yh⟩
def leftFrom (t : Task) (but low high a now : Int) (i : Nat) (l : Left) : Nat → Left
  | 0 => l
  | k + 1 => leftFrom t but low high a now (i + 1) (leftStep t but low high a now i l) k
theorem leftFrom_step {t : Task} {but low high a now : Int} {i n : Nat} {l : Left} (h : i < n) :
    leftFrom t but low high a now i l (n - i) = leftFrom t but low high a now (i + 1) (leftStep t but low high a now i l) (n - (i + 1)) := by
  rw [show n - i = (n - (i + 1)) + 1 by omega, leftFrom]
def leftS (t : Task) (but low high a now : Int) : Left := leftFrom t but low high a now 0 left0 t.ns
def Left.agree (l : Left) : Bool := !decide (l.xh < l.xl) && !decide (l.yh < l.yl)
def rLeft : List V.D → Option (Prop × V.D) := fun ds => match ds with
  | [d, .int .i64 s, .int .i64 low, .int .i64 high, .int .i64 a, .int .i64 now] => some (TaskIs d ∧ (taskOf d).ok ∧ (0 ≤ low ∧ low < 100000000) ∧ (0 ≤ high ∧ high < 100000000) ∧ (0 ≤ a ∧ a ≤ 100000) ∧ (0 ≤ now ∧ now ≤ 100000),
      .tup [.agg [.int .i64 (leftS (taskOf d) s low high a now).xl, .int .i64 (leftS (taskOf d) s low high a now).xh], .agg [.int .i64 (leftS (taskOf d) s low high a now).yl, .int .i64 (leftS (taskOf d) s low high a now).yh], .bool (leftS (taskOf d) s low high a now).agree])
  | _ => none
def lib7 : Lib := lib6
theorem lib7_ok : LibOK Go.Proofs.Try.prog lib7 := lib6_ok
end Go.Proofs.Ytlecbjbjgfpfeaa
end
section
set_option linter.unusedVariables false
set_option linter.unusedSimpArgs false
set_option maxRecDepth 100000
set_option maxHeartbeats 4000000
namespace Go.Proofs.Ytlecbjbjgfpfeaa
open Go.V

end Go.Proofs.Ytlecbjbjgfpfeaa
end
section
set_option linter.unusedVariables false
set_option linter.unusedSimpArgs false
set_option maxRecDepth 100000
set_option maxHeartbeats 4000000
namespace Go.Proofs.Ytlecbjbjgfpfeaa
open Go.V

def lib8 : Lib := lib7
theorem lib8_ok : LibOK Go.Proofs.Try.prog lib8 := lib7_ok

/-- A list of numbers, as cells. -/
def liD (l : List Int) (i _j : Nat) : V.D := .int .i64 (l.getD i 0)
def blameStep (t : Task) (low high a now : Int) (i : Nat) (l : List Int) : List Int := if (leftS t i low high a now).agree = true then l ++ [(i : Int)] else l
def blameFrom (t : Task) (low high a now : Int) (i : Nat) (l : List Int) : Nat → List Int
  | 0 => l
  | k + 1 => blameFrom t low high a now (i + 1) (blameStep t low high a now i l) k
theorem blameFrom_step {t : Task} {low high a now : Int} {i n : Nat} {l : List Int} (h : i < n) :
    blameFrom t low high a now i l (n - i) = blameFrom t low high a now (i + 1) (blameStep t low high a now i l) (n - (i + 1)) := by
  rw [show n - i = (n - (i + 1)) + 1 by omega, blameFrom]
def agreeS (t : Task) (low high a now : Int) : Bool := (leftS t (-1) low high a now).agree
def blameS (t : Task) (low high a now : Int) : List Int := if agreeS t low high a now = true then [] else blameFrom t low high a now 0 [] t.ns
def rBlame : List V.D → Option (Prop × V.D) := fun ds => match ds with
  | [d, .int .i64 low, .int .i64 high, .int .i64 a, .int .i64 now] => some (TaskIs d ∧ (taskOf d).ok ∧ (0 ≤ low ∧ low < 100000000) ∧ (0 ≤ high ∧ high < 100000000) ∧ (0 ≤ a ∧ a ≤ 100000) ∧ (0 ≤ now ∧ now ≤ 100000),
      .tup [.rsl 1 (blameS (taskOf d) low high a now).length (liD (blameS (taskOf d) low high a now)), .bool (agreeS (taskOf d) low high a now)])
  | _ => none

theorem liD_snoc {l : List Int} {x : Int} {i j : Nat} (hi : i < (l ++ [x]).length) (hj : j < 1) : (if i < l.length then liD l i j else [D.int IntKind.i64 x].getD ((i - l.length) * 1 + j) D.top) = liD (l ++ [x]) i j := by
  simp only [List.length_append, List.length_singleton] at hi
  unfold liD
  by_cases h : i < l.length
  · rw [if_pos h]
    simp [List.getElem?_append_left h]
  · rw [if_neg h]
    have e1 : i = l.length := by omega
    have e2 : j = 0 := by omega
    subst e1; subst e2
    simp
end Go.Proofs.Ytlecbjbjgfpfeaa
end
section
set_option linter.unusedVariables false
set_option linter.unusedSimpArgs false
set_option maxRecDepth 100000
set_option maxHeartbeats 4000000
namespace Go.Proofs.Ytlecbjbjgfpfeaa
open Go.V

def lib9 : Lib := lib8
theorem lib9_ok : LibOK Go.Proofs.Try.prog lib9 := lib8_ok

/-- What is left in the end, and whether there is an answer. -/
def answerS (t : Task) (low high a now : Int) : Left × Bool :=
  if agreeS t low high a now = true then (leftS t (-1) low high a now, (leftS t (-1) low high a now).agree)
  else if (blameS t low high a now).length ≠ 1 then (⟨0, 0, 0, 0⟩, false)
  else (leftS t ((blameS t low high a now).getD 0 0) low high a now, (leftS t ((blameS t low high a now).getD 0 0) low high a now).agree)
def rAnswer : List V.D → Option (Prop × V.D) := fun ds => match ds with
  | [d, .int .i64 low, .int .i64 high, .int .i64 a, .int .i64 now] => some (TaskIs d ∧ (taskOf d).ok ∧ (0 ≤ low ∧ low < 100000000) ∧ (0 ≤ high ∧ high < 100000000) ∧ (0 ≤ a ∧ a ≤ 100000) ∧ (0 ≤ now ∧ now ≤ 100000),
      .tup [.agg [.int .i64 (answerS (taskOf d) low high a now).1.xl, .int .i64 (answerS (taskOf d) low high a now).1.xh], .agg [.int .i64 (answerS (taskOf d) low high a now).1.yl, .int .i64 (answerS (taskOf d) low high a now).1.yh], .bool (answerS (taskOf d) low high a now).2])
  | _ => none

end Go.Proofs.Ytlecbjbjgfpfeaa
end
section
set_option linter.unusedVariables false
set_option linter.unusedSimpArgs false
set_option maxRecDepth 100000
set_option maxHeartbeats 4000000
namespace Go.Proofs.Ytlecbjbjgfpfeaa
open Go.V

def allFrom (p : Nat → Bool) (i : Nat) : Nat → Bool
  | 0 => true
  | k + 1 => p i && allFrom p (i + 1) k
theorem allFrom_step {p : Nat → Bool} {i n : Nat} (h : i < n) : allFrom p i (n - i) = (p i && allFrom p (i + 1) (n - (i + 1))) := by
  rw [show n - i = (n - (i + 1)) + 1 by omega, allFrom]
def letter (s : ByteArray) (i : Nat) : Bool := isin (byteAt s i) 97 122 || (!decide (i = 0) && (decide (byteAt s i = 45) || isin (byteAt s i) 48 57))
def nameS (s : ByteArray) : Bool := isin s.size 1 24 && allFrom (letter s) 0 s.size
theorem not_out (n a b : Int) : (!out n a b) = isin n a b := by
  rw [Bool.eq_iff_iff]
  simp [out, isin]
def rName : List D → Option (Prop × D) := fun ds => match ds with
  | [.str s] => some (s.size ≤ 9223372036854775807, .bool (nameS s))
  | _ => none

theorem windName_ok : PSound Go.Proofs.Try.prog 34 (mk rName) := by
  refine psound_mk Try.func34 (by kernel_rfl) rfl (ctx lib4_ok) ?_
  (intro ds p d h; unfold rName at h; split at h <;> first | (cases h; done) | skip; cases h; refine ⟨Nat.le_of_ble_eq_true rfl, fun hp k hk => ?_⟩)
  rename_i s
  refine ⟨[.str s], rfl, ?_⟩
  repeat' (first | ((with_reducible refine kok ?_); kernel_rfl) | ((with_reducible refine keq_mk ?_); kernel_rfl) | with_reducible rfl | ((conv => whnf); first | exact trivial | refine And.intro ?_ ?_ | intro _ | (with_reducible refine (?_ : _ = true); (conv => lhs; whnf); done) | exact rfl))
  · assumption
  refine ⟨Nat, fun i => [(0, .str s), (6, .own 0 s.size), (7, .int .i64 s.size), (8, .int .i64 i)], fun _ => [some (.buf 5 1 s.size fun i _ => .int .u8 (byteAt s i))], fun i => s.size - i, fun i => i ≤ s.size ∧ nameS s = (isin s.size 1 24 && allFrom (letter s) i (s.size - i)), [], 0, fun _ => ⟨rfl, rfl⟩, ?_, fun i hI => ?_⟩
  · repeat' (first | ((with_reducible refine kok ?_); kernel_rfl) | ((with_reducible refine keq_mk ?_); kernel_rfl) | with_reducible rfl | ((conv => whnf); first | exact trivial | refine And.intro ?_ ?_ | intro _ | (with_reducible refine (?_ : _ = true); (conv => lhs; whnf); done) | exact rfl))
    all_goals simp_all [nameS]
  · obtain ⟨hi, hc⟩ := hI
    have key : i < s.size → nameS s = (isin s.size 1 24 && (letter s i && allFrom (letter s) (i + 1) (s.size - (i + 1)))) := fun h => by rw [hc, allFrom_step h]
    have key2 : s.size ≤ i → nameS s = isin s.size 1 24 := fun h => by rw [hc, show s.size - i = 0 by omega]; simp [allFrom]
    clear hc
    repeat' (first | ((with_reducible refine kok ?_); kernel_rfl) | ((with_reducible refine keq_mk ?_); kernel_rfl) | with_reducible rfl | ((conv => whnf); first | exact trivial | refine And.intro ?_ ?_ | intro _ | (with_reducible refine (?_ : _ = true); (conv => lhs; whnf); done) | exact rfl))
    all_goals try refine fin_of hk ?_
    all_goals try refine ⟨i + 1, ?_⟩
    all_goals clear hk
    repeat' (first | ((with_reducible refine kok ?_); kernel_rfl) | ((with_reducible refine keq_mk ?_); kernel_rfl) | with_reducible rfl | ((conv => whnf); first | exact trivial | refine And.intro ?_ ?_ | intro _ | (with_reducible refine (?_ : _ = true); (conv => lhs; whnf); done) | exact rfl))
    all_goals try simp only [Nat.zero_add, Nat.add_zero, Int.toNat_natCast, decide_eq_true_eq, decide_eq_false_iff_not, Bool.not_eq_true', Bool.not_eq_false', Int.ofNat_lt, Int.natCast_pos, Nat.pos_iff_ne_zero, Nat.reduceAdd] at *
    all_goals try omega
    all_goals first
      | (rw [key (by assumption), show letter s i = false by simp [letter, isin] <;> omega]; simp; done)
      | (rw [key (by assumption), show letter s i = true by simp [letter, isin] <;> omega, Bool.true_and]; done)
      | (rw [key2 (by omega), not_out]; done)

theorem refName_ok : PSound Go.Proofs.Try.prog 66 (mk rName) := by
  refine psound_mk Try.func66 (by kernel_rfl) rfl (ctx lib4_ok) ?_
  (intro ds p d h; unfold rName at h; split at h <;> first | (cases h; done) | skip; cases h; refine ⟨Nat.le_of_ble_eq_true rfl, fun hp k hk => ?_⟩)
  rename_i s
  refine ⟨[.str s], rfl, ?_⟩
  repeat' (first | ((with_reducible refine kok ?_); kernel_rfl) | ((with_reducible refine keq_mk ?_); kernel_rfl) | with_reducible rfl | ((conv => whnf); first | exact trivial | refine And.intro ?_ ?_ | intro _ | (with_reducible refine (?_ : _ = true); (conv => lhs; whnf); done) | exact rfl))
  all_goals try (refine fin_of hk ?_; clear hk; repeat' (first | ((with_reducible refine kok ?_); kernel_rfl) | ((with_reducible refine keq_mk ?_); kernel_rfl) | with_reducible rfl | ((conv => whnf); first | exact trivial | refine And.intro ?_ ?_ | intro _ | (with_reducible refine (?_ : _ = true); (conv => lhs; whnf); done) | exact rfl)); all_goals first | exact trivial | (refine (Bool.eq_false_iff.mpr fun h => ?_).symm; simp [nameS, isin] at h; simp_all; omega))
  refine ⟨Nat, fun i => [(0, .str s), (3, .int .i64 i)], fun _ => [], fun i => s.size - i, fun i => i ≤ s.size ∧ nameS s = allFrom (letter s) i (s.size - i), [], 0, fun _ => ⟨rfl, rfl⟩, ?_, fun i hI => ?_⟩
  · repeat' (first | ((with_reducible refine kok ?_); kernel_rfl) | ((with_reducible refine keq_mk ?_); kernel_rfl) | with_reducible rfl | ((conv => whnf); first | exact trivial | refine And.intro ?_ ?_ | intro _ | (with_reducible refine (?_ : _ = true); (conv => lhs; whnf); done) | exact rfl))
    all_goals simp_all [nameS, isin]
    all_goals omega
  · obtain ⟨hi, hc⟩ := hI
    have key : i < s.size → nameS s = (letter s i && allFrom (letter s) (i + 1) (s.size - (i + 1))) := fun h => by rw [hc, allFrom_step h]
    have key2 : s.size ≤ i → nameS s = true := fun h => by rw [hc, show s.size - i = 0 by omega]; simp [allFrom]
    clear hc
    repeat' (first | ((with_reducible refine kok ?_); kernel_rfl) | ((with_reducible refine keq_mk ?_); kernel_rfl) | with_reducible rfl | ((conv => whnf); first | exact trivial | refine And.intro ?_ ?_ | intro _ | (with_reducible refine (?_ : _ = true); (conv => lhs; whnf); done) | exact rfl))
    all_goals try refine fin_of hk ?_
    all_goals try refine ⟨i + 1, ?_⟩
    all_goals clear hk
    repeat' (first | ((with_reducible refine kok ?_); kernel_rfl) | ((with_reducible refine keq_mk ?_); kernel_rfl) | with_reducible rfl | ((conv => whnf); first | exact trivial | refine And.intro ?_ ?_ | intro _ | (with_reducible refine (?_ : _ = true); (conv => lhs; whnf); done) | exact rfl))
    all_goals try simp only [Nat.zero_add, Nat.add_zero, Int.toNat_natCast, decide_eq_true_eq, decide_eq_false_iff_not, Bool.not_eq_true', Bool.not_eq_false', Int.ofNat_lt, Int.natCast_pos, Nat.pos_iff_ne_zero, Nat.reduceAdd] at *
    all_goals try omega
    all_goals first
      | (rw [key (by assumption), show letter s i = false by simp [letter, isin] <;> omega]; simp; done)
      | (rw [key (by assumption), show letter s i = true by simp [letter, isin] <;> omega, Bool.true_and]; done)
      | (rw [key2 (by omega)]; done)
end Go.Proofs.Ytlecbjbjgfpfeaa
end
section
set_option linter.unusedVariables false
set_option linter.unusedSimpArgs false
set_option maxRecDepth 100000
set_option maxHeartbeats 4000000
namespace Go.Proofs.Ytlecbjbjgfpfeaa
open Go.V

/-- Whether something is so for a number below another one. -/
def anyBelow (p : Nat → Bool) : Nat → Bool
  | 0 => false
  | k + 1 => anyBelow p k || p k
theorem anyBelow_iff {p : Nat → Bool} {n : Nat} : anyBelow p n = true ↔ ∃ k, k < n ∧ p k = true := by
  induction n with
  | zero => simp [anyBelow]
  | succ n ih =>
    simp only [anyBelow, Bool.or_eq_true, ih]
    constructor
    · rintro (⟨k, h1, h2⟩ | h)
      · exact ⟨k, by omega, h2⟩
      · exact ⟨n, by omega, h⟩
    · rintro ⟨k, h1, h2⟩
      rcases Nat.lt_or_eq_of_le (Nat.le_of_lt_succ h1) with h | rfl
      · exact .inl ⟨k, h, h2⟩
      · exact .inr h2
theorem anyBelow_succ {p : Nat → Bool} {n : Nat} : anyBelow p (n + 1) = (anyBelow p n || p n) := rfl

def srcRange (t : Task) (i : Nat) : Bool := isin (t.sa i 1) 0 5000 && isin (t.sa i 2) 0 6000 && isin (t.sa i 3) 1 60000 && isin (t.sa i 4) 0 99999999 && isin (t.sa i 5) 0 99999999 && decide (t.sa i 4 ≤ t.sa i 5)
def sameName (t : Task) (i k : Nat) : Bool := decide (t.nm k = t.nm i)
def srcErr (t : Task) (i : Nat) : Int :=
  if nameS (t.nm i) = false then 6 else if anyBelow (sameName t i) i = true then 5 else if isin (t.sa i 0) 1 3 = false then 2 else if srcRange t i = false then 7 else 0
/-- Names are not longer than any slice can be. -/
def Task.fits (t : Task) : Prop := ∀ i, i < t.ns → (t.nm i).size ≤ 9223372036854775807
def rRefSource : List V.D → Option (Prop × V.D) := fun ds => match ds with
  | [d, .int .i64 i] => some (TaskIs d ∧ (taskOf d).fits ∧ (0 ≤ i ∧ i < (taskOf d).ns) ∧ (taskOf d).ns ≤ 6, .int .i64 (srcErr (taskOf d) i.toNat))
  | _ => none
def lib10 : Lib := (34, mk rName) :: (66, mk rName) :: lib9
theorem lib10_ok : LibOK Go.Proofs.Try.prog lib10 := .cons windName_ok (.cons refName_ok lib9_ok)

theorem refSource_ok : PSound Go.Proofs.Try.prog 52 (mk rRefSource) := by
  refine psound_mk Try.func52 (by kernel_rfl) rfl (ctx lib10_ok) ?_
  (intro ds p d h; unfold rRefSource at h; split at h <;> first | (cases h; done) | skip; cases h; refine ⟨Nat.le_of_ble_eq_true rfl, fun hp k hk => ?_⟩)
  rename_i d i
  obtain ⟨ht, hf, ⟨h1, h2⟩, hn⟩ := hp
  refine ⟨[(taskOf d).D, .int .i64 i], task_imp ht ⟨rfl, ?_⟩⟩
  clear ht
  generalize taskOf d = t at *
  obtain ⟨n, rfl⟩ := Int.eq_ofNat_of_zero_le h1
  have hf1 := hf n (by omega)
  rw [Int.toNat_natCast] at hk
  repeat' (first | ((with_reducible refine kok ?_); kernel_rfl) | ((with_reducible refine keq_mk ?_); kernel_rfl) | with_reducible rfl | ((conv => whnf); first | exact trivial | refine And.intro ?_ ?_ | intro _ | (with_reducible refine (?_ : _ = true); (conv => lhs; whnf); done) | exact rfl))
  · omega
  · omega
  · exact hf1
  · refine fin_of hk ?_
    clear hk
    repeat' (first | ((with_reducible refine kok ?_); kernel_rfl) | ((with_reducible refine keq_mk ?_); kernel_rfl) | with_reducible rfl | ((conv => whnf); first | exact trivial | refine And.intro ?_ ?_ | intro _ | (with_reducible refine (?_ : _ = true); (conv => lhs; whnf); done) | exact rfl))
    all_goals first | exact trivial | (simp_all [srcErr]; done)
  rename_i hname
  refine ⟨Nat, fun k => [(1, .int .i64 n), (2, .ptr 0 0), (5, .ptr 1 0), (6, .int .i64 k)],
    fun k => [some (.row [.rsl 7 t.ns (smD t.nm t.sa), .rsl 5 t.nx (imD t.xa), .rsl 1 t.nc (imD t.ca), .int .i64 t.age, .int .i64 t.shear]), some (.row [.str (t.nm n), .int .i64 (t.sa n 0), .int .i64 (t.sa n 1), .int .i64 (t.sa n 2), .int .i64 (t.sa n 3), .int .i64 (t.sa n 4), .int .i64 (t.sa n 5)])],
    fun k => n - k, fun k => k ≤ n ∧ anyBelow (sameName t n) k = false, [], 0, fun _ => ⟨rfl, rfl⟩, ?_, fun k hI => ?_⟩
  · repeat' (first | ((with_reducible refine kok ?_); kernel_rfl) | ((with_reducible refine keq_mk ?_); kernel_rfl) | with_reducible rfl | ((conv => whnf); first | exact trivial | refine And.intro ?_ ?_ | intro _ | (with_reducible refine (?_ : _ = true); (conv => lhs; whnf); done) | exact rfl))
    all_goals simp_all [anyBelow]
  · obtain ⟨hi, hc⟩ := hI
    have hany : k < n → t.nm k = t.nm n → anyBelow (sameName t n) n = true := fun h1 h2 => anyBelow_iff.mpr ⟨k, h1, by simp [sameName, h2]⟩
    have hend : ¬ k < n → anyBelow (sameName t n) n = false := fun h => by rw [show n = k by omega] at hc ⊢; exact hc
    repeat' (first | ((with_reducible refine kok ?_); kernel_rfl) | ((with_reducible refine keq_mk ?_); kernel_rfl) | with_reducible rfl | ((conv => whnf); first | exact trivial | refine And.intro ?_ ?_ | intro _ | (with_reducible refine (?_ : _ = true); (conv => lhs; whnf); done) | exact rfl))
    all_goals try refine fin_of hk ?_
    all_goals try refine ⟨k + 1, ?_⟩
    all_goals clear hk
    repeat' (first | ((with_reducible refine kok ?_); kernel_rfl) | ((with_reducible refine keq_mk ?_); kernel_rfl) | with_reducible rfl | ((conv => whnf); first | exact trivial | refine And.intro ?_ ?_ | intro _ | (with_reducible refine (?_ : _ = true); (conv => lhs; whnf); done) | exact rfl))
    all_goals try simp only [Int.toNat_natCast, Nat.zero_add, Nat.add_zero, Nat.reduceAdd, decide_eq_true_eq, decide_eq_false_iff_not, Bool.not_eq_true', Bool.not_eq_false', Int.ofNat_lt] at *
    all_goals try omega
    all_goals first
      | (have hb := hany (by assumption) (by assumption); simp [srcErr, hb, hname]; done)
      | (rw [anyBelow_succ, hc]; simp [sameName, *]; done)
      | (have hb := hend (by assumption); simp [srcErr, srcRange, hb, *]; done)
      | (have hb := hend (by assumption); simp [srcErr, srcRange, hb, *]; omega)

/-- The last number below another one for which something is so; -1: there is none. -/
def lastOf (p : Nat → Bool) : Nat → Int
  | 0 => -1
  | k + 1 => if p k = true then (k : Int) else lastOf p k
theorem lastOf_bound {p : Nat → Bool} {n : Nat} : -1 ≤ lastOf p n ∧ lastOf p n < n ∨ lastOf p n = -1 := by
  induction n with
  | zero => exact .inr rfl
  | succ n ih =>
    simp only [lastOf]
    split
    · left; omega
    · rcases ih with ih | ih
      · left; omega
      · exact .inr ih
def sndRange (t : Task) (i : Nat) : Bool := isin (t.xa i 1) 0 100000 && isin (t.xa i 2) (t.sa (t.xa i 0).toNat 4) (t.sa (t.xa i 0).toNat 5) && isin (t.xa i 3) (-20000) 20000 && isin (t.xa i 4) (-20000) 20000
def sameSpot (t : Task) (i k : Nat) : Bool := decide (t.xa k 0 = t.xa i 0) && decide (t.xa k 1 = t.xa i 1) && decide (t.xa k 2 = t.xa i 2)
def sameSrc (t : Task) (i k : Nat) : Bool := decide (t.xa k 0 = t.xa i 0)
def lastS (t : Task) (i : Nat) : Int := lastOf (sameSrc t i) i
def falls (t : Task) (i : Nat) : Bool := decide (t.sa (t.xa i 0).toNat 0 = 2) && decide (0 ≤ lastS t i) && (decide (t.xa i 1 < t.xa (lastS t i).toNat 1) || decide (t.xa i 2 < t.xa (lastS t i).toNat 2))
def sndErr (t : Task) (i : Nat) : Int :=
  if isin (t.xa i 0) 0 (t.ns - 1) = false then 4 else if sndRange t i = false then 7 else if anyBelow (sameSpot t i) i = true then 5 else if falls t i = true then 2 else 0
def rRefSounding : List V.D → Option (Prop × V.D) := fun ds => match ds with
  | [d, .int .i64 i] => some (TaskIs d ∧ (0 ≤ i ∧ i < (taskOf d).nx) ∧ (taskOf d).ns ≤ 6 ∧ (taskOf d).nx ≤ 60, .int .i64 (sndErr (taskOf d) i.toNat))
  | _ => none
theorem refSounding_ok : PSound Go.Proofs.Try.prog 53 (mk rRefSounding) := by
  refine psound_mk Try.func53 (by kernel_rfl) rfl (ctx lib10_ok) ?_
  (intro ds p d h; unfold rRefSounding at h; split at h <;> first | (cases h; done) | skip; cases h; refine ⟨Nat.le_of_ble_eq_true rfl, fun hp k hk => ?_⟩)
  rename_i d i
  obtain ⟨ht, ⟨h1, h2⟩, hns, hnx⟩ := hp
  refine ⟨[(taskOf d).D, .int .i64 i], task_imp ht ⟨rfl, ?_⟩⟩
  clear ht
  generalize taskOf d = t at *
  obtain ⟨n, rfl⟩ := Int.eq_ofNat_of_zero_le h1
  rw [Int.toNat_natCast] at hk
  have hr : (!isin (t.xa (n : Int).toNat 0) 0 (t.ns - 1)) = false → 0 ≤ t.xa n 0 ∧ t.xa n 0 < t.ns := fun h => by
    rw [Int.toNat_natCast] at h
    simp [isin] at h
    omega
  repeat' (first | ((with_reducible refine kok ?_); kernel_rfl) | ((with_reducible refine keq_mk ?_); kernel_rfl) | with_reducible rfl | ((conv => whnf); first | exact trivial | refine And.intro ?_ ?_ | intro _ | (with_reducible refine (?_ : _ = true); (conv => lhs; whnf); done) | exact rfl))
  · omega
  · omega
  · omega
  · omega
  · refine fin_of hk ?_
    clear hk
    repeat' (first | ((with_reducible refine kok ?_); kernel_rfl) | ((with_reducible refine keq_mk ?_); kernel_rfl) | with_reducible rfl | ((conv => whnf); first | exact trivial | refine And.intro ?_ ?_ | intro _ | (with_reducible refine (?_ : _ = true); (conv => lhs; whnf); done) | exact rfl))
    all_goals first | exact trivial | (simp_all [sndErr]; done)
  · exact (hr (by assumption)).1
  · exact (hr (by assumption)).2
  all_goals try (refine fin_of hk ?_; clear hk; repeat' (first | ((with_reducible refine kok ?_); kernel_rfl) | ((with_reducible refine keq_mk ?_); kernel_rfl) | with_reducible rfl | ((conv => whnf); first | exact trivial | refine And.intro ?_ ?_ | intro _ | (with_reducible refine (?_ : _ = true); (conv => lhs; whnf); done) | exact rfl)); all_goals first | exact trivial | (simp_all [sndErr, sndRange]; done))
  rename_i q1 q2 q3 q4 q5
  have hs := hr q1
  rw [Int.toNat_natCast] at q1 q2 q3 q4 q5
  clear hr
  refine ⟨Nat, fun k => [(1, .int .i64 n), (2, .ptr 0 0), (5, .ptr 1 0), (6, .ptr 2 0), (7, .int .i64 (lastOf (sameSrc t n) k)), (8, .int .i64 k)],
    fun k => [some (.row [.rsl 7 t.ns (smD t.nm t.sa), .rsl 5 t.nx (imD t.xa), .rsl 1 t.nc (imD t.ca), .int .i64 t.age, .int .i64 t.shear]), some (.row [.int .i64 (t.xa n 0), .int .i64 (t.xa n 1), .int .i64 (t.xa n 2), .int .i64 (t.xa n 3), .int .i64 (t.xa n 4)]),
      some (.row [.top, .int .i64 (t.sa (t.xa n 0).toNat 0), .int .i64 (t.sa (t.xa n 0).toNat 1), .int .i64 (t.sa (t.xa n 0).toNat 2), .int .i64 (t.sa (t.xa n 0).toNat 3), .int .i64 (t.sa (t.xa n 0).toNat 4), .int .i64 (t.sa (t.xa n 0).toNat 5)])],
    fun k => n - k, fun k => k ≤ n ∧ anyBelow (sameSpot t n) k = false, [], 0, fun _ => ⟨rfl, rfl⟩, ?_, fun k hI => ?_⟩
  · repeat' (first | ((with_reducible refine kok ?_); kernel_rfl) | ((with_reducible refine keq_mk ?_); kernel_rfl) | with_reducible rfl | ((conv => whnf); first | exact trivial | refine And.intro ?_ ?_ | intro _ | (with_reducible refine (?_ : _ = true); (conv => lhs; whnf); done) | exact rfl))
    all_goals simp_all [anyBelow, lastOf]
  · obtain ⟨hi, hc⟩ := hI
    have hany : k < n → t.xa k 0 = t.xa n 0 → t.xa k 1 = t.xa n 1 → t.xa k 2 = t.xa n 2 → anyBelow (sameSpot t n) n = true := fun h1 h2 h3 h4 => anyBelow_iff.mpr ⟨k, h1, by simp [sameSpot, h2, h3, h4]⟩
    have hend : ¬ k < n → k = n := fun h => by omega
    have hlb := lastOf_bound (p := sameSrc t n) (n := k)
    have hrange : sndRange t n = true := by simp_all [sndRange]
    have hsrc : isin (t.xa n 0) 0 (t.ns - 1) = true := by simp_all
    clear q1 q2 q3 q4 q5
    repeat' (first | ((with_reducible refine kok ?_); kernel_rfl) | ((with_reducible refine keq_mk ?_); kernel_rfl) | with_reducible rfl | ((conv => whnf); first | exact trivial | refine And.intro ?_ ?_ | intro _ | (with_reducible refine (?_ : _ = true); (conv => lhs; whnf); done) | exact rfl))
    all_goals try refine fin_of hk ?_
    all_goals try refine ⟨k + 1, ?_⟩
    all_goals clear hk
    repeat' (first | ((with_reducible refine kok ?_); kernel_rfl) | ((with_reducible refine keq_mk ?_); kernel_rfl) | with_reducible rfl | ((conv => whnf); first | exact trivial | refine And.intro ?_ ?_ | intro _ | (with_reducible refine (?_ : _ = true); (conv => lhs; whnf); done) | exact rfl))
    all_goals try simp only [Int.toNat_natCast, Nat.zero_add, Nat.add_zero, Nat.reduceAdd, decide_eq_true_eq, decide_eq_false_iff_not, Bool.not_eq_true', Bool.not_eq_false', Int.ofNat_lt] at *
    all_goals try omega
    all_goals first
      | (have hb := hany (by assumption) (by assumption) (by assumption) (by assumption); simp [sndErr, hsrc, hrange, hb]; done)
      | (simp [lastOf, sameSrc, *]; done)
      | (rw [anyBelow_succ, hc]; simp [sameSpot, *]; done)
      | (obtain rfl := hend (by assumption); simp [sndErr, falls, lastS, hsrc, hrange, hc, *]; done)

def tooLong (t : Task) : Bool := decide ((6 : Int) < t.ns) || decide ((60 : Int) < t.nx) || !isin t.nc 1 20
def cutErr (t : Task) (i : Nat) : Int := if isin (t.ca i 0) 1 100000000 = false then 7 else if 0 < i ∧ t.ca i 0 ≤ t.ca (i - 1) 0 then 2 else 0
def pickE (part : Int) (p : Int × Int) (r : Int × Int × Int) : Int × Int × Int := if p.2 ≠ 0 then (part, p.1, p.2) else r
def check4 (t : Task) : Int × Int × Int := if (isin t.age 0 1000 && isin t.shear 0 1000) = true then (0, 0, 0) else (5, 0, 7)
def check3 (t : Task) : Int × Int × Int := pickE 4 (fe (cutErr t) 0 t.nc) (check4 t)
def check2 (t : Task) : Int × Int × Int := pickE 3 (fe (sndErr t) 0 t.nx) (check3 t)
def checkS (t : Task) : Int × Int × Int := if tooLong t = true then (1, 0, 3) else pickE 2 (fe (srcErr t) 0 t.ns) (check2 t)
theorem pick_bad {e : Nat → Int} {i n : Nat} {p : Int} {r : Int × Int × Int} (h : i < n) (he : e i ≠ 0) : pickE p (fe e i (n - i)) r = (p, (i : Int), e i) := by
  rw [fe_step _ _ _ h, if_pos he]; exact if_pos he
theorem pick_next {e : Nat → Int} {i n : Nat} {p : Int} {r : Int × Int × Int} (h : i < n) (he : e i = 0) : pickE p (fe e i (n - i)) r = pickE p (fe e (i + 1) (n - (i + 1))) r := by
  rw [fe_step _ _ _ h, if_neg (fun h => h he)]
theorem pick_end {e : Nat → Int} {i n : Nat} {p : Int} {r : Int × Int × Int} (h : n ≤ i) : pickE p (fe e i (n - i)) r = r := by
  rw [show n - i = 0 by omega]; rfl
def rCheck : List V.D → Option (Prop × V.D) := fun ds => match ds with
  | [d] => some (TaskIs d ∧ (taskOf d).fits, .tup [.int .i64 (checkS (taskOf d)).1, .int .i64 (checkS (taskOf d)).2.1, .int .i64 (checkS (taskOf d)).2.2])
  | _ => none
def lib11 : Lib := (52, mk rRefSource) :: (53, mk rRefSounding) :: lib10
theorem lib11_ok : LibOK Go.Proofs.Try.prog lib11 := .cons refSource_ok (.cons refSounding_ok lib10_ok)
theorem refCheck_ok : PSound Go.Proofs.Try.prog 28 (mk rCheck) := by
  refine psound_mk Try.func28 (by kernel_rfl) rfl (ctx lib11_ok) ?_
  (intro ds p d h; unfold rCheck at h; split at h <;> first | (cases h; done) | skip; cases h; refine ⟨Nat.le_of_ble_eq_true rfl, fun hp k hk => ?_⟩)
  rename_i d
  obtain ⟨ht, hf⟩ := hp
  refine ⟨[(taskOf d).D], task_imp ht ?_⟩
  clear ht
  generalize taskOf d = t at *
  generalize hS : checkS t = c at *
  have hS' : c = if tooLong t = true then (1, 0, 3) else pickE 2 (fe (srcErr t) 0 t.ns) (check2 t) := hS.symm
  clear hS
  repeat' (first | ((with_reducible refine kok ?_); kernel_rfl) | ((with_reducible refine keq_mk ?_); kernel_rfl) | with_reducible rfl | ((conv => whnf); first | exact trivial | refine And.intro ?_ ?_ | intro _ | (with_reducible refine (?_ : _ = true); (conv => lhs; whnf); done) | exact rfl))
  all_goals try (refine fin_of hk ?_; clear hk; rw [if_pos (by simp [tooLong, *])] at hS'; subst hS'; (conv => whnf); repeat' (first | exact trivial | refine And.intro ?_ ?_ | exact rfl))
  rename_i q1 q2 q3
  have hlong : tooLong t = false := by simp_all [tooLong]
  have hns : t.ns ≤ 6 := by simp at q1; omega
  have hnx : t.nx ≤ 60 := by simp at q2; omega
  have hnc : t.nc ≤ 20 := by simp [isin] at q3; omega
  clear q1 q2 q3
  rw [if_neg (by rw [hlong]; exact Bool.false_ne_true)] at hS'
  refine ⟨Nat, fun k => [(1, .ptr 0 0), (5, .int .i64 k)],
    fun k => [some (.row [.rsl 7 t.ns (smD t.nm t.sa), .rsl 5 t.nx (imD t.xa), .rsl 1 t.nc (imD t.ca), .int .i64 t.age, .int .i64 t.shear])],
    fun k => t.ns - k, fun k => k ≤ t.ns ∧ c = pickE 2 (fe (srcErr t) k (t.ns - k)) (check2 t), [], 0, fun _ => ⟨rfl, rfl⟩, ?_, fun k hI => ?_⟩
  · repeat' (first | ((with_reducible refine kok ?_); kernel_rfl) | ((with_reducible refine keq_mk ?_); kernel_rfl) | with_reducible rfl | ((conv => whnf); first | exact trivial | refine And.intro ?_ ?_ | intro _ | (with_reducible refine (?_ : _ = true); (conv => lhs; whnf); done) | exact rfl))
    all_goals simp_all
  obtain ⟨hi, hc⟩ := hI
  clear hS'
  repeat' (first | ((with_reducible refine kok ?_); kernel_rfl) | ((with_reducible refine keq_mk ?_); kernel_rfl) | with_reducible rfl | ((conv => whnf); first | exact trivial | refine And.intro ?_ ?_ | intro _ | (with_reducible refine (?_ : _ = true); (conv => lhs; whnf); done) | exact rfl))
  · exact hf _ (by assumption)
  · omega
  · exact of_decide_eq_true (by assumption)
  · exact hns
  · rename_i g1 g2
    have e1 : k < t.ns := Int.ofNat_lt.mp (of_decide_eq_true g1)
    have e2 : srcErr t k ≠ 0 := of_decide_eq_false ((Bool.not_eq_true' _).mp g2)
    have hb := hc.trans (pick_bad e1 e2)
    subst hb
    (refine fin_of hk ?_; clear hk; (conv => whnf); repeat' (first | exact trivial | refine And.intro ?_ ?_ | exact rfl))
  · omega
  · omega
  · rename_i g1 g2
    have e1 : k < t.ns := Int.ofNat_lt.mp (of_decide_eq_true g1)
    have e2 : srcErr t k = 0 := of_decide_eq_true ((Bool.not_eq_false' _).mp g2)
    have hb := hc.trans (pick_next e1 e2)
    clear hc hk
    refine ⟨k + 1, ?_⟩
    repeat' (first | ((with_reducible refine kok ?_); kernel_rfl) | ((with_reducible refine keq_mk ?_); kernel_rfl) | with_reducible rfl | ((conv => whnf); first | exact trivial | refine And.intro ?_ ?_ | intro _ | (with_reducible refine (?_ : _ = true); (conv => lhs; whnf); done) | exact rfl))
    · omega
    · exact hb
    · simp only; omega
  rename_i g1
  have hc' : c = check2 t := hc.trans (pick_end (by simp at g1; omega))
  clear hc hi g1
  refine ⟨Nat, fun k2 => [(1, .ptr 0 0), (7, .int .i64 k2)],
    fun k2 => [some (.row [.rsl 7 t.ns (smD t.nm t.sa), .rsl 5 t.nx (imD t.xa), .rsl 1 t.nc (imD t.ca), .int .i64 t.age, .int .i64 t.shear])],
    fun k2 => t.nx - k2, fun k2 => k2 ≤ t.nx ∧ c = pickE 3 (fe (sndErr t) k2 (t.nx - k2)) (check3 t), [], 0, fun _ => ⟨rfl, rfl⟩, ?_, fun k2 hI => ?_⟩
  · clear hk
    repeat' (first | ((with_reducible refine kok ?_); kernel_rfl) | ((with_reducible refine keq_mk ?_); kernel_rfl) | with_reducible rfl | ((conv => whnf); first | exact trivial | refine And.intro ?_ ?_ | intro _ | (with_reducible refine (?_ : _ = true); (conv => lhs; whnf); done) | exact rfl))
    · omega
    · exact hc'
  obtain ⟨hi, hc⟩ := hI
  clear hc'
  repeat' (first | ((with_reducible refine kok ?_); kernel_rfl) | ((with_reducible refine keq_mk ?_); kernel_rfl) | with_reducible rfl | ((conv => whnf); first | exact trivial | refine And.intro ?_ ?_ | intro _ | (with_reducible refine (?_ : _ = true); (conv => lhs; whnf); done) | exact rfl))
  · omega
  · exact of_decide_eq_true (by assumption)
  · exact hns
  · exact hnx
  · rename_i g1 g2
    have e1 : k2 < t.nx := Int.ofNat_lt.mp (of_decide_eq_true g1)
    have e2 : sndErr t k2 ≠ 0 := of_decide_eq_false ((Bool.not_eq_true' _).mp g2)
    have hb := hc.trans (pick_bad e1 e2)
    subst hb
    (refine fin_of hk ?_; clear hk; (conv => whnf); repeat' (first | exact trivial | refine And.intro ?_ ?_ | exact rfl))
  · omega
  · omega
  · rename_i g1 g2
    have e1 : k2 < t.nx := Int.ofNat_lt.mp (of_decide_eq_true g1)
    have e2 : sndErr t k2 = 0 := of_decide_eq_true ((Bool.not_eq_false' _).mp g2)
    have hb := hc.trans (pick_next e1 e2)
    clear hc hk
    refine ⟨k2 + 1, ?_⟩
    repeat' (first | ((with_reducible refine kok ?_); kernel_rfl) | ((with_reducible refine keq_mk ?_); kernel_rfl) | with_reducible rfl | ((conv => whnf); first | exact trivial | refine And.intro ?_ ?_ | intro _ | (with_reducible refine (?_ : _ = true); (conv => lhs; whnf); done) | exact rfl))
    · omega
    · exact hb
    · simp only; omega
  rename_i g1
  have hc' : c = check3 t := hc.trans (pick_end (by simp at g1; omega))
  clear hc hi g1
  refine ⟨Nat, fun k3 => [(1, .ptr 0 0), (9, .int .i64 k3)],
    fun k3 => [some (.row [.rsl 7 t.ns (smD t.nm t.sa), .rsl 5 t.nx (imD t.xa), .rsl 1 t.nc (imD t.ca), .int .i64 t.age, .int .i64 t.shear])],
    fun k3 => t.nc - k3, fun k3 => k3 ≤ t.nc ∧ c = pickE 4 (fe (cutErr t) k3 (t.nc - k3)) (check4 t), [], 0, fun _ => ⟨rfl, rfl⟩, ?_, fun k3 hI => ?_⟩
  · clear hk
    repeat' (first | ((with_reducible refine kok ?_); kernel_rfl) | ((with_reducible refine keq_mk ?_); kernel_rfl) | with_reducible rfl | ((conv => whnf); first | exact trivial | refine And.intro ?_ ?_ | intro _ | (with_reducible refine (?_ : _ = true); (conv => lhs; whnf); done) | exact rfl))
    · omega
    · exact hc'
  obtain ⟨hi, hc⟩ := hI
  clear hc'
  have f1 : decide ((k3 : Int) < t.nc) = true → k3 < t.nc := fun h => Int.ofNat_lt.mp (of_decide_eq_true h)
  have f2 : decide ((0 : Int) < k3) = true → 0 < k3 := fun h => by have := of_decide_eq_true h; omega
  have f3 : decide ((0 : Int) < k3) = false → ¬ 0 < k3 := fun h => by have := of_decide_eq_false h; omega
  repeat' (first | ((with_reducible refine kok ?_); kernel_rfl) | ((with_reducible refine keq_mk ?_); kernel_rfl) | with_reducible rfl | ((conv => whnf); first | exact trivial | refine And.intro ?_ ?_ | intro _ | (with_reducible refine (?_ : _ = true); (conv => lhs; whnf); done) | exact rfl))
  · omega
  · exact of_decide_eq_true (by assumption)
  · rename_i g1 g2
    have e1 := f1 g1
    have e2 : cutErr t k3 = 7 := if_pos ((Bool.not_eq_true' _).mp g2)
    have hb := hc.trans (pick_bad e1 (by rw [e2]; decide))
    rw [e2] at hb
    subst hb
    (refine fin_of hk ?_; clear hk; (conv => whnf); repeat' (first | exact trivial | refine And.intro ?_ ?_ | exact rfl))
  · omega
  · exact of_decide_eq_true (by assumption)
  · omega
  · omega
  · have := f2 (by assumption); omega
  · have := f1 (by assumption); omega
  · rename_i g1 g2 g3 g4
    have e1 := f1 g1
    have e3 := f2 g3
    have e5 : t.ca k3 0 ≤ t.ca (k3 - 1) 0 := by
      have := of_decide_eq_true g4
      rw [show ((k3 : Int) - 1).toNat = k3 - 1 by omega] at this
      exact this
    have e2 : cutErr t k3 = 2 := (if_neg (by rw [show isin (t.ca k3 0) 1 100000000 = true from (Bool.not_eq_false' _).mp g2]; exact Bool.noConfusion)).trans (if_pos ⟨e3, e5⟩)
    have hb := hc.trans (pick_bad e1 (by rw [e2]; decide))
    rw [e2] at hb
    subst hb
    (refine fin_of hk ?_; clear hk; (conv => whnf); repeat' (first | exact trivial | refine And.intro ?_ ?_ | exact rfl))
  · omega
  · omega
  · rename_i g1 g2 g3 g4
    have e1 := f1 g1
    have e3 := f2 g3
    have e5 : ¬ t.ca k3 0 ≤ t.ca (k3 - 1) 0 := by
      have := of_decide_eq_false g4
      rw [show ((k3 : Int) - 1).toNat = k3 - 1 by omega] at this
      exact this
    have e4 : cutErr t k3 = 0 := (if_neg (by rw [show isin (t.ca k3 0) 1 100000000 = true from (Bool.not_eq_false' _).mp g2]; exact Bool.noConfusion)).trans (if_neg fun h => e5 h.2)
    have hb := hc.trans (pick_next e1 e4)
    clear hc hk
    refine ⟨k3 + 1, ?_⟩
    repeat' (first | ((with_reducible refine kok ?_); kernel_rfl) | ((with_reducible refine keq_mk ?_); kernel_rfl) | with_reducible rfl | ((conv => whnf); first | exact trivial | refine And.intro ?_ ?_ | intro _ | (with_reducible refine (?_ : _ = true); (conv => lhs; whnf); done) | exact rfl))
    · omega
    · exact hb
    · simp only; omega
  · omega
  · omega
  · rename_i g1 g2 g3
    have e1 := f1 g1
    have e3 := f3 g3
    have e4 : cutErr t k3 = 0 := (if_neg (by rw [show isin (t.ca k3 0) 1 100000000 = true from (Bool.not_eq_false' _).mp g2]; exact Bool.noConfusion)).trans (if_neg fun h => e3 h.1)
    have hb := hc.trans (pick_next e1 e4)
    clear hc hk
    refine ⟨k3 + 1, ?_⟩
    repeat' (first | ((with_reducible refine kok ?_); kernel_rfl) | ((with_reducible refine keq_mk ?_); kernel_rfl) | with_reducible rfl | ((conv => whnf); first | exact trivial | refine And.intro ?_ ?_ | intro _ | (with_reducible refine (?_ : _ = true); (conv => lhs; whnf); done) | exact rfl))
    · omega
    · exact hb
    · simp only; omega
  all_goals (rename_i g1 g2; have hb : c = check4 t := hc.trans (pick_end (by first | (have := of_decide_eq_false g1; omega) | (have := of_decide_eq_false (by assumption : decide ((k3 : Int) < t.nc) = false); omega))))
  · rw [check4, if_neg (by rw [show isin t.age 0 1000 = false from (Bool.not_eq_true' _).mp g2]; exact Bool.noConfusion)] at hb
    subst hb
    (refine fin_of hk ?_; clear hk; (conv => whnf); repeat' (first | exact trivial | refine And.intro ?_ ?_ | exact rfl))
  · rw [check4, if_neg (by rw [show isin t.shear 0 1000 = false from (Bool.not_eq_true' _).mp g2, Bool.and_false]; exact Bool.noConfusion)] at hb
    subst hb
    (refine fin_of hk ?_; clear hk; (conv => whnf); repeat' (first | exact trivial | refine And.intro ?_ ?_ | exact rfl))
  · rw [check4, if_pos (by rw [show isin t.shear 0 1000 = true from (Bool.not_eq_false' _).mp g2, show isin t.age 0 1000 = true from (Bool.not_eq_false' _).mp g1]; rfl)] at hb
    subst hb
    (refine fin_of hk ?_; clear hk; (conv => whnf); repeat' (first | exact trivial | refine And.intro ?_ ?_ | exact rfl))
end Go.Proofs.Ytlecbjbjgfpfeaa
end
section
set_option linter.unusedVariables false
set_option linter.unusedSimpArgs false
set_option maxRecDepth 100000
set_option maxHeartbeats 4000000
namespace Go.Proofs.Ytlecbjbjgfpfeaa
open Go.V

/-- The first number from one on for which something is so; -1: there is none. -/
def firstFrom (p : Nat → Bool) (i : Nat) : Nat → Int
  | 0 => -1
  | k + 1 => if p i = true then (i : Int) else firstFrom p (i + 1) k
theorem firstFrom_step {p : Nat → Bool} {i n : Nat} (h : i < n) : firstFrom p i (n - i) = if p i = true then (i : Int) else firstFrom p (i + 1) (n - (i + 1)) := by
  rw [show n - i = (n - (i + 1)) + 1 by omega, firstFrom]
theorem firstFrom_end {p : Nat → Bool} {i n : Nat} (h : n ≤ i) : firstFrom p i (n - i) = -1 := by
  rw [show n - i = 0 by omega, firstFrom]
theorem firstFrom_spec (p : Nat → Bool) : ∀ (k i : Nat), (firstFrom p i k = -1 ∧ ∀ j, i ≤ j → j < i + k → p j = false) ∨ ∃ m : Nat, firstFrom p i k = m ∧ i ≤ m ∧ m < i + k ∧ p m = true ∧ ∀ j, i ≤ j → j < m → p j = false
  | 0, i => .inl ⟨rfl, fun j h1 h2 => absurd h2 (by omega)⟩
  | k + 1, i => by
    cases hp : p i with
    | true => exact .inr ⟨i, by simp [firstFrom, hp], Nat.le_refl _, by omega, hp, fun j h1 h2 => absurd h2 (by omega)⟩
    | false =>
      have e : firstFrom p i (k + 1) = firstFrom p (i + 1) k := by simp [firstFrom, hp]
      rw [e]
      rcases firstFrom_spec p k (i + 1) with ⟨h1, h2⟩ | ⟨m, h1, h2, h3, h4, h5⟩
      · refine .inl ⟨h1, fun j g1 g2 => ?_⟩
        rcases Nat.eq_or_lt_of_le g1 with rfl | g
        · exact hp
        · exact h2 j g (by omega)
      · refine .inr ⟨m, h1, by omega, by omega, h4, fun j g1 g2 => ?_⟩
        rcases Nat.eq_or_lt_of_le g1 with rfl | g
        · exact hp
        · exact h5 j g g2
theorem firstFrom_any (p : Nat → Bool) (n : Nat) : decide (0 ≤ firstFrom p 0 n) = anyBelow p n := by
  rcases firstFrom_spec p n 0 with ⟨h1, h2⟩ | ⟨m, h1, h2, h3, h4, h5⟩
  · rw [h1]
    symm
    rw [show decide ((0 : Int) ≤ -1) = false from rfl]
    rw [Bool.eq_false_iff]
    intro h
    obtain ⟨k, hk, hp⟩ := anyBelow_iff.mp h
    rw [h2 k (by omega) (by omega)] at hp
    cases hp
  · rw [h1, decide_eq_true (by omega)]
    exact (anyBelow_iff.mpr ⟨m, by omega, h4⟩).symm

def stormy (a : Nat → Nat → Int) (i : Nat) : Bool := out (a i 0) (-20000) 20000
theorem stormOne_ok : PSound Go.Proofs.Try.prog 73 (mk (r1 fun n => out n (-20000) 20000)) := by
  refine psound_mk Try.func73 (by kernel_rfl) rfl (ctx lib1_ok) ?_
  (intro ds p d h; unfold r1 at h; split at h <;> first | (cases h; done) | skip; cases h; refine ⟨Nat.le_of_ble_eq_true rfl, fun hp k hk => ?_⟩)
  rename_i a
  refine ⟨[.int .i64 a], ?_⟩
  repeat' (first | ((with_reducible refine kok ?_); kernel_rfl) | ((with_reducible refine keq_mk ?_); kernel_rfl) | with_reducible rfl | ((conv => whnf); first | exact trivial | refine And.intro ?_ ?_ | intro _ | (with_reducible refine (?_ : _ = true); (conv => lhs; whnf); done) | exact rfl))
  all_goals (refine fin_of hk ?_; clear hk; repeat' (first | ((with_reducible refine kok ?_); kernel_rfl) | ((with_reducible refine keq_mk ?_); kernel_rfl) | with_reducible rfl | ((conv => whnf); first | exact trivial | refine And.intro ?_ ?_ | intro _ | (with_reducible refine (?_ : _ = true); (conv => lhs; whnf); done) | exact rfl)))
def lib12 : Lib := (73, mk (r1 fun n => out n (-20000) 20000)) :: (28, mk rCheck) :: lib11
theorem lib12_ok : LibOK Go.Proofs.Try.prog lib12 := .cons stormOne_ok (.cons refCheck_ok lib11_ok)

def rIndexInt : List D → Option (Prop × D) := fun ds => match ds with
  | [.rsl 1 n g, .fn 73 [] []] => some (IM n 1 g ∧ n ≤ 1099511627776, .int .i64 (firstFrom (stormy (im g)) 0 n))
  | _ => none
theorem indexInt_ok : PSound Go.Proofs.Try.prog 74 (mk rIndexInt) := by
  refine psound_mk Try.func74 (by kernel_rfl) rfl (ctx lib12_ok) ?_
  (intro ds p d h; unfold rIndexInt at h; split at h <;> first | (cases h; done) | skip; cases h; refine ⟨Nat.le_of_ble_eq_true rfl, fun hp k hk => ?_⟩)
  rename_i n g
  obtain ⟨h1, h2⟩ := hp
  refine ⟨[.rsl 1 n (imD (im g)), .fn 73 [] []], rfl, h1, ?_⟩
  clear h1
  generalize im g = a at *
  generalize hS : firstFrom (stormy a) 0 n = c at *
  repeat' (first | ((with_reducible refine kok ?_); kernel_rfl) | ((with_reducible refine keq_mk ?_); kernel_rfl) | with_reducible rfl | ((conv => whnf); first | exact trivial | refine And.intro ?_ ?_ | intro _ | (with_reducible refine (?_ : _ = true); (conv => lhs; whnf); done) | exact rfl))
  refine ⟨Nat, fun i => [(0, .rsl 1 n (imD a)), (1, .fn 73 [] []), (7, .int .i64 n), (8, .int .i64 i)], fun _ => [], fun i => n - i, fun i => i ≤ n ∧ c = firstFrom (stormy a) i (n - i), [], 0, fun _ => ⟨rfl, rfl⟩, ?_, fun i hI => ?_⟩
  · repeat' (first | ((with_reducible refine kok ?_); kernel_rfl) | ((with_reducible refine keq_mk ?_); kernel_rfl) | with_reducible rfl | ((conv => whnf); first | exact trivial | refine And.intro ?_ ?_ | intro _ | (with_reducible refine (?_ : _ = true); (conv => lhs; whnf); done) | exact rfl))
    · omega
    · exact hS.symm
  obtain ⟨hi, hc⟩ := hI
  clear hS
  have f1 : decide ((i : Int) < n) = true → i < n := fun h => Int.ofNat_lt.mp (of_decide_eq_true h)
  repeat' (first | ((with_reducible refine kok ?_); kernel_rfl) | ((with_reducible refine keq_mk ?_); kernel_rfl) | with_reducible rfl | ((conv => whnf); first | exact trivial | refine And.intro ?_ ?_ | intro _ | (with_reducible refine (?_ : _ = true); (conv => lhs; whnf); done) | exact rfl))
  · omega
  · exact of_decide_eq_true (by assumption)
  · rename_i g1 g2
    rw [firstFrom_step (f1 g1), if_pos (by exact g2)] at hc
    subst hc
    (refine fin_of hk ?_; clear hk; (conv => whnf); repeat' (first | exact trivial | refine And.intro ?_ ?_ | exact rfl))
  · omega
  · omega
  · rename_i g1 g2
    have e1 := f1 g1
    rw [firstFrom_step e1, if_neg (by rw [show stormy a i = false from g2]; exact Bool.noConfusion)] at hc
    clear hk
    refine ⟨i + 1, ?_⟩
    repeat' (first | ((with_reducible refine kok ?_); kernel_rfl) | ((with_reducible refine keq_mk ?_); kernel_rfl) | with_reducible rfl | ((conv => whnf); first | exact trivial | refine And.intro ?_ ?_ | intro _ | (with_reducible refine (?_ : _ = true); (conv => lhs; whnf); done) | exact rfl))
    · omega
    · exact hc
    · simp only; omega
  · rename_i g1
    rw [firstFrom_end (by have := of_decide_eq_false g1; omega)] at hc
    subst hc
    (refine fin_of hk ?_; clear hk; (conv => whnf); repeat' (first | exact trivial | refine And.intro ?_ ?_ | exact rfl))
def rStorm : List D → Option (Prop × D) := fun ds => match ds with
  | [.rsl 1 n g] => some (IM n 1 g ∧ n ≤ 1099511627776, .bool (anyBelow (stormy (im g)) n))
  | _ => none
def rStormAny : List D → Option (Prop × D) := fun ds => match ds with
  | [.rsl 1 n g, .fn 73 [] []] => some (IM n 1 g ∧ n ≤ 1099511627776, .bool (anyBelow (stormy (im g)) n))
  | _ => none
def lib13 : Lib := (74, mk rIndexInt) :: lib12
theorem lib13_ok : LibOK Go.Proofs.Try.prog lib13 := .cons indexInt_ok lib12_ok
theorem containsInt_ok : PSound Go.Proofs.Try.prog 72 (mk rStormAny) := by
  refine psound_mk Try.func72 (by kernel_rfl) rfl (ctx lib13_ok) ?_
  (intro ds p d h; unfold rStormAny at h; split at h <;> first | (cases h; done) | skip; cases h; refine ⟨Nat.le_of_ble_eq_true rfl, fun hp k hk => ?_⟩)
  rename_i n g
  obtain ⟨h1, h2⟩ := hp
  refine ⟨[.rsl 1 n (imD (im g)), .fn 73 [] []], rfl, h1, ?_⟩
  clear h1
  generalize im g = a at *
  repeat' (first | ((with_reducible refine kok ?_); kernel_rfl) | ((with_reducible refine keq_mk ?_); kernel_rfl) | with_reducible rfl | ((conv => whnf); first | exact trivial | refine And.intro ?_ ?_ | intro _ | (with_reducible refine (?_ : _ = true); (conv => lhs; whnf); done) | exact rfl))
  · exact h2
  · (refine fin_of hk ?_; clear hk; repeat' (first | ((with_reducible refine kok ?_); kernel_rfl) | ((with_reducible refine keq_mk ?_); kernel_rfl) | with_reducible rfl | ((conv => whnf); first | exact trivial | refine And.intro ?_ ?_ | intro _ | (with_reducible refine (?_ : _ = true); (conv => lhs; whnf); done) | exact rfl)))
    exact firstFrom_any _ _
def lib14 : Lib := (72, mk rStormAny) :: lib13
theorem lib14_ok : LibOK Go.Proofs.Try.prog lib14 := .cons containsInt_ok lib13_ok
theorem storm_ok : PSound Go.Proofs.Try.prog 65 (mk rStorm) := by
  refine psound_mk Try.func65 (by kernel_rfl) rfl (ctx lib14_ok) ?_
  (intro ds p d h; unfold rStorm at h; split at h <;> first | (cases h; done) | skip; cases h; refine ⟨Nat.le_of_ble_eq_true rfl, fun hp k hk => ?_⟩)
  rename_i n g
  obtain ⟨h1, h2⟩ := hp
  refine ⟨[.rsl 1 n (imD (im g))], rfl, h1, ?_⟩
  clear h1
  generalize im g = a at *
  repeat' (first | ((with_reducible refine kok ?_); kernel_rfl) | ((with_reducible refine keq_mk ?_); kernel_rfl) | with_reducible rfl | ((conv => whnf); first | exact trivial | refine And.intro ?_ ?_ | intro _ | (with_reducible refine (?_ : _ = true); (conv => lhs; whnf); done) | exact rfl))
  · exact h2
  · (refine fin_of hk ?_; clear hk; repeat' (first | ((with_reducible refine kok ?_); kernel_rfl) | ((with_reducible refine keq_mk ?_); kernel_rfl) | with_reducible rfl | ((conv => whnf); first | exact trivial | refine And.intro ?_ ?_ | intro _ | (with_reducible refine (?_ : _ = true); (conv => lhs; whnf); done) | exact rfl)))
def lib15 : Lib := (65, mk rStorm) :: lib14
theorem lib15_ok : LibOK Go.Proofs.Try.prog lib15 := .cons storm_ok lib14_ok

def srcKind (kind err late life low high : Int) : Int :=
  if isin kind 1 3 = false then 2 else if (isin err 0 5000 && isin late 0 6000 && isin life 1 60000 && isin low 0 99999999 && isin high 0 99999999 && decide (low ≤ high)) = false then 7 else 0
def rWindSource : List V.D → Option (Prop × V.D) := fun ds => match ds with
  | [.agg [.str _, .int .i64 k, .int .i64 e, .int .i64 l, .int .i64 f, .int .i64 a, .int .i64 b]] => some (True, .int .i64 (srcKind k e l f a b))
  | _ => none
theorem out_isin (n a b : Int) : out n a b = !isin n a b := by
  rw [← not_out, Bool.not_not]
theorem windSource_ok : PSound Go.Proofs.Try.prog 49 (mk rWindSource) := by
  refine psound_mk Try.func49 (by kernel_rfl) rfl (ctx lib15_ok) ?_
  (intro ds p d h; unfold rWindSource at h; split at h <;> first | (cases h; done) | skip; cases h; refine ⟨Nat.le_of_ble_eq_true rfl, fun hp k hk => ?_⟩)
  rename_i x k1 e l f a b
  refine ⟨[.agg [.str x, .int .i64 k1, .int .i64 e, .int .i64 l, .int .i64 f, .int .i64 a, .int .i64 b]], ?_⟩
  generalize hS : srcKind k1 e l f a b = c at *
  repeat' (first | ((with_reducible refine kok ?_); kernel_rfl) | ((with_reducible refine keq_mk ?_); kernel_rfl) | with_reducible rfl | ((conv => whnf); first | exact trivial | refine And.intro ?_ ?_ | intro _ | (with_reducible refine (?_ : _ = true); (conv => lhs; whnf); done) | exact rfl))
  all_goals ((refine fin_of hk ?_; clear hk; (conv => whnf); repeat' (first | exact trivial | refine And.intro ?_ ?_ | exact rfl)); rw [← hS]; clear hS; simp only [out_isin, Bool.not_eq_true', Bool.not_eq_false', decide_eq_true_eq, decide_eq_false_iff_not] at *; simp [srcKind, *] <;> omega)

def bandE (b0 b1 b2 b3 b4 b5 f : Int) : Int :=
  if b0 ≠ f then 2 else if b1 ≤ b0 then 7 else if 100000000 < b1 then 7 else if winds b2 b3 = false then 7 else if winds b4 b5 = false then 7 else 0
def rWindBand : List V.D → Option (Prop × V.D) := fun ds => match ds with
  | [.agg [.int .i64 b0, .int .i64 b1, .int .i64 b2, .int .i64 b3, .int .i64 b4, .int .i64 b5], .int .i64 f] => some (0 ≤ f ∧ f ≤ 100000000, .int .i64 (bandE b0 b1 b2 b3 b4 b5 f))
  | _ => none
theorem storm4 (b2 b3 b4 b5 : Int) : anyBelow (stormy (im fun i j => [D.int .i64 b2, D.int .i64 b3, D.int .i64 b4, D.int .i64 b5].getD (i * 1 + j) D.top)) 4 = (((!isin b2 (-20000) 20000 || !isin b3 (-20000) 20000) || !isin b4 (-20000) 20000) || !isin b5 (-20000) 20000) := by
  simp [anyBelow, stormy, im, toI, out_isin]
theorem windBand_ok : PSound Go.Proofs.Try.prog 64 (mk rWindBand) := by
  refine psound_mk Try.func64 (by kernel_rfl) rfl (ctx lib15_ok) ?_
  (intro ds p d h; unfold rWindBand at h; split at h <;> first | (cases h; done) | skip; cases h; refine ⟨Nat.le_of_ble_eq_true rfl, fun hp k hk => ?_⟩)
  rename_i b0 b1 b2 b3 b4 b5 f
  refine ⟨[.agg [.int .i64 b0, .int .i64 b1, .int .i64 b2, .int .i64 b3, .int .i64 b4, .int .i64 b5], .int .i64 f], ?_⟩
  generalize hS : bandE b0 b1 b2 b3 b4 b5 f = c at *
  repeat' (first | ((with_reducible refine kok ?_); kernel_rfl) | ((with_reducible refine keq_mk ?_); kernel_rfl) | with_reducible rfl | ((conv => whnf); first | exact trivial | refine And.intro ?_ ?_ | intro _ | (with_reducible refine (?_ : _ = true); (conv => lhs; whnf); done) | exact rfl))
  rotate_left
  · omega
  · omega
  rotate_left
  · rename_i i j hi hj
    have h1 : i = 0 ∨ i = 1 ∨ i = 2 ∨ i = 3 := by omega
    obtain rfl : j = 0 := by omega
    rcases h1 with rfl | rfl | rfl | rfl <;> rfl
  · exact Nat.le_of_ble_eq_true rfl
  all_goals ((refine fin_of hk ?_; clear hk; (conv => whnf); repeat' (first | exact trivial | refine And.intro ?_ ?_ | exact rfl)); rw [← hS]; clear hS; simp only [storm4, out_isin, Bool.not_eq_true', Bool.not_eq_false', decide_eq_true_eq, decide_eq_false_iff_not] at *; simp [bandE, winds, isin] at * <;> omega)
end Go.Proofs.Ytlecbjbjgfpfeaa
end
