/-
  Contracts of the wind: numbers.
-/
import Derived.Test.YtphcblofacfkaaaGreatMf
set_option linter.unusedVariables false
set_option linter.unusedSimpArgs false
set_option maxRecDepth 100000
set_option maxHeartbeats 4000000
section
namespace Go.Proofs.YtphcblofacfkaaaGreat
open Go.V
theorem mixed : Go.Proofs.Tryz.prog.follows .mixedOrders = true := by kernel_rfl
theorem ctx {l : Lib} (h : LibOK Go.Proofs.Tryz.prog l) : CallsOK Go.Proofs.Tryz.prog (cxOf tab l) TT := callsOK_of tab_ok mixed h
theorem ctxA {L : Libs} (h : LibsOK Go.Proofs.Tryz.prog L) : CallsOK Go.Proofs.Tryz.prog (cxA tab L) TT := callsOK_A tab_ok mixed h
def out (n lo hi : Int) : Bool := decide (n < lo) || decide (hi < n)
def rOut : List D → Option (Prop × D) := fun ds => match ds with
  | [.int .i64 a, .int .i64 b, .int .i64 c] => some (True, .bool (out a b c))
  | _ => none
theorem out_ok : PSound Go.Proofs.Tryz.prog 50 (mk rOut) := by
  refine psound_mk Tryz.func50 (by kernel_rfl) rfl (ctx (.nil _)) ?_
  (intro ds p d h; unfold rOut at h; split at h <;> first | (cases h; done) | skip; cases h; refine ⟨Nat.le_of_ble_eq_true rfl, fun hp k hk => ?_⟩)
  rename_i a b c
  refine ⟨[.int .i64 a, .int .i64 b, .int .i64 c], ?_⟩
  repeat' (first | ((with_reducible refine kok ?_); kernel_rfl) | ((with_reducible refine keq_mk ?_); kernel_rfl) | with_reducible rfl | ((conv => whnf); first | exact trivial | refine And.intro ?_ ?_ | intro _ | (with_reducible refine (?_ : _ = true); (conv => lhs; whnf); done) | exact rfl))
  all_goals (refine fin_of hk ?_; clear hk; repeat' (first | ((with_reducible refine kok ?_); kernel_rfl) | ((with_reducible refine keq_mk ?_); kernel_rfl) | with_reducible rfl | ((conv => whnf); first | exact trivial | refine And.intro ?_ ?_ | intro _ | (with_reducible refine (?_ : _ = true); (conv => lhs; whnf); done) | exact rfl)))
  all_goals (simp_all [out] <;> omega)
def lib1 : Lib := (50, mk rOut) :: []
theorem lib1_ok : LibOK Go.Proofs.Tryz.prog lib1 := .cons out_ok (.nil _)
def r1 (f : Int → Bool) : List D → Option (Prop × D) := fun ds => match ds with
  | [.int .i64 a] => some (True, .bool (f a))
  | _ => none
def isin (n lo hi : Int) : Bool := decide (lo ≤ n) && decide (n ≤ hi)
def lib2 : Lib := lib1
theorem lib2_ok : LibOK Go.Proofs.Tryz.prog lib2 := lib1_ok
def lib3 : Lib := lib2
theorem lib3_ok : LibOK Go.Proofs.Tryz.prog lib3 := lib2_ok
def winds (a b : Int) : Bool := isin a (-20000) 20000 && isin b (-20000) 20000 && decide (a ≤ b)
end Go.Proofs.YtphcblofacfkaaaGreat
end
section
namespace Go.Proofs.YtphcblofacfkaaaGreat
open Go.V
def lib4 : Lib := lib3
theorem lib4_ok : LibOK Go.Proofs.Tryz.prog lib4 := lib3_ok
def fe (e : Nat → Int) (i : Nat) : Nat → Int × Int
  | 0 => (0, 0)
  | k + 1 => if e i ≠ 0 then (i, e i) else fe e (i + 1) k
theorem fe_step (e : Nat → Int) (i n : Nat) (h : i < n) : fe e i (n - i) = if e i ≠ 0 then ((i : Int), e i) else fe e (i + 1) (n - (i + 1)) := by
  rw [show n - i = (n - (i + 1)) + 1 by omega, fe]
def fromOf (a : Nat → Nat → Int) (i : Nat) : Int := if i = 0 then 0 else a (i - 1) 1
def bandErr (a : Nat → Nat → Int) (i : Nat) : Int :=
  if a i 0 ≠ fromOf a i then 2 else if a i 1 ≤ a i 0 then 7 else if 100000000 < a i 1 then 7 else if winds (a i 2) (a i 3) = false then 7 else if winds (a i 4) (a i 5) = false then 7 else 0
def checkBands (n : Nat) (a : Nat → Nat → Int) : Int × Int := if isin n 1 20 = true then fe (bandErr a) 0 n else (0, 3)
def rCheckBands : List D → Option (Prop × D) := fun ds => match ds with
  | [.rsl 6 n g] => some (IM n 6 g, .tup [.int .i64 (checkBands n (im g)).1, .int .i64 (checkBands n (im g)).2])
  | _ => none
end Go.Proofs.YtphcblofacfkaaaGreat
end
section
namespace Go.Proofs.YtphcblofacfkaaaGreat
open Go.V
def sameFrom (s : Nat) (a b : Nat → Nat → Int) (n : Nat) (i : Nat) : Prop := ∀ x, i ≤ x → x < n → ∀ j, j < s → a x j = b x j
theorem sameFrom_step {s : Nat} {a b : Nat → Nat → Int} {n i : Nat} (h : i < n) : sameFrom s a b n i ↔ (∀ j, j < s → a i j = b i j) ∧ sameFrom s a b n (i + 1) := by
  constructor
  · exact fun g => ⟨g i (Nat.le_refl _) h, fun x hx => g x (by omega)⟩
  · rintro ⟨g1, g2⟩ x hx hn
    rcases Nat.eq_or_lt_of_le hx with rfl | h1
    · exact g1
    · exact g2 x h1 hn
theorem sameFrom_end {s : Nat} {a b : Nat → Nat → Int} {n i : Nat} (h : n ≤ i) : sameFrom s a b n i := fun x hx hn => absurd hn (by omega)
open Classical in
noncomputable def sameB (s n m : Nat) (a b : Nat → Nat → Int) : Bool := decide (n = m ∧ sameFrom s a b n 0)
end Go.Proofs.YtphcblofacfkaaaGreat
end
section
namespace Go.Proofs.YtphcblofacfkaaaGreat
open Go.V
structure Task where
  ns : Nat
  nx : Nat
  nc : Nat
  nm : Nat → ByteArray
  sa : Nat → Nat → Int
  xa : Nat → Nat → Int
  ca : Nat → Nat → Int
  age : Int
  shear : Int
def Task.D (t : Task) : V.D := .agg [.rsl 7 t.ns (smD t.nm t.sa), .rsl 5 t.nx (imD t.xa), .rsl 1 t.nc (imD t.ca), .int .i64 t.age, .int .i64 t.shear]
def taskOf (d : V.D) : Task := match d with
  | .agg [.rsl _ ns g, .rsl _ nx h, .rsl _ nc c, .int _ a, .int _ s] => ⟨ns, nx, nc, nmOf g, imS g, im h, im c, a, s⟩
  | _ => ⟨0, 0, 0, fun _ => ⟨#[]⟩, fun _ _ => 0, fun _ _ => 0, fun _ _ => 0, 0, 0⟩
theorem taskOf_agg (t : Task) : taskOf (.agg [.rsl 7 t.ns (smD t.nm t.sa), .rsl 5 t.nx (imD t.xa), .rsl 1 t.nc (imD t.ca), .int .i64 t.age, .int .i64 t.shear]) = t := rfl
def lib5 : Lib := lib4
theorem lib5_ok : LibOK Go.Proofs.Tryz.prog lib5 := lib4_ok
end Go.Proofs.YtphcblofacfkaaaGreat
end
section
namespace Go.Proofs.YtphcblofacfkaaaGreat
open Go.V
structure Task.ok (t : Task) : Prop where
  ns : t.ns ≤ 6
  nx : t.nx ≤ 60
  nc : 1 ≤ t.nc ∧ t.nc ≤ 20
  err : ∀ i, i < t.ns → 0 ≤ t.sa i 1 ∧ t.sa i 1 ≤ 5000
  late : ∀ i, i < t.ns → 0 ≤ t.sa i 2 ∧ t.sa i 2 ≤ 6000
  life : ∀ i, i < t.ns → 1 ≤ t.sa i 3 ∧ t.sa i 3 ≤ 60000
  src : ∀ i, i < t.nx → 0 ≤ t.xa i 0 ∧ t.xa i 0 < t.ns
  tick : ∀ i, i < t.nx → 0 ≤ t.xa i 1 ∧ t.xa i 1 ≤ 100000
  height : ∀ i, i < t.nx → 0 ≤ t.xa i 2 ∧ t.xa i 2 < 100000000
  x : ∀ i, i < t.nx → -20000 ≤ t.xa i 3 ∧ t.xa i 3 ≤ 20000
  y : ∀ i, i < t.nx → -20000 ≤ t.xa i 4 ∧ t.xa i 4 ≤ 20000
  cut : ∀ i, i < t.nc → 1 ≤ t.ca i 0 ∧ t.ca i 0 ≤ 100000000
  rise : ∀ i, i + 1 < t.nc → t.ca i 0 < t.ca (i + 1) 0
  age : 0 ≤ t.age ∧ t.age ≤ 1000
  shear : 0 ≤ t.shear ∧ t.shear ≤ 1000
structure Word where
  some : Bool
  xl : Int
  xh : Int
  yl : Int
  yh : Int
def Word.cells (w : Word) : List V.D := [.bool w.some, .int .i64 w.xl, .int .i64 w.xh, .int .i64 w.yl, .int .i64 w.yh]
def lib6 : Lib := lib5
theorem lib6_ok : LibOK Go.Proofs.Tryz.prog lib6 := lib5_ok
end Go.Proofs.YtphcblofacfkaaaGreat
end
section
namespace Go.Proofs.YtphcblofacfkaaaGreat
open Go.V
structure Left where
  xl : Int
  xh : Int
  yl : Int
  yh : Int
def lib7 : Lib := lib6
theorem lib7_ok : LibOK Go.Proofs.Tryz.prog lib7 := lib6_ok
end Go.Proofs.YtphcblofacfkaaaGreat
end
section
namespace Go.Proofs.YtphcblofacfkaaaGreat
open Go.V
end Go.Proofs.YtphcblofacfkaaaGreat
end
section
namespace Go.Proofs.YtphcblofacfkaaaGreat
open Go.V
def lib8 : Lib := lib7
theorem lib8_ok : LibOK Go.Proofs.Tryz.prog lib8 := lib7_ok
end Go.Proofs.YtphcblofacfkaaaGreat
end
section
namespace Go.Proofs.YtphcblofacfkaaaGreat
open Go.V
def lib9 : Lib := lib8
theorem lib9_ok : LibOK Go.Proofs.Tryz.prog lib9 := lib8_ok
end Go.Proofs.YtphcblofacfkaaaGreat
end
section
namespace Go.Proofs.YtphcblofacfkaaaGreat
open Go.V
def allFrom (p : Nat → Bool) (i : Nat) : Nat → Bool
  | 0 => true
  | k + 1 => p i && allFrom p (i + 1) k
theorem allFrom_step {p : Nat → Bool} {i n : Nat} (h : i < n) : allFrom p i (n - i) = (p i && allFrom p (i + 1) (n - (i + 1))) := by
  rw [show n - i = (n - (i + 1)) + 1 by omega, allFrom]
def letter (s : ByteArray) (i : Nat) : Bool := isin (byteAt s i) 97 122 || (!decide (i = 0) && (decide (byteAt s i = 45) || isin (byteAt s i) 48 57))
def nameS (s : ByteArray) : Bool := isin s.size 1 24 && allFrom (letter s) 0 s.size
theorem not_out (n a b : Int) : (!out n a b) = isin n a b := by
  rw [Bool.eq_iff_iff]
  simp [out, isin]
def rName : List D → Option (Prop × D) := fun ds => match ds with
  | [.str s] => some (s.size ≤ 9223372036854775807, .bool (nameS s))
  | _ => none
theorem windName_ok : PSound Go.Proofs.Tryz.prog 65 (mk rName) := by
  refine psound_mk Tryz.func65 (by kernel_rfl) rfl (ctx lib4_ok) ?_
  (intro ds p d h; unfold rName at h; split at h <;> first | (cases h; done) | skip; cases h; refine ⟨Nat.le_of_ble_eq_true rfl, fun hp k hk => ?_⟩)
  rename_i s
  refine ⟨[.str s], rfl, ?_⟩
  repeat' (first | ((with_reducible refine kok ?_); kernel_rfl) | ((with_reducible refine keq_mk ?_); kernel_rfl) | with_reducible rfl | ((conv => whnf); first | exact trivial | refine And.intro ?_ ?_ | intro _ | (with_reducible refine (?_ : _ = true); (conv => lhs; whnf); done) | exact rfl))
  · assumption
  refine ⟨Nat, fun i => [(0, .str s), (6, .own 0 s.size), (7, .int .i64 s.size), (8, .int .i64 i)], fun _ => [some (.buf 5 1 s.size fun i _ => .int .u8 (byteAt s i))], fun i => s.size - i, fun i => i ≤ s.size ∧ nameS s = (isin s.size 1 24 && allFrom (letter s) i (s.size - i)), [], 0, fun _ => ⟨rfl, rfl⟩, ?_, fun i hI => ?_⟩
  · repeat' (first | ((with_reducible refine kok ?_); kernel_rfl) | ((with_reducible refine keq_mk ?_); kernel_rfl) | with_reducible rfl | ((conv => whnf); first | exact trivial | refine And.intro ?_ ?_ | intro _ | (with_reducible refine (?_ : _ = true); (conv => lhs; whnf); done) | exact rfl))
    all_goals simp_all [nameS]
  · obtain ⟨hi, hc⟩ := hI
    have key : i < s.size → nameS s = (isin s.size 1 24 && (letter s i && allFrom (letter s) (i + 1) (s.size - (i + 1)))) := fun h => by rw [hc, allFrom_step h]
    have key2 : s.size ≤ i → nameS s = isin s.size 1 24 := fun h => by rw [hc, show s.size - i = 0 by omega]; simp [allFrom]
    clear hc
    repeat' (first | ((with_reducible refine kok ?_); kernel_rfl) | ((with_reducible refine keq_mk ?_); kernel_rfl) | with_reducible rfl | ((conv => whnf); first | exact trivial | refine And.intro ?_ ?_ | intro _ | (with_reducible refine (?_ : _ = true); (conv => lhs; whnf); done) | exact rfl))
    all_goals try refine fin_of hk ?_
    all_goals try refine ⟨i + 1, ?_⟩
    all_goals clear hk
    repeat' (first | ((with_reducible refine kok ?_); kernel_rfl) | ((with_reducible refine keq_mk ?_); kernel_rfl) | with_reducible rfl | ((conv => whnf); first | exact trivial | refine And.intro ?_ ?_ | intro _ | (with_reducible refine (?_ : _ = true); (conv => lhs; whnf); done) | exact rfl))
    all_goals try simp only [Nat.zero_add, Nat.add_zero, Int.toNat_natCast, decide_eq_true_eq, decide_eq_false_iff_not, Bool.not_eq_true', Bool.not_eq_false', Int.ofNat_lt, Int.natCast_pos, Nat.pos_iff_ne_zero, Nat.reduceAdd] at *
    all_goals try omega
    all_goals first
      | (rw [key (by assumption), show letter s i = false by simp [letter, isin] <;> omega]; simp; done)
      | (rw [key (by assumption), show letter s i = true by simp [letter, isin] <;> omega, Bool.true_and]; done)
      | (rw [key2 (by omega), not_out]; done)
end Go.Proofs.YtphcblofacfkaaaGreat
end
section
namespace Go.Proofs.YtphcblofacfkaaaGreat
open Go.V
def anyBelow (p : Nat → Bool) : Nat → Bool
  | 0 => false
  | k + 1 => anyBelow p k || p k
theorem anyBelow_iff {p : Nat → Bool} {n : Nat} : anyBelow p n = true ↔ ∃ k, k < n ∧ p k = true := by
  induction n with
  | zero => simp [anyBelow]
  | succ n ih =>
    simp only [anyBelow, Bool.or_eq_true, ih]
    constructor
    · rintro (⟨k, h1, h2⟩ | h)
      · exact ⟨k, by omega, h2⟩
      · exact ⟨n, by omega, h⟩
    · rintro ⟨k, h1, h2⟩
      rcases Nat.lt_or_eq_of_le (Nat.le_of_lt_succ h1) with h | rfl
      · exact .inl ⟨k, h, h2⟩
      · exact .inr h2
theorem anyBelow_succ {p : Nat → Bool} {n : Nat} : anyBelow p (n + 1) = (anyBelow p n || p n) := rfl
def Task.fits (t : Task) : Prop := ∀ i, i < t.ns → (t.nm i).size ≤ 9223372036854775807
def lib10 : Lib := (65, mk rName) :: lib9
theorem lib10_ok : LibOK Go.Proofs.Tryz.prog lib10 := .cons windName_ok lib9_ok
def pickE (part : Int) (p : Int × Int) (r : Int × Int × Int) : Int × Int × Int := if p.2 ≠ 0 then (part, p.1, p.2) else r
theorem pick_bad {e : Nat → Int} {i n : Nat} {p : Int} {r : Int × Int × Int} (h : i < n) (he : e i ≠ 0) : pickE p (fe e i (n - i)) r = (p, (i : Int), e i) := by
  rw [fe_step _ _ _ h, if_pos he]; exact if_pos he
theorem pick_next {e : Nat → Int} {i n : Nat} {p : Int} {r : Int × Int × Int} (h : i < n) (he : e i = 0) : pickE p (fe e i (n - i)) r = pickE p (fe e (i + 1) (n - (i + 1))) r := by
  rw [fe_step _ _ _ h, if_neg (fun h => h he)]
theorem pick_end {e : Nat → Int} {i n : Nat} {p : Int} {r : Int × Int × Int} (h : n ≤ i) : pickE p (fe e i (n - i)) r = r := by
  rw [show n - i = 0 by omega]; rfl
def lib11 : Lib := lib10
theorem lib11_ok : LibOK Go.Proofs.Tryz.prog lib11 := lib10_ok
end Go.Proofs.YtphcblofacfkaaaGreat
end
section
namespace Go.Proofs.YtphcblofacfkaaaGreat
open Go.V
def firstFrom (p : Nat → Bool) (i : Nat) : Nat → Int
  | 0 => -1
  | k + 1 => if p i = true then (i : Int) else firstFrom p (i + 1) k
theorem firstFrom_step {p : Nat → Bool} {i n : Nat} (h : i < n) : firstFrom p i (n - i) = if p i = true then (i : Int) else firstFrom p (i + 1) (n - (i + 1)) := by
  rw [show n - i = (n - (i + 1)) + 1 by omega, firstFrom]
theorem firstFrom_end {p : Nat → Bool} {i n : Nat} (h : n ≤ i) : firstFrom p i (n - i) = -1 := by
  rw [show n - i = 0 by omega, firstFrom]
theorem firstFrom_spec (p : Nat → Bool) : ∀ (k i : Nat), (firstFrom p i k = -1 ∧ ∀ j, i ≤ j → j < i + k → p j = false) ∨ ∃ m : Nat, firstFrom p i k = m ∧ i ≤ m ∧ m < i + k ∧ p m = true ∧ ∀ j, i ≤ j → j < m → p j = false
  | 0, i => .inl ⟨rfl, fun j h1 h2 => absurd h2 (by omega)⟩
  | k + 1, i => by
    cases hp : p i with
    | true => exact .inr ⟨i, by simp [firstFrom, hp], Nat.le_refl _, by omega, hp, fun j h1 h2 => absurd h2 (by omega)⟩
    | false =>
      have e : firstFrom p i (k + 1) = firstFrom p (i + 1) k := by simp [firstFrom, hp]
      rw [e]
      rcases firstFrom_spec p k (i + 1) with ⟨h1, h2⟩ | ⟨m, h1, h2, h3, h4, h5⟩
      · refine .inl ⟨h1, fun j g1 g2 => ?_⟩
        rcases Nat.eq_or_lt_of_le g1 with rfl | g
        · exact hp
        · exact h2 j g (by omega)
      · refine .inr ⟨m, h1, by omega, by omega, h4, fun j g1 g2 => ?_⟩
        rcases Nat.eq_or_lt_of_le g1 with rfl | g
        · exact hp
        · exact h5 j g g2
theorem firstFrom_any (p : Nat → Bool) (n : Nat) : decide (0 ≤ firstFrom p 0 n) = anyBelow p n := by
  rcases firstFrom_spec p n 0 with ⟨h1, h2⟩ | ⟨m, h1, h2, h3, h4, h5⟩
  · rw [h1]
    symm
    rw [show decide ((0 : Int) ≤ -1) = false from rfl]
    rw [Bool.eq_false_iff]
    intro h
    obtain ⟨k, hk, hp⟩ := anyBelow_iff.mp h
    rw [h2 k (by omega) (by omega)] at hp
    cases hp
  · rw [h1, decide_eq_true (by omega)]
    exact (anyBelow_iff.mpr ⟨m, by omega, h4⟩).symm
def stormy (a : Nat → Nat → Int) (i : Nat) : Bool := out (a i 0) (-20000) 20000
theorem stormOne_ok : PSound Go.Proofs.Tryz.prog 99 (mk (r1 fun n => out n (-20000) 20000)) := by
  refine psound_mk Tryz.func99 (by kernel_rfl) rfl (ctx lib1_ok) ?_
  (intro ds p d h; unfold r1 at h; split at h <;> first | (cases h; done) | skip; cases h; refine ⟨Nat.le_of_ble_eq_true rfl, fun hp k hk => ?_⟩)
  rename_i a
  refine ⟨[.int .i64 a], ?_⟩
  repeat' (first | ((with_reducible refine kok ?_); kernel_rfl) | ((with_reducible refine keq_mk ?_); kernel_rfl) | with_reducible rfl | ((conv => whnf); first | exact trivial | refine And.intro ?_ ?_ | intro _ | (with_reducible refine (?_ : _ = true); (conv => lhs; whnf); done) | exact rfl))
  all_goals (refine fin_of hk ?_; clear hk; repeat' (first | ((with_reducible refine kok ?_); kernel_rfl) | ((with_reducible refine keq_mk ?_); kernel_rfl) | with_reducible rfl | ((conv => whnf); first | exact trivial | refine And.intro ?_ ?_ | intro _ | (with_reducible refine (?_ : _ = true); (conv => lhs; whnf); done) | exact rfl)))
def lib12 : Lib := (99, mk (r1 fun n => out n (-20000) 20000)) :: lib11
theorem lib12_ok : LibOK Go.Proofs.Tryz.prog lib12 := .cons stormOne_ok lib11_ok
def rIndexInt : List D → Option (Prop × D) := fun ds => match ds with
  | [.rsl 1 n g, .fn 99 [] []] => some (IM n 1 g ∧ n ≤ 1099511627776, .int .i64 (firstFrom (stormy (im g)) 0 n))
  | _ => none
theorem indexInt_ok : PSound Go.Proofs.Tryz.prog 118 (mk rIndexInt) := by
  refine psound_mk Tryz.func118 (by kernel_rfl) rfl (ctx lib12_ok) ?_
  (intro ds p d h; unfold rIndexInt at h; split at h <;> first | (cases h; done) | skip; cases h; refine ⟨Nat.le_of_ble_eq_true rfl, fun hp k hk => ?_⟩)
  rename_i n g
  obtain ⟨h1, h2⟩ := hp
  refine ⟨[.rsl 1 n (imD (im g)), .fn 99 [] []], rfl, h1, ?_⟩
  clear h1
  generalize im g = a at *
  generalize hS : firstFrom (stormy a) 0 n = c at *
  repeat' (first | ((with_reducible refine kok ?_); kernel_rfl) | ((with_reducible refine keq_mk ?_); kernel_rfl) | with_reducible rfl | ((conv => whnf); first | exact trivial | refine And.intro ?_ ?_ | intro _ | (with_reducible refine (?_ : _ = true); (conv => lhs; whnf); done) | exact rfl))
  refine ⟨Nat, fun i => [(0, .rsl 1 n (imD a)), (1, .fn 99 [] []), (7, .int .i64 n), (8, .int .i64 i)], fun _ => [], fun i => n - i, fun i => i ≤ n ∧ c = firstFrom (stormy a) i (n - i), [], 0, fun _ => ⟨rfl, rfl⟩, ?_, fun i hI => ?_⟩
  · repeat' (first | ((with_reducible refine kok ?_); kernel_rfl) | ((with_reducible refine keq_mk ?_); kernel_rfl) | with_reducible rfl | ((conv => whnf); first | exact trivial | refine And.intro ?_ ?_ | intro _ | (with_reducible refine (?_ : _ = true); (conv => lhs; whnf); done) | exact rfl))
    · omega
    · exact hS.symm
  obtain ⟨hi, hc⟩ := hI
  clear hS
  have f1 : decide ((i : Int) < n) = true → i < n := fun h => Int.ofNat_lt.mp (of_decide_eq_true h)
  repeat' (first | ((with_reducible refine kok ?_); kernel_rfl) | ((with_reducible refine keq_mk ?_); kernel_rfl) | with_reducible rfl | ((conv => whnf); first | exact trivial | refine And.intro ?_ ?_ | intro _ | (with_reducible refine (?_ : _ = true); (conv => lhs; whnf); done) | exact rfl))
  · omega
  · exact of_decide_eq_true (by assumption)
  · rename_i g1 g2
    rw [firstFrom_step (f1 g1), if_pos (by exact g2)] at hc
    subst hc
    (refine fin_of hk ?_; clear hk; (conv => whnf); repeat' (first | exact trivial | refine And.intro ?_ ?_ | exact rfl))
  · omega
  · omega
  · rename_i g1 g2
    have e1 := f1 g1
    rw [firstFrom_step e1, if_neg (by rw [show stormy a i = false from g2]; exact Bool.noConfusion)] at hc
    clear hk
    refine ⟨i + 1, ?_⟩
    repeat' (first | ((with_reducible refine kok ?_); kernel_rfl) | ((with_reducible refine keq_mk ?_); kernel_rfl) | with_reducible rfl | ((conv => whnf); first | exact trivial | refine And.intro ?_ ?_ | intro _ | (with_reducible refine (?_ : _ = true); (conv => lhs; whnf); done) | exact rfl))
    · omega
    · exact hc
    · simp only; omega
  · rename_i g1
    rw [firstFrom_end (by have := of_decide_eq_false g1; omega)] at hc
    subst hc
    (refine fin_of hk ?_; clear hk; (conv => whnf); repeat' (first | exact trivial | refine And.intro ?_ ?_ | exact rfl))
def rStorm : List D → Option (Prop × D) := fun ds => match ds with
  | [.rsl 1 n g] => some (IM n 1 g ∧ n ≤ 1099511627776, .bool (anyBelow (stormy (im g)) n))
  | _ => none
def rStormAny : List D → Option (Prop × D) := fun ds => match ds with
  | [.rsl 1 n g, .fn 99 [] []] => some (IM n 1 g ∧ n ≤ 1099511627776, .bool (anyBelow (stormy (im g)) n))
  | _ => none
def lib13 : Lib := (118, mk rIndexInt) :: lib12
theorem lib13_ok : LibOK Go.Proofs.Tryz.prog lib13 := .cons indexInt_ok lib12_ok
theorem containsInt_ok : PSound Go.Proofs.Tryz.prog 98 (mk rStormAny) := by
  refine psound_mk Tryz.func98 (by kernel_rfl) rfl (ctx lib13_ok) ?_
  (intro ds p d h; unfold rStormAny at h; split at h <;> first | (cases h; done) | skip; cases h; refine ⟨Nat.le_of_ble_eq_true rfl, fun hp k hk => ?_⟩)
  rename_i n g
  obtain ⟨h1, h2⟩ := hp
  refine ⟨[.rsl 1 n (imD (im g)), .fn 99 [] []], rfl, h1, ?_⟩
  clear h1
  generalize im g = a at *
  repeat' (first | ((with_reducible refine kok ?_); kernel_rfl) | ((with_reducible refine keq_mk ?_); kernel_rfl) | with_reducible rfl | ((conv => whnf); first | exact trivial | refine And.intro ?_ ?_ | intro _ | (with_reducible refine (?_ : _ = true); (conv => lhs; whnf); done) | exact rfl))
  · exact h2
  · (refine fin_of hk ?_; clear hk; repeat' (first | ((with_reducible refine kok ?_); kernel_rfl) | ((with_reducible refine keq_mk ?_); kernel_rfl) | with_reducible rfl | ((conv => whnf); first | exact trivial | refine And.intro ?_ ?_ | intro _ | (with_reducible refine (?_ : _ = true); (conv => lhs; whnf); done) | exact rfl)))
    exact firstFrom_any _ _
def lib14 : Lib := (98, mk rStormAny) :: lib13
theorem lib14_ok : LibOK Go.Proofs.Tryz.prog lib14 := .cons containsInt_ok lib13_ok
theorem storm_ok : PSound Go.Proofs.Tryz.prog 82 (mk rStorm) := by
  refine psound_mk Tryz.func82 (by kernel_rfl) rfl (ctx lib14_ok) ?_
  (intro ds p d h; unfold rStorm at h; split at h <;> first | (cases h; done) | skip; cases h; refine ⟨Nat.le_of_ble_eq_true rfl, fun hp k hk => ?_⟩)
  rename_i n g
  obtain ⟨h1, h2⟩ := hp
  refine ⟨[.rsl 1 n (imD (im g))], rfl, h1, ?_⟩
  clear h1
  generalize im g = a at *
  repeat' (first | ((with_reducible refine kok ?_); kernel_rfl) | ((with_reducible refine keq_mk ?_); kernel_rfl) | with_reducible rfl | ((conv => whnf); first | exact trivial | refine And.intro ?_ ?_ | intro _ | (with_reducible refine (?_ : _ = true); (conv => lhs; whnf); done) | exact rfl))
  · exact h2
  · (refine fin_of hk ?_; clear hk; repeat' (first | ((with_reducible refine kok ?_); kernel_rfl) | ((with_reducible refine keq_mk ?_); kernel_rfl) | with_reducible rfl | ((conv => whnf); first | exact trivial | refine And.intro ?_ ?_ | intro _ | (with_reducible refine (?_ : _ = true); (conv => lhs; whnf); done) | exact rfl)))
def lib15 : Lib := (82, mk rStorm) :: lib14
theorem lib15_ok : LibOK Go.Proofs.Tryz.prog lib15 := .cons storm_ok lib14_ok
theorem out_isin (n a b : Int) : out n a b = !isin n a b := by
  rw [← not_out, Bool.not_not]
def bandE (b0 b1 b2 b3 b4 b5 f : Int) : Int :=
  if b0 ≠ f then 2 else if b1 ≤ b0 then 7 else if 100000000 < b1 then 7 else if winds b2 b3 = false then 7 else if winds b4 b5 = false then 7 else 0
def rWindBand : List V.D → Option (Prop × V.D) := fun ds => match ds with
  | [.agg [.int .i64 b0, .int .i64 b1, .int .i64 b2, .int .i64 b3, .int .i64 b4, .int .i64 b5], .int .i64 f] => some (0 ≤ f ∧ f ≤ 100000000, .int .i64 (bandE b0 b1 b2 b3 b4 b5 f))
  | _ => none
theorem storm4 (b2 b3 b4 b5 : Int) : anyBelow (stormy (im fun i j => [D.int .i64 b2, D.int .i64 b3, D.int .i64 b4, D.int .i64 b5].getD (i * 1 + j) D.top)) 4 = (((!isin b2 (-20000) 20000 || !isin b3 (-20000) 20000) || !isin b4 (-20000) 20000) || !isin b5 (-20000) 20000) := by
  simp [anyBelow, stormy, im, toI, out_isin]
theorem windBand_ok : PSound Go.Proofs.Tryz.prog 51 (mk rWindBand) := by
  refine psound_mk Tryz.func51 (by kernel_rfl) rfl (ctx lib15_ok) ?_
  (intro ds p d h; unfold rWindBand at h; split at h <;> first | (cases h; done) | skip; cases h; refine ⟨Nat.le_of_ble_eq_true rfl, fun hp k hk => ?_⟩)
  rename_i b0 b1 b2 b3 b4 b5 f
  refine ⟨[.agg [.int .i64 b0, .int .i64 b1, .int .i64 b2, .int .i64 b3, .int .i64 b4, .int .i64 b5], .int .i64 f], ?_⟩
  generalize hS : bandE b0 b1 b2 b3 b4 b5 f = c at *
  repeat' (first | ((with_reducible refine kok ?_); kernel_rfl) | ((with_reducible refine keq_mk ?_); kernel_rfl) | with_reducible rfl | ((conv => whnf); first | exact trivial | refine And.intro ?_ ?_ | intro _ | (with_reducible refine (?_ : _ = true); (conv => lhs; whnf); done) | exact rfl))
  rotate_left
  · omega
  · omega
  rotate_left
  · rename_i i j hi hj
    have h1 : i = 0 ∨ i = 1 ∨ i = 2 ∨ i = 3 := by omega
    obtain rfl : j = 0 := by omega
    rcases h1 with rfl | rfl | rfl | rfl <;> rfl
  · exact Nat.le_of_ble_eq_true rfl
  all_goals ((refine fin_of hk ?_; clear hk; (conv => whnf); repeat' (first | exact trivial | refine And.intro ?_ ?_ | exact rfl)); rw [← hS]; clear hS; simp only [storm4, out_isin, Bool.not_eq_true', Bool.not_eq_false', decide_eq_true_eq, decide_eq_false_iff_not] at *; simp [bandE, winds, isin] at * <;> omega)
end Go.Proofs.YtphcblofacfkaaaGreat
end
