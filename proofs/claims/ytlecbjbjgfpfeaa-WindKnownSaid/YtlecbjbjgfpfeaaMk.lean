/-
  Files of soundings: numbers as bytes, and back (plain).
-/
import Derived.Test.YtlecbjbjgfpfeaaMf
import Derived.Test.YtlecbjbjgfpfeaaMh
import Derived.Test.YtlecbjbjgfpfeaaMj
import Derived.Test.YtlecbjbjgfpfeaaMg
import Derived.Test.YtlecbjbjgfpfeaaMi
section
set_option linter.unusedVariables false
set_option linter.unusedSimpArgs false
namespace Go.Proofs.Ytlecbjbjgfpfeaa
open Go.V

/-- Byte k of a number, counted from the lowest one. -/
def byteN (n : Int) (k : Nat) : Int := (n / 256 ^ k) % 256
/-- A number in so many bytes, the highest one first. -/
def numL (n : Int) : Nat → List Int
  | 0 => []
  | w + 1 => byteN n w :: numL n w
/-- The number that bytes are. -/
def valL : List Int → Int → Int
  | [], a => a
  | b :: l, a => valL l (256 * a + b)
theorem numL_len (n : Int) : ∀ w, (numL n w).length = w
  | 0 => rfl
  | w + 1 => by rw [numL, List.length_cons, numL_len n w]
theorem valL_app : ∀ (l m : List Int) (a : Int), valL (l ++ m) a = valL m (valL l a)
  | [], m, a => rfl
  | b :: l, m, a => by rw [List.cons_append, valL, valL_app l m, valL]
theorem valL_numL (n : Int) : ∀ w (a : Int), valL (numL n w) a = 256 ^ w * a + n % 256 ^ w
  | 0, a => by simp [numL, valL, Int.emod_one]
  | w + 1, a => by
    rw [numL, valL, valL_numL n w, byteN]
    have h1 : (256 : Int) ^ (w + 1) = 256 ^ w * 256 := by rw [Int.pow_succ]
    have hp : (0 : Int) < 256 ^ w := Int.pow_pos (by omega)
    have h2 : n % (256 ^ w * 256) = n % 256 ^ w + 256 ^ w * (n / 256 ^ w % 256) := by
      have a1 := Int.mul_ediv_add_emod n (256 ^ w)
      have a2 := Int.mul_ediv_add_emod (n / 256 ^ w) 256
      have a3 := Int.emod_nonneg n (Int.ne_of_gt hp)
      have a4 := Int.emod_lt_of_pos n hp
      have a5 := Int.emod_nonneg (n / 256 ^ w) (show (256 : Int) ≠ 0 by omega)
      have a6 := Int.emod_lt_of_pos (n / 256 ^ w) (show (0 : Int) < 256 by omega)
      generalize hq : n / 256 ^ w / 256 = q at a2
      generalize hr : n / 256 ^ w % 256 = r at a2 a5 a6 ⊢
      generalize hs : n % 256 ^ w = s at a1 a3 a4 ⊢
      have e : n = (s + 256 ^ w * r) + 256 ^ w * 256 * q := by rw [← a1, ← a2]; grind
      rw [e, Int.add_mul_emod_self_left]
      refine Int.emod_eq_of_lt (Int.add_nonneg a3 (Int.mul_nonneg (Int.le_of_lt hp) a5)) ?_
      have : 256 ^ w * r ≤ 256 ^ w * 255 := Int.mul_le_mul_of_nonneg_left (by omega) (Int.le_of_lt hp)
      grind
    rw [h1, h2]
    grind
theorem valL_num {n : Int} {w : Nat} (h0 : 0 ≤ n) (h : n < 256 ^ w) : valL (numL n w) 0 = n := by
  rw [valL_numL, Int.mul_zero, Int.zero_add, Int.emod_eq_of_lt h0 h]
theorem byteN_lt (n : Int) (k : Nat) : 0 ≤ byteN n k ∧ byteN n k < 256 := ⟨Int.emod_nonneg _ (by omega), Int.emod_lt_of_pos _ (by omega)⟩
end Go.Proofs.Ytlecbjbjgfpfeaa
end
section
set_option linter.unusedVariables false
set_option linter.unusedSimpArgs false
namespace Go.Proofs.Ytlecbjbjgfpfeaa
open Go.V

/-- Bytes as cells. -/
def byL (l : List Int) (i _j : Nat) : V.D := .int .u8 (l.getD i 0)
/-- Cells that are these bytes. -/
def Rep (n : Nat) (g : Nat → Nat → V.D) (l : List Int) : Prop := n = l.length ∧ ∀ i j, i < n → j < 1 → g i j = .int .u8 (l.getD i 0)
theorem rep_byL (l : List Int) : Rep l.length (byL l) l := ⟨rfl, fun i j _ _ => rfl⟩
theorem rep_app {n m : Nat} {g h : Nat → Nat → V.D} {l k : List Int} (h1 : Rep n g l) (h2 : Rep m h k) : Rep (n + m) (fun i j => if i < n then g i j else h (i - n) j) (l ++ k) := by
  obtain ⟨rfl, h1⟩ := h1
  obtain ⟨rfl, h2⟩ := h2
  refine ⟨by simp, fun i j hi hj => ?_⟩
  show (if i < l.length then g i j else h (i - l.length) j) = _
  by_cases h : i < l.length
  · rw [if_pos h, h1 i j h hj]
    congr 1
    simp [List.getD_eq_getElem?_getD, List.getElem?_append_left h]
  · rw [if_neg h, h2 (i - l.length) j (by omega) hj]
    congr 1
    simp [List.getD_eq_getElem?_getD, List.getElem?_append_right (show l.length ≤ i by omega)]
theorem rep_eq {n : Nat} {g : Nat → Nat → V.D} {l l' : List Int} (h : Rep n g l) (e : l = l') : Rep n g l' := e ▸ h
theorem rep_nil (g : Nat → Nat → V.D) : Rep 0 g [] := ⟨rfl, fun i j hi => absurd hi (by omega)⟩
/-- The bytes that cells are. -/
def lstB (n : Nat) (g : Nat → Nat → V.D) : List Int := (List.range n).map fun i => toI (g i 0)
theorem lstB_rep {n : Nat} {g : Nat → Nat → V.D} {l : List Int} (h : Rep n g l) : lstB n g = l := by
  obtain ⟨rfl, h⟩ := h
  apply List.ext_getElem?
  intro i
  unfold lstB
  rw [List.getElem?_map]
  by_cases hi : i < l.length
  · rw [List.getElem?_range hi, Option.map_some, h i 0 hi (by omega)]
    simp [toI, List.getD_eq_getElem?_getD, List.getElem?_eq_getElem hi]
  · rw [List.getElem?_eq_none (by simp; omega), List.getElem?_eq_none (by omega)]
    rfl
theorem lstB_len (n : Nat) (g : Nat → Nat → V.D) : (lstB n g).length = n := by simp [lstB]
theorem rep_lstB {n : Nat} {g : Nat → Nat → V.D} (h : ∀ i, i < n → g i 0 = .int .u8 (toI (g i 0))) : Rep n g (lstB n g) := ⟨(lstB_len n g).symm, fun i j hi hj => by
  obtain rfl : j = 0 := by omega
  rw [h i hi]
  simp [lstB, toI, List.getD_eq_getElem?_getD, List.getElem?_map, List.getElem?_range hi]⟩

/-- Numbers, each in so many bytes. -/
def putsL (w : Nat) (ns : List Int) : List Int := ns.flatMap fun n => numL n w
theorem putsL_len (w : Nat) : ∀ ns, (putsL w ns).length = w * ns.length
  | [] => by simp [putsL]
  | n :: ns => by
    have := putsL_len w ns
    simp only [putsL, List.flatMap_cons, List.length_append, numL_len, List.length_cons] at this ⊢
    rw [this, Nat.mul_succ, Nat.add_comm]
theorem putsL_snoc (w : Nat) (ns : List Int) (n : Int) : putsL w (ns ++ [n]) = putsL w ns ++ numL n w := by simp [putsL]
/-- The first bytes of a number. -/
theorem numL_take_succ (n : Int) : ∀ (w i : Nat), i < w → (numL n w).take (i + 1) = (numL n w).take i ++ [byteN n (w - 1 - i)]
  | w + 1, 0, _ => by simp [numL]
  | w + 1, i + 1, h => by
    have := numL_take_succ n w i (by omega)
    simp only [numL, List.take_succ_cons, this, List.cons_append]
    rw [show w - 1 - i = w + 1 - 1 - (i + 1) by omega]

/-- The sum of bytes. -/
def sumL : List Int → Int
  | [] => 0
  | b :: l => b + sumL l
theorem sumL_app : ∀ l k, sumL (l ++ k) = sumL l + sumL k
  | [], k => by simp [sumL]
  | b :: l, k => by simp only [List.cons_append, sumL, sumL_app l k]; omega
/-- A string's bytes. -/
def strL (s : ByteArray) : List Int := (List.range s.size).map (byteAt s)
theorem strL_len (s : ByteArray) : (strL s).length = s.size := by simp [strL]
theorem rep_str (s : ByteArray) : Rep s.size (fun i _ => .int .u8 (byteAt s i)) (strL s) := ⟨(strL_len s).symm, fun i j hi hj => by
  simp [strL, List.getD_eq_getElem?_getD, List.getElem?_map, List.getElem?_range hi]⟩

/-- One list after the other. -/
def catL (f : Nat → List Int) : Nat → List Int
  | 0 => []
  | n + 1 => catL f n ++ f n
/-- The parts of a file. -/
def hdL (t : Task) : List Int := [87, 73, 78, 68, 1] ++ numL t.age 2 ++ numL t.shear 2 ++ numL t.nc 1
def cutL (t : Task) (i : Nat) : List Int := numL (t.ca i 0) 4
def srcL (t : Task) (i : Nat) : List Int := numL (t.sa i 0) 1 ++ numL (t.sa i 1) 2 ++ numL (t.sa i 2) 2 ++ numL (t.sa i 3) 2 ++ numL (t.sa i 4) 4 ++ numL (t.sa i 5) 4 ++ numL (t.nm i).size 1 ++ strL (t.nm i)
def sndL (t : Task) (i : Nat) : List Int := numL (t.xa i 0) 1 ++ numL (t.xa i 1) 4 ++ numL (t.xa i 2) 4 ++ numL (t.xa i 3 + 32768) 2 ++ numL (t.xa i 4 + 32768) 2
def cutsL (t : Task) (i : Nat) : List Int := hdL t ++ catL (cutL t) i
def srcsL (t : Task) (i : Nat) : List Int := cutsL t t.nc ++ numL t.ns 1 ++ catL (srcL t) i
def sndsL (t : Task) (i : Nat) : List Int := srcsL t t.ns ++ numL t.nx 1 ++ catL (sndL t) i
def bodyL (t : Task) : List Int := sndsL t t.nx
def fileL (t : Task) : List Int := bodyL t ++ numL (sumL (bodyL t) % 65536) 2
theorem cutsL_succ (t : Task) (i : Nat) : cutsL t (i + 1) = cutsL t i ++ cutL t i := by simp [cutsL, catL]
theorem srcsL_succ (t : Task) (i : Nat) : srcsL t (i + 1) = srcsL t i ++ srcL t i := by simp [srcsL, catL]
theorem sndsL_succ (t : Task) (i : Nat) : sndsL t (i + 1) = sndsL t i ++ sndL t i := by simp [sndsL, catL]
theorem cutsL_0 (t : Task) : cutsL t 0 = hdL t := by simp [cutsL, catL]
theorem srcsL_0 (t : Task) : srcsL t 0 = cutsL t t.nc ++ numL t.ns 1 := by simp [srcsL, catL]
theorem sndsL_0 (t : Task) : sndsL t 0 = srcsL t t.ns ++ numL t.nx 1 := by simp [sndsL, catL]
/-- All Cuts at once. -/
theorem cuts_puts (t : Task) : ∀ n, catL (cutL t) n = putsL 4 ((List.range n).map fun i => t.ca i 0)
  | 0 => rfl
  | n + 1 => by rw [catL, cuts_puts t n, List.range_succ, List.map_append, List.map_singleton, putsL_snoc]; rfl
end Go.Proofs.Ytlecbjbjgfpfeaa
end
section
set_option linter.unusedVariables false
set_option linter.unusedSimpArgs false
set_option maxRecDepth 100000
set_option maxHeartbeats 4000000
namespace Go.Proofs.Ytlecbjbjgfpfeaa
open Go.V

/-- A slice behind which bytes were put. -/
def behind (n : Nat) (g : Nat → Nat → V.D) (l : List Int) (i j : Nat) : V.D := if i < n then g i j else byL l (i - n) j
theorem behind_rep {n : Nat} {g : Nat → Nat → V.D} {l k : List Int} (h : Rep n g l) : Rep (n + k.length) (behind n g k) (l ++ k) := rep_app h (rep_byL k)
theorem behind_nil {n : Nat} {g : Nat → Nat → V.D} {l : List Int} (hl : l.length = 0) : ∀ i j, i < n → j < 1 → g i j = behind n g l i j := fun i j hi _ => by
  unfold behind
  rw [if_pos hi]
theorem behind_snoc {n : Nat} {g : Nat → Nat → V.D} {l k : List Int} {b : Int} {x : V.D} (hk : k = l ++ [b]) (hx : x = .int .u8 b) : ∀ i j, i < n + l.length + 1 → j < 1 → (if i < n + l.length then behind n g l i j else x) = behind n g k i j := fun i j hi hj => by
  subst hk
  subst hx
  unfold behind byL
  by_cases h : i < n
  · rw [if_pos (by omega), if_pos h, if_pos h]
  · rw [if_neg h]
    by_cases h2 : i < n + l.length
    · rw [if_pos h2, if_neg h]
      congr 1
      simp [List.getD_eq_getElem?_getD, List.getElem?_append_left (show i - n < l.length by omega)]
    · rw [if_neg h2, if_neg h]
      congr 1
      have e : i - n = l.length := by omega
      rw [e]
      simp [List.getD_eq_getElem?_getD]
theorem behind_put {n len : Nat} {g : Nat → Nat → V.D} {l k : List Int} {b : Int} {x : V.D} (hl : len = n + l.length) (hk : k = l ++ [b]) (hx : x = .int .u8 b) : ∀ i j, i < len + 1 → j < 1 → (if i < len then behind n g l i j else [x].getD ((i - len) * 1 + j) .top) = behind n g k i j := fun i j hi hj => by
  subst hl
  rw [← behind_snoc (g := g) hk hx i j hi hj]
  by_cases h : i < n + l.length
  · rw [if_pos h, if_pos h]
  · rw [if_neg h, if_neg h]
    have e : (i - (n + l.length)) * 1 + j = 0 := by omega
    rw [e]
    rfl
/-- A byte of a number, as the code computes it. -/
theorem shr_byte (n : Int) {p : Nat} (hp : p ≤ 7) : IntKind.u8.wrap (n.fdiv (2 ^ (min (8 * p) 64))) = byteN n p := by
  rw [IntKind.wrap_u8, show min (8 * p) 64 = 8 * p by omega]
  unfold byteN
  have h : (2 : Int) ^ (8 * p) = 256 ^ p := by rw [Int.pow_mul]; rfl
  rw [h, Int.fdiv_eq_ediv_of_nonneg _ (Int.le_of_lt (Int.pow_pos (by omega)))]
def preL (a : Nat → Nat → V.D) (k : Nat) : List Int := (List.range k).map fun i => toI (a i 0)
theorem preL_succ (a : Nat → Nat → V.D) (k : Nat) : preL a (k + 1) = preL a k ++ [toI (a k 0)] := by simp [preL, List.range_succ]
theorem preL_len (a : Nat → Nat → V.D) (k : Nat) : (preL a k).length = k := by simp [preL]
theorem puts_len (w : Nat) (a : Nat → Nat → V.D) (k : Nat) : (putsL w (preL a k)).length = w * k := by rw [putsL_len, preL_len]
/-- What was put so far: k numbers, and j bytes of the next one. -/
def soL (w : Nat) (a : Nat → Nat → V.D) (k j : Nat) : List Int := putsL w (preL a k) ++ (numL (toI (a k 0)) w).take j
theorem soL_len {w : Nat} (a : Nat → Nat → V.D) (k : Nat) {j : Nat} (h : j ≤ w) : (soL w a k j).length = w * k + j := by
  unfold soL
  rw [List.length_append, puts_len, List.length_take, numL_len]
  omega
theorem soL_0 (w : Nat) (a : Nat → Nat → V.D) (k : Nat) : soL w a k 0 = putsL w (preL a k) := by simp [soL]
theorem soL_w (w : Nat) (a : Nat → Nat → V.D) (k : Nat) : soL w a k w = putsL w (preL a (k + 1)) := by
  unfold soL
  rw [preL_succ, putsL_snoc, List.take_of_length_le (by rw [numL_len]; exact Nat.le_refl _)]
theorem soL_succ {w : Nat} (a : Nat → Nat → V.D) (k : Nat) {j : Nat} (h : j < w) : soL w a k (j + 1) = soL w a k j ++ [byteN (toI (a k 0)) (w - 1 - j)] := by
  unfold soL
  rw [numL_take_succ _ _ _ h, List.append_assoc]

def rPut : CRule := fun ds H K => match ds, H with
  | [.own 0 n, .int .i64 w, .own 1 m], [some (.buf e 1 n' g), some (.buf e' 1 m' a)] => (((n = n' ∧ m = m') ∧ (e = 5 ∧ e' = 3) ∧ (0 ≤ w ∧ w ≤ 8) ∧ m ≤ 1000000 ∧ n + w.toNat * m ≤ 1000000) ∧ ∀ i, i < m → a i 0 = .int .i64 (toI (a i 0))) ∧
      K (.ret (.own 0 (n + w.toNat * m))) [some (.buf 5 1 (n + w.toNat * m) (behind n g (putsL w.toNat (preL a m)))), some (.buf 3 1 m a)]
  | [.own 0 n, .int .i64 w, .rsl 1 m a], [some (.buf e 1 n' g)] => ((n = n' ∧ e = 5 ∧ (0 ≤ w ∧ w ≤ 8) ∧ m ≤ 1000000 ∧ n + w.toNat * m ≤ 1000000) ∧ ∀ i, i < m → a i 0 = .int .i64 (toI (a i 0))) ∧
      K (.ret (.own 0 (n + w.toNat * m))) [some (.buf 5 1 (n + w.toNat * m) (behind n g (putsL w.toNat (preL a m))))]
  | _, _ => False
theorem fPut_ok : CSound Go.Proofs.Try.prog 26 rPut := by
  refine csound_mk Try.func26 (by kernel_rfl) rfl (ctx lib35_ok) fun ds H K h => ?_
  unfold rPut at h
  split at h
  · rename_i n w m e n' g e' m' a
    obtain ⟨⟨⟨⟨rfl, rfl⟩, ⟨rfl, rfl⟩, hw, hm, hN⟩, ha⟩, hk⟩ := h
    obtain ⟨v, rfl⟩ := Int.eq_ofNat_of_zero_le hw.1
    simp only [Int.toNat_natCast] at *
    have hv : v ≤ 8 := by omega
    clear hw
    generalize hb : (fun i _ => toI (a i 0) : Nat → Nat → Int) = b
    have hab : ∀ i j, i < m → j < 1 → a i j = imD b i j := fun i j hi hj => by
      obtain rfl : j = 0 := by omega
      rw [ha i hi, ← hb]
      rfl
    have hba : ∀ i j, i < m → j < 1 → imD b i j = a i j := fun i j hi hj => (hab i j hi hj).symm
    have htb : ∀ i, toI (a i 0) = b i 0 := fun i => by rw [← hb]
    repeat' (first | ((with_reducible refine kok ?_); kernel_rfl) | ((with_reducible refine keq_mk ?_); kernel_rfl) | with_reducible rfl | ((conv => whnf); first | (with_reducible exact trivial) | ((with_reducible refine and_ff ?_ ?_); · exact rfl) | ((with_reducible refine and_tt ?_ ?_); · exact rfl) | (with_reducible refine And.intro ?_ ?_) | intro _ | (with_reducible refine fin2 hk ?_) | ((with_reducible refine eq_leaf ?_); exact rfl) | exact trivial))
    refine ⟨Nat, fun k => [(0, .own 0 (n + v * k)), (1, .int .i64 v), (10, .own 1 m), (11, .int .i64 m), (12, .int .i64 k)],
      fun k => [some (.buf 5 1 (n + v * k) (behind n g (putsL v (preL a k)))), some (.buf 3 1 m (imD b))], fun k => m - k, fun k => k ≤ m, [], 0, fun _ => ⟨rfl, rfl⟩, ?_, fun k hI => ?_⟩
    · clear hk
      repeat' (first | ((with_reducible refine kok ?_); kernel_rfl) | ((with_reducible refine keq_mk ?_); kernel_rfl) | with_reducible rfl | ((conv => whnf); first | (with_reducible exact trivial) | ((with_reducible refine and_ff ?_ ?_); · exact rfl) | ((with_reducible refine and_tt ?_ ?_); · exact rfl) | (with_reducible refine And.intro ?_ ?_) | intro _ | (with_reducible refine fin2 hk ?_) | ((with_reducible refine eq_leaf ?_); exact rfl) | exact trivial))
      all_goals first
        | exact Nat.zero_le _
        | exact behind_nil (by simp [preL, putsL]) _ _ (by assumption) (by assumption)
        | exact hab _ _ (by assumption) (by assumption)
        | skip
    have hI : k ≤ m := hI
    conv => whnf
    refine ⟨fun g1 => ?_, fun g1 => ?_⟩
    rotate_left
    · have e : k = m := by have := of_decide_eq_false g1; omega
      subst e
      repeat' (first | ((with_reducible refine kok ?_); kernel_rfl) | ((with_reducible refine keq_mk ?_); kernel_rfl) | with_reducible rfl | ((conv => whnf); first | (with_reducible exact trivial) | ((with_reducible refine and_ff ?_ ?_); · exact rfl) | ((with_reducible refine and_tt ?_ ?_); · exact rfl) | (with_reducible refine And.intro ?_ ?_) | intro _ | (with_reducible refine fin2 hk ?_) | ((with_reducible refine eq_leaf ?_); exact rfl) | exact trivial))
      conv => whnf
      refine ⟨.own 0 (n + v * k), [some (.buf 5 1 (n + v * k) (behind n g (putsL v (preL a k)))), some (.buf 3 1 k a)], ?_⟩
      repeat' (first | ((with_reducible refine kok ?_); kernel_rfl) | ((with_reducible refine keq_mk ?_); kernel_rfl) | with_reducible rfl | ((conv => whnf); first | (with_reducible exact trivial) | ((with_reducible refine and_ff ?_ ?_); · exact rfl) | ((with_reducible refine and_tt ?_ ?_); · exact rfl) | (with_reducible refine And.intro ?_ ?_) | intro _ | (with_reducible refine fin2 hk ?_) | ((with_reducible refine eq_leaf ?_); exact rfl) | exact trivial))
      all_goals first
        | exact hk
        | exact hba _ _ (by assumption) (by assumption)
        | skip
    have hlt : k < m := by have := of_decide_eq_true g1; omega
    have hvk : v * k + v ≤ v * m := by
      have := Nat.mul_le_mul_left v (show k + 1 ≤ m from hlt)
      rwa [Nat.mul_succ] at this
    have hbb : behind n g (putsL v (preL a k)) = behind n g (soL v a k 0) := by rw [soL_0]
    repeat' (first | ((with_reducible refine kok ?_); kernel_rfl) | ((with_reducible refine keq_mk ?_); kernel_rfl) | with_reducible rfl | ((conv => whnf); first | (with_reducible exact trivial) | ((with_reducible refine and_ff ?_ ?_); · exact rfl) | ((with_reducible refine and_tt ?_ ?_); · exact rfl) | (with_reducible refine And.intro ?_ ?_) | intro _ | (with_reducible refine fin2 hk ?_) | ((with_reducible refine eq_leaf ?_); exact rfl) | exact trivial))
    all_goals try exact Int.ofNat_lt.2 hlt
    all_goals try exact hlt
    all_goals try ((first | with_reducible refine (?_ : (_ : Int) ≤ _) | with_reducible refine (?_ : (_ : Int) < _) | with_reducible refine (?_ : (_ : Nat) ≤ _) | with_reducible refine (?_ : (_ : Nat) < _)); clear hk; first | omega | (simp only [Int.toNat_natCast, Int.reduceToNat]; omega))
    refine ⟨Nat, fun j => [(0, .own 0 (n + (v * k + j))), (1, .int .i64 v), (8, .int .i64 (b k 0)), (9, .int .i64 (v - 1 - j)), (10, .own 1 m), (11, .int .i64 m), (12, .int .i64 k)],
      fun j => [some (.buf 5 1 (n + (v * k + j)) (behind n g (soL v a k j))), some (.buf 3 1 m (imD b))], fun j => v - j, fun j => j ≤ v, [], 0, fun _ => ⟨rfl, rfl⟩, ?_, fun j hJ => ?_⟩
    · clear hk
      repeat' (first | ((with_reducible refine kok ?_); kernel_rfl) | ((with_reducible refine keq_mk ?_); kernel_rfl) | with_reducible rfl | ((conv => whnf); first | (with_reducible exact trivial) | ((with_reducible refine and_ff ?_ ?_); · exact rfl) | ((with_reducible refine and_tt ?_ ?_); · exact rfl) | (with_reducible refine And.intro ?_ ?_) | intro _ | (with_reducible refine fin2 hk ?_) | ((with_reducible refine eq_leaf ?_); exact rfl) | exact trivial))
      all_goals first
        | exact Nat.zero_le _
        | (show behind _ _ _ _ _ = _; rw [hbb])
        | omega
    have hJ : j ≤ v := hJ
    conv => whnf
    refine ⟨fun g2 => ?_, fun g2 => ?_⟩
    rotate_left
    · have e : j = v := by have := of_decide_eq_false g2; omega
      subst e
      repeat' (first | ((with_reducible refine kok ?_); kernel_rfl) | ((with_reducible refine keq_mk ?_); kernel_rfl) | with_reducible rfl | ((conv => whnf); first | (with_reducible exact trivial) | ((with_reducible refine and_ff ?_ ?_); · exact rfl) | ((with_reducible refine and_tt ?_ ?_); · exact rfl) | (with_reducible refine And.intro ?_ ?_) | intro _ | (with_reducible refine fin2 hk ?_) | ((with_reducible refine eq_leaf ?_); exact rfl) | exact trivial))
      all_goals try ((first | with_reducible refine (?_ : (_ : Int) ≤ _) | with_reducible refine (?_ : (_ : Int) < _) | with_reducible refine (?_ : (_ : Nat) ≤ _) | with_reducible refine (?_ : (_ : Nat) < _)); clear hk; first | omega | (simp only [Int.toNat_natCast, Int.reduceToNat]; omega))
      conv => whnf
      refine ⟨k + 1, ?_⟩
      repeat' (first | ((with_reducible refine kok ?_); kernel_rfl) | ((with_reducible refine keq_mk ?_); kernel_rfl) | with_reducible rfl | ((conv => whnf); first | (with_reducible exact trivial) | ((with_reducible refine and_ff ?_ ?_); · exact rfl) | ((with_reducible refine and_tt ?_ ?_); · exact rfl) | (with_reducible refine And.intro ?_ ?_) | intro _ | (with_reducible refine fin2 hk ?_) | ((with_reducible refine eq_leaf ?_); exact rfl) | exact trivial))
      all_goals first
        | (clear hk; show m - (k + 1) < m - k; omega)
        | (clear hk; show k + 1 ≤ m; omega)
        | (clear hk; rw [Nat.mul_succ]; done)
        | (show behind _ _ _ _ _ = _; rw [soL_w]; done)
        | skip
    have hlt2 : j < v := by have := of_decide_eq_true g2; omega
    repeat' (first | ((with_reducible refine kok ?_); kernel_rfl) | ((with_reducible refine keq_mk ?_); kernel_rfl) | with_reducible rfl | ((conv => whnf); first | (with_reducible exact trivial) | ((with_reducible refine and_ff ?_ ?_); · exact rfl) | ((with_reducible refine and_tt ?_ ?_); · exact rfl) | (with_reducible refine And.intro ?_ ?_) | intro _ | (with_reducible refine fin2 hk ?_) | ((with_reducible refine eq_leaf ?_); exact rfl) | exact trivial))
    all_goals try ((first | with_reducible refine (?_ : (_ : Int) ≤ _) | with_reducible refine (?_ : (_ : Int) < _) | with_reducible refine (?_ : (_ : Nat) ≤ _) | with_reducible refine (?_ : (_ : Nat) < _)); clear hk; first | omega | (simp only [Int.toNat_natCast, Int.reduceToNat]; omega))
    repeat' (first | ((with_reducible refine kok ?_); kernel_rfl) | ((with_reducible refine keq_mk ?_); kernel_rfl) | with_reducible rfl | ((conv => whnf); first | (with_reducible exact trivial) | ((with_reducible refine and_ff ?_ ?_); · exact rfl) | ((with_reducible refine and_tt ?_ ?_); · exact rfl) | (with_reducible refine And.intro ?_ ?_) | intro _ | (with_reducible refine fin2 hk ?_) | ((with_reducible refine eq_leaf ?_); exact rfl) | exact trivial))
    all_goals try ((first | with_reducible refine (?_ : (_ : Int) ≤ _) | with_reducible refine (?_ : (_ : Int) < _) | with_reducible refine (?_ : (_ : Nat) ≤ _) | with_reducible refine (?_ : (_ : Nat) < _)); clear hk; first | omega | (simp only [Int.toNat_natCast, Int.reduceToNat]; omega))
    conv => whnf
    refine ⟨j + 1, ?_⟩
    repeat' (first | ((with_reducible refine kok ?_); kernel_rfl) | ((with_reducible refine keq_mk ?_); kernel_rfl) | with_reducible rfl | ((conv => whnf); first | (with_reducible exact trivial) | ((with_reducible refine and_ff ?_ ?_); · exact rfl) | ((with_reducible refine and_tt ?_ ?_); · exact rfl) | (with_reducible refine And.intro ?_ ?_) | intro _ | (with_reducible refine fin2 hk ?_) | ((with_reducible refine eq_leaf ?_); exact rfl) | exact trivial))
    · clear hk; omega
    · refine behind_put (len := n + (v * k + j)) (by rw [soL_len a k hJ]) (soL_succ a k hlt2) ?_ _ _ (by omega) (by assumption)
      rw [htb k, show (8 * ((v : Int) - 1 - j)).toNat = 8 * (v - 1 - j) by omega]
      exact congrArg (D.int .u8) (shr_byte _ (by omega))
    · exact hlt2
    · clear hk; show v - (j + 1) < v - j; omega
  · rename_i n w m a e n' g
    obtain ⟨⟨⟨rfl, rfl, hw, hm, hN⟩, ha⟩, hk⟩ := h
    obtain ⟨v, rfl⟩ := Int.eq_ofNat_of_zero_le hw.1
    simp only [Int.toNat_natCast] at *
    have hv : v ≤ 8 := by omega
    clear hw
    generalize hb : (fun i _ => toI (a i 0) : Nat → Nat → Int) = b
    have hab : ∀ i j, i < m → j < 1 → a i j = imD b i j := fun i j hi hj => by
      obtain rfl : j = 0 := by omega
      rw [ha i hi, ← hb]
      rfl
    have hba : ∀ i j, i < m → j < 1 → imD b i j = a i j := fun i j hi hj => (hab i j hi hj).symm
    have htb : ∀ i, toI (a i 0) = b i 0 := fun i => by rw [← hb]
    repeat' (first | ((with_reducible refine kok ?_); kernel_rfl) | ((with_reducible refine keq_mk ?_); kernel_rfl) | with_reducible rfl | ((conv => whnf); first | (with_reducible exact trivial) | ((with_reducible refine and_ff ?_ ?_); · exact rfl) | ((with_reducible refine and_tt ?_ ?_); · exact rfl) | (with_reducible refine And.intro ?_ ?_) | intro _ | (with_reducible refine fin2 hk ?_) | ((with_reducible refine eq_leaf ?_); exact rfl) | exact trivial))
    refine ⟨Nat, fun k => [(0, .own 0 (n + v * k)), (1, .int .i64 v), (10, .rsl 1 m (imD b)), (11, .int .i64 m), (12, .int .i64 k)],
      fun k => [some (.buf 5 1 (n + v * k) (behind n g (putsL v (preL a k))))], fun k => m - k, fun k => k ≤ m, [], 0, fun _ => ⟨rfl, rfl⟩, ?_, fun k hI => ?_⟩
    · clear hk
      repeat' (first | ((with_reducible refine kok ?_); kernel_rfl) | ((with_reducible refine keq_mk ?_); kernel_rfl) | with_reducible rfl | ((conv => whnf); first | (with_reducible exact trivial) | ((with_reducible refine and_ff ?_ ?_); · exact rfl) | ((with_reducible refine and_tt ?_ ?_); · exact rfl) | (with_reducible refine And.intro ?_ ?_) | intro _ | (with_reducible refine fin2 hk ?_) | ((with_reducible refine eq_leaf ?_); exact rfl) | exact trivial))
      all_goals first
        | exact Nat.zero_le _
        | exact behind_nil (by simp [preL, putsL]) _ _ (by assumption) (by assumption)
        | exact hab _ _ (by assumption) (by assumption)
        | skip
    have hI : k ≤ m := hI
    conv => whnf
    refine ⟨fun g1 => ?_, fun g1 => ?_⟩
    rotate_left
    · have e : k = m := by have := of_decide_eq_false g1; omega
      subst e
      repeat' (first | ((with_reducible refine kok ?_); kernel_rfl) | ((with_reducible refine keq_mk ?_); kernel_rfl) | with_reducible rfl | ((conv => whnf); first | (with_reducible exact trivial) | ((with_reducible refine and_ff ?_ ?_); · exact rfl) | ((with_reducible refine and_tt ?_ ?_); · exact rfl) | (with_reducible refine And.intro ?_ ?_) | intro _ | (with_reducible refine fin2 hk ?_) | ((with_reducible refine eq_leaf ?_); exact rfl) | exact trivial))
      conv => whnf
      refine ⟨.own 0 (n + v * k), [some (.buf 5 1 (n + v * k) (behind n g (putsL v (preL a k))))], ?_⟩
      repeat' (first | ((with_reducible refine kok ?_); kernel_rfl) | ((with_reducible refine keq_mk ?_); kernel_rfl) | with_reducible rfl | ((conv => whnf); first | (with_reducible exact trivial) | ((with_reducible refine and_ff ?_ ?_); · exact rfl) | ((with_reducible refine and_tt ?_ ?_); · exact rfl) | (with_reducible refine And.intro ?_ ?_) | intro _ | (with_reducible refine fin2 hk ?_) | ((with_reducible refine eq_leaf ?_); exact rfl) | exact trivial))
      all_goals first
        | exact hk
        | exact hba _ _ (by assumption) (by assumption)
        | skip
    have hlt : k < m := by have := of_decide_eq_true g1; omega
    have hvk : v * k + v ≤ v * m := by
      have := Nat.mul_le_mul_left v (show k + 1 ≤ m from hlt)
      rwa [Nat.mul_succ] at this
    have hbb : behind n g (putsL v (preL a k)) = behind n g (soL v a k 0) := by rw [soL_0]
    repeat' (first | ((with_reducible refine kok ?_); kernel_rfl) | ((with_reducible refine keq_mk ?_); kernel_rfl) | with_reducible rfl | ((conv => whnf); first | (with_reducible exact trivial) | ((with_reducible refine and_ff ?_ ?_); · exact rfl) | ((with_reducible refine and_tt ?_ ?_); · exact rfl) | (with_reducible refine And.intro ?_ ?_) | intro _ | (with_reducible refine fin2 hk ?_) | ((with_reducible refine eq_leaf ?_); exact rfl) | exact trivial))
    all_goals try exact Int.ofNat_lt.2 hlt
    all_goals try exact hlt
    all_goals try ((first | with_reducible refine (?_ : (_ : Int) ≤ _) | with_reducible refine (?_ : (_ : Int) < _) | with_reducible refine (?_ : (_ : Nat) ≤ _) | with_reducible refine (?_ : (_ : Nat) < _)); clear hk; first | omega | (simp only [Int.toNat_natCast, Int.reduceToNat]; omega))
    refine ⟨Nat, fun j => [(0, .own 0 (n + (v * k + j))), (1, .int .i64 v), (8, .int .i64 (b k 0)), (9, .int .i64 (v - 1 - j)), (10, .rsl 1 m (imD b)), (11, .int .i64 m), (12, .int .i64 k)],
      fun j => [some (.buf 5 1 (n + (v * k + j)) (behind n g (soL v a k j)))], fun j => v - j, fun j => j ≤ v, [], 0, fun _ => ⟨rfl, rfl⟩, ?_, fun j hJ => ?_⟩
    · clear hk
      repeat' (first | ((with_reducible refine kok ?_); kernel_rfl) | ((with_reducible refine keq_mk ?_); kernel_rfl) | with_reducible rfl | ((conv => whnf); first | (with_reducible exact trivial) | ((with_reducible refine and_ff ?_ ?_); · exact rfl) | ((with_reducible refine and_tt ?_ ?_); · exact rfl) | (with_reducible refine And.intro ?_ ?_) | intro _ | (with_reducible refine fin2 hk ?_) | ((with_reducible refine eq_leaf ?_); exact rfl) | exact trivial))
      all_goals first
        | exact Nat.zero_le _
        | (show behind _ _ _ _ _ = _; rw [hbb])
        | omega
    have hJ : j ≤ v := hJ
    conv => whnf
    refine ⟨fun g2 => ?_, fun g2 => ?_⟩
    rotate_left
    · have e : j = v := by have := of_decide_eq_false g2; omega
      subst e
      repeat' (first | ((with_reducible refine kok ?_); kernel_rfl) | ((with_reducible refine keq_mk ?_); kernel_rfl) | with_reducible rfl | ((conv => whnf); first | (with_reducible exact trivial) | ((with_reducible refine and_ff ?_ ?_); · exact rfl) | ((with_reducible refine and_tt ?_ ?_); · exact rfl) | (with_reducible refine And.intro ?_ ?_) | intro _ | (with_reducible refine fin2 hk ?_) | ((with_reducible refine eq_leaf ?_); exact rfl) | exact trivial))
      all_goals try ((first | with_reducible refine (?_ : (_ : Int) ≤ _) | with_reducible refine (?_ : (_ : Int) < _) | with_reducible refine (?_ : (_ : Nat) ≤ _) | with_reducible refine (?_ : (_ : Nat) < _)); clear hk; first | omega | (simp only [Int.toNat_natCast, Int.reduceToNat]; omega))
      conv => whnf
      refine ⟨k + 1, ?_⟩
      repeat' (first | ((with_reducible refine kok ?_); kernel_rfl) | ((with_reducible refine keq_mk ?_); kernel_rfl) | with_reducible rfl | ((conv => whnf); first | (with_reducible exact trivial) | ((with_reducible refine and_ff ?_ ?_); · exact rfl) | ((with_reducible refine and_tt ?_ ?_); · exact rfl) | (with_reducible refine And.intro ?_ ?_) | intro _ | (with_reducible refine fin2 hk ?_) | ((with_reducible refine eq_leaf ?_); exact rfl) | exact trivial))
      all_goals first
        | (clear hk; show m - (k + 1) < m - k; omega)
        | (clear hk; show k + 1 ≤ m; omega)
        | (clear hk; rw [Nat.mul_succ]; done)
        | (show behind _ _ _ _ _ = _; rw [soL_w]; done)
        | skip
    have hlt2 : j < v := by have := of_decide_eq_true g2; omega
    repeat' (first | ((with_reducible refine kok ?_); kernel_rfl) | ((with_reducible refine keq_mk ?_); kernel_rfl) | with_reducible rfl | ((conv => whnf); first | (with_reducible exact trivial) | ((with_reducible refine and_ff ?_ ?_); · exact rfl) | ((with_reducible refine and_tt ?_ ?_); · exact rfl) | (with_reducible refine And.intro ?_ ?_) | intro _ | (with_reducible refine fin2 hk ?_) | ((with_reducible refine eq_leaf ?_); exact rfl) | exact trivial))
    all_goals try ((first | with_reducible refine (?_ : (_ : Int) ≤ _) | with_reducible refine (?_ : (_ : Int) < _) | with_reducible refine (?_ : (_ : Nat) ≤ _) | with_reducible refine (?_ : (_ : Nat) < _)); clear hk; first | omega | (simp only [Int.toNat_natCast, Int.reduceToNat]; omega))
    repeat' (first | ((with_reducible refine kok ?_); kernel_rfl) | ((with_reducible refine keq_mk ?_); kernel_rfl) | with_reducible rfl | ((conv => whnf); first | (with_reducible exact trivial) | ((with_reducible refine and_ff ?_ ?_); · exact rfl) | ((with_reducible refine and_tt ?_ ?_); · exact rfl) | (with_reducible refine And.intro ?_ ?_) | intro _ | (with_reducible refine fin2 hk ?_) | ((with_reducible refine eq_leaf ?_); exact rfl) | exact trivial))
    all_goals try ((first | with_reducible refine (?_ : (_ : Int) ≤ _) | with_reducible refine (?_ : (_ : Int) < _) | with_reducible refine (?_ : (_ : Nat) ≤ _) | with_reducible refine (?_ : (_ : Nat) < _)); clear hk; first | omega | (simp only [Int.toNat_natCast, Int.reduceToNat]; omega))
    conv => whnf
    refine ⟨j + 1, ?_⟩
    repeat' (first | ((with_reducible refine kok ?_); kernel_rfl) | ((with_reducible refine keq_mk ?_); kernel_rfl) | with_reducible rfl | ((conv => whnf); first | (with_reducible exact trivial) | ((with_reducible refine and_ff ?_ ?_); · exact rfl) | ((with_reducible refine and_tt ?_ ?_); · exact rfl) | (with_reducible refine And.intro ?_ ?_) | intro _ | (with_reducible refine fin2 hk ?_) | ((with_reducible refine eq_leaf ?_); exact rfl) | exact trivial))
    · clear hk; omega
    · refine behind_put (len := n + (v * k + j)) (by rw [soL_len a k hJ]) (soL_succ a k hlt2) ?_ _ _ (by omega) (by assumption)
      rw [htb k, show (8 * ((v : Int) - 1 - j)).toNat = 8 * (v - 1 - j) by omega]
      exact congrArg (D.int .u8) (shr_byte _ (by omega))
    · exact hlt2
    · clear hk; show v - (j + 1) < v - j; omega
  · exact h.elim
end Go.Proofs.Ytlecbjbjgfpfeaa
end
section
set_option linter.unusedVariables false
set_option linter.unusedSimpArgs false
namespace Go.Proofs.Ytlecbjbjgfpfeaa
open Go.V

/-- A number, and a sum, of bytes from a place on. -/
def numF (f : Nat → Int) (p : Nat) : Nat → Int
  | 0 => 0
  | w + 1 => 256 * numF f p w + f (p + w)
def sumF (f : Nat → Int) : Nat → Int
  | 0 => 0
  | i + 1 => sumF f i + f i
def strF (f : Nat → Int) (p n : Nat) : ByteArray := strOfNums ((List.range n).map fun i => f (p + i))
/-- Where the parts of a file lie. -/
def ncF (f : Nat → Int) : Nat := (f 9).toNat
def pSs (f : Nat → Int) : Nat := 10 + 4 * ncF f
def nsF (f : Nat → Int) : Nat := (f (pSs f)).toNat
def lnF (f : Nat → Int) (p : Nat) : Nat := (f (p + 15)).toNat
def pS (f : Nat → Int) : Nat → Nat
  | 0 => pSs f + 1
  | i + 1 => pS f i + 16 + lnF f (pS f i)
def pXs (f : Nat → Int) : Nat := pS f (nsF f)
def nxF (f : Nat → Int) : Nat := (f (pXs f)).toNat
def pX (f : Nat → Int) (i : Nat) : Nat := pXs f + 1 + 13 * i
def pE (f : Nat → Int) : Nat := pX f (nxF f)
def saF (f : Nat → Int) (i j : Nat) : Int := match j with
  | 0 => numF f (pS f i) 1
  | 1 => numF f (pS f i + 1) 2
  | 2 => numF f (pS f i + 3) 2
  | 3 => numF f (pS f i + 5) 2
  | 4 => numF f (pS f i + 7) 4
  | _ => numF f (pS f i + 11) 4
def xaF (f : Nat → Int) (i j : Nat) : Int := match j with
  | 0 => numF f (pX f i) 1
  | 1 => numF f (pX f i + 1) 4
  | 2 => numF f (pX f i + 5) 4
  | 3 => numF f (pX f i + 9) 2 - 32768
  | _ => numF f (pX f i + 11) 2 - 32768
def nmF (f : Nat → Int) (i : Nat) : ByteArray := strF f (pS f i + 16) (lnF f (pS f i))
def caF (f : Nat → Int) (i _j : Nat) : Int := numF f (10 + 4 * i) 4
def readT (f : Nat → Int) : Task := ⟨nsF f, nxF f, ncF f, nmF f, saF f, xaF f, caF f, numF f 5 2, numF f 7 2⟩
def headF (f : Nat → Int) : Bool := decide (f 0 = 87 ∧ f 1 = 73 ∧ f 2 = 78 ∧ f 3 = 68 ∧ f 4 = 1)
def formF (n : Nat) (f : Nat → Int) : Bool := headF f && (decide (pE f + 2 = n) && decide (numF f (pE f) 2 = sumF f (pE f) % 65536))
def readE (n : Nat) (f : Nat → Int) : Int := if 2000 < n then 3 else if formF n f = true then checkE (readT f) else 6
def zeroT : Task := ⟨0, 0, 0, fun _ => ByteArray.empty, fun _ _ => 0, fun _ _ => 0, fun _ _ => 0, 0, 0⟩
def readR (n : Nat) (f : Nat → Int) : Task := if readE n f = 0 then readT f else zeroT

/-- Numbers that are bytes. -/
def Byt (n : Nat) (f : Nat → Int) : Prop := ∀ i, i < n → 0 ≤ f i ∧ f i < 256
theorem numF_in {n : Nat} {f : Nat → Int} (h : Byt n f) {p : Nat} : ∀ {w : Nat}, p + w ≤ n → 0 ≤ numF f p w ∧ numF f p w < 256 ^ w
  | 0, _ => by simp [numF]
  | w + 1, hp => by
    have h1 := numF_in h (p := p) (w := w) (by omega)
    have h2 := h (p + w) (by omega)
    rw [numF, Int.pow_succ]
    omega
theorem numF_congr {f g : Nat → Int} {p : Nat} : ∀ {w : Nat}, (∀ i, i < w → f (p + i) = g (p + i)) → numF f p w = numF g p w
  | 0, _ => rfl
  | w + 1, h => by rw [numF, numF, numF_congr (w := w) fun i hi => h i (by omega), h w (by omega)]
theorem sumF_congr {f g : Nat → Int} : ∀ {w : Nat}, (∀ i, i < w → f i = g i) → sumF f w = sumF g w
  | 0, _ => rfl
  | w + 1, h => by rw [sumF, sumF, sumF_congr (w := w) fun i hi => h i (by omega), h w (by omega)]
theorem sumF_change {f g : Nat → Int} {k : Nat} : ∀ {w : Nat}, k < w → (∀ i, i < w → i ≠ k → f i = g i) → sumF f w - sumF g w = f k - g k
  | 0, h, _ => absurd h (by omega)
  | w + 1, h, hh => by
    rw [sumF, sumF]
    by_cases e : k = w
    · subst e
      rw [sumF_congr (f := f) (g := g) fun i hi => hh i (by omega) (by omega)]
      omega
    · have := sumF_change (f := f) (g := g) (w := w) (k := k) (by omega) fun i hi hne => hh i (by omega) hne
      rw [hh w (by omega) (Ne.symm e)]
      omega

/-- One byte of a file that is another one: no file. -/
theorem form_changed {n k : Nat} {f g : Nat → Int} (hf : Byt n f) (hg : Byt n g) (hk : k < n) (hne : f k ≠ g k) (ho : ∀ i, i < n → i ≠ k → f i = g i) (h : formF n f = true) : formF n g = false := by
  cases h2 : formF n g with
  | false => rfl
  | true =>
    exfalso
    simp only [formF, Bool.and_eq_true, decide_eq_true_eq] at h h2
    obtain ⟨_, h3, h4⟩ := h
    obtain ⟨_, h5, h6⟩ := h2
    have e : pE f = pE g := by omega
    rw [← e] at h6
    generalize pE f = p at *
    have b1 := hf k hk
    have b2 := hg k hk
    rcases Nat.lt_or_ge k p with hkp | hkp
    · have c := sumF_change (f := f) (g := g) hkp fun i hi hn => ho i (by omega) hn
      rw [numF_congr (f := f) (g := g) fun i hi => ho (p + i) (by omega) (by omega)] at h4
      rw [h6] at h4
      omega
    · rw [sumF_congr (f := f) (g := g) fun i hi => ho i (by omega) (by omega), ← h6] at h4
      have e0 : numF f p 2 = 256 * f p + f (p + 1) := by simp [numF]
      have e1 : numF g p 2 = 256 * g p + g (p + 1) := by simp [numF]
      rw [e0, e1] at h4
      have c1 := hf p (by omega)
      have c2 := hf (p + 1) (by omega)
      have c3 := hg p (by omega)
      have c4 := hg (p + 1) (by omega)
      have : k = p ∨ k = p + 1 := by omega
      rcases this with rfl | rfl
      · have := ho (k + 1) (by omega) (by omega); omega
      · have := ho p (by omega) (by omega); omega
theorem readE_changed {n k : Nat} {f g : Nat → Int} (hf : Byt n f) (hg : Byt n g) (hk : k < n) (hne : f k ≠ g k) (ho : ∀ i, i < n → i ≠ k → f i = g i) (h : readE n f = 0) : readE n g = 6 := by
  unfold readE at h ⊢
  split at h
  · cases h
  · rename_i h1
    rw [if_neg h1]
    split at h
    · rename_i h2
      rw [form_changed hf hg hk hne ho h2]
      rfl
    · cases h

/-- A list of bytes stands at a place. -/
def At (f : Nat → Int) (p : Nat) (l : List Int) : Prop := ∀ i, i < l.length → f (p + i) = l.getD i 0
theorem at_app {f : Nat → Int} {p : Nat} {l k : List Int} : At f p (l ++ k) ↔ At f p l ∧ At f (p + l.length) k := by
  constructor
  · intro h
    refine ⟨fun i hi => ?_, fun i hi => ?_⟩
    · rw [h i (by simp; omega)]
      simp [List.getD_eq_getElem?_getD, List.getElem?_append_left hi]
    · rw [Nat.add_assoc, h (l.length + i) (by simp; omega)]
      simp [List.getD_eq_getElem?_getD, List.getElem?_append_right (show l.length ≤ l.length + i by omega)]
  · rintro ⟨h1, h2⟩ i hi
    by_cases h : i < l.length
    · rw [h1 i h]
      simp [List.getD_eq_getElem?_getD, List.getElem?_append_left h]
    · have := h2 (i - l.length) (by simp at hi; omega)
      rw [show p + l.length + (i - l.length) = p + i by omega] at this
      rw [this]
      simp [List.getD_eq_getElem?_getD, List.getElem?_append_right (show l.length ≤ i by omega)]
theorem at_self (l : List Int) : At (fun i => l.getD i 0) 0 l := fun i _ => by rw [Nat.zero_add]
theorem at_eq {f : Nat → Int} {l : List Int} (h : At f 0 l) : (List.range l.length).map f = l := by
  apply List.ext_getElem?
  intro i
  rw [List.getElem?_map]
  by_cases hi : i < l.length
  · have := h i hi
    rw [Nat.zero_add] at this
    rw [List.getElem?_range hi, Option.map_some, this]
    simp [List.getD_eq_getElem?_getD, List.getElem?_eq_getElem hi]
  · rw [List.getElem?_eq_none (by simp; omega), List.getElem?_eq_none (by omega)]
    rfl
theorem at_num {f : Nat → Int} {p : Nat} {l : List Int} (h : At f p l) : ∀ w, w ≤ l.length → numF f p w = valL (l.take w) 0
  | 0, _ => by simp [numF, valL]
  | w + 1, hw => by
    rw [numF, at_num h w (by omega), h w (by omega), List.take_add_one, valL_app]
    simp [List.getD_eq_getElem?_getD, List.getElem?_eq_getElem (show w < l.length by omega), valL]
theorem at_numL {f : Nat → Int} {p w : Nat} {v : Int} (h : At f p (numL v w)) (h0 : 0 ≤ v) (h1 : v < 256 ^ w) : numF f p w = v := by
  have := at_num h w (by rw [numL_len]; exact Nat.le_refl _)
  rw [this, List.take_of_length_le (by rw [numL_len]; exact Nat.le_refl _), valL_num h0 h1]
theorem at_num1 {f : Nat → Int} {p : Nat} {v : Int} (h : At f p (numL v 1)) (h0 : 0 ≤ v) (h1 : v < 256) : f p = v := by
  have := at_numL h h0 (by omega)
  simpa [numF] using this
theorem sum_at {f : Nat → Int} : ∀ {l : List Int}, At f 0 l → sumF f l.length = sumL l := by
  have key : ∀ (l : List Int) (w : Nat), w ≤ l.length → At f 0 l → sumF f w = sumL (l.take w) := by
    intro l w
    induction w with
    | zero => intro _ _; simp [sumF, sumL]
    | succ w ih =>
      intro hw h
      have := h w (by omega)
      rw [Nat.zero_add] at this
      rw [sumF, ih (by omega) h, this, List.take_add_one, sumL_app]
      simp [List.getD_eq_getElem?_getD, List.getElem?_eq_getElem (show w < l.length by omega), sumL]
  intro l h
  rw [key l l.length (Nat.le_refl _) h, List.take_length]
theorem byteAt_get {s : ByteArray} {i : Nat} (hi : i < s.size) : byteAt s i = ((s[i]'hi).toNat : Int) := by
  unfold byteAt
  rw [getElem?_pos s i hi]
  rfl
theorem at_strL {f : Nat → Int} {p : Nat} {s : ByteArray} (h : At f p (strL s)) : strF f p s.size = s := by
  have e : (List.range s.size).map (fun i => f (p + i)) = strL s := by
    apply List.ext_getElem?
    intro i
    rw [List.getElem?_map]
    by_cases hi : i < s.size
    · have hi' : i < (strL s).length := by rw [strL_len]; exact hi
      rw [List.getElem?_range hi, Option.map_some, h i hi']
      simp [List.getD_eq_getElem?_getD, List.getElem?_eq_getElem hi']
    · rw [List.getElem?_eq_none (by simp; omega), List.getElem?_eq_none (by rw [strL_len]; omega)]
      rfl
  unfold strF
  rw [e]
  unfold strL strOfNums
  rw [List.map_map]
  have e2 : (List.range s.size).map ((fun n : Int => UInt8.ofNat n.toNat) ∘ byteAt s) = s.data.toList := by
    apply List.ext_getElem?
    intro i
    rw [List.getElem?_map]
    by_cases hi : i < s.size
    · rw [List.getElem?_range hi, Option.map_some, Function.comp_apply, byteAt_get hi, Int.toNat_natCast]
      have : i < s.data.size := hi
      simp only [Array.getElem?_toList, Array.getElem?_eq_getElem this]
      congr 1
      show UInt8.ofNat (s.data[i]).toNat = s.data[i]
      exact UInt8.ofNat_toNat
    · rw [List.getElem?_eq_none (by simp; omega), List.getElem?_eq_none (by simpa using (by omega : s.size ≤ i))]
      rfl
  rw [e2]
theorem at_cat {f : Nat → Int} {g : Nat → List Int} {p : Nat} : ∀ {n : Nat}, At f p (catL g n) → ∀ i, i < n → At f (p + (catL g i).length) (g i)
  | 0, _, i, hi => absurd hi (by omega)
  | n + 1, h, i, hi => by
    rw [catL, at_app] at h
    rcases Nat.lt_succ_iff_lt_or_eq.1 hi with h1 | rfl
    · exact at_cat h.1 i h1
    · exact h.2
theorem cat_at {f : Nat → Int} {g : Nat → List Int} {p : Nat} : ∀ {n : Nat}, (∀ i, i < n → At f (p + (catL g i).length) (g i)) → At f p (catL g n)
  | 0, _ => fun i hi => by simp [catL] at hi
  | n + 1, h => by
    rw [catL, at_app]
    exact ⟨cat_at fun i hi => h i (by omega), h n (by omega)⟩
theorem cat_len {g : Nat → List Int} {w : Nat} (h : ∀ i, (g i).length = w) : ∀ n, (catL g n).length = w * n
  | 0 => by simp [catL]
  | n + 1 => by rw [catL, List.length_append, cat_len h n, h n, Nat.mul_succ]

theorem hdL_len (t : Task) : (hdL t).length = 10 := by simp [hdL, numL_len]
theorem cutL_len (t : Task) (i : Nat) : (cutL t i).length = 4 := by simp [cutL, numL_len]
theorem srcL_len (t : Task) (i : Nat) : (srcL t i).length = 16 + (t.nm i).size := by
  simp [srcL, numL_len, strL_len]
  omega
theorem sndL_len (t : Task) (i : Nat) : (sndL t i).length = 13 := by simp [sndL, numL_len]
theorem cutsL_len (t : Task) (i : Nat) : (cutsL t i).length = 10 + 4 * i := by rw [cutsL, List.length_append, hdL_len, cat_len (cutL_len t)]
theorem srcsL_len (t : Task) (i : Nat) : (srcsL t i).length = 10 + 4 * t.nc + 1 + (catL (srcL t) i).length := by rw [srcsL, List.length_append, List.length_append, cutsL_len, numL_len]
theorem sndsL_len (t : Task) (i : Nat) : (sndsL t i).length = (srcsL t t.ns).length + 1 + 13 * i := by rw [sndsL, List.length_append, List.length_append, cat_len (sndL_len t), numL_len]
end Go.Proofs.Ytlecbjbjgfpfeaa
end
section
set_option linter.unusedVariables false
set_option linter.unusedSimpArgs false
namespace Go.Proofs.Ytlecbjbjgfpfeaa
open Go.V

/-- Two tasks that say the same. -/
structure TEq (t u : Task) : Prop where
  ns : t.ns = u.ns
  nx : t.nx = u.nx
  nc : t.nc = u.nc
  nm : ∀ i, i < u.ns → t.nm i = u.nm i
  sa : ∀ i j, i < u.ns → j < 6 → t.sa i j = u.sa i j
  xa : ∀ i j, i < u.nx → j < 5 → t.xa i j = u.xa i j
  ca : ∀ i, i < u.nc → t.ca i 0 = u.ca i 0
  age : t.age = u.age
  shear : t.shear = u.shear
theorem anyBelow_congr {p q : Nat → Bool} : ∀ {n : Nat}, (∀ k, k < n → p k = q k) → anyBelow p n = anyBelow q n
  | 0, _ => rfl
  | n + 1, h => by rw [anyBelow, anyBelow, anyBelow_congr fun k hk => h k (by omega), h n (by omega)]
theorem lastOf_congr {p q : Nat → Bool} : ∀ {n : Nat}, (∀ k, k < n → p k = q k) → lastOf p n = lastOf q n
  | 0, _ => rfl
  | n + 1, h => by rw [lastOf, lastOf, lastOf_congr fun k hk => h k (by omega), h n (by omega)]
theorem fe_congr {p q : Nat → Int} : ∀ {n i : Nat}, (∀ k, i ≤ k → k < i + n → p k = q k) → fe p i n = fe q i n
  | 0, _, _ => rfl
  | n + 1, i, h => by rw [fe, fe, h i (by omega) (by omega), fe_congr fun k h1 h2 => h k (by omega) (by omega)]
theorem checkS_congr {t u : Task} (h : TEq t u) : checkS t = checkS u := by
  have h1 : ∀ i, i < u.ns → srcErr t i = srcErr u i := fun i hi => by
    unfold srcErr
    rw [h.nm i hi, anyBelow_congr (p := sameName t i) (q := sameName u i) (fun k hk => by unfold sameName; rw [h.nm k (by omega), h.nm i hi]), h.sa i 0 hi (by omega)]
    unfold srcRange
    rw [h.sa i 1 hi (by omega), h.sa i 2 hi (by omega), h.sa i 3 hi (by omega), h.sa i 4 hi (by omega), h.sa i 5 hi (by omega)]
  have h2 : ∀ i, i < u.nx → sndErr t i = sndErr u i := fun i hi => by
    unfold sndErr
    rw [h.xa i 0 hi (by omega), h.ns]
    by_cases hs : isin (u.xa i 0) 0 (u.ns - 1) = false
    · rw [if_pos hs, if_pos hs]
    · rw [if_neg hs, if_neg hs]
      have hs' : 0 ≤ u.xa i 0 ∧ u.xa i 0 ≤ u.ns - 1 := by
        simpa [isin] using hs
      have hj : (u.xa i 0).toNat < u.ns := by omega
      have e1 : sndRange t i = sndRange u i := by
        unfold sndRange
        rw [h.xa i 0 hi (by omega), h.xa i 1 hi (by omega), h.xa i 2 hi (by omega), h.xa i 3 hi (by omega), h.xa i 4 hi (by omega), h.sa _ 4 hj (by omega), h.sa _ 5 hj (by omega)]
      have e2 : anyBelow (sameSpot t i) i = anyBelow (sameSpot u i) i := anyBelow_congr fun k hk => by
        unfold sameSpot
        rw [h.xa i 0 hi (by omega), h.xa i 1 hi (by omega), h.xa i 2 hi (by omega), h.xa k 0 (by omega) (by omega), h.xa k 1 (by omega) (by omega), h.xa k 2 (by omega) (by omega)]
      have e3 : lastS t i = lastS u i := lastOf_congr fun k hk => by
        unfold sameSrc
        rw [h.xa i 0 hi (by omega), h.xa k 0 (by omega) (by omega)]
      have e4 : falls t i = falls u i := by
        unfold falls
        rw [e3, h.xa i 0 hi (by omega), h.sa _ 0 hj (by omega), h.xa i 1 hi (by omega), h.xa i 2 hi (by omega)]
        by_cases hl : 0 ≤ lastS u i
        · have hb := lastOf_bound (p := sameSrc u i) (n := i)
          have hb : (lastS u i).toNat < u.nx := by unfold lastS at hl ⊢; omega
          rw [h.xa _ 1 hb (by omega), h.xa _ 2 hb (by omega)]
        · have e : decide (0 ≤ lastS u i) = false := by simpa using hl
          simp only [e, Bool.and_false, Bool.false_and]
      rw [e1, e2, e4]
  have h3 : ∀ i, i < u.nc → cutErr t i = cutErr u i := fun i hi => by
    unfold cutErr
    rw [h.ca i hi]
    by_cases h0 : 0 < i
    · rw [h.ca (i - 1) (by omega)]
    · simp only [h0, false_and]
  unfold checkS check2 check3 check4 tooLong
  rw [h.ns, h.nx, h.nc, h.age, h.shear, fe_congr (p := srcErr t) (q := srcErr u) fun k _ hk => h1 k (by omega), fe_congr (p := sndErr t) (q := sndErr u) fun k _ hk => h2 k (by omega), fe_congr (p := cutErr t) (q := cutErr u) fun k _ hk => h3 k (by omega)]

/-- What a source that Check has looked at is. -/
theorem src_ok {t : Task} (h : checkE t = 0) {i : Nat} (hi : i < t.ns) : (t.nm i).size ≤ 24 ∧ (1 ≤ t.sa i 0 ∧ t.sa i 0 ≤ 3) ∧ (0 ≤ t.sa i 4 ∧ t.sa i 4 ≤ 99999999) ∧ (0 ≤ t.sa i 5 ∧ t.sa i 5 ≤ 99999999) := by
  unfold checkE checkS at h
  split at h
  · cases h
  obtain ⟨h1, _⟩ := pickE_zero h
  have := fe_zero h1 i (Nat.zero_le i) (by omega)
  unfold srcErr at this
  split at this
  · cases this
  rename_i n1
  split at this
  · cases this
  split at this
  · cases this
  rename_i n3
  split at this
  · cases this
  rename_i n4
  simp only [Bool.not_eq_false] at n1 n3 n4
  simp only [nameS, isin, srcRange, Bool.and_eq_true, decide_eq_true_eq] at n1 n3 n4
  omega

theorem src_at {f : Nat → Int} {t : Task} {i p : Nat} : At f p (srcL t i) ↔ At f p (numL (t.sa i 0) 1) ∧ At f (p + 1) (numL (t.sa i 1) 2) ∧ At f (p + 3) (numL (t.sa i 2) 2) ∧ At f (p + 5) (numL (t.sa i 3) 2) ∧ At f (p + 7) (numL (t.sa i 4) 4) ∧ At f (p + 11) (numL (t.sa i 5) 4) ∧
    At f (p + 15) (numL (t.nm i).size 1) ∧ At f (p + 16) (strL (t.nm i)) := by
  unfold srcL
  simp only [at_app, List.length_append, numL_len, Nat.reduceAdd, and_assoc]
theorem snd_at {f : Nat → Int} {t : Task} {i p : Nat} : At f p (sndL t i) ↔ At f p (numL (t.xa i 0) 1) ∧ At f (p + 1) (numL (t.xa i 1) 4) ∧ At f (p + 5) (numL (t.xa i 2) 4) ∧ At f (p + 9) (numL (t.xa i 3 + 32768) 2) ∧ At f (p + 11) (numL (t.xa i 4 + 32768) 2) := by
  unfold sndL
  simp only [at_app, List.length_append, numL_len, Nat.reduceAdd, and_assoc]
theorem hd_at {f : Nat → Int} {t : Task} : At f 0 (hdL t) ↔ At f 0 [87, 73, 78, 68, 1] ∧ At f 5 (numL t.age 2) ∧ At f 7 (numL t.shear 2) ∧ At f 9 (numL t.nc 1) := by
  unfold hdL
  simp only [at_app, List.length_append, numL_len, Nat.reduceAdd, and_assoc, Nat.zero_add, List.length_cons, List.length_nil]
theorem head_at {f : Nat → Int} : At f 0 [87, 73, 78, 68, 1] ↔ headF f = true := by
  unfold headF
  rw [decide_eq_true_eq]
  constructor
  · intro h
    exact ⟨h 0 (by simp), h 1 (by simp), h 2 (by simp), h 3 (by simp), h 4 (by simp)⟩
  · rintro ⟨h0, h1, h2, h3, h4⟩ i hi
    have hi' : i = 0 ∨ i = 1 ∨ i = 2 ∨ i = 3 ∨ i = 4 := by simp at hi; omega
    rcases hi' with rfl | rfl | rfl | rfl | rfl <;> assumption
/-- The parts of a file, each at its place. -/
theorem file_at {f : Nat → Int} {t : Task} : At f 0 (fileL t) ↔ (headF f = true ∧ At f 5 (numL t.age 2) ∧ At f 7 (numL t.shear 2) ∧ At f 9 (numL t.nc 1)) ∧ At f 10 (catL (cutL t) t.nc) ∧ At f (10 + 4 * t.nc) (numL t.ns 1) ∧
    At f (10 + 4 * t.nc + 1) (catL (srcL t) t.ns) ∧ At f (srcsL t t.ns).length (numL t.nx 1) ∧ At f ((srcsL t t.ns).length + 1) (catL (sndL t) t.nx) ∧ At f (bodyL t).length (numL (sumL (bodyL t) % 65536) 2) := by
  unfold fileL
  rw [at_app, Nat.zero_add]
  have e1 : At f 0 (bodyL t) ↔ At f 0 (srcsL t t.ns) ∧ At f (srcsL t t.ns).length (numL t.nx 1) ∧ At f ((srcsL t t.ns).length + 1) (catL (sndL t) t.nx) := by
    unfold bodyL sndsL
    simp only [at_app, List.length_append, numL_len, Nat.zero_add, and_assoc]
  have e2 : At f 0 (srcsL t t.ns) ↔ At f 0 (cutsL t t.nc) ∧ At f (10 + 4 * t.nc) (numL t.ns 1) ∧ At f (10 + 4 * t.nc + 1) (catL (srcL t) t.ns) := by
    unfold srcsL
    simp only [at_app, List.length_append, numL_len, cutsL_len, Nat.zero_add, and_assoc]
  have e3 : At f 0 (cutsL t t.nc) ↔ At f 0 (hdL t) ∧ At f 10 (catL (cutL t) t.nc) := by
    unfold cutsL
    simp only [at_app, hdL_len, Nat.zero_add]
  rw [e1, e2, e3, hd_at, head_at]
  simp only [and_assoc]
theorem body_len (t : Task) : (bodyL t).length = (srcsL t t.ns).length + 1 + 13 * t.nx := sndsL_len t t.nx

/-- Read of Write is the task. -/
theorem file_task {t : Task} (h : checkE t = 0) {f : Nat → Int} (hf : At f 0 (fileL t)) : TEq (readT f) t ∧ pE f = (bodyL t).length ∧ headF f = true ∧ numF f (bodyL t).length 2 = sumL (bodyL t) % 65536 := by
  have ok := checkE_ok h
  have bnc := ok.nc
  have bns := ok.ns
  have bnx := ok.nx
  obtain ⟨⟨a1, a2, a3, a4⟩, a5, a6, a7, a8, a9, a10⟩ := file_at.1 hf
  have hnc : ncF f = t.nc := by
    unfold ncF
    rw [at_num1 a4 (by omega) (by omega), Int.toNat_natCast]
  have hps : pSs f = 10 + 4 * t.nc := by rw [pSs, hnc]
  have hns : nsF f = t.ns := by
    unfold nsF
    rw [hps, at_num1 a6 (by omega) (by omega), Int.toNat_natCast]
  have hsrc : ∀ i, i < t.ns → At f (10 + 4 * t.nc + 1 + (catL (srcL t) i).length) (srcL t i) := fun i hi => at_cat a7 i hi
  have hln : ∀ p i, i < t.ns → At f p (srcL t i) → lnF f p = (t.nm i).size := fun p i hi ha => by
    unfold lnF
    have := (src_ok h hi).1
    rw [at_num1 (src_at.1 ha).2.2.2.2.2.2.1 (by omega) (by omega), Int.toNat_natCast]
  have hpS : ∀ i, i ≤ t.ns → pS f i = 10 + 4 * t.nc + 1 + (catL (srcL t) i).length := by
    intro i
    induction i with
    | zero => intro _; rw [pS, hps]; simp [catL]
    | succ i ih =>
      intro hi
      have e := ih (by omega)
      rw [pS, e, hln _ i (by omega) (hsrc i (by omega)), catL, List.length_append, srcL_len]
      omega
  have hXs : pXs f = (srcsL t t.ns).length := by rw [pXs, hns, hpS _ (Nat.le_refl _), srcsL_len]
  have hnx : nxF f = t.nx := by
    unfold nxF
    rw [hXs, at_num1 a8 (by omega) (by omega), Int.toNat_natCast]
  have hpX : ∀ i, pX f i = (srcsL t t.ns).length + 1 + 13 * i := fun i => by rw [pX, hXs]
  have hE : pE f = (bodyL t).length := by rw [pE, hnx, hpX, body_len]
  have hs : ∀ i, i < t.ns → At f (pS f i) (srcL t i) := fun i hi => by rw [hpS i (by omega)]; exact hsrc i hi
  have hx : ∀ i, i < t.nx → At f (pX f i) (sndL t i) := fun i hi => by
    have := at_cat a9 i hi
    rw [cat_len (sndL_len t)] at this
    rw [hpX]; exact this
  have hc : ∀ i, i < t.nc → At f (10 + 4 * i) (cutL t i) := fun i hi => by
    have := at_cat a5 i hi
    rwa [cat_len (cutL_len t)] at this
  refine ⟨⟨hns, hnx, hnc, fun i hi => ?_, fun i j hi hj => ?_, fun i j hi hj => ?_, fun i hi => ?_, ?_, ?_⟩, hE, a1, ?_⟩
  · show nmF f i = t.nm i
    unfold nmF
    rw [hln _ i hi (hs i hi)]
    exact at_strL (src_at.1 (hs i hi)).2.2.2.2.2.2.2
  · obtain ⟨b0, b1, b2, b3, b4, b5, _, _⟩ := src_at.1 (hs i hi)
    obtain ⟨_, k0, k4, k5⟩ := src_ok h hi
    have k1 := ok.err i hi
    have k2 := ok.late i hi
    have k3 := ok.life i hi
    have hj' : j = 0 ∨ j = 1 ∨ j = 2 ∨ j = 3 ∨ j = 4 ∨ j = 5 := by omega
    rcases hj' with rfl | rfl | rfl | rfl | rfl | rfl
    · exact at_numL b0 (by omega) (by omega)
    · exact at_numL b1 (by omega) (by omega)
    · exact at_numL b2 (by omega) (by omega)
    · exact at_numL b3 (by omega) (by omega)
    · exact at_numL b4 (by omega) (by omega)
    · exact at_numL b5 (by omega) (by omega)
  · obtain ⟨b0, b1, b2, b3, b4⟩ := snd_at.1 (hx i hi)
    have k0 := ok.src i hi
    have k1 := ok.tick i hi
    have k2 := ok.height i hi
    have k3 := ok.x i hi
    have k4 := ok.y i hi
    have hj' : j = 0 ∨ j = 1 ∨ j = 2 ∨ j = 3 ∨ j = 4 := by omega
    rcases hj' with rfl | rfl | rfl | rfl | rfl
    · exact at_numL b0 (by omega) (by omega)
    · exact at_numL b1 (by omega) (by omega)
    · exact at_numL b2 (by omega) (by omega)
    · show numF f (pX f i + 9) 2 - 32768 = _
      rw [at_numL b3 (by omega) (by omega)]
      omega
    · show numF f (pX f i + 11) 2 - 32768 = _
      rw [at_numL b4 (by omega) (by omega)]
      omega
  · have k := ok.cut i hi
    exact at_numL (hc i hi) (by omega) (by omega)
  · have k := ok.age
    exact at_numL a2 (by omega) (by omega)
  · have k := ok.shear
    exact at_numL a3 (by omega) (by omega)
  · exact at_numL a10 (Int.emod_nonneg _ (by omega)) (by have := Int.emod_lt_of_pos (sumL (bodyL t)) (show (0 : Int) < 65536 by omega); omega)
theorem file_len (t : Task) : (fileL t).length = (bodyL t).length + 2 := by rw [fileL, List.length_append, numL_len]
theorem srcs_le {t : Task} (h : checkE t = 0) : ∀ n, n ≤ t.ns → (catL (srcL t) n).length ≤ 40 * n
  | 0, _ => by simp [catL]
  | n + 1, hn => by
    have := srcs_le h n (by omega)
    have k := (src_ok h (show n < t.ns by omega)).1
    rw [catL, List.length_append, srcL_len]
    omega
theorem file_le {t : Task} (h : checkE t = 0) : (fileL t).length ≤ 2000 := by
  have ok := checkE_ok h
  have bnc := ok.nc
  have bns := ok.ns
  have bnx := ok.nx
  have := srcs_le h t.ns (Nat.le_refl _)
  rw [file_len, body_len, srcsL_len]
  omega
def fileF (t : Task) (i : Nat) : Int := (fileL t).getD i 0
theorem fileF_at (t : Task) : At (fileF t) 0 (fileL t) := at_self _
theorem read_file {t : Task} (h : checkE t = 0) : readE (fileL t).length (fileF t) = 0 ∧ TEq (readT (fileF t)) t := by
  obtain ⟨h1, h2, h3, h4⟩ := file_task h (fileF_at t)
  refine ⟨?_, h1⟩
  unfold readE
  have hl := file_le h
  have hs : sumF (fileF t) (bodyL t).length = sumL (bodyL t) := sum_at (by
    have := fileF_at t
    unfold fileL at this
    exact (at_app.1 this).1)
  have hform : formF (fileL t).length (fileF t) = true := by
    simp only [formF, Bool.and_eq_true, decide_eq_true_eq]
    exact ⟨h3, by rw [h2, file_len], by rw [h2, h4, hs]⟩
  rw [if_neg (by omega), if_pos hform]
  unfold checkE
  rw [checkS_congr h1]
  exact h

/-- Write of Read is the same bytes. -/
theorem numL_cons_last (a b : Int) (hb : 0 ≤ b ∧ b < 256) : ∀ w, numL (256 * a + b) (w + 1) = numL a w ++ [b]
  | 0 => by
    simp only [numL, byteN]
    congr 1
    simp
    omega
  | w + 1 => by
    rw [numL, numL_cons_last a b hb w, numL]
    congr 1
    unfold byteN
    congr 1
    rw [Int.pow_succ, Int.mul_comm (256 ^ w) 256, ← Int.ediv_ediv_of_nonneg (by omega : (0 : Int) ≤ 256)]
    congr 1
    omega
theorem at_numF {n : Nat} {f : Nat → Int} (h : Byt n f) {p : Nat} : ∀ {w : Nat}, p + w ≤ n → At f p (numL (numF f p w) w)
  | 0, _ => fun i hi => by simp [numL] at hi
  | w + 1, hp => by
    rw [numF, numL_cons_last _ _ (h (p + w) (by omega)), at_app, numL_len]
    exact ⟨at_numF h (by omega), fun i hi => by
      have : i = 0 := by simp at hi; omega
      subst this; rfl⟩
theorem at_one {n : Nat} {f : Nat → Int} (h : Byt n f) {p : Nat} (hp : p < n) {m : Nat} (hm : m = (f p).toNat) : At f p (numL m 1) := by
  have hb := h p hp
  have e : (m : Int) = numF f p 1 := by
    simp only [numF, Nat.add_zero]
    omega
  rw [e]
  exact at_numF h (by omega)
theorem at_strF {n : Nat} {f : Nat → Int} (h : Byt n f) {p m : Nat} (hp : p + m ≤ n) : At f p (strL (strF f p m)) := fun i hi => by
  have hsz : (strF f p m).size = m := by unfold strF; rw [strOfNums_size]; simp
  rw [strL_len, hsz] at hi
  have hi' : i < (strF f p m).size := by omega
  unfold strL
  rw [List.getD_eq_getElem?_getD, List.getElem?_map, List.getElem?_range hi', Option.map_some, Option.getD_some, byteAt_get hi']
  have hb := h (p + i) (by omega)
  have hd : (strF f p m).data.toList[i]? = some (UInt8.ofNat (f (p + i)).toNat) := by
    unfold strF
    rw [strOfNums_data, List.getElem?_map, List.getElem?_map, List.getElem?_range hi]
    rfl
  have he : (strF f p m)[i] = UInt8.ofNat (f (p + i)).toNat := by
    have h2 : i < (strF f p m).data.size := hi'
    have h3 : (strF f p m).data[i]? = some (strF f p m).data[i] := Array.getElem?_eq_getElem h2
    rw [Array.getElem?_toList] at hd
    rw [h3] at hd
    injection hd
  rw [he, UInt8.toNat_ofNat']
  omega
theorem strF_size (f : Nat → Int) (p m : Nat) : (strF f p m).size = m := by unfold strF; rw [strOfNums_size]; simp
theorem pS_len (f : Nat → Int) : ∀ i, pS f i = 10 + 4 * ncF f + 1 + (catL (srcL (readT f)) i).length
  | 0 => by rw [pS, pSs]; simp [catL]
  | i + 1 => by
    have e : ((readT f).nm i).size = lnF f (pS f i) := strF_size _ _ _
    rw [pS, catL, List.length_append, srcL_len, e]
    have := pS_len f i
    omega
theorem pS_mono (f : Nat → Int) {i : Nat} : ∀ {k : Nat}, i < k → pS f i + 16 + lnF f (pS f i) ≤ pS f k
  | 0, h => absurd h (by omega)
  | k + 1, h => by
    rcases Nat.lt_succ_iff_lt_or_eq.1 h with h1 | rfl
    · have := pS_mono f h1
      rw [pS]
      omega
    · rw [pS]
      exact Nat.le_refl _
theorem pS_ge (f : Nat → Int) (k : Nat) : pSs f + 1 ≤ pS f k := by
  cases k with
  | zero => exact Nat.le_refl _
  | succ k => have := pS_mono f (show 0 < k + 1 by omega); have e : pS f 0 = pSs f + 1 := rfl; omega
theorem pE_eq (f : Nat → Int) : pE f = pS f (nsF f) + 1 + 13 * nxF f := rfl
theorem read_len (f : Nat → Int) : (bodyL (readT f)).length = pE f := by
  rw [body_len, srcsL_len]
  have := pS_len f (nsF f)
  rw [pE_eq, this]
  rfl
theorem file_of_read {n : Nat} {f : Nat → Int} (hb : Byt n f) (h : formF n f = true) : (fileL (readT f)).length = n ∧ At f 0 (fileL (readT f)) := by
  simp only [formF, Bool.and_eq_true, decide_eq_true_eq] at h
  obtain ⟨h1, h2, h3⟩ := h
  have hl := read_len f
  have hpE := pE_eq f
  have hge := pS_ge f (nsF f)
  have hss : pSs f = 10 + 4 * ncF f := rfl
  have hsl : (srcsL (readT f) (readT f).ns).length = pS f (nsF f) := by
    rw [srcsL_len]
    exact (pS_len f (nsF f)).symm
  refine ⟨by rw [file_len, hl, h2], ?_⟩
  have hbody : At f 0 (bodyL (readT f)) → At f 0 (fileL (readT f)) := fun hB => by
    unfold fileL
    rw [at_app, Nat.zero_add]
    refine ⟨hB, ?_⟩
    rw [← sum_at hB, hl, ← h3]
    exact at_numF hb (by omega)
  apply hbody
  have e1 : At f 0 (bodyL (readT f)) ↔ At f 0 (srcsL (readT f) (nsF f)) ∧ At f (pS f (nsF f)) (numL (nxF f) 1) ∧ At f (pS f (nsF f) + 1) (catL (sndL (readT f)) (nxF f)) := by
    unfold bodyL sndsL
    simp only [at_app, List.length_append, numL_len, Nat.zero_add, and_assoc, hsl]
    exact Iff.rfl
  have e2 : At f 0 (srcsL (readT f) (nsF f)) ↔ At f 0 (cutsL (readT f) (ncF f)) ∧ At f (10 + 4 * ncF f) (numL (nsF f) 1) ∧ At f (10 + 4 * ncF f + 1) (catL (srcL (readT f)) (nsF f)) := by
    unfold srcsL
    simp only [at_app, List.length_append, numL_len, cutsL_len, Nat.zero_add, and_assoc]
    exact Iff.rfl
  have e3 : At f 0 (cutsL (readT f) (ncF f)) ↔ At f 0 (hdL (readT f)) ∧ At f 10 (catL (cutL (readT f)) (ncF f)) := by
    unfold cutsL
    simp only [at_app, hdL_len, Nat.zero_add]
  rw [e1, e2, e3, hd_at, head_at]
  refine ⟨⟨⟨⟨h1, at_numF hb (by omega), at_numF hb (by omega), at_one hb (by omega) rfl⟩, cat_at fun i hi => ?_⟩, at_one hb (by omega) rfl, cat_at fun i hi => ?_⟩, at_one hb (by omega) rfl, cat_at fun i hi => ?_⟩
  · rw [cat_len (cutL_len _)]
    exact at_numF hb (by omega)
  · rw [← pS_len f i, src_at]
    have hm := pS_mono f hi
    refine ⟨at_numF hb (by omega), at_numF hb (by omega), at_numF hb (by omega), at_numF hb (by omega), at_numF hb (by omega), at_numF hb (by omega), ?_, at_strF hb (by omega)⟩
    exact at_one hb (by omega) (strF_size _ _ _)
  · rw [cat_len (sndL_len _), snd_at]
    have hx : pX f i = pS f (nsF f) + 1 + 13 * i := rfl
    rw [← hx]
    refine ⟨at_numF hb (by omega), at_numF hb (by omega), at_numF hb (by omega), ?_, ?_⟩
    · have e : (readT f).xa i 3 + 32768 = numF f (pX f i + 9) 2 := by
        show numF f (pX f i + 9) 2 - 32768 + 32768 = _
        omega
      rw [e]
      exact at_numF hb (by omega)
    · have e : (readT f).xa i 4 + 32768 = numF f (pX f i + 11) 2 := by
        show numF f (pX f i + 11) 2 - 32768 + 32768 = _
        omega
      rw [e]
      exact at_numF hb (by omega)
theorem read_form {n : Nat} {f : Nat → Int} (h : readE n f = 0) : n ≤ 2000 ∧ formF n f = true ∧ checkE (readT f) = 0 := by
  unfold readE at h
  split at h
  · cases h
  split at h
  · exact ⟨by omega, by assumption, h⟩
  · cases h
end Go.Proofs.Ytlecbjbjgfpfeaa
end
