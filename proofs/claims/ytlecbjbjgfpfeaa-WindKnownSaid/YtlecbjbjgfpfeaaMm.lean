/-
  Files of soundings: parse (contract).
-/
import Derived.Test.YtlecbjbjgfpfeaaMl
section
set_option linter.unusedVariables false
set_option linter.unusedSimpArgs false
set_option maxRecDepth 100000
set_option maxHeartbeats 4000000
namespace Go.Proofs.Ytlecbjbjgfpfeaa
open Go.V

/-- Bytes from a place on. -/
def bP (f : Nat → Int) (p i _j : Nat) : V.D := .int .u8 (f (p + i))
theorem numF_shift {f g : Nat → Int} {p q : Nat} : ∀ {w : Nat}, (∀ i, i < w → f (p + i) = g (q + i)) → numF f p w = numF g q w
  | 0, _ => rfl
  | w + 1, h => by rw [numF, numF, numF_shift (w := w) fun i hi => h i (by omega), h w (by omega)]
theorem head_str {n : Nat} {f : Nat → Int} (hb : Byt n f) (hn : 5 ≤ n) : (strOfNums [f 0, f 1, f 2, f 3, f 4] = ⟨#[87, 73, 78, 68, 1]⟩) ↔ headF f = true := by
  unfold headF strOfNums
  rw [decide_eq_true_eq]
  have h0 := hb 0 (by omega)
  have h1 := hb 1 (by omega)
  have h2 := hb 2 (by omega)
  have h3 := hb 3 (by omega)
  have h4 := hb 4 (by omega)
  have key : ∀ (x : Int) (k : Nat), 0 ≤ x → x < 256 → k < 256 → (UInt8.ofNat x.toNat = UInt8.ofNat k ↔ x = k) := fun x k a b c => by
    constructor
    · intro h
      have := congrArg UInt8.toNat h
      rw [UInt8.toNat_ofNat', UInt8.toNat_ofNat'] at this
      omega
    · intro h
      subst h
      rfl
  simp only [List.map_cons, List.map_nil, ByteArray.mk.injEq, List.toArray_eq_iff]
  constructor
  · intro h
    simp only [List.cons.injEq] at h
    obtain ⟨e0, e1, e2, e3, e4, _⟩ := h
    exact ⟨(key _ 87 h0.1 h0.2 (by omega)).1 e0, (key _ 73 h1.1 h1.2 (by omega)).1 e1, (key _ 78 h2.1 h2.2 (by omega)).1 e2, (key _ 68 h3.1 h3.2 (by omega)).1 e3, (key _ 1 h4.1 h4.2 (by omega)).1 e4⟩
  · rintro ⟨e0, e1, e2, e3, e4⟩
    rw [e0, e1, e2, e3, e4]
    rfl
theorem form_head {n : Nat} {f : Nat → Int} (h : headF f = false) : formF n f = false := by unfold formF; rw [h]; rfl

theorem form_sum {n : Nat} {f : Nat → Int} (h : numF f (pE f) 2 ≠ sumF f (pE f) % 65536) : formF n f = false := by
  unfold formF
  rw [decide_eq_false h, Bool.and_false, Bool.and_false]
theorem form_gt {n : Nat} {f : Nat → Int} (h : pE f + 2 < n) : formF n f = false := by
  unfold formF
  rw [decide_eq_false (show ¬ pE f + 2 = n by omega), Bool.false_and, Bool.and_false]
theorem form_ok {n : Nat} {f : Nat → Int} (h : headF f = true) (h1 : pE f + 2 = n) (h2 : numF f (pE f) 2 = sumF f (pE f) % 65536) : formF n f = true := by
  unfold formF
  rw [h, decide_eq_true h1, decide_eq_true h2]
  rfl
theorem form_ne {n : Nat} {f : Nat → Int} (h : n < pE f + 2) : formF n f = false := form_short (q := pE f + 2) (w := 0) (by omega) (by omega)
theorem head_bad {n : Nat} {f : Nat → Int} (hb : Byt n f) (hn : (5 : Int) ≤ n) (h : (!decide (strOfNums (List.map (fun i => numOf (bD f i 0)) (List.range (Int.toNat 5))) = ⟨#[87, 73, 78, 68, 1]⟩)) = true) : formF n f = false := by
  refine form_head ?_
  cases e : headF f with
  | false => rfl
  | true =>
    have e2 := (head_str hb (by omega)).2 e
    have e3 : strOfNums (List.map (fun i => numOf (bD f i 0)) (List.range (Int.toNat 5))) = strOfNums [f 0, f 1, f 2, f 3, f 4] := rfl
    rw [e3, e2] at h
    simp at h
theorem head_good {n : Nat} {f : Nat → Int} (hb : Byt n f) (hn : (5 : Int) ≤ n) (h : (!decide (strOfNums (List.map (fun i => numOf (bD f i 0)) (List.range (Int.toNat 5))) = ⟨#[87, 73, 78, 68, 1]⟩)) = false) : headF f = true := by
  have e3 : strOfNums (List.map (fun i => numOf (bD f i 0)) (List.range (Int.toNat 5))) = strOfNums [f 0, f 1, f 2, f 3, f 4] := rfl
  rw [e3] at h
  exact (head_str hb (by omega)).1 (by simpa using h)
theorem numF_1 {f : Nat → Int} {p : Nat} : numF f p 1 = f p := by simp [numF]
theorem one_ln {n : Nat} {f : Nat → Int} (hb : Byt n f) {p : Nat} (hp : p < n) {x : Int} (hx : x = f p) : x = ((f p).toNat : Int) := by
  have := hb p hp
  omega
theorem num1_eq {g : Nat → Int} {x : Int} (h : g 0 = x) : numF g 0 (Int.toNat 1) = x := by
  have e : numF g 0 (Int.toNat 1) = g 0 := numF_1
  rw [e, h]
theorem num2_in {g : Nat → Int} (h : 0 ≤ g 0 ∧ g 0 < 256) (h' : 0 ≤ g 1 ∧ g 1 < 256) : 0 ≤ numF g 0 (Int.toNat 2) ∧ numF g 0 (Int.toNat 2) < 65536 := by
  have e : numF g 0 (Int.toNat 2) = 256 * (256 * 0 + g 0) + g 1 := rfl
  rw [e]
  omega
theorem sub_in {x : Int} (h : 0 ≤ x ∧ x < 65536) : -9223372036854775808 ≤ x - 32768 ∧ x - 32768 ≤ 9223372036854775807 := by omega
theorem num1_in {g : Nat → Int} (h : 0 ≤ g 0 ∧ g 0 < 256) : 0 ≤ numF g 0 (Int.toNat 1) ∧ numF g 0 (Int.toNat 1) ≤ 100000 := by
  have e : numF g 0 (Int.toNat 1) = g 0 := numF_1
  rw [e]
  omega
theorem snocI {m i : Nat} {cells : List V.D} {a : Nat → Nat → Int} (h : ∀ j, j < m → cells.getD j .top = imD a i j) : ∀ i' j', i' < i + 1 → j' < m → (if i' < i then imD a i' j' else cells.getD ((i' - i) * m + j') .top) = imD a i' j' := fun i' j' hi hj => by
  by_cases h1 : i' < i
  · rw [if_pos h1]
  · rw [if_neg h1]
    obtain rfl : i' = i := by omega
    rw [Nat.sub_self, Nat.zero_mul, Nat.zero_add]
    exact h j' hj
theorem snocS {m i : Nat} {cells : List V.D} {nm : Nat → ByteArray} {a : Nat → Nat → Int} (h : ∀ j, j < m → cells.getD j .top = smD nm a i j) : ∀ i' j', i' < i + 1 → j' < m → (if i' < i then smD nm a i' j' else cells.getD ((i' - i) * m + j') .top) = smD nm a i' j' := fun i' j' hi hj => by
  by_cases h1 : i' < i
  · rw [if_pos h1]
  · rw [if_neg h1]
    obtain rfl : i' = i := by omega
    rw [Nat.sub_self, Nat.zero_mul, Nat.zero_add]
    exact h j' hj
def taskO (f : Nat → Int) : V.D := .agg [.own 5 (nsF f), .own 6 (nxF f), .own 4 (ncF f), .int .i64 (numF f 5 2), .int .i64 (numF f 7 2)]
def task0 (e : Int) : V.D := .tup [.agg [.nilS, .nilS, .nilS, .int .i64 0, .int .i64 0], .int .i64 e]
def pHd (n : Nat) (f : Nat → Int) : HL := [some (.row [.own 5 (nsF f), .own 6 (nxF f), .own 4 (ncF f), .int .i64 (numF f 5 2), .int .i64 (numF f 7 2)]), some (.row [.int .i64 0]), some (.row [.rsl 1 (n - (pE f + 2)) (bP f (pE f + 2))]),
  some (.row [.fn 55 [] [.ptr 2 0]]), some (.buf 3 1 (ncF f) (imD (caF f))), some (.buf 74 7 (nsF f) (smD (nmF f) (saF f))), some (.buf 76 5 (nxF f) (imD (xaF f)))]
def rParseC : CRule := fun ds H K => ∃ (n : Nat) (f : Nat → Int), ds = [.rsl 1 n (bD f)] ∧ H = [] ∧ (Byt n f ∧ n ≤ 2000) ∧ (formF n f = false → K (.ret (task0 6)) []) ∧ (formF n f = true → K (.ret (.tup [taskO f, .int .i64 0])) (pHd n f))
noncomputable def Lpar : Libs := ⟨lrf1, [(55, frameC rTakeC), (56, frameC rNumberC)], [], [(54, inlD (cxOf tab lrf1) Go.Proofs.Try.f54 (codeOf Go.Proofs.Try.f54))]⟩
theorem Lpar_ok : LibsOK Go.Proofs.Try.prog Lpar := ⟨lrf1_ok, asGet_cons (csound_frame fTake_ok) (asGet_cons (csound_frame fNumber_ok) fun g s h => by cases h), fun f r h => (by cases h),
  asGet_cons (dsound_of Try.func54 (by kernel_rfl) rfl rfl (ctx lrf1_ok)) (fun g s h => by cases h)⟩
attribute [local irreducible] formF pE
theorem fParse_ok : CSound Go.Proofs.Try.prog 31 rParseC := by
  refine csound_mono (fit_ok (csound_in Try.func31 (by kernel_rfl) rfl (ctxA Lpar_ok))) fun ds H K h => ?_
  obtain ⟨n, f, rfl, rfl, ⟨hb, hn⟩, hk1, hk⟩ := h
  have hE0 : 10 + 4 * ncF f + 2 ≤ pE f := by
    have h1 := pE_eq f
    have h2 := pS_ge f (nsF f)
    have h3 : pSs f = 10 + 4 * ncF f := rfl
    omega
  repeat' (first | ((with_reducible refine kok ?_); kernel_rfl) | ((with_reducible refine keq_mk ?_); kernel_rfl) | with_reducible rfl | ((conv => whnf); first | (with_reducible exact trivial) | ((with_reducible refine and_ff ?_ ?_); · exact rfl) | ((with_reducible refine and_tt ?_ ?_); · exact rfl) | (with_reducible refine And.intro ?_ ?_) | intro _ | (with_reducible refine fin2 hk ?_) | ((with_reducible refine eq_leaf ?_); exact rfl) | exact trivial))
  all_goals try exact (hb _ (by simp only [Int.reduceToNat] at *; omega)).1
  all_goals try exact (hb _ (by simp only [Int.reduceToNat] at *; omega)).2
  all_goals try ((first | with_reducible refine (?_ : (_ : Int) ≤ _) | with_reducible refine (?_ : (_ : Int) < _) | with_reducible refine (?_ : (_ : Nat) ≤ _) | with_reducible refine (?_ : (_ : Nat) < _)); clear hk; first | omega | (simp only [Int.toNat_natCast, Int.reduceToNat]; omega))
  all_goals try (
    conv => whnf
    refine Or.inl ⟨task0 6, [], ?_⟩
    repeat' (first | ((with_reducible refine kok ?_); kernel_rfl) | ((with_reducible refine keq_mk ?_); kernel_rfl) | with_reducible rfl | ((conv => whnf); first | (with_reducible exact trivial) | ((with_reducible refine and_ff ?_ ?_); · exact rfl) | ((with_reducible refine and_tt ?_ ?_); · exact rfl) | (with_reducible refine And.intro ?_ ?_) | intro _ | (with_reducible refine fin2 hk ?_) | ((with_reducible refine eq_leaf ?_); exact rfl) | exact trivial))
    refine hk1 ?_
    clear hk hk1
    first
      | exact head_bad hb (by assumption) (by assumption)
      | (refine form_ne ?_
         (try simp only [Int.reduceToNat] at *)
         omega))
  have hhd : headF f = true := head_good hb (by assumption) (by assumption)
  have hn10 : 10 ≤ n := by
    clear hk hk1
    simp only [Int.reduceToNat] at *
    omega
  conv => whnf
  refine ⟨Nat, fun i => [(0, .rsl 1 n (bD f)), (2, .ptr 0 0), (3, .ptr 1 0), (4, .ptr 2 0), (5, .ptr 3 0), (6, .fn 56 [] [.ptr 3 0]), (26, .int .i64 (ncF f)), (27, .int .i64 i)],
    fun i => [some (.row [.nilS, .nilS, .own 4 i, .int .i64 (numF f 5 2), .int .i64 (numF f 7 2)]), some (.row [.int .i64 0]), some (.row [.rsl 1 (n - (10 + 4 * i)) (bP f (10 + 4 * i))]), some (.row [.fn 55 [] [.ptr 2 0]]), some (.buf 3 1 i (imD (caF f)))],
    fun i => ncF f - i, fun i => i ≤ ncF f ∧ 10 + 4 * i ≤ n, [(3, 1)], 0, fun _ => ⟨?_, ?_⟩, ?_, fun i hI => ?_⟩
  · conv => lhs; whnf
  · conv => lhs; whnf
  · clear hk hk1
    repeat' (first | ((with_reducible refine kok ?_); kernel_rfl) | ((with_reducible refine keq_mk ?_); kernel_rfl) | with_reducible rfl | ((conv => whnf); first | (with_reducible exact trivial) | ((with_reducible refine and_ff ?_ ?_); · exact rfl) | ((with_reducible refine and_tt ?_ ?_); · exact rfl) | (with_reducible refine And.intro ?_ ?_) | intro _ | (with_reducible refine fin2 hk ?_) | ((with_reducible refine eq_leaf ?_); exact rfl) | exact trivial))
    all_goals first
      | exact Nat.zero_le _
      | exact hn10
      | exact absurd (by assumption) (Nat.not_lt_zero _)
      | (refine one_ln hb (p := 9) (by omega) ?_; show (256 : Int) * 0 + f 9 = f 9; omega)
      | (show (D.int .u8 (f _) : V.D) = D.int .u8 (f _); refine congrArg (D.int .u8) (congrArg f ?_); simp only [Int.reduceToNat]; omega)
      | skip
  obtain ⟨hI, hin⟩ := hI
  conv => whnf
  refine ⟨fun g1 => ?_, fun g1 => ?_⟩
  rotate_left
  · have e : i = ncF f := by have := of_decide_eq_false g1; omega
    subst e
    repeat' (first | ((with_reducible refine kok ?_); kernel_rfl) | ((with_reducible refine keq_mk ?_); kernel_rfl) | with_reducible rfl | ((conv => whnf); first | (with_reducible exact trivial) | ((with_reducible refine and_ff ?_ ?_); · exact rfl) | ((with_reducible refine and_tt ?_ ?_); · exact rfl) | (with_reducible refine And.intro ?_ ?_) | intro _ | (with_reducible refine fin2 hk ?_) | ((with_reducible refine eq_leaf ?_); exact rfl) | exact trivial))
    all_goals try ((first | with_reducible refine (?_ : (_ : Int) ≤ _) | with_reducible refine (?_ : (_ : Int) < _) | with_reducible refine (?_ : (_ : Nat) ≤ _) | with_reducible refine (?_ : (_ : Nat) < _)); clear hk; first | omega | (simp only [Int.toNat_natCast, Int.reduceToNat]; omega))
    all_goals try ((first | with_reducible refine (?_ : (0 : Int) ≤ toF _ _) | with_reducible refine (?_ : toF _ _ < (256 : Int))); clear hk hk1; first | exact (hb _ (by omega)).1 | exact (hb _ (by omega)).2 | exact (hb _ (by simp only [Int.reduceToNat] at *; omega)).1 | exact (hb _ (by simp only [Int.reduceToNat] at *; omega)).2)
    · conv => whnf
      refine Or.inl ⟨task0 6, [], ?_⟩
      repeat' (first | ((with_reducible refine kok ?_); kernel_rfl) | ((with_reducible refine keq_mk ?_); kernel_rfl) | with_reducible rfl | ((conv => whnf); first | (with_reducible exact trivial) | ((with_reducible refine and_ff ?_ ?_); · exact rfl) | ((with_reducible refine and_tt ?_ ?_); · exact rfl) | (with_reducible refine And.intro ?_ ?_) | intro _ | (with_reducible refine fin2 hk ?_) | ((with_reducible refine eq_leaf ?_); exact rfl) | exact trivial))
      refine hk1 (form_ne ?_)
      clear hk hk1
      omega
    have hn1 : pS f 0 ≤ n := by
      have e1 : pS f 0 = 10 + 4 * ncF f + 1 := rfl
      clear hk hk1
      omega
    have hns : nsF f < 256 := by
      have e1 : pS f 0 = 10 + 4 * ncF f + 1 := rfl
      have e2 : pSs f = 10 + 4 * ncF f := rfl
      have h1 := hb (pSs f) (by omega)
      unfold nsF
      omega
    conv => whnf
    refine ⟨Nat, fun i => [(0, .rsl 1 n (bD f)), (2, .ptr 0 0), (3, .ptr 1 0), (4, .ptr 2 0), (5, .ptr 3 0), (6, .fn 56 [] [.ptr 3 0]), (38, .int .i64 (nsF f)), (39, .int .i64 i)],
      fun i => [some (.row [.own 5 i, .nilS, .own 4 (ncF f), .int .i64 (numF f 5 2), .int .i64 (numF f 7 2)]), some (.row [.int .i64 0]), some (.row [.rsl 1 (n - pS f i) (bP f (pS f i))]), some (.row [.fn 55 [] [.ptr 2 0]]), some (.buf 3 1 (ncF f) (imD (caF f))), some (.buf 74 7 i (smD (nmF f) (saF f)))],
      fun i => nsF f - i, fun i => i ≤ nsF f ∧ pS f i ≤ n, [(74, 7)], 0, fun _ => ⟨?_, ?_⟩, ?_, fun i hI => ?_⟩
    · conv => lhs; whnf
    · conv => lhs; whnf
    · clear hk hk1
      repeat' (first | ((with_reducible refine kok ?_); kernel_rfl) | ((with_reducible refine keq_mk ?_); kernel_rfl) | with_reducible rfl | ((conv => whnf); first | (with_reducible exact trivial) | ((with_reducible refine and_ff ?_ ?_); · exact rfl) | ((with_reducible refine and_tt ?_ ?_); · exact rfl) | (with_reducible refine And.intro ?_ ?_) | intro _ | (with_reducible refine fin2 hk ?_) | ((with_reducible refine eq_leaf ?_); exact rfl) | exact trivial))
      all_goals first
        | exact Nat.zero_le _
        | exact hn1
        | exact absurd (by assumption) (Nat.not_lt_zero _)
        | (refine one_ln hb (p := 10 + 4 * ncF f) (by omega) ?_; show (256 : Int) * 0 + f (10 + 4 * ncF f + 0) = _; simp only [Nat.add_zero]; omega)
        | (show (D.int .u8 (f _) : V.D) = D.int .u8 (f _); refine congrArg (D.int .u8) (congrArg f ?_); show _ = 10 + 4 * ncF f + 1 + _; simp only [Int.reduceToNat]; omega)
        | (show n - (10 + 4 * ncF f) - 1 = n - (10 + 4 * ncF f + 1); omega)
        | skip
    obtain ⟨hI, hin⟩ := hI
    conv => whnf
    refine ⟨fun g1 => ?_, fun g1 => ?_⟩
    rotate_left
    · have e : i = nsF f := by have := of_decide_eq_false g1; omega
      subst e
      repeat' (first | ((with_reducible refine kok ?_); kernel_rfl) | ((with_reducible refine keq_mk ?_); kernel_rfl) | with_reducible rfl | ((conv => whnf); first | (with_reducible exact trivial) | ((with_reducible refine and_ff ?_ ?_); · exact rfl) | ((with_reducible refine and_tt ?_ ?_); · exact rfl) | (with_reducible refine And.intro ?_ ?_) | intro _ | (with_reducible refine fin2 hk ?_) | ((with_reducible refine eq_leaf ?_); exact rfl) | exact trivial))
      all_goals try ((first | with_reducible refine (?_ : (_ : Int) ≤ _) | with_reducible refine (?_ : (_ : Int) < _) | with_reducible refine (?_ : (_ : Nat) ≤ _) | with_reducible refine (?_ : (_ : Nat) < _)); clear hk; first | omega | (simp only [Int.toNat_natCast, Int.reduceToNat]; omega))
      all_goals try ((first | with_reducible refine (?_ : (0 : Int) ≤ toF _ _) | with_reducible refine (?_ : toF _ _ < (256 : Int))); clear hk hk1; first | exact (hb _ (by omega)).1 | exact (hb _ (by omega)).2 | exact (hb _ (by simp only [Int.reduceToNat] at *; omega)).1 | exact (hb _ (by simp only [Int.reduceToNat] at *; omega)).2)
      · conv => whnf
        refine Or.inl ⟨task0 6, [], ?_⟩
        repeat' (first | ((with_reducible refine kok ?_); kernel_rfl) | ((with_reducible refine keq_mk ?_); kernel_rfl) | with_reducible rfl | ((conv => whnf); first | (with_reducible exact trivial) | ((with_reducible refine and_ff ?_ ?_); · exact rfl) | ((with_reducible refine and_tt ?_ ?_); · exact rfl) | (with_reducible refine And.intro ?_ ?_) | intro _ | (with_reducible refine fin2 hk ?_) | ((with_reducible refine eq_leaf ?_); exact rfl) | exact trivial))
        refine hk1 (form_ne ?_)
        clear hk hk1
        have h1 := pE_eq f
        omega
      have hx0 : pX f 0 ≤ n ∧ nxF f < 256 := by
        have e1 : pX f 0 = pS f (nsF f) + 1 + 13 * 0 := rfl
        have e2 : pXs f = pS f (nsF f) := rfl
        clear hk hk1
        have h1 := hb (pXs f) (by omega)
        refine ⟨by omega, ?_⟩
        unfold nxF
        omega
      conv => whnf
      refine ⟨Nat, fun i => [(0, .rsl 1 n (bD f)), (2, .ptr 0 0), (3, .ptr 1 0), (4, .ptr 2 0), (5, .ptr 3 0), (6, .fn 56 [] [.ptr 3 0]), (73, .int .i64 (nxF f)), (74, .int .i64 i)],
        fun i => [some (.row [.own 5 (nsF f), .own 6 i, .own 4 (ncF f), .int .i64 (numF f 5 2), .int .i64 (numF f 7 2)]), some (.row [.int .i64 0]), some (.row [.rsl 1 (n - pX f i) (bP f (pX f i))]), some (.row [.fn 55 [] [.ptr 2 0]]), some (.buf 3 1 (ncF f) (imD (caF f))), some (.buf 74 7 (nsF f) (smD (nmF f) (saF f))),
          some (.buf 76 5 i (imD (xaF f)))],
        fun i => nxF f - i, fun i => i ≤ nxF f ∧ pX f i ≤ n, [(76, 5)], 0, fun _ => ⟨?_, ?_⟩, ?_, fun i hI => ?_⟩
      · conv => lhs; whnf
      · conv => lhs; whnf
      · clear hk hk1
        have e1 : pX f 0 = pS f (nsF f) + 1 := rfl
        repeat' (first | ((with_reducible refine kok ?_); kernel_rfl) | ((with_reducible refine keq_mk ?_); kernel_rfl) | with_reducible rfl | ((conv => whnf); first | (with_reducible exact trivial) | ((with_reducible refine and_ff ?_ ?_); · exact rfl) | ((with_reducible refine and_tt ?_ ?_); · exact rfl) | (with_reducible refine And.intro ?_ ?_) | intro _ | (with_reducible refine fin2 hk ?_) | ((with_reducible refine eq_leaf ?_); exact rfl) | exact trivial))
        all_goals first
          | exact Nat.zero_le _
          | exact hx0.1
          | exact absurd (by assumption) (Nat.not_lt_zero _)
          | (refine one_ln hb (p := pXs f) (by show pS f (nsF f) < n; omega) ?_; show (256 : Int) * 0 + f (pXs f + 0) = _; simp only [Nat.add_zero]; omega)
          | (show (D.int .u8 (f _) : V.D) = D.int .u8 (f _); refine congrArg (D.int .u8) (congrArg f ?_); show _ = pS f (nsF f) + 1 + _; simp only [Int.reduceToNat]; omega)
          | (show n - pS f (nsF f) - 1 = n - (pS f (nsF f) + 1); omega)
          | skip
      obtain ⟨hI, hin⟩ := hI
      have eX : ∀ k, pX f k = pS f (nsF f) + 1 + 13 * k := fun k => rfl
      have hEx := pE_eq f
      conv => whnf
      refine ⟨fun g1 => ?_, fun g1 => ?_⟩
      rotate_left
      · have e : i = nxF f := by have := of_decide_eq_false g1; omega
        subst e
        have hpE : pE f = pX f (nxF f) := by unfold pE; rfl
        have hN : numF (toF (bP f (pX f (nxF f)))) 0 (Int.toNat 2) = numF f (pE f) 2 := by
          rw [hpE]
          exact numF_shift fun q hq => congrArg f (by omega)
        have hS : sumF (toF fun i j => bD f (Int.toNat 0 + i) j) (((n : Int) - ((n - pX f (nxF f) : Nat) : Int)).toNat - Int.toNat 0) = sumF f (pE f) := by
          rw [show ((n : Int) - ((n - pX f (nxF f) : Nat) : Int)).toNat - Int.toNat 0 = pE f from by rw [hpE]; simp only [Int.reduceToNat]; omega]
          exact sumF_congr fun q _ => congrArg f (by simp only [Int.reduceToNat]; omega)
        repeat' (first | ((with_reducible refine kok ?_); kernel_rfl) | ((with_reducible refine keq_mk ?_); kernel_rfl) | with_reducible rfl | ((conv => whnf); first | (with_reducible exact trivial) | ((with_reducible refine and_ff ?_ ?_); · exact rfl) | ((with_reducible refine and_tt ?_ ?_); · exact rfl) | (with_reducible refine And.intro ?_ ?_) | intro _ | (with_reducible refine fin2 hk ?_) | ((with_reducible refine eq_leaf ?_); exact rfl) | exact trivial))
        all_goals try ((first | with_reducible refine (?_ : (_ : Int) ≤ _) | with_reducible refine (?_ : (_ : Int) < _) | with_reducible refine (?_ : (_ : Nat) ≤ _) | with_reducible refine (?_ : (_ : Nat) < _)); clear hk; first | omega | (simp only [Int.toNat_natCast, Int.reduceToNat]; omega))
        all_goals try ((first | with_reducible refine (?_ : (0 : Int) ≤ toF _ _) | with_reducible refine (?_ : toF _ _ < (256 : Int))); clear hk hk1; first | exact (hb _ (by omega)).1 | exact (hb _ (by omega)).2 | exact (hb _ (by simp only [Int.reduceToNat] at *; omega)).1 | exact (hb _ (by simp only [Int.reduceToNat] at *; omega)).2)
        · conv => whnf
          refine Or.inl ⟨task0 6, [], ?_⟩
          repeat' (first | ((with_reducible refine kok ?_); kernel_rfl) | ((with_reducible refine keq_mk ?_); kernel_rfl) | with_reducible rfl | ((conv => whnf); first | (with_reducible exact trivial) | ((with_reducible refine and_ff ?_ ?_); · exact rfl) | ((with_reducible refine and_tt ?_ ?_); · exact rfl) | (with_reducible refine And.intro ?_ ?_) | intro _ | (with_reducible refine fin2 hk ?_) | ((with_reducible refine eq_leaf ?_); exact rfl) | exact trivial))
          refine hk1 (form_ne ?_)
          clear hk hk1
          omega
        · conv => whnf
          refine Or.inl ⟨task0 6, [], ?_⟩
          repeat' (first | ((with_reducible refine kok ?_); kernel_rfl) | ((with_reducible refine keq_mk ?_); kernel_rfl) | with_reducible rfl | ((conv => whnf); first | (with_reducible exact trivial) | ((with_reducible refine and_ff ?_ ?_); · exact rfl) | ((with_reducible refine and_tt ?_ ?_); · exact rfl) | (with_reducible refine And.intro ?_ ?_) | intro _ | (with_reducible refine fin2 hk ?_) | ((with_reducible refine eq_leaf ?_); exact rfl) | exact trivial))
          refine hk1 (form_sum ?_)
          clear hk hk1
          rename_i q
          rw [hN, hS] at q
          simpa using q
        · conv => whnf
          refine Or.inl ⟨task0 6, [], ?_⟩
          repeat' (first | ((with_reducible refine kok ?_); kernel_rfl) | ((with_reducible refine keq_mk ?_); kernel_rfl) | with_reducible rfl | ((conv => whnf); first | (with_reducible exact trivial) | ((with_reducible refine and_ff ?_ ?_); · exact rfl) | ((with_reducible refine and_tt ?_ ?_); · exact rfl) | (with_reducible refine And.intro ?_ ?_) | intro _ | (with_reducible refine fin2 hk ?_) | ((with_reducible refine eq_leaf ?_); exact rfl) | exact trivial))
          refine hk1 (form_gt ?_)
          clear hk hk1
          rename_i q
          have q := of_decide_eq_true q
          simp only [Int.reduceToNat] at q
          omega
        have hform : formF n f = true := by
          clear hk hk1
          rename_i q0 q1 q2
          rw [hN, hS] at q1
          have q2 := of_decide_eq_false q2
          simp only [Int.reduceToNat] at q2
          exact form_ok hhd (by omega) (by simpa using q1)
        conv => whnf
        refine Or.inr ⟨.tup [taskO f, .int .i64 0], pHd n f, ?_⟩
        repeat' (first | ((with_reducible refine kok ?_); kernel_rfl) | ((with_reducible refine keq_mk ?_); kernel_rfl) | with_reducible rfl | ((conv => whnf); first | (with_reducible exact trivial) | ((with_reducible refine and_ff ?_ ?_); · exact rfl) | ((with_reducible refine and_tt ?_ ?_); · exact rfl) | (with_reducible refine And.intro ?_ ?_) | intro _ | (with_reducible refine fin2 hk ?_) | ((with_reducible refine eq_leaf ?_); exact rfl) | exact trivial))
        all_goals first
          | exact hk hform
          | (clear hk hk1; rw [hpE]; simp only [Int.reduceToNat]; omega)
          | (clear hk hk1; show (D.int .u8 (f _) : V.D) = D.int .u8 (f _); refine congrArg (D.int .u8) (congrArg f ?_); rw [hpE]; simp only [Int.reduceToNat]; omega)
          | rfl
          | skip
      have hlt : i < nxF f := by have := of_decide_eq_true g1; omega
      have e2 := eX i
      have e3 := eX (i + 1)
      repeat' (first | ((with_reducible refine kok ?_); kernel_rfl) | ((with_reducible refine keq_mk ?_); kernel_rfl) | with_reducible rfl | ((conv => whnf); first | (with_reducible exact trivial) | ((with_reducible refine and_ff ?_ ?_); · exact rfl) | ((with_reducible refine and_tt ?_ ?_); · exact rfl) | (with_reducible refine And.intro ?_ ?_) | intro _ | (with_reducible refine fin2 hk ?_) | ((with_reducible refine eq_leaf ?_); exact rfl) | exact trivial))
      all_goals try ((first | with_reducible refine (?_ : (_ : Int) ≤ _) | with_reducible refine (?_ : (_ : Int) < _) | with_reducible refine (?_ : (_ : Nat) ≤ _) | with_reducible refine (?_ : (_ : Nat) < _)); clear hk; first | omega | (simp only [Int.toNat_natCast, Int.reduceToNat]; omega))
      all_goals try ((first | with_reducible refine (?_ : (0 : Int) ≤ toF _ _) | with_reducible refine (?_ : toF _ _ < (256 : Int))); clear hk hk1; first | exact (hb _ (by omega)).1 | exact (hb _ (by omega)).2 | exact (hb _ (by simp only [Int.reduceToNat] at *; omega)).1 | exact (hb _ (by simp only [Int.reduceToNat] at *; omega)).2)
      all_goals try (
        conv => whnf
        refine Or.inl ⟨task0 6, [], ?_⟩
        repeat' (first | ((with_reducible refine kok ?_); kernel_rfl) | ((with_reducible refine keq_mk ?_); kernel_rfl) | with_reducible rfl | ((conv => whnf); first | (with_reducible exact trivial) | ((with_reducible refine and_ff ?_ ?_); · exact rfl) | ((with_reducible refine and_tt ?_ ?_); · exact rfl) | (with_reducible refine And.intro ?_ ?_) | intro _ | (with_reducible refine fin2 hk ?_) | ((with_reducible refine eq_leaf ?_); exact rfl) | exact trivial))
        refine hk1 ?_
        clear hk hk1
        refine form_ne ?_
        (try simp only [Int.reduceToNat] at *)
        omega)
      all_goals try first
        | exact (sub_in (num2_in (hb (pX f i + 9) (by clear hk hk1; simp only [Int.reduceToNat] at *; omega)) (hb (pX f i + 10) (by clear hk hk1; simp only [Int.reduceToNat] at *; omega)))).1
        | exact (sub_in (num2_in (hb (pX f i + 9) (by clear hk hk1; simp only [Int.reduceToNat] at *; omega)) (hb (pX f i + 10) (by clear hk hk1; simp only [Int.reduceToNat] at *; omega)))).2
        | exact (sub_in (num2_in (hb (pX f i + 11) (by clear hk hk1; simp only [Int.reduceToNat] at *; omega)) (hb (pX f i + 12) (by clear hk hk1; simp only [Int.reduceToNat] at *; omega)))).1
        | exact (sub_in (num2_in (hb (pX f i + 11) (by clear hk hk1; simp only [Int.reduceToNat] at *; omega)) (hb (pX f i + 12) (by clear hk hk1; simp only [Int.reduceToNat] at *; omega)))).2
      have hin2 : pX f (i + 1) ≤ n := by
        clear hk hk1
        simp only [Int.reduceToNat] at *
        omega
      repeat' (first | ((with_reducible refine kok ?_); kernel_rfl) | ((with_reducible refine keq_mk ?_); kernel_rfl) | with_reducible rfl | ((conv => whnf); first | (with_reducible exact trivial) | ((with_reducible refine and_ff ?_ ?_); · exact rfl) | ((with_reducible refine and_tt ?_ ?_); · exact rfl) | (with_reducible refine And.intro ?_ ?_) | intro _ | (with_reducible refine fin2 hk ?_) | ((with_reducible refine eq_leaf ?_); exact rfl) | exact trivial))
      all_goals try ((first | with_reducible refine (?_ : (_ : Int) ≤ _) | with_reducible refine (?_ : (_ : Int) < _) | with_reducible refine (?_ : (_ : Nat) ≤ _) | with_reducible refine (?_ : (_ : Nat) < _)); clear hk; first | omega | (simp only [Int.toNat_natCast, Int.reduceToNat]; omega))
      conv => whnf
      refine ⟨i + 1, ?_⟩
      repeat' (first | ((with_reducible refine kok ?_); kernel_rfl) | ((with_reducible refine keq_mk ?_); kernel_rfl) | with_reducible rfl | ((conv => whnf); first | (with_reducible exact trivial) | ((with_reducible refine and_ff ?_ ?_); · exact rfl) | ((with_reducible refine and_tt ?_ ?_); · exact rfl) | (with_reducible refine And.intro ?_ ?_) | intro _ | (with_reducible refine fin2 hk ?_) | ((with_reducible refine eq_leaf ?_); exact rfl) | exact trivial))
      all_goals first
        | exact hlt
        | exact hin2
        | (clear hk hk1; show nxF f - (i + 1) < nxF f - i; omega)
        | (clear hk hk1; simp only [Int.reduceToNat]; omega)
        | (clear hk hk1; show (D.int .u8 (f _) : V.D) = D.int .u8 (f _); refine congrArg (D.int .u8) (congrArg f ?_); simp only [Int.reduceToNat]; omega)
        | skip
      all_goals (
        clear hk hk1
        refine snocI (fun j hj => ?_) _ _ (by assumption) (by assumption)
        have hj' : j = 0 ∨ j = 1 ∨ j = 2 ∨ j = 3 ∨ j = 4 := by omega
        rcases hj' with rfl | rfl | rfl | rfl | rfl
        · exact congrArg (D.int .i64) (numF_shift fun q hq => congrArg f (by (try simp only [Int.reduceToNat]); omega))
        · exact congrArg (D.int .i64) (numF_shift fun q hq => congrArg f (by (try simp only [Int.reduceToNat]); omega))
        · exact congrArg (D.int .i64) (numF_shift fun q hq => congrArg f (by (try simp only [Int.reduceToNat]); omega))
        · exact congrArg (fun x : Int => D.int .i64 (x - 32768)) (numF_shift fun q hq => congrArg f (by (try simp only [Int.reduceToNat]); omega))
        · exact congrArg (fun x : Int => D.int .i64 (x - 32768)) (numF_shift fun q hq => congrArg f (by (try simp only [Int.reduceToNat]); omega)))
    have hlt : i < nsF f := by have := of_decide_eq_true g1; omega
    have hE1 : pS f i + 16 + lnF f (pS f i) ≤ pE f := by
      have h1 := pE_eq f
      have h2 := pS_mono f hlt
      omega
    have hW : numF (toF fun a j => bP f (pS f i) (Int.toNat 1 + (Int.toNat 2 + (Int.toNat 2 + (Int.toNat 2 + (Int.toNat 4 + (Int.toNat 4 + a)))))) j) 0 (Int.toNat 1) = f (pS f i + 15) := num1_eq rfl
    repeat' (first | ((with_reducible refine kok ?_); kernel_rfl) | ((with_reducible refine keq_mk ?_); kernel_rfl) | with_reducible rfl | ((conv => whnf); first | (with_reducible exact trivial) | ((with_reducible refine and_ff ?_ ?_); · exact rfl) | ((with_reducible refine and_tt ?_ ?_); · exact rfl) | (with_reducible refine And.intro ?_ ?_) | intro _ | (with_reducible refine fin2 hk ?_) | ((with_reducible refine eq_leaf ?_); exact rfl) | exact trivial))
    all_goals try ((first | with_reducible refine (?_ : (_ : Int) ≤ _) | with_reducible refine (?_ : (_ : Int) < _) | with_reducible refine (?_ : (_ : Nat) ≤ _) | with_reducible refine (?_ : (_ : Nat) < _)); clear hk; first | omega | (simp only [Int.toNat_natCast, Int.reduceToNat]; omega))
    all_goals try ((first | with_reducible refine (?_ : (0 : Int) ≤ toF _ _) | with_reducible refine (?_ : toF _ _ < (256 : Int))); clear hk hk1; first | exact (hb _ (by omega)).1 | exact (hb _ (by omega)).2 | exact (hb _ (by simp only [Int.reduceToNat] at *; omega)).1 | exact (hb _ (by simp only [Int.reduceToNat] at *; omega)).2)
    all_goals try (
      conv => whnf
      refine Or.inl ⟨task0 6, [], ?_⟩
      repeat' (first | ((with_reducible refine kok ?_); kernel_rfl) | ((with_reducible refine keq_mk ?_); kernel_rfl) | with_reducible rfl | ((conv => whnf); first | (with_reducible exact trivial) | ((with_reducible refine and_ff ?_ ?_); · exact rfl) | ((with_reducible refine and_tt ?_ ?_); · exact rfl) | (with_reducible refine And.intro ?_ ?_) | intro _ | (with_reducible refine fin2 hk ?_) | ((with_reducible refine eq_leaf ?_); exact rfl) | exact trivial))
      refine hk1 ?_
      clear hk hk1
      refine form_ne ?_
      (try simp only [Int.reduceToNat] at *)
      omega)
    all_goals try ((first | with_reducible refine (?_ : (0 : Int) ≤ numF _ _ _) | with_reducible refine (?_ : numF _ _ _ ≤ (100000 : Int))); clear hk hk1; have h15 := hb (pS f i + 15) (by simp only [Int.reduceToNat] at *; omega); first | (refine (num1_in ?_).1; exact h15) | (refine (num1_in ?_).2; exact h15))
    · conv => whnf
      refine Or.inl ⟨task0 6, [], ?_⟩
      repeat' (first | ((with_reducible refine kok ?_); kernel_rfl) | ((with_reducible refine keq_mk ?_); kernel_rfl) | with_reducible rfl | ((conv => whnf); first | (with_reducible exact trivial) | ((with_reducible refine and_ff ?_ ?_); · exact rfl) | ((with_reducible refine and_tt ?_ ?_); · exact rfl) | (with_reducible refine And.intro ?_ ?_) | intro _ | (with_reducible refine fin2 hk ?_) | ((with_reducible refine eq_leaf ?_); exact rfl) | exact trivial))
      refine hk1 (form_ne ?_)
      clear hk hk1
      rename_i q
      rw [hW] at q
      have h15 := hb (pS f i + 15) (by simp only [Int.reduceToNat] at *; omega)
      have eln : (lnF f (pS f i) : Int) = f (pS f i + 15) := by
        unfold lnF
        omega
      simp only [Int.reduceToNat] at *
      omega
    have h15 : pS f i + 15 < n ∧ (lnF f (pS f i) : Int) = f (pS f i + 15) ∧ pS f (i + 1) ≤ n := by
      clear hk hk1
      rename_i q
      rw [hW] at q
      have h15 := hb (pS f i + 15) (by simp only [Int.reduceToNat] at *; omega)
      have eln : (lnF f (pS f i) : Int) = f (pS f i + 15) := by
        unfold lnF
        omega
      have e1 : pS f (i + 1) = pS f i + 16 + lnF f (pS f i) := rfl
      simp only [Int.reduceToNat] at *
      omega
    obtain ⟨h15, eln, hin2⟩ := h15
    all_goals try ((first | with_reducible refine (?_ : (_ : Int) ≤ _) | with_reducible refine (?_ : (_ : Int) < _) | with_reducible refine (?_ : (_ : Nat) ≤ _) | with_reducible refine (?_ : (_ : Nat) < _)); clear hk; first | omega | (simp only [Int.toNat_natCast, Int.reduceToNat]; omega))
    repeat' (first | ((with_reducible refine kok ?_); kernel_rfl) | ((with_reducible refine keq_mk ?_); kernel_rfl) | with_reducible rfl | ((conv => whnf); first | (with_reducible exact trivial) | ((with_reducible refine and_ff ?_ ?_); · exact rfl) | ((with_reducible refine and_tt ?_ ?_); · exact rfl) | (with_reducible refine And.intro ?_ ?_) | intro _ | (with_reducible refine fin2 hk ?_) | ((with_reducible refine eq_leaf ?_); exact rfl) | exact trivial))
    all_goals try ((first | with_reducible refine (?_ : (_ : Int) ≤ _) | with_reducible refine (?_ : (_ : Int) < _) | with_reducible refine (?_ : (_ : Nat) ≤ _) | with_reducible refine (?_ : (_ : Nat) < _)); clear hk; first | omega | (simp only [Int.toNat_natCast, Int.reduceToNat]; omega))
    conv => whnf
    refine ⟨i + 1, ?_⟩
    have e1 : pS f (i + 1) = pS f i + 16 + lnF f (pS f i) := rfl
    have eW : (f (pS f i + 15)).toNat = lnF f (pS f i) := rfl
    repeat' (first | ((with_reducible refine kok ?_); kernel_rfl) | ((with_reducible refine keq_mk ?_); kernel_rfl) | with_reducible rfl | ((conv => whnf); first | (with_reducible exact trivial) | ((with_reducible refine and_ff ?_ ?_); · exact rfl) | ((with_reducible refine and_tt ?_ ?_); · exact rfl) | (with_reducible refine And.intro ?_ ?_) | intro _ | (with_reducible refine fin2 hk ?_) | ((with_reducible refine eq_leaf ?_); exact rfl) | exact trivial))
    all_goals first
      | exact hlt
      | exact hin2
      | (clear hk hk1; show nsF f - (i + 1) < nsF f - i; omega)
      | (clear hk hk1; rw [hW, eW]; simp only [Int.reduceToNat]; omega)
      | (clear hk hk1; rw [hW, eW]; show (D.int .u8 (f _) : V.D) = D.int .u8 (f _); refine congrArg (D.int .u8) (congrArg f ?_); simp only [Int.reduceToNat]; omega)
      | skip
    all_goals (
      clear hk hk1
      rw [hW, eW]
      refine snocS (fun j hj => ?_) _ _ (by assumption) (by assumption)
      have hj' : j = 0 ∨ j = 1 ∨ j = 2 ∨ j = 3 ∨ j = 4 ∨ j = 5 ∨ j = 6 := by omega
      rcases hj' with rfl | rfl | rfl | rfl | rfl | rfl | rfl
      · exact congrArg D.str (congrArg strOfNums (List.map_congr_left fun q hq => congrArg f (by (try simp only [Int.reduceToNat]); omega)))
      · exact congrArg (D.int .i64) (numF_shift fun q hq => congrArg f (by (try simp only [Int.reduceToNat]); omega))
      · exact congrArg (D.int .i64) (numF_shift fun q hq => congrArg f (by (try simp only [Int.reduceToNat]); omega))
      · exact congrArg (D.int .i64) (numF_shift fun q hq => congrArg f (by (try simp only [Int.reduceToNat]); omega))
      · exact congrArg (D.int .i64) (numF_shift fun q hq => congrArg f (by (try simp only [Int.reduceToNat]); omega))
      · exact congrArg (D.int .i64) (numF_shift fun q hq => congrArg f (by (try simp only [Int.reduceToNat]); omega))
      · exact congrArg (D.int .i64) (numF_shift fun q hq => congrArg f (by (try simp only [Int.reduceToNat]); omega)))
  have hlt : i < ncF f := by have := of_decide_eq_true g1; omega
  repeat' (first | ((with_reducible refine kok ?_); kernel_rfl) | ((with_reducible refine keq_mk ?_); kernel_rfl) | with_reducible rfl | ((conv => whnf); first | (with_reducible exact trivial) | ((with_reducible refine and_ff ?_ ?_); · exact rfl) | ((with_reducible refine and_tt ?_ ?_); · exact rfl) | (with_reducible refine And.intro ?_ ?_) | intro _ | (with_reducible refine fin2 hk ?_) | ((with_reducible refine eq_leaf ?_); exact rfl) | exact trivial))
  all_goals try ((first | with_reducible refine (?_ : (_ : Int) ≤ _) | with_reducible refine (?_ : (_ : Int) < _) | with_reducible refine (?_ : (_ : Nat) ≤ _) | with_reducible refine (?_ : (_ : Nat) < _)); clear hk; first | omega | (simp only [Int.toNat_natCast, Int.reduceToNat]; omega))
  all_goals try ((first | with_reducible refine (?_ : (0 : Int) ≤ toF _ _) | with_reducible refine (?_ : toF _ _ < (256 : Int))); clear hk hk1; first | exact (hb _ (by omega)).1 | exact (hb _ (by omega)).2 | exact (hb _ (by simp only [Int.reduceToNat] at *; omega)).1 | exact (hb _ (by simp only [Int.reduceToNat] at *; omega)).2)
  all_goals try (
    conv => whnf
    refine Or.inl ⟨task0 6, [], ?_⟩
    repeat' (first | ((with_reducible refine kok ?_); kernel_rfl) | ((with_reducible refine keq_mk ?_); kernel_rfl) | with_reducible rfl | ((conv => whnf); first | (with_reducible exact trivial) | ((with_reducible refine and_ff ?_ ?_); · exact rfl) | ((with_reducible refine and_tt ?_ ?_); · exact rfl) | (with_reducible refine And.intro ?_ ?_) | intro _ | (with_reducible refine fin2 hk ?_) | ((with_reducible refine eq_leaf ?_); exact rfl) | exact trivial))
    refine hk1 ?_
    clear hk hk1
    refine form_ne ?_
    (try simp only [Int.reduceToNat] at *)
    omega)
  have hin2 : 10 + 4 * (i + 1) ≤ n := by
    clear hk hk1
    simp only [Int.reduceToNat] at *
    omega
  repeat' (first | ((with_reducible refine kok ?_); kernel_rfl) | ((with_reducible refine keq_mk ?_); kernel_rfl) | with_reducible rfl | ((conv => whnf); first | (with_reducible exact trivial) | ((with_reducible refine and_ff ?_ ?_); · exact rfl) | ((with_reducible refine and_tt ?_ ?_); · exact rfl) | (with_reducible refine And.intro ?_ ?_) | intro _ | (with_reducible refine fin2 hk ?_) | ((with_reducible refine eq_leaf ?_); exact rfl) | exact trivial))
  all_goals try ((first | with_reducible refine (?_ : (_ : Int) ≤ _) | with_reducible refine (?_ : (_ : Int) < _) | with_reducible refine (?_ : (_ : Nat) ≤ _) | with_reducible refine (?_ : (_ : Nat) < _)); clear hk; first | omega | (simp only [Int.toNat_natCast, Int.reduceToNat]; omega))
  conv => whnf
  refine ⟨i + 1, ?_⟩
  repeat' (first | ((with_reducible refine kok ?_); kernel_rfl) | ((with_reducible refine keq_mk ?_); kernel_rfl) | with_reducible rfl | ((conv => whnf); first | (with_reducible exact trivial) | ((with_reducible refine and_ff ?_ ?_); · exact rfl) | ((with_reducible refine and_tt ?_ ?_); · exact rfl) | (with_reducible refine And.intro ?_ ?_) | intro _ | (with_reducible refine fin2 hk ?_) | ((with_reducible refine eq_leaf ?_); exact rfl) | exact trivial))
  all_goals first
    | exact hlt
    | exact hin2
    | (clear hk hk1; show ncF f - (i + 1) < ncF f - i; omega)
    | (clear hk hk1; show n - (10 + 4 * i) - 4 = n - (10 + 4 * (i + 1)); omega)
    | (clear hk hk1; show (D.int .u8 (f _) : V.D) = D.int .u8 (f _); refine congrArg (D.int .u8) (congrArg f ?_); simp only [Int.reduceToNat]; omega)
    | (clear hk hk1
       refine snocI (fun j hj => ?_) _ _ (by assumption) (by assumption)
       obtain rfl : j = 0 := by omega
       exact congrArg (D.int .i64) (numF_shift fun q hq => congrArg f (by simp only [Int.reduceToNat] at *; omega)))
    | skip
end Go.Proofs.Ytlecbjbjgfpfeaa
end
section
set_option linter.unusedVariables false
set_option linter.unusedSimpArgs false
set_option maxRecDepth 100000
set_option maxHeartbeats 4000000
namespace Go.Proofs.Ytlecbjbjgfpfeaa
open Go.V

noncomputable def rRead : List V.D → Option (Prop × V.D) := fun ds => match ds with
  | [.rsl 1 n g] => some (BytC n g ∧ n ≤ 9223372036854775807, .tup [(readR n (toF g)).D, .int .i64 (readE n (toF g))])
  | _ => none
theorem readE_3 {n : Nat} {f : Nat → Int} (h : 2000 < n) : readE n f = 3 := if_pos h
theorem readE_6 {n : Nat} {f : Nat → Int} (h : ¬ 2000 < n) (h2 : formF n f = false) : readE n f = 6 := by
  unfold readE
  rw [if_neg h, h2]
  rfl
theorem readE_c {n : Nat} {f : Nat → Int} (h : ¬ 2000 < n) (h2 : formF n f = true) : readE n f = checkE (readT f) := by
  unfold readE
  rw [if_neg h, if_pos h2]
theorem readR_e {n : Nat} {f : Nat → Int} (h : readE n f ≠ 0) : readR n f = zeroT := if_neg h
theorem readR_0 {n : Nat} {f : Nat → Int} (h : readE n f = 0) : readR n f = readT f := if_pos h
theorem read_fits {n : Nat} {f : Nat → Int} (h : pE f + 2 = n) (hn : n ≤ 2000) {i : Nat} (hi : i < nsF f) : (nmF f i).size ≤ 9223372036854775807 := by
  have h1 := pE_eq f
  have h2 := pS_mono f hi
  have h3 : (nmF f i).size = lnF f (pS f i) := strF_size _ _ _
  omega
theorem flat_smD (nm : Nat → ByteArray) (a : Nat → Nat → Int) (i j : Nat) : flat1 (smD nm a i j) = true := by cases j <;> rfl
noncomputable def Lread : Libs := ⟨lrf1, [(31, frameC rParseC)], [], []⟩
theorem Lread_ok : LibsOK Go.Proofs.Try.prog Lread := ⟨lrf1_ok, asGet_cons (csound_frame fParse_ok) (fun g s h => by cases h), fun f r h => (by cases h), fun f r h => (by cases h)⟩
attribute [local irreducible] readE formF pE checkS nsF nxF ncF nmF saF xaF caF
theorem fRead_ok : NSound Go.Proofs.Try.prog 9 (mk rRead) := by
  refine nsound_mk Try.func9 (by kernel_rfl) rfl (ctxA Lread_ok) ?_
  (intro ds p d h; unfold rRead at h; split at h <;> first | (cases h; done) | skip; cases h; refine ⟨Nat.le_of_ble_eq_true rfl, fun hp k hk => ?_⟩)
  rename_i n g
  obtain ⟨hB, hn⟩ := hp
  refine ⟨[.rsl 1 n (bD (toF g))], rfl, bytC_imp hB, ?_⟩
  have hb := hB.2
  clear hB
  generalize toF g = f at *
  by_cases h2 : 2000 < n
  · rw [readR_e (by rw [readE_3 h2]; decide), readE_3 h2] at hk
    repeat' (first | ((with_reducible refine kok ?_); kernel_rfl) | ((with_reducible refine keq_mk ?_); kernel_rfl) | with_reducible rfl | ((conv => whnf); first | (with_reducible exact trivial) | ((with_reducible refine and_ff ?_ ?_); · exact rfl) | ((with_reducible refine and_tt ?_ ?_); · exact rfl) | (with_reducible refine And.intro ?_ ?_) | intro _ | (with_reducible refine fin2 hk ?_) | ((with_reducible refine eq_leaf ?_); exact rfl) | exact trivial))
    all_goals (
      exfalso
      clear hk
      rename_i q
      have q := of_decide_eq_false q
      omega)
  have hb2 : ∀ {p : Prop}, decide ((2000 : Int) < n) = true → p := fun q => by
    have q := of_decide_eq_true q
    omega
  repeat' (first | ((with_reducible refine kok ?_); kernel_rfl) | ((with_reducible refine keq_mk ?_); kernel_rfl) | with_reducible rfl | ((conv => whnf); first | (with_reducible exact trivial) | ((with_reducible refine and_ff ?_ ?_); · exact rfl) | ((with_reducible refine and_tt ?_ ?_); · exact rfl) | (with_reducible refine And.intro ?_ ?_) | intro _ | (with_reducible refine fin2 hk ?_) | ((with_reducible refine eq_leaf ?_); exact rfl) | exact trivial))
  all_goals try exact hb2 (by assumption)
  conv => whnf
  refine ⟨n, f, rfl, rfl, ⟨hb, by omega⟩, fun hform => ?_, fun hform => ?_⟩
  · rw [readR_e (by rw [readE_6 h2 hform]; decide), readE_6 h2 hform] at hk
    repeat' (first | ((with_reducible refine kok ?_); kernel_rfl) | ((with_reducible refine keq_mk ?_); kernel_rfl) | with_reducible rfl | ((conv => whnf); first | (with_reducible exact trivial) | ((with_reducible refine and_ff ?_ ?_); · exact rfl) | ((with_reducible refine and_tt ?_ ?_); · exact rfl) | (with_reducible refine And.intro ?_ ?_) | intro _ | (with_reducible refine fin2 hk ?_) | ((with_reducible refine eq_leaf ?_); exact rfl) | exact trivial))
  have hc := readE_c h2 hform
  have hpn : pE f + 2 = n := by
    unfold formF at hform
    simp only [Bool.and_eq_true, decide_eq_true_eq] at hform
    exact hform.2.1
  by_cases e0 : checkE (readT f) = 0
  · rw [readR_0 (by rw [hc]; exact e0), hc, e0] at hk
    have hbad : ∀ {p : Prop}, (!decide ((checkS (readT f)).2.2 = 0)) = true → p := fun q => absurd e0 (by
      unfold checkE
      simpa using q)
    repeat' (first | ((with_reducible refine kok ?_); kernel_rfl) | ((with_reducible refine keq_mk ?_); kernel_rfl) | with_reducible rfl | ((conv => whnf); first | (with_reducible exact trivial) | ((with_reducible refine and_ff ?_ ?_); · exact rfl) | ((with_reducible refine and_tt ?_ ?_); · exact rfl) | (with_reducible refine And.intro ?_ ?_) | intro _ | (with_reducible refine fin2 hk ?_) | ((with_reducible refine eq_leaf ?_); exact rfl) | exact trivial))
    all_goals first
      | exact read_fits hpn (by omega) (by assumption)
      | exact flat_smD _ _ _ _
      | exact e0
      | (rename_i q; exact hbad q)
  · rw [readR_e (by rw [hc]; exact e0), hc] at hk
    have hbad : ∀ {p : Prop}, (!decide ((checkS (readT f)).2.2 = 0)) = false → p := fun q => absurd (show checkE (readT f) = 0 by unfold checkE; simpa using q) e0
    repeat' (first | ((with_reducible refine kok ?_); kernel_rfl) | ((with_reducible refine keq_mk ?_); kernel_rfl) | with_reducible rfl | ((conv => whnf); first | (with_reducible exact trivial) | ((with_reducible refine and_ff ?_ ?_); · exact rfl) | ((with_reducible refine and_tt ?_ ?_); · exact rfl) | (with_reducible refine And.intro ?_ ?_) | intro _ | (with_reducible refine fin2 hk ?_) | ((with_reducible refine eq_leaf ?_); exact rfl) | exact trivial))
    all_goals first
      | exact read_fits hpn (by omega) (by assumption)
      | exact flat_smD _ _ _ _
      | exact rfl
      | (rename_i q; exact hbad q)
      | (rename_i q _ _ _ _; exact hbad q)
end Go.Proofs.Ytlecbjbjgfpfeaa
end
