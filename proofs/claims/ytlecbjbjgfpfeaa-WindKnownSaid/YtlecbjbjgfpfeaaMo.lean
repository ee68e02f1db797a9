/-
  Files of soundings: Read of the document (contract).
-/
import Derived.Test.YtlecbjbjgfpfeaaMn
section
set_option linter.unusedVariables false
set_option linter.unusedSimpArgs false
set_option maxRecDepth 100000
set_option maxHeartbeats 4000000
namespace Go.Proofs.Ytlecbjbjgfpfeaa
open Go.V

theorem form_n {n : Nat} {f : Nat → Int} (h : formF n f = true) : pE f + 2 = n ∧ headF f = true ∧ numF f (pE f) 2 = sumF f (pE f) % 65536 := by
  unfold formF at h
  simp only [Bool.and_eq_true, decide_eq_true_eq] at h
  exact ⟨h.2.1, h.1, h.2.2⟩
/-- Where the reader stands; whether nothing was missed so far. -/
structure StR (n : Nat) (f : Nat → Int) (hd b : Bool) (a : Int) (p : Nat) : Prop where
  lo : 0 ≤ a ∧ a ≤ n
  ok : hd = true → b = false → a = p ∧ headF f = true
  form : formF n f = true → hd = true ∧ b = false
theorem StR.stepW {n : Nat} {f : Nat → Int} {hd b : Bool} {a : Int} {p : Nat} (h : StR n f hd b a p) {w : Int} {v : Nat} (h0 : 0 ≤ w) (hv : hd = true → b = false → w = v ∧ p + v ≤ pE f + 2) : StR n f hd (b || short n a w) (rdA n a w) (p + v) := by
  obtain ⟨lo, ok, form⟩ := h
  refine ⟨?_, fun h1 h2 => ?_, fun hf => ?_⟩
  · unfold rdA
    split <;> omega
  · simp only [Bool.or_eq_false_iff] at h2
    obtain ⟨e1, e2⟩ := ok h1 h2.1
    have e3 := (rd_long (f := f) h2.2).2.1
    have e4 := (hv h1 h2.1).1
    exact ⟨by rw [e3]; omega, e2⟩
  · obtain ⟨e1, e2⟩ := form hf
    obtain ⟨e3, _⟩ := ok e1 e2
    have e4 := hv e1 e2
    have e5 := (form_n hf).1
    refine ⟨e1, ?_⟩
    rw [e2, Bool.false_or]
    unfold short
    exact decide_eq_false (by omega)
theorem StR.step {n : Nat} {f : Nat → Int} {hd b : Bool} {a : Int} {p : Nat} (h : StR n f hd b a p) {w : Int} (v : Nat) (e : w = v) (hv : hd = true → b = false → p + v ≤ pE f + 2) : StR n f hd (b || short n a w) (rdA n a w) (p + v) :=
  h.stepW (by omega) fun h1 h2 => ⟨e, hv h1 h2⟩
theorem StR.val {n : Nat} {f : Nat → Int} {hd b : Bool} {a : Int} {p : Nat} (h : StR n f hd b a p) {w : Int} {v : Nat} (e : w = v) (h1 : hd = true) (h2 : (b || short n a w) = false) : b = false ∧ rdV n f a w = numF f p v ∧ rdS n f a w = strF f p v := by
  simp only [Bool.or_eq_false_iff] at h2
  obtain ⟨e1, _⟩ := h.ok h1 h2.1
  have e3 := (rd_long (f := f) h2.2).2.2
  subst e1
  subst e
  exact ⟨h2.1, e3.1, e3.2⟩
theorem rdV_in {n : Nat} {f : Nat → Int} (hb : Byt n f) {a w : Int} (h : 0 ≤ a ∧ a ≤ n) (v : Nat) (e : w = v) : 0 ≤ rdV n f a w ∧ rdV n f a w < 256 ^ v := by
  unfold rdV
  split
  · exact ⟨by omega, Int.pow_pos (by omega)⟩
  · subst e
    rw [Int.toNat_natCast]
    exact numF_in hb (by omega)
theorem rdA_lo {n : Nat} {a w : Int} (h : 0 ≤ a) (hw : 0 ≤ w) : 0 ≤ rdA n a w := by
  unfold rdA
  split <;> omega
theorem rdA_hi {n : Nat} {a w : Int} (h : a ≤ n) : rdA n a w ≤ n := by
  unfold rdA
  split <;> omega
theorem pE_ge (f : Nat → Int) : 10 + 4 * ncF f + 2 ≤ pE f := by
  have h1 := pE_eq f
  have h2 := pS_ge f (nsF f)
  have h3 : pSs f = 10 + 4 * ncF f := rfl
  omega
theorem head4 {n : Nat} {f : Nat → Int} (hb : Byt n f) (hn : 4 ≤ n) : strF f 0 4 = ⟨#[87, 73, 78, 68]⟩ ↔ (f 0 = 87 ∧ f 1 = 73 ∧ f 2 = 78 ∧ f 3 = 68) := by
  have e : strF f 0 4 = strOfNums [f 0, f 1, f 2, f 3] := rfl
  rw [e]
  unfold strOfNums
  have h0 := hb 0 (by omega)
  have h1 := hb 1 (by omega)
  have h2 := hb 2 (by omega)
  have h3 := hb 3 (by omega)
  have key : ∀ (x : Int) (k : Nat), 0 ≤ x → x < 256 → k < 256 → (UInt8.ofNat x.toNat = UInt8.ofNat k ↔ x = k) := fun x k a b c => by
    constructor
    · intro h
      have := congrArg UInt8.toNat h
      rw [UInt8.toNat_ofNat', UInt8.toNat_ofNat'] at this
      omega
    · intro h
      subst h
      rfl
  simp only [List.map_cons, List.map_nil, ByteArray.mk.injEq, List.toArray_eq_iff]
  constructor
  · intro h
    simp only [List.cons.injEq] at h
    obtain ⟨e0, e1, e2, e3, _⟩ := h
    exact ⟨(key _ 87 h0.1 h0.2 (by omega)).1 e0, (key _ 73 h1.1 h1.2 (by omega)).1 e1, (key _ 78 h2.1 h2.2 (by omega)).1 e2, (key _ 68 h3.1 h3.2 (by omega)).1 e3⟩
  · rintro ⟨e0, e1, e2, e3⟩
    rw [e0, e1, e2, e3]
    rfl
theorem long_of {n : Nat} {a w : Int} (h : a + w ≤ n) : short n a w = false := by
  unfold short
  exact decide_eq_false (by omega)
theorem headA {n : Nat} {f : Nat → Int} (hb : Byt n f) (q : decide (rdS n f 0 4 = ⟨#[87, 73, 78, 68]⟩) = true) :
    StR n f (decide (rdV n f (rdA n 0 4) 1 = 1)) ((false || short n 0 4) || short n (rdA n 0 4) 1) (rdA n (rdA n 0 4) 1) 5 := by
  have q := of_decide_eq_true q
  refine ⟨⟨rdA_lo (rdA_lo (by omega) (by omega)) (by omega), rdA_hi (rdA_hi (by omega))⟩, fun h1 h2 => ?_, fun hf => ?_⟩
  · simp only [Bool.or_eq_false_iff] at h2
    have h1 := of_decide_eq_true h1
    have e1 := rd_long (f := f) h2.1.2
    have e2 := rd_long (f := f) h2.2
    have hl : ((n : Int) - 0 < 4) = False := by
      have := of_decide_eq_false h2.1.2
      simpa using this
    rw [e1.2.1] at e2 h1 h2 ⊢
    have hl2 : 5 ≤ n := by
      have := of_decide_eq_false h2.2
      omega
    rw [e1.2.2.2] at q
    have q' := (head4 hb (by omega)).1 q
    rw [e2.2.2.1] at h1
    have e3 : numF f ((0 : Int) + 4).toNat (1 : Int).toNat = 256 * 0 + f 4 := rfl
    rw [e3] at h1
    refine ⟨by rw [e2.2.1]; rfl, ?_⟩
    unfold headF
    exact decide_eq_true ⟨q'.1, q'.2.1, q'.2.2.1, q'.2.2.2, by omega⟩
  · obtain ⟨f1, f2, _⟩ := form_n hf
    have hg := pE_ge f
    have s1 : short n 0 4 = false := long_of (by omega)
    have e1 := rd_long (f := f) s1
    rw [e1.2.1]
    have s2 : short n (0 + 4) 1 = false := long_of (by omega)
    have e2 := rd_long (f := f) s2
    rw [s1, s2, e2.2.2.1]
    have e3 : numF f ((0 : Int) + 4).toNat (1 : Int).toNat = 256 * 0 + f 4 := rfl
    rw [e3]
    unfold headF at f2
    have f2 := of_decide_eq_true f2
    exact ⟨decide_eq_true (by omega), rfl⟩
theorem headB {n : Nat} {f : Nat → Int} (hb : Byt n f) (q : decide (rdS n f 0 4 = ⟨#[87, 73, 78, 68]⟩) = false) : StR n f false (false || short n 0 4) (rdA n 0 4) 5 := by
  have q := of_decide_eq_false q
  refine ⟨⟨rdA_lo (by omega) (by omega), rdA_hi (by omega)⟩, fun h1 => (by cases h1), fun hf => ?_⟩
  exfalso
  obtain ⟨f1, f2, _⟩ := form_n hf
  have hg := pE_ge f
  have s1 : short n 0 4 = false := long_of (by omega)
  have e1 := rd_long (f := f) s1
  unfold headF at f2
  have f2 := of_decide_eq_true f2
  exact q (by rw [e1.2.2.2]; exact (head4 hb (by omega)).2 ⟨f2.1, f2.2.1, f2.2.2.1, f2.2.2.2.1⟩)
/-- What the loops carry. -/
structure RdG where
  i : Nat
  a : Int
  b : Bool
  g : Nat → Nat → V.D
  hd : Bool
  mny : Int
  age : Int
  sh : Int
structure RdI (n : Nat) (f : Nat → Int) (s : RdG) : Prop where
  i : (s.i : Int) ≤ s.mny
  mny : s.mny < 256
  st : StR n f s.hd s.b s.a (10 + 4 * s.i)
  data : s.hd = true → s.b = false → s.mny = ncF f ∧ s.age = numF f 5 2 ∧ s.sh = numF f 7 2 ∧ ∀ k j, k < s.i → j < 1 → s.g k j = imD (caF f) k j
theorem nc_of {n : Nat} {f : Nat → Int} (hb : Byt n f) (h : 10 ≤ n) : numF f 9 1 = (ncF f : Int) := by
  have := hb 9 (by omega)
  have e : numF f 9 1 = 256 * 0 + f 9 := rfl
  rw [e]
  unfold ncF
  omega
/-- After the head: age, shear, and how many Cuts. -/
theorem start_I {n : Nat} {f : Nat → Int} (hb : Byt n f) {hd b : Bool} {a : Int} (h : StR n f hd b a 5) (g : Nat → Nat → V.D) :
    RdI n f ⟨0, rdA n (rdA n (rdA n a 2) 2) 1, ((b || short n a 2) || short n (rdA n a 2) 2) || short n (rdA n (rdA n a 2) 2) 1, g, hd, rdV n f (rdA n (rdA n a 2) 2) 1, rdV n f a 2, rdV n f (rdA n a 2) 2⟩ := by
  have hg := pE_ge f
  have S7 := h.step (w := 2) 2 rfl (fun _ _ => by omega)
  have S9 := S7.step (w := 2) 2 rfl (fun _ _ => by omega)
  have S10 := S9.step (w := 1) 1 rfl (fun _ _ => by omega)
  have hv := rdV_in hb S9.lo (w := 1) 1 rfl
  refine ⟨hv.1, hv.2, S10, fun h1 h2 => ?_⟩
  obtain ⟨g1, g2, _⟩ := S9.val (w := 1) (v := 1) rfl h1 h2
  obtain ⟨g3, g4, _⟩ := S7.val (w := 2) (v := 2) rfl h1 g1
  obtain ⟨g5, g6, _⟩ := h.val (w := 2) (v := 2) rfl h1 g3
  have hn : 10 ≤ n := by
    have := S10.ok h1 h2
    have := S10.lo
    omega
  exact ⟨by rw [← nc_of hb hn]; exact g2, g6, g4, fun k j hk => absurd hk (Nat.not_lt_zero _)⟩
theorem StR.cast {n : Nat} {f : Nat → Int} {hd b : Bool} {a : Int} {p q : Nat} (h : StR n f hd b a p) (e : hd = true → b = false → p = q) : StR n f hd b a q :=
  ⟨h.lo, fun h1 h2 => by rw [← e h1 h2]; exact h.ok h1 h2, h.form⟩
/-- One element more. -/
def addG (m i : Nat) (g : Nat → Nat → V.D) (cells : List V.D) (k j : Nat) : V.D := if k < i then g k j else cells.getD ((k - i) * m + j) .top
theorem addG_im {m i : Nat} {g : Nat → Nat → V.D} {cells : List V.D} {a : Nat → Nat → Int} (hg : ∀ k j, k < i → j < m → g k j = imD a k j) (h : ∀ j, j < m → cells.getD j .top = imD a i j) : ∀ k j, k < i + 1 → j < m → addG m i g cells k j = imD a k j := fun k j hk hj => by
  unfold addG
  by_cases h1 : k < i
  · rw [if_pos h1]; exact hg k j h1 hj
  · rw [if_neg h1]
    obtain rfl : k = i := by omega
    rw [Nat.sub_self, Nat.zero_mul, Nat.zero_add]
    exact h j hj
theorem addG_sm {m i : Nat} {g : Nat → Nat → V.D} {cells : List V.D} {nm : Nat → ByteArray} {a : Nat → Nat → Int} (hg : ∀ k j, k < i → j < m → g k j = smD nm a k j) (h : ∀ j, j < m → cells.getD j .top = smD nm a i j) : ∀ k j, k < i + 1 → j < m → addG m i g cells k j = smD nm a k j := fun k j hk hj => by
  unfold addG
  by_cases h1 : k < i
  · rw [if_pos h1]; exact hg k j h1 hj
  · rw [if_neg h1]
    obtain rfl : k = i := by omega
    rw [Nat.sub_self, Nat.zero_mul, Nat.zero_add]
    exact h j hj
theorem step_I {n : Nat} {f : Nat → Int} {i : Nat} {a : Int} {b : Bool} {g : Nat → Nat → V.D} {hd : Bool} {mny age sh : Int} (h : RdI n f ⟨i, a, b, g, hd, mny, age, sh⟩) (hlt : (i : Int) < mny) :
    RdI n f ⟨i + 1, rdA n a 4, b || short n a 4, addG 1 i g [.int .i64 (rdV n f a 4)], hd, mny, age, sh⟩ := by
  have hg := pE_ge f
  have S : StR n f hd b a (10 + 4 * i) := h.st
  have hm : mny < 256 := h.mny
  have Dt := h.data
  have S2 := S.step (w := 4) 4 rfl (fun h1 h2 => by
    have e := (Dt h1 h2).1
    simp only at e
    omega)
  refine ⟨by simp only; omega, hm, S2, fun h1 h2 => ?_⟩
  obtain ⟨g1, g2, _⟩ := S.val (w := 4) (v := 4) rfl h1 h2
  obtain ⟨d1, d2, d3, d4⟩ := Dt h1 g1
  refine ⟨d1, d2, d3, addG_im d4 fun j hj => ?_⟩
  obtain rfl : j = 0 := by omega
  exact congrArg (D.int .i64) g2
structure RdG1 where
  i : Nat
  a : Int
  b : Bool
  g : Nat → Nat → V.D
  hd : Bool
  mny : Int
  age : Int
  sh : Int
  nc : Nat
  gc : Nat → Nat → V.D
structure RdI1 (n : Nat) (f : Nat → Int) (s : RdG1) : Prop where
  i : (s.i : Int) ≤ s.mny
  mny : s.mny < 256
  nc : s.nc ≤ 256
  st : StR n f s.hd s.b s.a (pS f s.i)
  data : s.hd = true → s.b = false → s.mny = nsF f ∧ s.age = numF f 5 2 ∧ s.sh = numF f 7 2 ∧ s.nc = ncF f ∧ (∀ k j, k < s.nc → j < 1 → s.gc k j = imD (caF f) k j) ∧ ∀ k j, k < s.i → j < 7 → s.g k j = smD (nmF f) (saF f) k j
theorem one_of {n : Nat} {f : Nat → Int} (hb : Byt n f) {p : Nat} (h : p < n) : numF f p 1 = ((f p).toNat : Int) := by
  have := hb p h
  have e : numF f p 1 = 256 * 0 + f p := rfl
  rw [e]
  omega
theorem next_I {n : Nat} {f : Nat → Int} (hb : Byt n f) {i : Nat} {a : Int} {b : Bool} {g g1 : Nat → Nat → V.D} {hd : Bool} {mny age sh : Int} (h : RdI n f ⟨i, a, b, g, hd, mny, age, sh⟩) (hx : b = false → ¬ (i : Int) < mny) :
    RdI1 n f ⟨0, rdA n a 1, b || short n a 1, g1, hd, rdV n f a 1, age, sh, i, g⟩ := by
  have hg := pE_ge f
  have Dt := h.data
  have hi : (i : Int) ≤ mny := h.i
  have hm : mny < 256 := h.mny
  have S : StR n f hd b a (pSs f) := StR.cast h.st fun h1 h2 => by
    have e := (Dt h1 h2).1
    have e2 : pSs f = 10 + 4 * ncF f := rfl
    have := hx h2
    simp only at e ⊢
    omega
  have e2 : pSs f = 10 + 4 * ncF f := rfl
  have S2 := S.step (w := 1) 1 rfl (fun h1 h2 => by omega)
  have hv := rdV_in hb S.lo (w := 1) 1 rfl
  refine ⟨hv.1, hv.2, by simp only; omega, S2, fun h1 h2 => ?_⟩
  obtain ⟨g1', g2, _⟩ := S.val (w := 1) (v := 1) rfl h1 h2
  obtain ⟨d1, d2, d3, d4⟩ := Dt h1 g1'
  have hp : pSs f < n := by
    have := S2.ok h1 h2
    have := S2.lo
    omega
  have hnc : i = ncF f := by
    have := hx g1'
    simp only at d1
    omega
  exact ⟨g2.trans (one_of hb hp), d2, d3, hnc, d4, fun k j hk => absurd hk (Nat.not_lt_zero _)⟩
theorem step_I1 {n : Nat} {f : Nat → Int} (hb : Byt n f) {i : Nat} {a : Int} {b : Bool} {g : Nat → Nat → V.D} {hd : Bool} {mny age sh : Int} {nc : Nat} {gc : Nat → Nat → V.D} (h : RdI1 n f ⟨i, a, b, g, hd, mny, age, sh, nc, gc⟩) (hlt : (i : Int) < mny)
    {a1 a2 a3 a4 a5 a6 a7 w : Int} {b1 b2 b3 b4 b5 b6 b7 : Bool} (ha1 : a1 = rdA n a 1) (ha2 : a2 = rdA n a1 2) (ha3 : a3 = rdA n a2 2) (ha4 : a4 = rdA n a3 2) (ha5 : a5 = rdA n a4 4) (ha6 : a6 = rdA n a5 4) (ha7 : a7 = rdA n a6 1) (hw : w = rdV n f a6 1)
    (hb1 : b1 = (b || short n a 1)) (hb2 : b2 = (b1 || short n a1 2)) (hb3 : b3 = (b2 || short n a2 2)) (hb4 : b4 = (b3 || short n a3 2)) (hb5 : b5 = (b4 || short n a4 4)) (hb6 : b6 = (b5 || short n a5 4)) (hb7 : b7 = (b6 || short n a6 1)) :
    RdI1 n f ⟨i + 1, rdA n a7 w, b7 || short n a7 w, addG 7 i g [.str (rdS n f a7 w), .int .i64 (rdV n f a 1), .int .i64 (rdV n f a1 2), .int .i64 (rdV n f a2 2), .int .i64 (rdV n f a3 2), .int .i64 (rdV n f a4 4), .int .i64 (rdV n f a5 4)], hd, mny, age, sh, nc, gc⟩ := by
  subst ha1 ha2 ha3 ha4 ha5 ha6 ha7 hb1 hb2 hb3 hb4 hb5 hb6 hb7
  have Dt := h.data
  have hE : hd = true → b = false → pS f i + 16 + lnF f (pS f i) ≤ pE f := fun h1 h2 => by
    have e := (Dt h1 h2).1
    simp only at e
    have h3 := pE_eq f
    have h4 := pS_mono f (show i < nsF f by omega)
    omega
  have S0 : StR n f hd b a (pS f i) := h.st
  have fals : ∀ {x y : Bool}, (x || y) = false → x = false := fun h => by simp only [Bool.or_eq_false_iff] at h; exact h.1
  have S1 := S0.step (w := 1) 1 rfl (fun h1 h2 => by have := hE h1 h2; omega)
  have S2 := S1.step (w := 2) 2 rfl (fun h1 h2 => by have := hE h1 (fals h2); omega)
  have S3 := S2.step (w := 2) 2 rfl (fun h1 h2 => by have := hE h1 (fals (fals h2)); omega)
  have S4 := S3.step (w := 2) 2 rfl (fun h1 h2 => by have := hE h1 (fals (fals (fals h2))); omega)
  have S5 := S4.step (w := 4) 4 rfl (fun h1 h2 => by have := hE h1 (fals (fals (fals (fals h2)))); omega)
  have S6 := S5.step (w := 4) 4 rfl (fun h1 h2 => by have := hE h1 (fals (fals (fals (fals (fals h2))))); omega)
  have S7 := S6.step (w := 1) 1 rfl (fun h1 h2 => by have := hE h1 (fals (fals (fals (fals (fals (fals h2)))))); omega)
  have hwl : ∀ h1 : hd = true, _ = false → w = (lnF f (pS f i) : Nat) := fun h1 h2 => by
    obtain ⟨_, g2, _⟩ := S6.val (w := 1) (v := 1) rfl h1 h2
    have hp : pS f i + 15 < n := by
      have := S7.ok h1 h2
      have := S7.lo
      omega
    rw [hw, g2, one_of hb (by omega)]
    rfl
  have hw0 : 0 ≤ w := by rw [hw]; exact (rdV_in hb S6.lo (w := 1) 1 rfl).1
  have S8 := S7.stepW (w := w) (v := lnF f (pS f i)) hw0 (fun h1 h2 => ⟨hwl h1 h2, by have := hE h1 (fals (fals (fals (fals (fals (fals (fals h2))))))); omega⟩)
  have S9 := S8.cast (q := pS f (i + 1)) fun _ _ => by
    have : pS f (i + 1) = pS f i + 16 + lnF f (pS f i) := rfl
    omega
  refine ⟨by simp only; omega, h.mny, h.nc, S9, fun h1 h2 => ?_⟩
  have k7 := fals h2
  have k6 := fals k7
  have k5 := fals k6
  have k4 := fals k5
  have k3 := fals k4
  have k2 := fals k3
  have k1 := fals k2
  have k0 := fals k1
  obtain ⟨d1, d2, d3, d4, d5, d6⟩ := Dt h1 k0
  refine ⟨d1, d2, d3, d4, d5, addG_sm d6 fun j hj => ?_⟩
  have hj' : j = 0 ∨ j = 1 ∨ j = 2 ∨ j = 3 ∨ j = 4 ∨ j = 5 ∨ j = 6 := by omega
  rcases hj' with rfl | rfl | rfl | rfl | rfl | rfl | rfl
  · exact congrArg D.str (S7.val (w := w) (v := lnF f (pS f i)) (hwl h1 k7) h1 h2).2.2
  · exact congrArg (D.int .i64) (S0.val (w := 1) (v := 1) rfl h1 k1).2.1
  · exact congrArg (D.int .i64) (S1.val (w := 2) (v := 2) rfl h1 k2).2.1
  · exact congrArg (D.int .i64) (S2.val (w := 2) (v := 2) rfl h1 k3).2.1
  · exact congrArg (D.int .i64) (S3.val (w := 2) (v := 2) rfl h1 k4).2.1
  · exact congrArg (D.int .i64) (S4.val (w := 4) (v := 4) rfl h1 k5).2.1
  · exact congrArg (D.int .i64) (S5.val (w := 4) (v := 4) rfl h1 k6).2.1
structure RdG2 where
  i : Nat
  a : Int
  b : Bool
  g : Nat → Nat → V.D
  hd : Bool
  mny : Int
  age : Int
  sh : Int
  nc : Nat
  gc : Nat → Nat → V.D
  ns : Nat
  gs : Nat → Nat → V.D
structure RdI2 (n : Nat) (f : Nat → Int) (s : RdG2) : Prop where
  i : (s.i : Int) ≤ s.mny
  mny : s.mny < 256
  nc : s.nc ≤ 256
  ns : s.ns ≤ 256
  st : StR n f s.hd s.b s.a (pX f s.i)
  data : s.hd = true → s.b = false → s.mny = nxF f ∧ s.age = numF f 5 2 ∧ s.sh = numF f 7 2 ∧ s.nc = ncF f ∧ (∀ k j, k < s.nc → j < 1 → s.gc k j = imD (caF f) k j) ∧ s.ns = nsF f ∧ (∀ k j, k < s.ns → j < 7 → s.gs k j = smD (nmF f) (saF f) k j) ∧
    ∀ k j, k < s.i → j < 5 → s.g k j = imD (xaF f) k j
theorem next_I1 {n : Nat} {f : Nat → Int} (hb : Byt n f) {i : Nat} {a : Int} {b : Bool} {g g1 : Nat → Nat → V.D} {hd : Bool} {mny age sh : Int} {nc : Nat} {gc : Nat → Nat → V.D} (h : RdI1 n f ⟨i, a, b, g, hd, mny, age, sh, nc, gc⟩) (hx : b = false → ¬ (i : Int) < mny) :
    RdI2 n f ⟨0, rdA n a 1, b || short n a 1, g1, hd, rdV n f a 1, age, sh, nc, gc, i, g⟩ := by
  have hE := pE_eq f
  have Dt := h.data
  have hi : (i : Int) ≤ mny := h.i
  have hm : mny < 256 := h.mny
  have S : StR n f hd b a (pXs f) := StR.cast h.st fun h1 h2 => by
    have e := (Dt h1 h2).1
    have := hx h2
    simp only at e ⊢
    have e3 : i = nsF f := by omega
    rw [e3]
    rfl
  have e2 : pXs f = pS f (nsF f) := rfl
  have S2 := S.step (w := 1) 1 rfl (fun h1 h2 => by omega)
  have hv := rdV_in hb S.lo (w := 1) 1 rfl
  refine ⟨hv.1, hv.2, h.nc, by simp only; omega, S2, fun h1 h2 => ?_⟩
  obtain ⟨g1', g2, _⟩ := S.val (w := 1) (v := 1) rfl h1 h2
  obtain ⟨d1, d2, d3, d4, d5, d6⟩ := Dt h1 g1'
  have hp : pXs f < n := by
    have := S2.ok h1 h2
    have := S2.lo
    omega
  have hns : i = nsF f := by
    have := hx g1'
    simp only at d1
    omega
  exact ⟨g2.trans (one_of hb hp), d2, d3, d4, d5, hns, d6, fun k j hk => absurd hk (Nat.not_lt_zero _)⟩
theorem step_I2 {n : Nat} {f : Nat → Int} (hb : Byt n f) {i : Nat} {a : Int} {b : Bool} {g : Nat → Nat → V.D} {hd : Bool} {mny age sh : Int} {nc : Nat} {gc : Nat → Nat → V.D} {ns : Nat} {gs : Nat → Nat → V.D} (h : RdI2 n f ⟨i, a, b, g, hd, mny, age, sh, nc, gc, ns, gs⟩) (hlt : (i : Int) < mny)
    {a1 a2 a3 a4 : Int} {b1 b2 b3 b4 : Bool} (ha1 : a1 = rdA n a 1) (ha2 : a2 = rdA n a1 4) (ha3 : a3 = rdA n a2 4) (ha4 : a4 = rdA n a3 2)
    (hb1 : b1 = (b || short n a 1)) (hb2 : b2 = (b1 || short n a1 4)) (hb3 : b3 = (b2 || short n a2 4)) (hb4 : b4 = (b3 || short n a3 2)) :
    RdI2 n f ⟨i + 1, rdA n a4 2, b4 || short n a4 2, addG 5 i g [.int .i64 (rdV n f a 1), .int .i64 (rdV n f a1 4), .int .i64 (rdV n f a2 4), .int .i64 (rdV n f a3 2 - 32768), .int .i64 (rdV n f a4 2 - 32768)], hd, mny, age, sh, nc, gc, ns, gs⟩ := by
  subst ha1 ha2 ha3 ha4 hb1 hb2 hb3 hb4
  have Dt := h.data
  have hX : ∀ k, pX f k = pS f (nsF f) + 1 + 13 * k := fun k => rfl
  have hE : hd = true → b = false → pX f i + 13 ≤ pE f := fun h1 h2 => by
    have e := (Dt h1 h2).1
    simp only at e
    have h3 := pE_eq f
    have h4 := hX i
    omega
  have S0 : StR n f hd b a (pX f i) := h.st
  have fals : ∀ {x y : Bool}, (x || y) = false → x = false := fun h => by simp only [Bool.or_eq_false_iff] at h; exact h.1
  have S1 := S0.step (w := 1) 1 rfl (fun h1 h2 => by have := hE h1 h2; omega)
  have S2 := S1.step (w := 4) 4 rfl (fun h1 h2 => by have := hE h1 (fals h2); omega)
  have S3 := S2.step (w := 4) 4 rfl (fun h1 h2 => by have := hE h1 (fals (fals h2)); omega)
  have S4 := S3.step (w := 2) 2 rfl (fun h1 h2 => by have := hE h1 (fals (fals (fals h2))); omega)
  have S5 := S4.step (w := 2) 2 rfl (fun h1 h2 => by have := hE h1 (fals (fals (fals (fals h2)))); omega)
  have S9 := S5.cast (q := pX f (i + 1)) fun _ _ => by
    have h4 := hX i
    have h5 := hX (i + 1)
    omega
  refine ⟨by simp only; omega, h.mny, h.nc, h.ns, S9, fun h1 h2 => ?_⟩
  have k4 := fals h2
  have k3 := fals k4
  have k2 := fals k3
  have k1 := fals k2
  have k0 := fals k1
  obtain ⟨d1, d2, d3, d4, d5, d6, d7, d8⟩ := Dt h1 k0
  refine ⟨d1, d2, d3, d4, d5, d6, d7, addG_im d8 fun j hj => ?_⟩
  have hj' : j = 0 ∨ j = 1 ∨ j = 2 ∨ j = 3 ∨ j = 4 := by omega
  rcases hj' with rfl | rfl | rfl | rfl | rfl
  · exact congrArg (D.int .i64) (S0.val (w := 1) (v := 1) rfl h1 k1).2.1
  · exact congrArg (D.int .i64) (S1.val (w := 4) (v := 4) rfl h1 k2).2.1
  · exact congrArg (D.int .i64) (S2.val (w := 4) (v := 4) rfl h1 k3).2.1
  · exact congrArg (fun x : Int => D.int .i64 (x - 32768)) (S3.val (w := 2) (v := 2) rfl h1 k4).2.1
  · exact congrArg (fun x : Int => D.int .i64 (x - 32768)) (S4.val (w := 2) (v := 2) rfl h1 h2).2.1
/-- Behind the soundings. -/
theorem end_I2 {n : Nat} {f : Nat → Int} (hb : Byt n f) {i : Nat} {a : Int} {b : Bool} {g : Nat → Nat → V.D} {hd : Bool} {mny age sh : Int} {nc : Nat} {gc : Nat → Nat → V.D} {ns : Nat} {gs : Nat → Nat → V.D} (h : RdI2 n f ⟨i, a, b, g, hd, mny, age, sh, nc, gc, ns, gs⟩) (hx : b = false → ¬ (i : Int) < mny) :
    ((hd = true ∧ (b || short n a 2) = false ∧ rdA n a 2 = n ∧ rdV n f a 2 = sumF f a.toNat % 65536) ↔ formF n f = true) ∧
      (formF n f = true → i = nxF f ∧ age = numF f 5 2 ∧ sh = numF f 7 2 ∧ nc = ncF f ∧ (∀ k j, k < nc → j < 1 → gc k j = imD (caF f) k j) ∧ ns = nsF f ∧ (∀ k j, k < ns → j < 7 → gs k j = smD (nmF f) (saF f) k j) ∧ ∀ k j, k < i → j < 5 → g k j = imD (xaF f) k j) := by
  have hX : ∀ k, pX f k = pS f (nsF f) + 1 + 13 * k := fun k => rfl
  have hEx := pE_eq f
  have Dt := h.data
  have hi : (i : Int) ≤ mny := h.i
  have hin : hd = true → b = false → i = nxF f := fun h1 h2 => by
    have e := (Dt h1 h2).1
    have := hx h2
    simp only at e
    omega
  have S : StR n f hd b a (pE f) := StR.cast h.st fun h1 h2 => by
    have e3 := hin h1 h2
    have := hX i
    simp only
    rw [e3, hX]
    omega
  have S2 := S.step (w := 2) 2 rfl (fun h1 h2 => by omega)
  have data : hd = true → b = false → i = nxF f ∧ age = numF f 5 2 ∧ sh = numF f 7 2 ∧ nc = ncF f ∧ (∀ k j, k < nc → j < 1 → gc k j = imD (caF f) k j) ∧ ns = nsF f ∧ (∀ k j, k < ns → j < 7 → gs k j = smD (nmF f) (saF f) k j) ∧ ∀ k j, k < i → j < 5 → g k j = imD (xaF f) k j := fun h1 h2 => by
    obtain ⟨_, d2, d3, d4, d5, d6, d7, d8⟩ := Dt h1 h2
    exact ⟨hin h1 h2, d2, d3, d4, d5, d6, d7, d8⟩
  refine ⟨⟨?_, fun hf => ?_⟩, fun hf => ?_⟩
  · rintro ⟨h1, h2, h3, h4⟩
    obtain ⟨g1, g2, _⟩ := S.val (w := 2) (v := 2) rfl h1 h2
    obtain ⟨e1, e2⟩ := S.ok h1 g1
    obtain ⟨e3, _⟩ := S2.ok h1 h2
    refine form_ok e2 (by omega) ?_
    rw [← g2, h4, e1, Int.toNat_natCast]
  · obtain ⟨h1, h2⟩ := S2.form hf
    obtain ⟨g1, g2, _⟩ := S.val (w := 2) (v := 2) rfl h1 h2
    obtain ⟨e1, e2⟩ := S.ok h1 g1
    obtain ⟨e3, _⟩ := S2.ok h1 h2
    obtain ⟨f1, f2, f3⟩ := form_n hf
    refine ⟨h1, h2, by rw [e3]; omega, ?_⟩
    rw [g2, f3, e1, Int.toNat_natCast]
  · obtain ⟨h1, h2⟩ := S.form hf
    exact data h1 h2
theorem rdV1_in {n : Nat} {f : Nat → Int} (hb : Byt n f) {a : Int} (h : 0 ≤ a) (h' : a ≤ n) : 0 ≤ rdV n f a 1 ∧ rdV n f a 1 ≤ 255 := by
  have := rdV_in hb ⟨h, h'⟩ (w := 1) 1 rfl
  omega
theorem rdV1_inD {n : Nat} {f : Nat → Int} (hb : Byt n f) {a : Int} (h : 0 ≤ a) (h' : a ≤ n) : 0 ≤ rdV n (toF (bD f)) a 1 ∧ rdV n (toF (bD f)) a 1 ≤ 255 := rdV1_in hb h h'
/-- All is read, and it is a file. -/
structure Tl (n : Nat) (f : Nat → Int) (i nc ns : Nat) (g gc gs : Nat → Nat → V.D) (age sh : Int) : Prop where
  hf : formF n f = true
  dnx : i = nxF f
  dage : age = numF f 5 2
  dsh : sh = numF f 7 2
  dnc : nc = ncF f
  dgc : ∀ k j, k < nc → j < 1 → gc k j = imD (caF f) k j
  dns : ns = nsF f
  dgs : ∀ k j, k < ns → j < 7 → gs k j = smD (nmF f) (saF f) k j
  dg : ∀ k j, k < i → j < 5 → g k j = imD (xaF f) k j
section
variable {n : Nat} {f : Nat → Int} {i nc ns : Nat} {g gc gs : Nat → Nat → V.D} {age sh : Int}
theorem Tl.teq (T : Tl n f i nc ns g gc gs age sh) : TEq (taskOf (.agg [.rsl 7 ns gs, .rsl 5 i g, .rsl 1 nc gc, .int .i64 age, .int .i64 sh])) (readT f) := by
  refine ⟨T.dns, T.dnx, T.dnc, fun k hk => ?_, fun k j hk hj => ?_, fun k j hk hj => ?_, fun k hk => ?_, T.dage, T.dsh⟩
  · have hk' : k < ns := by rw [T.dns]; exact hk
    show toS (gs k 0) = nmF f k
    rw [T.dgs k 0 hk' (by omega)]
    rfl
  · have hk' : k < ns := by rw [T.dns]; exact hk
    show toI (gs k (j + 1)) = saF f k j
    rw [T.dgs k (j + 1) hk' (by omega)]
    rfl
  · have hk' : k < i := by rw [T.dnx]; exact hk
    show toI (g k j) = xaF f k j
    rw [T.dg k j hk' hj]
    rfl
  · have hk' : k < nc := by rw [T.dnc]; exact hk
    show toI (gc k 0) = caF f k 0
    rw [T.dgc k 0 hk' (by omega)]
    rfl
theorem Tl.cellS (T : Tl n f i nc ns g gc gs age sh) (k j : Nat) (hk : k < ns) (hj : j < 7) : gs k j = smD (nmOf gs) (imS gs) k j := by
  rw [T.dgs k j hk hj]
  cases j with
  | zero =>
    show _ = D.str (toS (gs k 0))
    rw [T.dgs k 0 hk (by omega)]
    rfl
  | succ j =>
    show _ = D.int .i64 (toI (gs k (j + 1)))
    rw [T.dgs k (j + 1) hk hj]
    rfl
theorem Tl.cellX (T : Tl n f i nc ns g gc gs age sh) (k j : Nat) (hk : k < i) (hj : j < 5) : g k j = imD (im g) k j := by
  show g k j = D.int .i64 (toI (g k j))
  rw [T.dg k j hk hj]
  rfl
theorem Tl.cellC (T : Tl n f i nc ns g gc gs age sh) (k j : Nat) (hk : k < nc) (hj : j < 1) : gc k j = imD (im gc) k j := by
  show gc k j = D.int .i64 (toI (gc k j))
  rw [T.dgc k j hk hj]
  rfl
theorem Tl.fits (T : Tl n f i nc ns g gc gs age sh) (h2 : ¬ 2000 < n) {k : Nat} (hk : k < ns) : ((taskOf (.agg [.rsl 7 ns gs, .rsl 5 i g, .rsl 1 nc gc, .int .i64 age, .int .i64 sh])).nm k).size ≤ 9223372036854775807 := by
  have hk' : k < nsF f := by rw [← T.dns]; exact hk
  rw [T.teq.nm k hk']
  exact read_fits (form_n T.hf).1 (by omega) hk'
theorem Tl.chk (T : Tl n f i nc ns g gc gs age sh) (h2 : ¬ 2000 < n) : (checkS (taskOf (.agg [.rsl 7 ns gs, .rsl 5 i g, .rsl 1 nc gc, .int .i64 age, .int .i64 sh]))).2.2 = readE n f := by
  rw [checkS_congr T.teq, readE_c h2 T.hf]
  rfl
theorem Tl.bad (T : Tl n f i nc ns g gc gs age sh) (h2 : ¬ 2000 < n) (h : (!decide ((checkS (taskOf (.agg [.rsl 7 ns gs, .rsl 5 i g, .rsl 1 nc gc, .int .i64 age, .int .i64 sh]))).2.2 = 0)) = true) : readR n f = zeroT := by
  rw [T.chk h2] at h
  exact readR_e (by simpa using h)
theorem Tl.good (T : Tl n f i nc ns g gc gs age sh) (h2 : ¬ 2000 < n) (h : (!decide ((checkS (taskOf (.agg [.rsl 7 ns gs, .rsl 5 i g, .rsl 1 nc gc, .int .i64 age, .int .i64 sh]))).2.2 = 0)) = false) : readR n f = readT f ∧ readE n f = 0 := by
  rw [T.chk h2] at h
  have e : readE n f = 0 := by simpa using h
  exact ⟨readR_0 e, e⟩
theorem end_bad {P : Prop} (h2 : ¬ 2000 < n) (h : P ↔ formF n f = true) (hn : ¬ P) : readR n f = zeroT ∧ readE n f = 6 := by
  have hf : formF n f = false := by
    cases e : formF n f with
    | false => rfl
    | true => exact absurd (h.2 e) hn
  have e := readE_6 h2 hf
  exact ⟨readR_e (by rw [e]; decide), e⟩
theorem sum_0 (a : Int) : sumF (toF fun i j => bD f (Int.toNat 0 + i) j) (a.toNat - Int.toNat 0) = sumF f a.toNat := sumF_congr fun q _ => congrArg f (by simp only [Int.reduceToNat]; omega)
end
theorem bytC_bD {n : Nat} {f : Nat → Int} (hb : Byt n f) : BytC n (bD f) := ⟨fun i hi => rfl, hb⟩
noncomputable def Lrr : Libs := ⟨lrf1, [(33, frameC rNumberR), (32, frameC rNameR)], [], []⟩
theorem Lrr_ok : LibsOK Go.Proofs.Try.prog Lrr := ⟨lrf1_ok, asGet_cons (csound_frame fNumberR_ok) (asGet_cons (csound_frame fNameR_ok) fun g s h => by cases h), fun f r h => (by cases h), fun f r h => (by cases h)⟩
attribute [local irreducible] readE formF pE checkS nsF nxF ncF nmF saF xaF caF rdA rdV rdS short
theorem fRefRead_ok : PSound Go.Proofs.Try.prog 10 (mk rRead) := by
  refine psound_mk Try.func10 (by kernel_rfl) rfl (ctxA Lrr_ok) ?_
  (intro ds p d h; unfold rRead at h; split at h <;> first | (cases h; done) | skip; cases h; refine ⟨Nat.le_of_ble_eq_true rfl, fun hp k hk => ?_⟩)
  rename_i n g
  obtain ⟨hB, hn⟩ := hp
  refine ⟨[.rsl 1 n (bD (toF g))], rfl, bytC_imp hB, ?_⟩
  have hb := hB.2
  clear hB
  generalize toF g = f at *
  by_cases h2 : 2000 < n
  · rw [readR_e (by rw [readE_3 h2]; decide), readE_3 h2] at hk
    repeat' (first | ((with_reducible refine kok ?_); kernel_rfl) | ((with_reducible refine keq_mk ?_); kernel_rfl) | with_reducible rfl | ((conv => whnf); first | (with_reducible exact trivial) | ((with_reducible refine and_ff ?_ ?_); · exact rfl) | ((with_reducible refine and_tt ?_ ?_); · exact rfl) | (with_reducible refine And.intro ?_ ?_) | intro _ | (with_reducible refine fin2 hk ?_) | ((with_reducible refine eq_leaf ?_); exact rfl) | exact trivial))
    all_goals (
      exfalso
      clear hk
      have q := of_decide_eq_false (by assumption : decide ((2000 : Int) < n) = false)
      omega)
  have hb2 : ∀ {p : Prop}, decide ((2000 : Int) < n) = true → p := fun q => by
    have q := of_decide_eq_true q
    omega
  have hBD := bytC_bD hb
  repeat' (first | ((with_reducible refine kok ?_); kernel_rfl) | ((with_reducible refine keq_mk ?_); kernel_rfl) | with_reducible rfl | ((conv => whnf); first | (with_reducible exact trivial) | ((with_reducible refine and_ff ?_ ?_); · exact rfl) | ((with_reducible refine and_tt ?_ ?_); · exact rfl) | (with_reducible refine And.intro ?_ ?_) | intro _ | (with_reducible refine fin2 hk ?_) | ((with_reducible refine eq_leaf ?_); exact rfl) | exact trivial))
  all_goals try exact hb2 (by assumption)
  all_goals try ((first | with_reducible refine (?_ : (0 : Int) ≤ toF _ _) | with_reducible refine (?_ : toF _ _ < (256 : Int))); first | exact (hb _ (by assumption)).1 | exact (hb _ (by assumption)).2)
  all_goals try ((first | with_reducible refine (?_ : (_ : Int) ≤ _) | with_reducible refine (?_ : (_ : Int) < _) | with_reducible refine (?_ : (_ : Nat) ≤ _) | with_reducible refine (?_ : (_ : Nat) < _)); clear hk; first | omega | (simp only [Int.toNat_natCast, Int.reduceToNat]; omega))
  all_goals try ((first | with_reducible refine rdA_lo ?_ ?_ | with_reducible refine rdA_hi ?_ | with_reducible refine (rdV1_inD hb ?_ ?_).1 | with_reducible refine (rdV1_inD hb ?_ ?_).2); (repeat' (first | with_reducible refine rdA_lo ?_ ?_ | with_reducible refine rdA_hi ?_ | with_reducible refine (rdV1_inD hb ?_ ?_).1)); all_goals (clear hk; first | exact lo.1 | exact lo.2 | omega))
  have hI := start_I hb (headA hb (by assumption)) (fun _ _ => .top)
  conv => whnf
  refine ⟨RdG, fun s => [(0, .rsl 1 n (bD f)), (2, .ptr 0 0), (3, .int .i64 0), (4, .ptr 1 0), (5, .bool s.hd), (6, .ptr 2 0), (7, .int .i64 s.mny), (8, .int .i64 s.i)],
    fun s => [some (.row [.nilS, .nilS, .nilS, .int .i64 0, .int .i64 0]), some (.row [.rsl 1 n (bD f), .int .i64 s.a, .bool s.b]), some (.row [.nilS, .nilS, .own 3 s.i, .int .i64 s.age, .int .i64 s.sh]), some (.buf 3 1 s.i s.g)],
    fun s => s.mny.toNat - s.i, RdI n f, [(3, 1)], ⟨0, rdA n (rdA n (rdA n (rdA n (rdA n 0 4) 1) 2) 2) 1, ((((false || short n 0 4) || short n (rdA n 0 4) 1) || short n (rdA n (rdA n 0 4) 1) 2) || short n (rdA n (rdA n (rdA n 0 4) 1) 2) 2) || short n (rdA n (rdA n (rdA n (rdA n 0 4) 1) 2) 2) 1, fun _ _ => .top, (decide (rdV n f (rdA n 0 4) 1 = 1)), rdV n f (rdA n (rdA n (rdA n (rdA n 0 4) 1) 2) 2) 1, rdV n f (rdA n (rdA n 0 4) 1) 2, rdV n f (rdA n (rdA n (rdA n 0 4) 1) 2) 2⟩, fun _ => ⟨?_, ?_⟩, ?_, ?_⟩
  · conv => lhs; whnf
  · conv => lhs; whnf
  · repeat' (first | ((with_reducible refine kok ?_); kernel_rfl) | ((with_reducible refine keq_mk ?_); kernel_rfl) | with_reducible rfl | ((conv => whnf); first | (with_reducible exact trivial) | ((with_reducible refine and_ff ?_ ?_); · exact rfl) | ((with_reducible refine and_tt ?_ ?_); · exact rfl) | (with_reducible refine And.intro ?_ ?_) | intro _ | (with_reducible refine fin2 hk ?_) | ((with_reducible refine eq_leaf ?_); exact rfl) | exact trivial))
    all_goals first
      | exact hI
      | exact absurd (by assumption) (Nat.not_lt_zero _)
      | rfl
      | skip
  rename_i q1 q2
  clear hI q1 q2
  refine ?body0
  rotate_left
  have hI := start_I hb (headB hb (by assumption)) (fun _ _ => .top)
  conv => whnf
  refine ⟨RdG, fun s => [(0, .rsl 1 n (bD f)), (2, .ptr 0 0), (3, .int .i64 0), (4, .ptr 1 0), (5, .bool s.hd), (6, .ptr 2 0), (7, .int .i64 s.mny), (8, .int .i64 s.i)],
    fun s => [some (.row [.nilS, .nilS, .nilS, .int .i64 0, .int .i64 0]), some (.row [.rsl 1 n (bD f), .int .i64 s.a, .bool s.b]), some (.row [.nilS, .nilS, .own 3 s.i, .int .i64 s.age, .int .i64 s.sh]), some (.buf 3 1 s.i s.g)],
    fun s => s.mny.toNat - s.i, RdI n f, [(3, 1)], ⟨0, rdA n (rdA n (rdA n (rdA n 0 4) 2) 2) 1, (((false || short n 0 4) || short n (rdA n 0 4) 2) || short n (rdA n (rdA n 0 4) 2) 2) || short n (rdA n (rdA n (rdA n 0 4) 2) 2) 1, fun _ _ => .top, false, rdV n f (rdA n (rdA n (rdA n 0 4) 2) 2) 1, rdV n f (rdA n 0 4) 2, rdV n f (rdA n (rdA n 0 4) 2) 2⟩, fun _ => ⟨?_, ?_⟩, ?_, ?_⟩
  · conv => lhs; whnf
  · conv => lhs; whnf
  · repeat' (first | ((with_reducible refine kok ?_); kernel_rfl) | ((with_reducible refine keq_mk ?_); kernel_rfl) | with_reducible rfl | ((conv => whnf); first | (with_reducible exact trivial) | ((with_reducible refine and_ff ?_ ?_); · exact rfl) | ((with_reducible refine and_tt ?_ ?_); · exact rfl) | (with_reducible refine And.intro ?_ ?_) | intro _ | (with_reducible refine fin2 hk ?_) | ((with_reducible refine eq_leaf ?_); exact rfl) | exact trivial))
    all_goals first
      | exact hI
      | exact absurd (by assumption) (Nat.not_lt_zero _)
      | rfl
      | skip
  rename_i q1 q2
  clear hI q1 q2
  exact ?body0
  rintro ⟨i, a, b, g, hd, mny, age, sh⟩ hs
  have lo : 0 ≤ a ∧ a ≤ n := hs.st.lo
  have hi : (i : Int) ≤ mny := hs.i
  have hm : mny < 256 := hs.mny
  repeat' (first | ((with_reducible refine kok ?_); kernel_rfl) | ((with_reducible refine keq_mk ?_); kernel_rfl) | with_reducible rfl | ((conv => whnf); first | (with_reducible exact trivial) | ((with_reducible refine and_ff ?_ ?_); · exact rfl) | ((with_reducible refine and_tt ?_ ?_); · exact rfl) | (with_reducible refine And.intro ?_ ?_) | intro _ | (with_reducible refine fin2 hk ?_) | ((with_reducible refine eq_leaf ?_); exact rfl) | exact trivial))
  all_goals try ((first | with_reducible refine (?_ : (0 : Int) ≤ toF _ _) | with_reducible refine (?_ : toF _ _ < (256 : Int))); first | exact (hb _ (by assumption)).1 | exact (hb _ (by assumption)).2)
  all_goals try ((first | with_reducible refine (?_ : (_ : Int) ≤ _) | with_reducible refine (?_ : (_ : Int) < _) | with_reducible refine (?_ : (_ : Nat) ≤ _) | with_reducible refine (?_ : (_ : Nat) < _)); clear hk; first | omega | (simp only [Int.toNat_natCast, Int.reduceToNat]; omega))
  all_goals try ((first | with_reducible refine rdA_lo ?_ ?_ | with_reducible refine rdA_hi ?_ | with_reducible refine (rdV1_inD hb ?_ ?_).1 | with_reducible refine (rdV1_inD hb ?_ ?_).2); (repeat' (first | with_reducible refine rdA_lo ?_ ?_ | with_reducible refine rdA_hi ?_ | with_reducible refine (rdV1_inD hb ?_ ?_).1)); all_goals (clear hk; first | exact lo.1 | exact lo.2 | omega))
  · have hlt : (i : Int) < mny := of_decide_eq_true (by assumption)
    repeat' (first | ((with_reducible refine kok ?_); kernel_rfl) | ((with_reducible refine keq_mk ?_); kernel_rfl) | with_reducible rfl | ((conv => whnf); first | (with_reducible exact trivial) | ((with_reducible refine and_ff ?_ ?_); · exact rfl) | ((with_reducible refine and_tt ?_ ?_); · exact rfl) | (with_reducible refine And.intro ?_ ?_) | intro _ | (with_reducible refine fin2 hk ?_) | ((with_reducible refine eq_leaf ?_); exact rfl) | exact trivial))
    all_goals try ((first | with_reducible refine (?_ : (_ : Int) ≤ _) | with_reducible refine (?_ : (_ : Int) < _) | with_reducible refine (?_ : (_ : Nat) ≤ _) | with_reducible refine (?_ : (_ : Nat) < _)); clear hk; first | omega | (simp only [Int.toNat_natCast, Int.reduceToNat]; omega))
    conv => whnf
    refine ⟨⟨i + 1, rdA n a 4, b || short n a 4, addG 1 i g [.int .i64 (rdV n f a 4)], hd, mny, age, sh⟩, ?_⟩
    have hS := step_I hs hlt
    repeat' (first | ((with_reducible refine kok ?_); kernel_rfl) | ((with_reducible refine keq_mk ?_); kernel_rfl) | with_reducible rfl | ((conv => whnf); first | (with_reducible exact trivial) | ((with_reducible refine and_ff ?_ ?_); · exact rfl) | ((with_reducible refine and_tt ?_ ?_); · exact rfl) | (with_reducible refine And.intro ?_ ?_) | intro _ | (with_reducible refine fin2 hk ?_) | ((with_reducible refine eq_leaf ?_); exact rfl) | exact trivial))
    all_goals first
      | exact hS
      | (clear hk; show mny.toNat - (i + 1) < mny.toNat - i; omega)
      | rfl
      | skip
  rename_i q0 q1
  have hI := next_I (g1 := fun _ _ => .top) hb hs (fun h => absurd (show (!b) = false from q1) (by rw [h]; exact Bool.noConfusion))
  conv => whnf
  refine ⟨RdG1, fun s => [(0, .rsl 1 n (bD f)), (2, .ptr 0 0), (3, .int .i64 0), (4, .ptr 1 0), (5, .bool s.hd), (6, .ptr 2 0), (7, .int .i64 s.mny), (9, .int .i64 s.i)],
    fun s => [some (.row [.nilS, .nilS, .nilS, .int .i64 0, .int .i64 0]), some (.row [.rsl 1 n (bD f), .int .i64 s.a, .bool s.b]), some (.row [.own 4 s.i, .nilS, .own 3 s.nc, .int .i64 s.age, .int .i64 s.sh]), some (.buf 3 1 s.nc s.gc), some (.buf 74 7 s.i s.g)],
    fun s => s.mny.toNat - s.i, RdI1 n f, [(74, 7)], ⟨0, rdA n a 1, b || short n a 1, fun _ _ => .top, hd, rdV n f a 1, age, sh, i, g⟩, fun _ => ⟨?_, ?_⟩, ?_, ?_⟩
  · conv => lhs; whnf
  · conv => lhs; whnf
  · repeat' (first | ((with_reducible refine kok ?_); kernel_rfl) | ((with_reducible refine keq_mk ?_); kernel_rfl) | with_reducible rfl | ((conv => whnf); first | (with_reducible exact trivial) | ((with_reducible refine and_ff ?_ ?_); · exact rfl) | ((with_reducible refine and_tt ?_ ?_); · exact rfl) | (with_reducible refine And.intro ?_ ?_) | intro _ | (with_reducible refine fin2 hk ?_) | ((with_reducible refine eq_leaf ?_); exact rfl) | exact trivial))
    all_goals first
      | exact hI
      | exact absurd (by assumption) (Nat.not_lt_zero _)
      | rfl
      | skip
  clear hI q0 q1
  refine ?body1
  rotate_left
  rename_i q0
  have hI := next_I (g1 := fun _ _ => .top) hb hs (fun h => of_decide_eq_false q0)
  conv => whnf
  refine ⟨RdG1, fun s => [(0, .rsl 1 n (bD f)), (2, .ptr 0 0), (3, .int .i64 0), (4, .ptr 1 0), (5, .bool s.hd), (6, .ptr 2 0), (7, .int .i64 s.mny), (9, .int .i64 s.i)],
    fun s => [some (.row [.nilS, .nilS, .nilS, .int .i64 0, .int .i64 0]), some (.row [.rsl 1 n (bD f), .int .i64 s.a, .bool s.b]), some (.row [.own 4 s.i, .nilS, .own 3 s.nc, .int .i64 s.age, .int .i64 s.sh]), some (.buf 3 1 s.nc s.gc), some (.buf 74 7 s.i s.g)],
    fun s => s.mny.toNat - s.i, RdI1 n f, [(74, 7)], ⟨0, rdA n a 1, b || short n a 1, fun _ _ => .top, hd, rdV n f a 1, age, sh, i, g⟩, fun _ => ⟨?_, ?_⟩, ?_, ?_⟩
  · conv => lhs; whnf
  · conv => lhs; whnf
  · repeat' (first | ((with_reducible refine kok ?_); kernel_rfl) | ((with_reducible refine keq_mk ?_); kernel_rfl) | with_reducible rfl | ((conv => whnf); first | (with_reducible exact trivial) | ((with_reducible refine and_ff ?_ ?_); · exact rfl) | ((with_reducible refine and_tt ?_ ?_); · exact rfl) | (with_reducible refine And.intro ?_ ?_) | intro _ | (with_reducible refine fin2 hk ?_) | ((with_reducible refine eq_leaf ?_); exact rfl) | exact trivial))
    all_goals first
      | exact hI
      | exact absurd (by assumption) (Nat.not_lt_zero _)
      | rfl
      | skip
  clear hI q0
  exact ?body1
  clear hs lo hi hm
  rintro ⟨i, a, b, g, hd, mny, age, sh, nc, gc⟩ hs
  have lo : 0 ≤ a ∧ a ≤ n := hs.st.lo
  have hi : (i : Int) ≤ mny := hs.i
  have hm : mny < 256 := hs.mny
  have hnc : nc ≤ 256 := hs.nc
  repeat' (first | ((with_reducible refine kok ?_); kernel_rfl) | ((with_reducible refine keq_mk ?_); kernel_rfl) | with_reducible rfl | ((conv => whnf); first | (with_reducible exact trivial) | ((with_reducible refine and_ff ?_ ?_); · exact rfl) | ((with_reducible refine and_tt ?_ ?_); · exact rfl) | (with_reducible refine And.intro ?_ ?_) | intro _ | (with_reducible refine fin2 hk ?_) | ((with_reducible refine eq_leaf ?_); exact rfl) | exact trivial))
  all_goals try ((first | with_reducible refine (?_ : (0 : Int) ≤ toF _ _) | with_reducible refine (?_ : toF _ _ < (256 : Int))); first | exact (hb _ (by assumption)).1 | exact (hb _ (by assumption)).2)
  all_goals try ((first | with_reducible refine (?_ : (_ : Int) ≤ _) | with_reducible refine (?_ : (_ : Int) < _) | with_reducible refine (?_ : (_ : Nat) ≤ _) | with_reducible refine (?_ : (_ : Nat) < _)); clear hk; first | omega | (simp only [Int.toNat_natCast, Int.reduceToNat]; omega))
  all_goals try ((first | with_reducible refine rdA_lo ?_ ?_ | with_reducible refine rdA_hi ?_ | with_reducible refine (rdV1_inD hb ?_ ?_).1 | with_reducible refine (rdV1_inD hb ?_ ?_).2); (repeat' (first | with_reducible refine rdA_lo ?_ ?_ | with_reducible refine rdA_hi ?_ | with_reducible refine (rdV1_inD hb ?_ ?_).1)); all_goals (clear hk; first | exact lo.1 | exact lo.2 | omega))
  · have hlt : (i : Int) < mny := of_decide_eq_true (by assumption)
    repeat' (first | ((with_reducible refine kok ?_); kernel_rfl) | ((with_reducible refine keq_mk ?_); kernel_rfl) | with_reducible rfl | ((conv => whnf); first | (with_reducible exact trivial) | ((with_reducible refine and_ff ?_ ?_); · exact rfl) | ((with_reducible refine and_tt ?_ ?_); · exact rfl) | (with_reducible refine And.intro ?_ ?_) | intro _ | (with_reducible refine fin2 hk ?_) | ((with_reducible refine eq_leaf ?_); exact rfl) | exact trivial))
    all_goals try ((first | with_reducible refine (?_ : (_ : Int) ≤ _) | with_reducible refine (?_ : (_ : Int) < _) | with_reducible refine (?_ : (_ : Nat) ≤ _) | with_reducible refine (?_ : (_ : Nat) < _)); clear hk; first | omega | (simp only [Int.toNat_natCast, Int.reduceToNat]; omega))
    conv => whnf
    refine ⟨⟨i + 1, rdA n (rdA n (rdA n (rdA n (rdA n (rdA n (rdA n (rdA n a 1) 2) 2) 2) 4) 4) 1) (rdV n f (rdA n (rdA n (rdA n (rdA n (rdA n (rdA n a 1) 2) 2) 2) 4) 4) 1), (((((((b || short n a 1) || short n (rdA n a 1) 2) || short n (rdA n (rdA n a 1) 2) 2) || short n (rdA n (rdA n (rdA n a 1) 2) 2) 2) || short n (rdA n (rdA n (rdA n (rdA n a 1) 2) 2) 2) 4) || short n (rdA n (rdA n (rdA n (rdA n (rdA n a 1) 2) 2) 2) 4) 4) || short n (rdA n (rdA n (rdA n (rdA n (rdA n (rdA n a 1) 2) 2) 2) 4) 4) 1) || short n (rdA n (rdA n (rdA n (rdA n (rdA n (rdA n (rdA n a 1) 2) 2) 2) 4) 4) 1) (rdV n f (rdA n (rdA n (rdA n (rdA n (rdA n (rdA n a 1) 2) 2) 2) 4) 4) 1), addG 7 i g [.str (rdS n f (rdA n (rdA n (rdA n (rdA n (rdA n (rdA n (rdA n a 1) 2) 2) 2) 4) 4) 1) (rdV n f (rdA n (rdA n (rdA n (rdA n (rdA n (rdA n a 1) 2) 2) 2) 4) 4) 1)), .int .i64 (rdV n f a 1), .int .i64 (rdV n f (rdA n a 1) 2), .int .i64 (rdV n f (rdA n (rdA n a 1) 2) 2), .int .i64 (rdV n f (rdA n (rdA n (rdA n a 1) 2) 2) 2), .int .i64 (rdV n f (rdA n (rdA n (rdA n (rdA n a 1) 2) 2) 2) 4), .int .i64 (rdV n f (rdA n (rdA n (rdA n (rdA n (rdA n a 1) 2) 2) 2) 4) 4)], hd, mny, age, sh, nc, gc⟩, ?_⟩
    have hS := step_I1 hb hs hlt rfl rfl rfl rfl rfl rfl rfl rfl rfl rfl rfl rfl rfl rfl rfl
    repeat' (first | ((with_reducible refine kok ?_); kernel_rfl) | ((with_reducible refine keq_mk ?_); kernel_rfl) | with_reducible rfl | ((conv => whnf); first | (with_reducible exact trivial) | ((with_reducible refine and_ff ?_ ?_); · exact rfl) | ((with_reducible refine and_tt ?_ ?_); · exact rfl) | (with_reducible refine And.intro ?_ ?_) | intro _ | (with_reducible refine fin2 hk ?_) | ((with_reducible refine eq_leaf ?_); exact rfl) | exact trivial))
    all_goals first
      | exact hS
      | (clear hk; show mny.toNat - (i + 1) < mny.toNat - i; omega)
      | rfl
      | skip
  rename_i q0 q1
  have hI := next_I1 (g1 := fun _ _ => .top) hb hs (fun h => absurd (show (!b) = false from q1) (by rw [h]; exact Bool.noConfusion))
  conv => whnf
  refine ⟨RdG2, fun s => [(0, .rsl 1 n (bD f)), (2, .ptr 0 0), (3, .int .i64 0), (4, .ptr 1 0), (5, .bool s.hd), (6, .ptr 2 0), (7, .int .i64 s.mny), (11, .int .i64 s.i)],
    fun s => [some (.row [.nilS, .nilS, .nilS, .int .i64 0, .int .i64 0]), some (.row [.rsl 1 n (bD f), .int .i64 s.a, .bool s.b]), some (.row [.own 4 s.ns, .own 5 s.i, .own 3 s.nc, .int .i64 s.age, .int .i64 s.sh]), some (.buf 3 1 s.nc s.gc), some (.buf 74 7 s.ns s.gs), some (.buf 76 5 s.i s.g)],
    fun s => s.mny.toNat - s.i, RdI2 n f, [(76, 5)], ⟨0, rdA n a 1, b || short n a 1, fun _ _ => .top, hd, rdV n f a 1, age, sh, nc, gc, i, g⟩, fun _ => ⟨?_, ?_⟩, ?_, ?_⟩
  · conv => lhs; whnf
  · conv => lhs; whnf
  · repeat' (first | ((with_reducible refine kok ?_); kernel_rfl) | ((with_reducible refine keq_mk ?_); kernel_rfl) | with_reducible rfl | ((conv => whnf); first | (with_reducible exact trivial) | ((with_reducible refine and_ff ?_ ?_); · exact rfl) | ((with_reducible refine and_tt ?_ ?_); · exact rfl) | (with_reducible refine And.intro ?_ ?_) | intro _ | (with_reducible refine fin2 hk ?_) | ((with_reducible refine eq_leaf ?_); exact rfl) | exact trivial))
    all_goals first
      | exact hI
      | exact absurd (by assumption) (Nat.not_lt_zero _)
      | rfl
      | skip
  clear hI q0 q1
  refine ?body2
  rotate_left
  rename_i q0
  have hI := next_I1 (g1 := fun _ _ => .top) hb hs (fun h => of_decide_eq_false q0)
  conv => whnf
  refine ⟨RdG2, fun s => [(0, .rsl 1 n (bD f)), (2, .ptr 0 0), (3, .int .i64 0), (4, .ptr 1 0), (5, .bool s.hd), (6, .ptr 2 0), (7, .int .i64 s.mny), (11, .int .i64 s.i)],
    fun s => [some (.row [.nilS, .nilS, .nilS, .int .i64 0, .int .i64 0]), some (.row [.rsl 1 n (bD f), .int .i64 s.a, .bool s.b]), some (.row [.own 4 s.ns, .own 5 s.i, .own 3 s.nc, .int .i64 s.age, .int .i64 s.sh]), some (.buf 3 1 s.nc s.gc), some (.buf 74 7 s.ns s.gs), some (.buf 76 5 s.i s.g)],
    fun s => s.mny.toNat - s.i, RdI2 n f, [(76, 5)], ⟨0, rdA n a 1, b || short n a 1, fun _ _ => .top, hd, rdV n f a 1, age, sh, nc, gc, i, g⟩, fun _ => ⟨?_, ?_⟩, ?_, ?_⟩
  · conv => lhs; whnf
  · conv => lhs; whnf
  · repeat' (first | ((with_reducible refine kok ?_); kernel_rfl) | ((with_reducible refine keq_mk ?_); kernel_rfl) | with_reducible rfl | ((conv => whnf); first | (with_reducible exact trivial) | ((with_reducible refine and_ff ?_ ?_); · exact rfl) | ((with_reducible refine and_tt ?_ ?_); · exact rfl) | (with_reducible refine And.intro ?_ ?_) | intro _ | (with_reducible refine fin2 hk ?_) | ((with_reducible refine eq_leaf ?_); exact rfl) | exact trivial))
    all_goals first
      | exact hI
      | exact absurd (by assumption) (Nat.not_lt_zero _)
      | rfl
      | skip
  clear hI q0
  exact ?body2
  clear hs lo hi hm hnc
  rintro ⟨i, a, b, g, hd, mny, age, sh, nc, gc, ns, gs⟩ hs
  have lo : 0 ≤ a ∧ a ≤ n := hs.st.lo
  have hi : (i : Int) ≤ mny := hs.i
  have hm : mny < 256 := hs.mny
  have hnc : nc ≤ 256 := hs.nc
  have hns : ns ≤ 256 := hs.ns
  repeat' (first | ((with_reducible refine kok ?_); kernel_rfl) | ((with_reducible refine keq_mk ?_); kernel_rfl) | with_reducible rfl | ((conv => whnf); first | (with_reducible exact trivial) | ((with_reducible refine and_ff ?_ ?_); · exact rfl) | ((with_reducible refine and_tt ?_ ?_); · exact rfl) | (with_reducible refine And.intro ?_ ?_) | intro _ | (with_reducible refine fin2 hk ?_) | ((with_reducible refine eq_leaf ?_); exact rfl) | exact trivial))
  all_goals try ((first | with_reducible refine (?_ : (0 : Int) ≤ toF _ _) | with_reducible refine (?_ : toF _ _ < (256 : Int))); first | exact (hb _ (by assumption)).1 | exact (hb _ (by assumption)).2)
  all_goals try ((first | with_reducible refine (?_ : (_ : Int) ≤ _) | with_reducible refine (?_ : (_ : Int) < _) | with_reducible refine (?_ : (_ : Nat) ≤ _) | with_reducible refine (?_ : (_ : Nat) < _)); clear hk; first | omega | (simp only [Int.toNat_natCast, Int.reduceToNat]; omega))
  all_goals try ((first | with_reducible refine rdA_lo ?_ ?_ | with_reducible refine rdA_hi ?_ | with_reducible refine (rdV1_inD hb ?_ ?_).1 | with_reducible refine (rdV1_inD hb ?_ ?_).2); (repeat' (first | with_reducible refine rdA_lo ?_ ?_ | with_reducible refine rdA_hi ?_ | with_reducible refine (rdV1_inD hb ?_ ?_).1)); all_goals (clear hk; first | exact lo.1 | exact lo.2 | omega))
  all_goals try first
    | exact (sub_in ⟨(rdV_in hb (by constructor <;> repeat' (first | exact lo.1 | exact lo.2 | refine rdA_lo ?_ (by omega) | refine rdA_hi ?_)) (w := 2) 2 rfl).1, (rdV_in hb (by constructor <;> repeat' (first | exact lo.1 | exact lo.2 | refine rdA_lo ?_ (by omega) | refine rdA_hi ?_)) (w := 2) 2 rfl).2⟩).1
    | exact (sub_in ⟨(rdV_in hb (by constructor <;> repeat' (first | exact lo.1 | exact lo.2 | refine rdA_lo ?_ (by omega) | refine rdA_hi ?_)) (w := 2) 2 rfl).1, (rdV_in hb (by constructor <;> repeat' (first | exact lo.1 | exact lo.2 | refine rdA_lo ?_ (by omega) | refine rdA_hi ?_)) (w := 2) 2 rfl).2⟩).2
  · have hlt : (i : Int) < mny := of_decide_eq_true (by assumption)
    repeat' (first | ((with_reducible refine kok ?_); kernel_rfl) | ((with_reducible refine keq_mk ?_); kernel_rfl) | with_reducible rfl | ((conv => whnf); first | (with_reducible exact trivial) | ((with_reducible refine and_ff ?_ ?_); · exact rfl) | ((with_reducible refine and_tt ?_ ?_); · exact rfl) | (with_reducible refine And.intro ?_ ?_) | intro _ | (with_reducible refine fin2 hk ?_) | ((with_reducible refine eq_leaf ?_); exact rfl) | exact trivial))
    all_goals try ((first | with_reducible refine (?_ : (_ : Int) ≤ _) | with_reducible refine (?_ : (_ : Int) < _) | with_reducible refine (?_ : (_ : Nat) ≤ _) | with_reducible refine (?_ : (_ : Nat) < _)); clear hk; first | omega | (simp only [Int.toNat_natCast, Int.reduceToNat]; omega))
    conv => whnf
    refine ⟨⟨i + 1, rdA n (rdA n (rdA n (rdA n (rdA n a 1) 4) 4) 2) 2, ((((b || short n a 1) || short n (rdA n a 1) 4) || short n (rdA n (rdA n a 1) 4) 4) || short n (rdA n (rdA n (rdA n a 1) 4) 4) 2) || short n (rdA n (rdA n (rdA n (rdA n a 1) 4) 4) 2) 2, addG 5 i g [.int .i64 (rdV n f a 1), .int .i64 (rdV n f (rdA n a 1) 4), .int .i64 (rdV n f (rdA n (rdA n a 1) 4) 4), .int .i64 (rdV n f (rdA n (rdA n (rdA n a 1) 4) 4) 2 - 32768), .int .i64 (rdV n f (rdA n (rdA n (rdA n (rdA n a 1) 4) 4) 2) 2 - 32768)], hd, mny, age, sh, nc, gc, ns, gs⟩, ?_⟩
    have hS := step_I2 hb hs hlt rfl rfl rfl rfl rfl rfl rfl rfl
    repeat' (first | ((with_reducible refine kok ?_); kernel_rfl) | ((with_reducible refine keq_mk ?_); kernel_rfl) | with_reducible rfl | ((conv => whnf); first | (with_reducible exact trivial) | ((with_reducible refine and_ff ?_ ?_); · exact rfl) | ((with_reducible refine and_tt ?_ ?_); · exact rfl) | (with_reducible refine And.intro ?_ ?_) | intro _ | (with_reducible refine fin2 hk ?_) | ((with_reducible refine eq_leaf ?_); exact rfl) | exact trivial))
    all_goals first
      | exact hS
      | (clear hk; show mny.toNat - (i + 1) < mny.toNat - i; omega)
      | rfl
      | skip
  all_goals try (
    clear hk
    first
      | exact (hb _ (by simp only [Int.reduceToNat] at *; omega)).1
      | exact (hb _ (by simp only [Int.reduceToNat] at *; omega)).2)
  all_goals try (
    have hx : b = false → ¬ (i : Int) < mny := by
      first
        | exact fun _ => of_decide_eq_false (by assumption : decide ((i : Int) < mny) = false)
        | exact fun h => absurd (by assumption : (!b) = false) (by rw [h]; exact Bool.noConfusion)
    have E := end_I2 hb hs hx
    clear hk
    have hE : ¬ (hd = true ∧ (b || short n a 2) = false ∧ rdA n a 2 = n ∧ rdV n f a 2 = sumF f a.toNat % 65536) := by
      rintro ⟨k1, k2, k3, k4⟩
      first
        | exact absurd (by assumption : (!decide (rdV n f a 2 = sumF (toF fun i j => bD f (Int.toNat 0 + i) j) (a.toNat - Int.toNat 0) % 65536)) = true) (by rw [sum_0, k4]; simp)
        | exact absurd (by assumption : (b || short n a 2) = true) (by rw [k2]; decide)
        | exact absurd (by assumption : (!hd) = true) (by rw [k1]; decide)
        | exact absurd (by assumption : (!decide (rdA n a 2 = n)) = true) (by rw [k3]; simp)
    have z := end_bad h2 E.1 hE
    first
      | exact z.2.symm
      | (rw [z.1]; rfl))
  all_goals (
    have hx : b = false → ¬ (i : Int) < mny := by
      first
        | exact fun _ => of_decide_eq_false (by assumption : decide ((i : Int) < mny) = false)
        | exact fun h => absurd (by assumption : (!b) = false) (by rw [h]; exact Bool.noConfusion)
    have E := end_I2 hb hs hx
    clear hk
    have k1 : hd = true := by simpa using (by assumption : (!hd) = false)
    have k2 : (b || short n a 2) = false := by assumption
    have k3 : rdA n a 2 = n := by simpa using (by assumption : (!decide (rdA n a 2 = n)) = false)
    have k4 : rdV n f a 2 = sumF f a.toNat % 65536 := by
      have q := (by assumption : (!decide (rdV n f a 2 = sumF (toF fun i j => bD f (Int.toNat 0 + i) j) (a.toNat - Int.toNat 0) % 65536)) = false)
      rw [sum_0] at q
      simpa using q
    have hf := E.1.1 ⟨k1, k2, k3, k4⟩
    obtain ⟨d1, d2, d3, d4, d5, d6, d7, d8⟩ := E.2 hf
    have T : Tl n f i nc ns g gc gs age sh := ⟨hf, d1, d2, d3, d4, d5, d6, d7, d8⟩
    first
      | exact T.cellS _ _ (by assumption) (by assumption)
      | exact T.cellX _ _ (by assumption) (by assumption)
      | exact T.cellC _ _ (by assumption) (by assumption)
      | exact T.fits h2 (by assumption)
      | exact T.chk h2
      | (rw [T.bad h2 (by assumption)]; rfl)
      | exact (T.good h2 (by assumption)).2.symm
      | (rw [(T.good h2 (by assumption)).1]; first | exact T.dns | exact T.dnx | exact T.dnc | exact T.dage | exact T.dsh)
      | (have G := (T.good h2 (by assumption)).1
         rename_i q0 q1
         rw [G] at q0 ⊢
         first
           | exact T.dgs _ _ (by rw [T.dns]; exact q0) q1
           | exact T.dg _ _ (by rw [T.dnx]; exact q0) q1
           | exact T.dgc _ _ (by rw [T.dnc]; exact q0) q1)
      | skip)
end Go.Proofs.Ytlecbjbjgfpfeaa
end
