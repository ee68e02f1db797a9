/-
  Contracts of the flight: some.
-/
import Derived.Test.YtphcblofacfkaaaGreatNc
set_option linter.unusedVariables false
set_option linter.unusedSimpArgs false
set_option maxRecDepth 100000
set_option maxHeartbeats 4000000
section
namespace Go.Proofs.YtphcblofacfkaaaGreat
open Go.V
def inb (L H a : Nat → Int) : Prop := (L 0 ≤ a 0 ∧ a 0 ≤ a 1 ∧ a 1 ≤ H 0) ∧ (L 1 ≤ a 2 ∧ a 2 ≤ a 3 ∧ a 3 ≤ H 1) ∧ (L 2 ≤ a 4 ∧ a 4 ≤ a 5 ∧ a 5 ≤ H 2)
def zin (L H : Nat → Int) : Prop := (L 0 ≤ 0 ∧ 0 ≤ H 0) ∧ (L 1 ≤ 0 ∧ 0 ≤ H 1) ∧ (L 2 ≤ 0 ∧ 0 ≤ H 2)
def Parts (m : Nat) (p : Nat → Nat → Int) (a : Nat → Int) : Prop := ∀ L H : Nat → Int, zin L H → (∀ i, i < m → inb L H (p i)) → inb L H a
theorem Parts.zero (m : Nat) (p : Nat → Nat → Int) : Parts m p (n6 0 0 0 0 0 0) := fun L H h _ => by
  unfold zin at h
  unfold inb n6
  simp only
  omega
theorem Parts.part {m : Nat} {p : Nat → Nat → Int} {i : Nat} (h : i < m) : Parts m p (p i) := fun L H _ h2 => h2 i h
theorem Parts.hull {m : Nat} {p : Nat → Nat → Int} {a b : Nat → Int} (ha : Parts m p a) (hb : Parts m p b) : Parts m p (n6 (huL (a 0) (a 1) (b 0) (b 1)) (huH (a 0) (a 1) (b 0) (b 1)) (huL (a 2) (a 3) (b 2) (b 3)) (huH (a 2) (a 3) (b 2) (b 3)) (huL (a 4) (a 5) (b 4) (b 5)) (huH (a 4) (a 5) (b 4) (b 5))) := fun L H h1 h2 => by
  have p1 := ha L H h1 h2
  have p2 := hb L H h1 h2
  unfold inb at p1 p2
  unfold inb n6 huL huH
  simp only
  omega
def rSomeF : QRule := fun ds K => match ds with
  | [.agg [.int .i64 z0, .int .i64 z1], .rsl 1 n f, .rsl 6 m p] => (IM n 1 f ∧ IM m 6 p ∧ (m ≤ n ∧ m ≤ 1000) ∧ ∀ i, i < n → btw 4000000000000000000 (im f i 0)) ∧ ∀ a : Nat → Int, Parts m (im p) a → K (.ret (ax a))
  | _ => False
attribute [local irreducible] Parts
theorem fSome_ok : QSound Go.Proofs.Tryz.prog 121 rSomeF := by
  refine qsound_of Tryz.func121 (by kernel_rfl) rfl (ctx lt9_ok) ?_
  intro ds K h
  unfold rSomeF at h
  split at h <;> first | exact h.elim | skip
  refine ⟨Nat.le_of_ble_eq_true rfl, ?_⟩
  rename_i z0 z1 n f m p
  obtain ⟨⟨hf, hp, ⟨hmn, hm⟩, hb⟩, hK⟩ := h
  refine ⟨[.agg [.int .i64 z0, .int .i64 z1], .rsl 1 n (imD (im f)), .rsl 6 m (imD (im p))], rfl, rfl, rfl, hf, rfl, hp, ?_⟩
  clear hf hp
  generalize im f = fr at *
  generalize im p = of at *
  repeat' (first | ((with_reducible refine kok ?_); kernel_rfl) | ((with_reducible refine keq_mk ?_); kernel_rfl) | with_reducible rfl | ((conv => whnf); first | (with_reducible exact trivial) | ((with_reducible refine and_ff ?_ ?_); · exact rfl) | ((with_reducible refine and_tt ?_ ?_); · exact rfl) | (with_reducible refine And.intro ?_ ?_) | intro _ | (with_reducible refine fin2 hk ?_) | ((with_reducible refine eq_leaf ?_); exact rfl) | exact trivial))
  conv => whnf
  refine ⟨Nat × Bool × (Nat → Int), fun s => [(1, .rsl 1 n (imD fr)), (2, .rsl 6 m (imD of)), (3, .ptr 0 0), (6, .ptr 1 0), (7, .bool s.2.1), (12, .rsl 6 m (imD of)), (13, .int .i64 m), (14, .int .i64 s.1)],
    fun s => [some (.row [.int .i64 z0, .int .i64 z1]), some (.row [.int .i64 (s.2.2 0), .int .i64 (s.2.2 1), .int .i64 (s.2.2 2), .int .i64 (s.2.2 3), .int .i64 (s.2.2 4), .int .i64 (s.2.2 5)])], fun s => m - s.1, fun s => s.1 ≤ m ∧ Parts m of s.2.2, [], (0, false, n6 0 0 0 0 0 0), fun _ => ⟨rfl, rfl⟩, ?_, fun s hI => ?_⟩
  · repeat' (first | ((with_reducible refine kok ?_); kernel_rfl) | ((with_reducible refine keq_mk ?_); kernel_rfl) | with_reducible rfl | ((conv => whnf); first | (with_reducible exact trivial) | ((with_reducible refine and_ff ?_ ?_); · exact rfl) | ((with_reducible refine and_tt ?_ ?_); · exact rfl) | (with_reducible refine And.intro ?_ ?_) | intro _ | (with_reducible refine fin2 hk ?_) | ((with_reducible refine eq_leaf ?_); exact rfl) | exact trivial))
    · exact Nat.zero_le _
    · exact Parts.zero _ _
  obtain ⟨i, found, all⟩ := s
  obtain ⟨hi, hP⟩ := hI
  have hi : i ≤ m := hi
  have hP : Parts m of all := hP
  have hbi : i < n → btw 4000000000000000000 (fr i 0) := hb i
  have hbj : i + 1 < n → btw 4000000000000000000 (fr (i + 1) 0) := hb (i + 1)
  have t1 : ((i : Int) + 1).toNat = i + 1 := by omega
  repeat' (first | ((with_reducible refine kok ?_); kernel_rfl) | ((with_reducible refine keq_mk ?_); kernel_rfl) | with_reducible rfl | ((conv => whnf); first | (with_reducible exact trivial) | ((with_reducible refine and_ff ?_ ?_); · exact rfl) | ((with_reducible refine and_tt ?_ ?_); · exact rfl) | (with_reducible refine And.intro ?_ ?_) | intro _ | (with_reducible refine fin2 hk ?_) | ((with_reducible refine eq_leaf ?_); exact rfl) | exact trivial))
  all_goals try ((first | with_reducible refine (?_ : (_ : Int) ≤ _) | with_reducible refine (?_ : (_ : Int) < _)); clear hK hP hb; simp only [taskOf_agg, ↓Bool.not_eq_true', ↓Bool.not_eq_false', ↓decT, ↓decF, out_true, out_false, isin_true, isin_false, Int.toNat_natCast, Int.ofNat_lt, Nat.zero_add, Nat.add_zero, Nat.reduceAdd, t1, btw] at *; omega)
  all_goals try exact hK _ hP
  all_goals (
    rename_i g0
    have hlt : i < m := by simp only [taskOf_agg, ↓Bool.not_eq_true', ↓Bool.not_eq_false', ↓decT, ↓decF, out_true, out_false, isin_true, isin_false, Int.toNat_natCast, Int.ofNat_lt, Nat.zero_add, Nat.add_zero, Nat.reduceAdd] at *; omega
    have hH := Parts.hull hP (Parts.part (p := of) hlt)
    have hQ := Parts.part (p := of) hlt
    clear hK hb g0
    conv => whnf
    first
      | (refine ⟨(i + 1, found, all), ?_⟩
         repeat' (first | ((with_reducible refine kok ?_); kernel_rfl) | ((with_reducible refine keq_mk ?_); kernel_rfl) | with_reducible rfl | ((conv => whnf); first | (with_reducible exact trivial) | ((with_reducible refine and_ff ?_ ?_); · exact rfl) | ((with_reducible refine and_tt ?_ ?_); · exact rfl) | (with_reducible refine And.intro ?_ ?_) | intro _ | (with_reducible refine fin2 hk ?_) | ((with_reducible refine eq_leaf ?_); exact rfl) | exact trivial))
         all_goals first
           | exact hP
           | exact hlt
           | (simp only; omega)
         done)
      | (refine ⟨(i + 1, true, n6 (huL (all 0) (all 1) (of i 0) (of i 1)) (huH (all 0) (all 1) (of i 0) (of i 1)) (huL (all 2) (all 3) (of i 2) (of i 3)) (huH (all 2) (all 3) (of i 2) (of i 3)) (huL (all 4) (all 5) (of i 4) (of i 5)) (huH (all 4) (all 5) (of i 4) (of i 5))), ?_⟩
         repeat' (first | ((with_reducible refine kok ?_); kernel_rfl) | ((with_reducible refine keq_mk ?_); kernel_rfl) | with_reducible rfl | ((conv => whnf); first | (with_reducible exact trivial) | ((with_reducible refine and_ff ?_ ?_); · exact rfl) | ((with_reducible refine and_tt ?_ ?_); · exact rfl) | (with_reducible refine And.intro ?_ ?_) | intro _ | (with_reducible refine fin2 hk ?_) | ((with_reducible refine eq_leaf ?_); exact rfl) | exact trivial))
         all_goals first
           | exact hH
           | exact hlt
           | (simp only; omega)
         done)
      | (refine ⟨(i + 1, true, of i), ?_⟩
         repeat' (first | ((with_reducible refine kok ?_); kernel_rfl) | ((with_reducible refine keq_mk ?_); kernel_rfl) | with_reducible rfl | ((conv => whnf); first | (with_reducible exact trivial) | ((with_reducible refine and_ff ?_ ?_); · exact rfl) | ((with_reducible refine and_tt ?_ ?_); · exact rfl) | (with_reducible refine And.intro ?_ ?_) | intro _ | (with_reducible refine fin2 hk ?_) | ((with_reducible refine eq_leaf ?_); exact rfl) | exact trivial))
         all_goals first
           | exact hQ
           | exact hlt
           | (simp only; omega)
         done))
end Go.Proofs.YtphcblofacfkaaaGreat
end
section
namespace Go.Proofs.YtphcblofacfkaaaGreat
open Go.V
def snocD (c s : Nat) (f : Nat → Nat → V.D) (l : List V.D) (i j : Nat) : V.D := if i < c then f i j else l.getD ((i - c) * s + j) .top
theorem snoc_lt {c s : Nat} {f : Nat → Nat → V.D} {l : List V.D} {i : Nat} (h : i < c) (j : Nat) : snocD c s f l i j = f i j := if_pos h
theorem snoc_eq {c s : Nat} {f : Nat → Nat → V.D} {l : List V.D} (j : Nat) : snocD c s f l c j = l.getD j .top := by
  unfold snocD
  rw [if_neg (Nat.lt_irrefl c), Nat.sub_self, Nat.zero_mul, Nat.zero_add]
def Els (c s : Nat) (q : (Nat → Int) → Prop) (f : Nat → Nat → V.D) : Prop := IM c s f ∧ ∀ i, i < c → q (im f i)
theorem Els.nil (s : Nat) (q : (Nat → Int) → Prop) (f : Nat → Nat → V.D) : Els 0 s q f := ⟨fun i j h => absurd h (Nat.not_lt_zero i), fun i h => absurd h (Nat.not_lt_zero i)⟩
theorem Els.snoc {c s : Nat} {q : (Nat → Int) → Prop} {f : Nat → Nat → V.D} (h : Els c s q f) {l : List V.D} {a : Nat → Int} (hl : ∀ j, j < s → l.getD j .top = .int .i64 (a j)) (hq : ∀ b : Nat → Int, (∀ j, j < s → b j = a j) → q b) : Els (c + 1) s q (snocD c s f l) := by
  refine ⟨fun i j hi hj => ?_, fun i hi => ?_⟩
  · rcases Nat.lt_or_ge i c with h1 | h1
    · show snocD c s f l i j = .int .i64 (toI (snocD c s f l i j))
      rw [snoc_lt h1]
      exact h.1 i j h1 hj
    · obtain rfl : i = c := by omega
      show snocD i s f l i j = .int .i64 (toI (snocD i s f l i j))
      rw [snoc_eq, hl j hj]
      rfl
  · rcases Nat.lt_or_ge i c with h1 | h1
    · have : im (snocD c s f l) i = im f i := by funext j; unfold im; rw [snoc_lt h1]
      rw [this]
      exact h.2 i h1
    · obtain rfl : i = c := by omega
      refine hq _ fun j hj => ?_
      unfold im
      rw [snoc_eq, hl j hj]
      rfl
def l3 (a b c : Int) (i : Nat) : Int := match i with
  | 0 => a | 1 => b | _ => c
def WindIs3 (a : Nat → Int) : Prop := inb (l3 (-20000) (-20000) 0) (l3 20000 20000 0) a
def rWindsF : QRule := fun ds K => match ds with
  | [.rsl 6 n g, .agg [.int .i64 z0, .int .i64 z1]] => (IM n 6 g ∧ BandsOK n (im g)) ∧ ∀ a : Nat → Int, WindIs3 a → K (.ret (ax a))
  | _ => False
theorem inb_congr {L H a b : Nat → Int} (h : ∀ j, j < 6 → b j = a j) (hi : inb L H a) : inb L H b := by
  unfold inb at *
  rw [h 0 (by decide), h 1 (by decide), h 2 (by decide), h 3 (by decide), h 4 (by decide), h 5 (by decide)]
  exact hi
noncomputable def Ltl : Libs := ⟨lt9, [(121, qC rSomeF)], [], []⟩
theorem Ltl_ok : LibsOK Go.Proofs.Tryz.prog Ltl := ⟨lt9_ok, asGet_cons (csound_q fSome_ok) (fun g s h => by cases h), fun f r h => (by cases h), fun f r h => (by cases h)⟩
theorem from_nonneg {n : Nat} {b : Nat → Nat → Int} (hb : BandsOK n b) : ∀ i, i < n → 0 ≤ b i 0
  | 0, h => by rw [hb.from0 0 h]; exact Int.le_refl 0
  | i + 1, h => by
    have h1 := from_nonneg hb i (by omega)
    have h2 := hb.up i (by omega)
    rw [hb.from0 (i + 1) h]
    show 0 ≤ b i 1
    omega
def fq (b : Nat → Int) : Prop := btw 4000000000000000000 (b 0)
theorem Els.im {c s : Nat} {q : (Nat → Int) → Prop} {f : Nat → Nat → V.D} (h : Els c s q f) : IM c s f := h.1
theorem Els.q {c s : Nat} {q : (Nat → Int) → Prop} {f : Nat → Nat → V.D} (h : Els c s q f) : ∀ i, i < c → q (V.im f i) := h.2
theorem ltv6 {j : Nat} (h : j < 6) : j = 0 ∨ j = 1 ∨ j = 2 ∨ j = 3 ∨ j = 4 ∨ j = 5 := by omega
theorem getD6 {a b c d e f : Int} : ∀ j, j < 6 → ([.int .i64 a, .int .i64 b, .int .i64 c, .int .i64 d, .int .i64 e, .int .i64 f] : List V.D).getD j .top = .int .i64 (n6 a b c d e f j) := fun j hj => by
  rcases ltv6 hj with rfl | rfl | rfl | rfl | rfl | rfl <;> rfl
theorem getD1 {a : Int} : ∀ j, j < 1 → ([.int .i64 a] : List V.D).getD j .top = .int .i64 a := fun j hj => by
  obtain rfl : j = 0 := by omega
  rfl
theorem wind3_mk {a b c d : Int} (h1 : -20000 ≤ a ∧ a ≤ b ∧ b ≤ 20000) (h2 : -20000 ≤ c ∧ c ≤ d ∧ d ≤ 20000) : WindIs3 (n6 a b c d 0 0) := ⟨h1, h2, Int.le_refl 0, Int.le_refl 0, Int.le_refl 0⟩
theorem wind3_congr {a b : Nat → Int} (h : WindIs3 a) (e : ∀ j, j < 6 → b j = a j) : WindIs3 b := inb_congr e h
theorem parts_wind {c : Nat} {p : Nat → Nat → V.D} {a : Nat → Int} (h : Parts c (V.im p) a) (hp : Els c 6 WindIs3 p) : WindIs3 a := h _ _ ⟨by decide, by decide, by decide⟩ hp.2
theorem fq_mk {x : Int} (h : btw 4000000000000000000 x) (b : Nat → Int) (e : ∀ j, j < 1 → b j = x) : fq b := by
  unfold fq
  rw [e 0 (by decide)]
  exact h
attribute [local irreducible] Els WindIs3
theorem fWinds_ok : QSound Go.Proofs.Tryz.prog 110 rWindsF := by
  refine qsound_of Tryz.func110 (by kernel_rfl) rfl (ctxA Ltl_ok) ?_
  intro ds K h
  unfold rWindsF at h
  split at h <;> first | exact h.elim | skip
  refine ⟨Nat.le_of_ble_eq_true rfl, ?_⟩
  rename_i n g z0 z1
  obtain ⟨⟨hg, hb⟩, hK⟩ := h
  refine ⟨[.rsl 6 n (imD (im g)), .agg [.int .i64 z0, .int .i64 z1]], rfl, hg, rfl, rfl, ?_⟩
  clear hg
  generalize im g = b at *
  have hn := hb.len
  repeat' (first | ((with_reducible refine kok ?_); kernel_rfl) | ((with_reducible refine keq_mk ?_); kernel_rfl) | with_reducible rfl | ((conv => whnf); first | (with_reducible exact trivial) | ((with_reducible refine and_ff ?_ ?_); · exact rfl) | ((with_reducible refine and_tt ?_ ?_); · exact rfl) | (with_reducible refine And.intro ?_ ?_) | intro _ | (with_reducible refine fin2 hk ?_) | ((with_reducible refine eq_leaf ?_); exact rfl) | exact trivial))
  conv => whnf
  refine ⟨Nat × Nat × (Nat → Nat → V.D) × (Nat → Nat → V.D), fun s => [(0, .rsl 6 n (imD b)), (3, .ptr 0 0), (4, .ptr 1 0), (5, .own 2 s.2.1), (6, .own 3 s.2.1), (9, .rsl 6 n (imD b)), (10, .int .i64 n), (11, .int .i64 s.1)],
    fun s => [some (.row [.int .i64 z0, .int .i64 z1]), some (.row [.int .i64 0, .int .i64 0, .int .i64 0, .int .i64 0, .int .i64 0, .int .i64 0]), some (.buf 3 1 s.2.1 s.2.2.1), some (.buf 128 6 s.2.1 s.2.2.2)], fun s => n - s.1,
    fun s => (s.1 ≤ n ∧ (s.1 < n → s.2.1 = s.1) ∧ (s.1 = n → s.2.1 = n + 1)) ∧ Els s.2.1 1 fq s.2.2.1 ∧ Els s.2.1 6 WindIs3 s.2.2.2, [(3, 1), (128, 6)], (0, 0, fun _ _ => .top, fun _ _ => .top), fun _ => ⟨rfl, rfl⟩, ?_, fun s hI => ?_⟩
  · repeat' (first | ((with_reducible refine kok ?_); kernel_rfl) | ((with_reducible refine keq_mk ?_); kernel_rfl) | with_reducible rfl | ((conv => whnf); first | (with_reducible exact trivial) | ((with_reducible refine and_ff ?_ ?_); · exact rfl) | ((with_reducible refine and_tt ?_ ?_); · exact rfl) | (with_reducible refine And.intro ?_ ?_) | intro _ | (with_reducible refine fin2 hk ?_) | ((with_reducible refine eq_leaf ?_); exact rfl) | exact trivial))
    all_goals try exact Els.nil _ _ _
    all_goals try exact Nat.zero_le _
    all_goals try omega
  obtain ⟨i, c, f, p⟩ := s
  obtain ⟨⟨hi, hc1, hc2⟩, hF, hP⟩ := hI
  have hi : i ≤ n := hi
  have hc1 : i < n → c = i := hc1
  have hc2 : i = n → c = n + 1 := hc2
  have hF : Els c 1 fq f := hF
  have hP : Els c 6 WindIs3 p := hP
  have hB : i < n → (btw 4000000000000000000 (b i 0) ∧ btw 4000000000000000000 (b i 1)) ∧ WindIs3 (n6 (b i 2) (b i 3) (b i 4) (b i 5) 0 0) := fun h => by
    have h0 := hb.from0 i h
    have h1 := hb.up i h
    have h2 : btw 4000000000000000000 (b i 0) := by
      have : 0 ≤ b i 0 := from_nonneg hb i h
      unfold btw; omega
    refine ⟨⟨h2, by unfold btw at *; omega⟩, wind3_mk (hb.x i h) (hb.y i h)⟩
  repeat' (first | ((with_reducible refine kok ?_); kernel_rfl) | ((with_reducible refine keq_mk ?_); kernel_rfl) | with_reducible rfl | ((conv => whnf); first | (with_reducible exact trivial) | ((with_reducible refine and_ff ?_ ?_); · exact rfl) | ((with_reducible refine and_tt ?_ ?_); · exact rfl) | (with_reducible refine And.intro ?_ ?_) | intro _ | (with_reducible refine fin2 hk ?_) | ((with_reducible refine eq_leaf ?_); exact rfl) | exact trivial))
  all_goals try ((first | with_reducible refine (?_ : (_ : Int) ≤ _) | with_reducible refine (?_ : (_ : Int) < _) | with_reducible refine (?_ : (_ : Nat) ≤ _)); clear hK hB; simp only [taskOf_agg, ↓Bool.not_eq_true', ↓Bool.not_eq_false', ↓decT, ↓decF, out_true, out_false, isin_true, isin_false, Int.toNat_natCast, Int.ofNat_lt, Nat.zero_add, Nat.add_zero, Nat.reduceAdd] at *; omega)
  all_goals try exact hF.im _ _ (by assumption) (by assumption)
  all_goals try exact hP.im _ _ (by assumption) (by assumption)
  all_goals try exact (hF.q _ (by assumption)).1
  all_goals try exact (hF.q _ (by assumption)).2
  all_goals try exact hK _ (parts_wind (by assumption) hP)
  · rename_i g1 g2
    have hlt : i < n := by simp only [taskOf_agg, ↓Bool.not_eq_true', ↓Bool.not_eq_false', ↓decT, ↓decF, out_true, out_false, isin_true, isin_false, Int.toNat_natCast, Int.ofNat_lt, Nat.zero_add, Nat.add_zero, Nat.reduceAdd] at g1; exact g1
    have he : i + 1 = n := by clear hK hB; simp only [taskOf_agg, ↓Bool.not_eq_true', ↓Bool.not_eq_false', ↓decT, ↓decF, out_true, out_false, isin_true, isin_false, Int.toNat_natCast, Int.ofNat_lt, Nat.zero_add, Nat.add_zero, Nat.reduceAdd] at g2; omega
    obtain ⟨⟨b1, b2⟩, b3⟩ := hB hlt
    clear hK hB
    have F1 := (hF.snoc getD1 (fq_mk b1)).snoc getD1 (fq_mk b2)
    have P1 := (hP.snoc getD6 (fun q hq => wind3_congr b3 hq)).snoc (getD6 (a := 0) (b := 0) (c := 0) (d := 0) (e := 0) (f := 0)) (fun q hq => wind3_congr (wind3_mk (a := 0) (b := 0) (c := 0) (d := 0) (by decide) (by decide)) hq)
    conv => whnf
    refine ⟨(i + 1, c + 1 + 1, snocD (c + 1) 1 (snocD c 1 f [.int .i64 (b i 0)]) [.int .i64 (b i 1)], snocD (c + 1) 6 (snocD c 6 p [.int .i64 (b i 2), .int .i64 (b i 3), .int .i64 (b i 4), .int .i64 (b i 5), .int .i64 0, .int .i64 0]) [.int .i64 0, .int .i64 0, .int .i64 0, .int .i64 0, .int .i64 0, .int .i64 0]), ?_⟩
    repeat' (first | ((with_reducible refine kok ?_); kernel_rfl) | ((with_reducible refine keq_mk ?_); kernel_rfl) | with_reducible rfl | ((conv => whnf); first | (with_reducible exact trivial) | ((with_reducible refine and_ff ?_ ?_); · exact rfl) | ((with_reducible refine and_tt ?_ ?_); · exact rfl) | (with_reducible refine And.intro ?_ ?_) | intro _ | (with_reducible refine fin2 hk ?_) | ((with_reducible refine eq_leaf ?_); exact rfl) | exact trivial))
    all_goals first
      | exact F1
      | exact P1
      | (simp only; omega)
      | omega
  · rename_i g1 g2
    have hlt : i < n := by simp only [taskOf_agg, ↓Bool.not_eq_true', ↓Bool.not_eq_false', ↓decT, ↓decF, out_true, out_false, isin_true, isin_false, Int.toNat_natCast, Int.ofNat_lt, Nat.zero_add, Nat.add_zero, Nat.reduceAdd] at g1; exact g1
    have he : ¬ i + 1 = n := by clear hK hB; simp only [taskOf_agg, ↓Bool.not_eq_true', ↓Bool.not_eq_false', ↓decT, ↓decF, out_true, out_false, isin_true, isin_false, Int.toNat_natCast, Int.ofNat_lt, Nat.zero_add, Nat.add_zero, Nat.reduceAdd] at g2; omega
    obtain ⟨⟨b1, b2⟩, b3⟩ := hB hlt
    clear hK hB
    have F1 := hF.snoc getD1 (fq_mk b1)
    have P1 := hP.snoc getD6 (fun q hq => wind3_congr b3 hq)
    conv => whnf
    refine ⟨(i + 1, c + 1, snocD c 1 f [.int .i64 (b i 0)], snocD c 6 p [.int .i64 (b i 2), .int .i64 (b i 3), .int .i64 (b i 4), .int .i64 (b i 5), .int .i64 0, .int .i64 0]), ?_⟩
    repeat' (first | ((with_reducible refine kok ?_); kernel_rfl) | ((with_reducible refine keq_mk ?_); kernel_rfl) | with_reducible rfl | ((conv => whnf); first | (with_reducible exact trivial) | ((with_reducible refine and_ff ?_ ?_); · exact rfl) | ((with_reducible refine and_tt ?_ ?_); · exact rfl) | (with_reducible refine And.intro ?_ ?_) | intro _ | (with_reducible refine fin2 hk ?_) | ((with_reducible refine eq_leaf ?_); exact rfl) | exact trivial))
    all_goals first
      | exact F1
      | exact P1
      | (simp only; omega)
      | omega
end Go.Proofs.YtphcblofacfkaaaGreat
end
section
namespace Go.Proofs.YtphcblofacfkaaaGreat
open Go.V
def AirIs3 (a : Nat → Int) : Prop := inb (l3 0 0 0) (l3 1000 0 0) a
def rAirF : QRule := fun ds K => match ds with
  | [d, .agg [.int .i64 z0, .int .i64 z1]] => (VehIs d ∧ ChkOK (vehOf d)) ∧ ∀ x y : Int, (0 ≤ x ∧ x ≤ y ∧ y ≤ 1000) → K (.ret (sp x y))
  | _ => False
theorem air3_mk {a : Int} (h : 0 ≤ a ∧ a ≤ 1000) : AirIs3 (n6 a a 0 0 0 0) := ⟨⟨h.1, Int.le_refl a, h.2⟩, ⟨Int.le_refl 0, Int.le_refl 0, Int.le_refl 0⟩, Int.le_refl 0, Int.le_refl 0, Int.le_refl 0⟩
theorem air3_congr {a b : Nat → Int} (h : AirIs3 a) (e : ∀ j, j < 6 → b j = a j) : AirIs3 b := inb_congr e h
theorem air3_at {a : Nat → Int} (h : AirIs3 a) : 0 ≤ a 0 ∧ a 0 ≤ a 1 ∧ a 1 ≤ 1000 := h.1
attribute [local irreducible] Els
theorem parts_air {c : Nat} {p : Nat → Nat → V.D} {a : Nat → Int} (h : Parts c (V.im p) a) (hp : Els c 6 AirIs3 p) : AirIs3 a := h _ _ ⟨by decide, by decide, by decide⟩ hp.q
theorem air_nonneg {v : Veh} (h : ChkOK v) : ∀ i, i < v.na → 0 ≤ v.air i 0
  | 0, hi => by rw [(h.air 0 hi).1 rfl]; exact Int.le_refl 0
  | i + 1, hi => by
    have h1 := air_nonneg h i (by omega)
    have h2 := (h.air (i + 1) hi).2.1 (by omega)
    simp only [Nat.add_sub_cancel] at h2
    omega
attribute [local irreducible] AirIs3
theorem fAir_ok : QSound Go.Proofs.Tryz.prog 113 rAirF := by
  refine qsound_of Tryz.func113 (by kernel_rfl) rfl (ctxA Ltl_ok) ?_
  intro ds K h
  unfold rAirF at h
  split at h <;> first | exact h.elim | skip
  refine ⟨Nat.le_of_ble_eq_true rfl, ?_⟩
  rename_i d z0 z1
  obtain ⟨⟨ht, hv⟩, hK⟩ := h
  refine ⟨[(vehOf d).D, .agg [.int .i64 z0, .int .i64 z1]], veh_imp ht ⟨rfl, rfl, ?_⟩⟩
  clear ht
  generalize vehOf d = v at *
  have hn := hv.na
  repeat' (first | ((with_reducible refine kok ?_); kernel_rfl) | ((with_reducible refine keq_mk ?_); kernel_rfl) | with_reducible rfl | ((conv => whnf); first | (with_reducible exact trivial) | ((with_reducible refine and_ff ?_ ?_); · exact rfl) | ((with_reducible refine and_tt ?_ ?_); · exact rfl) | (with_reducible refine And.intro ?_ ?_) | intro _ | (with_reducible refine fin2 hk ?_) | ((with_reducible refine eq_leaf ?_); exact rfl) | exact trivial))
  conv => whnf
  refine ⟨Nat × (Nat → Nat → V.D) × (Nat → Nat → V.D), fun s => [(2, .ptr 0 0), (3, .ptr 1 0), (4, .ptr 2 0), (5, .own 3 s.1), (6, .own 4 s.1), (10, .rsl 2 v.na (imD v.air)), (11, .int .i64 v.na), (12, .int .i64 s.1)],
    fun s => [some (.row v.cells), some (.row [.int .i64 z0, .int .i64 z1]), some (.row [.int .i64 0, .int .i64 0]), some (.buf 3 1 s.1 s.2.1), some (.buf 128 6 s.1 s.2.2)], fun s => v.na - s.1,
    fun s => s.1 ≤ v.na ∧ Els s.1 1 fq s.2.1 ∧ Els s.1 6 AirIs3 s.2.2, [(3, 1), (128, 6)], (0, fun _ _ => .top, fun _ _ => .top), fun _ => ⟨rfl, rfl⟩, ?_, fun s hI => ?_⟩
  · repeat' (first | ((with_reducible refine kok ?_); kernel_rfl) | ((with_reducible refine keq_mk ?_); kernel_rfl) | with_reducible rfl | ((conv => whnf); first | (with_reducible exact trivial) | ((with_reducible refine and_ff ?_ ?_); · exact rfl) | ((with_reducible refine and_tt ?_ ?_); · exact rfl) | (with_reducible refine And.intro ?_ ?_) | intro _ | (with_reducible refine fin2 hk ?_) | ((with_reducible refine eq_leaf ?_); exact rfl) | exact trivial))
    all_goals try exact Els.nil _ _ _
    all_goals try exact Nat.zero_le _
    all_goals try (rename_i hj _; exact absurd hj (Nat.not_lt_zero _))
  obtain ⟨i, f, p⟩ := s
  obtain ⟨hi, hF, hP⟩ := hI
  have hi : i ≤ v.na := hi
  have hF : Els i 1 fq f := hF
  have hP : Els i 6 AirIs3 p := hP
  have hB : i < v.na → btw 4000000000000000000 (v.air i 0) ∧ AirIs3 (n6 (v.air i 1) (v.air i 1) 0 0 0 0) := fun h => by
    have h1 := air_nonneg hv i h
    obtain ⟨_, _, h2, h3⟩ := hv.air i h
    rw [out_false] at h3
    exact ⟨by unfold btw; omega, air3_mk h3⟩
  repeat' (first | ((with_reducible refine kok ?_); kernel_rfl) | ((with_reducible refine keq_mk ?_); kernel_rfl) | with_reducible rfl | ((conv => whnf); first | (with_reducible exact trivial) | ((with_reducible refine and_ff ?_ ?_); · exact rfl) | ((with_reducible refine and_tt ?_ ?_); · exact rfl) | (with_reducible refine And.intro ?_ ?_) | intro _ | (with_reducible refine fin2 hk ?_) | ((with_reducible refine eq_leaf ?_); exact rfl) | exact trivial))
  all_goals try ((first | with_reducible refine (?_ : (_ : Int) ≤ _) | with_reducible refine (?_ : (_ : Int) < _) | with_reducible refine (?_ : (_ : Nat) ≤ _)); clear hK hB; simp only [taskOf_agg, ↓Bool.not_eq_true', ↓Bool.not_eq_false', ↓decT, ↓decF, out_true, out_false, isin_true, isin_false, Int.toNat_natCast, Int.ofNat_lt, Nat.zero_add, Nat.add_zero, Nat.reduceAdd] at *; omega)
  all_goals try exact hF.im _ _ (by assumption) (by assumption)
  all_goals try exact hP.im _ _ (by assumption) (by assumption)
  all_goals try exact (hF.q _ (by assumption)).1
  all_goals try exact (hF.q _ (by assumption)).2
  all_goals try exact hK _ _ (air3_at (parts_air (by assumption) hP))
  · rename_i g1
    have hlt : i < v.na := by simp only [taskOf_agg, ↓Bool.not_eq_true', ↓Bool.not_eq_false', ↓decT, ↓decF, out_true, out_false, isin_true, isin_false, Int.toNat_natCast, Int.ofNat_lt, Nat.zero_add, Nat.add_zero, Nat.reduceAdd] at g1; exact g1
    obtain ⟨b1, b3⟩ := hB hlt
    clear hK hB
    have F1 := hF.snoc getD1 (fq_mk b1)
    have P1 := hP.snoc getD6 (fun q hq => air3_congr b3 hq)
    conv => whnf
    refine ⟨(i + 1, snocD i 1 f [.int .i64 (v.air i 0)], snocD i 6 p [.int .i64 (v.air i 1), .int .i64 (v.air i 1), .int .i64 0, .int .i64 0, .int .i64 0, .int .i64 0]), ?_⟩
    repeat' (first | ((with_reducible refine kok ?_); kernel_rfl) | ((with_reducible refine keq_mk ?_); kernel_rfl) | with_reducible rfl | ((conv => whnf); first | (with_reducible exact trivial) | ((with_reducible refine and_ff ?_ ?_); · exact rfl) | ((with_reducible refine and_tt ?_ ?_); · exact rfl) | (with_reducible refine And.intro ?_ ?_) | intro _ | (with_reducible refine fin2 hk ?_) | ((with_reducible refine eq_leaf ?_); exact rfl) | exact trivial))
    all_goals first
      | exact F1
      | exact P1
      | (simp only; omega)
      | omega
end Go.Proofs.YtphcblofacfkaaaGreat
end
section
namespace Go.Proofs.YtphcblofacfkaaaGreat
open Go.V
def ax12 (b : Nat → Int) : V.D := .agg [.int .i64 (b 0), .int .i64 (b 1), .int .i64 (b 2), .int .i64 (b 3), .int .i64 (b 4), .int .i64 (b 5), .int .i64 (b 6), .int .i64 (b 7), .int .i64 (b 8), .int .i64 (b 9), .int .i64 (b 10), .int .i64 (b 11)]
def n12 (a0 a1 a2 a3 a4 a5 a6 a7 a8 a9 a10 a11 : Int) (i : Nat) : Int := match i with
  | 0 => a0 | 1 => a1 | 2 => a2 | 3 => a3 | 4 => a4 | 5 => a5 | 6 => a6 | 7 => a7 | 8 => a8 | 9 => a9 | 10 => a10 | _ => a11
theorem beyond_false {a b lo hi : Int} (h : beyondB a b lo hi = false) : lo ≤ a ∧ a ≤ b ∧ b ≤ hi := by
  simp [beyondB] at h
  omega
theorem heavy_false {a b c d : Int} (h : heavyB a b c d = false) : (1 ≤ a ∧ a ≤ b ∧ b ≤ 100000) ∧ 0 ≤ c ∧ c ≤ d ∧ d ≤ 1000 := by
  unfold heavyB at h
  rw [Bool.or_eq_false_iff] at h
  exact ⟨beyond_false h.1, beyond_false h.2⟩
theorem wide_false {a : Nat → Int} {s : Int} (h : wideB a s = false) : (-s ≤ a 0 ∧ a 0 ≤ a 1 ∧ a 1 ≤ s) ∧ (-s ≤ a 2 ∧ a 2 ≤ a 3 ∧ a 3 ≤ s) ∧ -s ≤ a 4 ∧ a 4 ≤ a 5 ∧ a 5 ≤ s := by
  unfold wideB at h
  rw [Bool.or_eq_false_iff, Bool.or_eq_false_iff] at h
  exact ⟨beyond_false h.1, beyond_false h.2.1, beyond_false h.2.2⟩
structure PhIn (p : Nat → Int) : Prop where
  t : 1 ≤ p 0 ∧ p 0 ≤ 3000
  th : 0 ≤ p 1 ∧ p 1 ≤ p 2 ∧ p 2 ≤ 2000000
  m : 1 ≤ p 3 ∧ p 3 ≤ p 4 ∧ p 4 ≤ 100000
  d : 0 ≤ p 5 ∧ p 5 ≤ p 6 ∧ p 6 ≤ 1000
  x : -2000 ≤ p 7 ∧ p 7 ≤ p 8 ∧ p 8 ≤ 2000
  y : -2000 ≤ p 9 ∧ p 9 ≤ p 10 ∧ p 10 ≤ 2000
  z : -2000 ≤ p 11 ∧ p 11 ≤ p 12 ∧ p 12 ≤ 2000
theorem ph_in {v : Veh} {i : Nat} (h : phOK v i) : PhIn (v.ph i) := by
  obtain ⟨h1, h2, h3, h4⟩ := h
  rw [out_false] at h1
  have h5 := heavy_false h3
  have h6 := wide_false h4
  exact ⟨h1, beyond_false h2, h5.1, h5.2, h6.1, h6.2.1, h6.2.2⟩
theorem body_mk {b : Nat → Int} (h1 : 0 ≤ b 0 ∧ b 0 ≤ b 1 ∧ b 1 ≤ 20000000) (h2 : 1 ≤ b 2 ∧ b 2 ≤ b 3 ∧ b 3 ≤ 100000) (h3 : 0 ≤ b 4 ∧ b 4 ≤ b 5 ∧ b 5 ≤ 1000)
    (x : -2000 ≤ b 6 ∧ b 6 ≤ b 7 ∧ b 7 ≤ 2000) (y : -2000 ≤ b 8 ∧ b 8 ≤ b 9 ∧ b 9 ≤ 2000) (z : -2000 ≤ b 10 ∧ b 10 ≤ b 11 ∧ b 11 ≤ 2000) : BodyOK b := by
  refine ⟨h1, h2, h3, fun i h4 h5 => ?_⟩
  have h6 : i = 6 ∨ i = 7 ∨ i = 8 ∨ i = 9 ∨ i = 10 ∨ i = 11 := by omega
  unfold btw
  rcases h6 with rfl | rfl | rfl | rfl | rfl | rfl <;> omega
theorem mul10 {a b : Int} (h : 0 ≤ a ∧ a ≤ b ∧ b ≤ 2000000) : 0 ≤ mulL a b 10 10 ∧ mulL a b 10 10 ≤ mulH a b 10 10 ∧ mulH a b 10 10 ≤ 20000000 := by
  unfold mulL mulH
  omega
def bodyN (p : Nat → Int) : Nat → Int := n12 (mulL (p 1) (p 2) 10 10) (mulH (p 1) (p 2) 10 10) (p 3) (p 4) (p 5) (p 6) (p 7) (p 8) (p 9) (p 10) (p 11) (p 12)
def bodyL (p : Nat → Int) : Nat → Int := n12 (mulL 0 0 10 10) (mulH 0 0 10 10) (p 3) (p 4) (p 5) (p 6) 0 0 0 0 0 0
theorem z0_in : (-2000 : Int) ≤ 0 ∧ (0 : Int) ≤ 0 ∧ (0 : Int) ≤ 2000 := by decide
theorem bodyN_ok {p : Nat → Int} (h : PhIn p) : BodyOK (bodyN p) := body_mk (mul10 h.th) h.m h.d h.x h.y h.z
theorem bodyL_ok {p : Nat → Int} (h : PhIn p) : BodyOK (bodyL p) := body_mk (mul10 ⟨Int.le_refl 0, Int.le_refl 0, by decide⟩) h.m h.d z0_in z0_in z0_in
def rBodyF : QRule := fun ds K => match ds with
  | [.eptr 13 g, .int .i64 t] => (FltIs g ∧ 0 ≤ t ∧ t ≤ 1000000) ∧ ∀ b : Nat → Int, BodyOK b → K (.ret (ax12 b))
  | _ => False
def lastC (p : Nat → Int) : List V.D := [.int .i64 (p 0), .int .i64 0, .int .i64 0, .int .i64 (p 3), .int .i64 (p 4), .int .i64 (p 5), .int .i64 (p 6), .int .i64 0, .int .i64 0, .int .i64 0, .int .i64 0, .int .i64 0, .int .i64 0]
theorem fBody_ok : QSound Go.Proofs.Tryz.prog 47 rBodyF := by
  refine qsound_of Tryz.func47 (by kernel_rfl) rfl (ctx lt9_ok) ?_
  intro ds K h
  unfold rBodyF at h
  split at h <;> first | exact h.elim | skip
  refine ⟨Nat.le_of_ble_eq_true rfl, ?_⟩
  rename_i g t
  obtain ⟨⟨⟨F, hF, hg⟩, ht⟩, hK⟩ := h
  refine ⟨[.eptr 13 F.at, .int .i64 t], rfl, hg, rfl, ?_⟩
  clear hg
  have hn := hF.chk.np
  have t1 : ((F.v.np : Int) - 1).toNat = F.v.np - 1 := by omega
  have pl := ph_in (hF.chk.ph (F.v.np - 1) (by omega))
  repeat' (first | ((with_reducible refine kok ?_); kernel_rfl) | ((with_reducible refine keq_mk ?_); kernel_rfl) | with_reducible rfl | ((conv => whnf); first | (with_reducible exact trivial) | ((with_reducible refine and_ff ?_ ?_); · exact rfl) | ((with_reducible refine and_tt ?_ ?_); · exact rfl) | (with_reducible refine And.intro ?_ ?_) | intro _ | (with_reducible refine fin2 hk ?_) | ((with_reducible refine eq_leaf ?_); exact rfl) | exact trivial))
  all_goals try ((first | with_reducible refine (?_ : (_ : Int) ≤ _) | with_reducible refine (?_ : (_ : Int) < _) | with_reducible refine (?_ : (_ : Nat) ≤ _)); clear hK; first | omega | (simp only [taskOf_agg, ↓Bool.not_eq_true', ↓Bool.not_eq_false', ↓decT, ↓decF, out_true, out_false, isin_true, isin_false, Int.toNat_natCast, Int.ofNat_lt, Nat.zero_add, Nat.add_zero, Nat.reduceAdd] at *; omega))
  conv => whnf
  refine ⟨Nat × Int, fun s => [(0, .eptr 13 F.at), (1, .int .i64 s.2), (4, .ptr 0 0), (5, .ptr 1 0), (30, .rsl 13 F.v.np (imD F.v.ph)), (31, .int .i64 F.v.np), (32, .int .i64 s.1)],
    fun s => [some (.row [.int .i64 0, .int .i64 0, .int .i64 0, .int .i64 0, .int .i64 0, .int .i64 0, .int .i64 0, .int .i64 0, .int .i64 0, .int .i64 0, .int .i64 0, .int .i64 0]), some (.row (lastC (F.v.ph (F.v.np - 1)))), none], fun s => F.v.np - s.1,
    fun s => s.1 ≤ F.v.np ∧ 0 ≤ s.2 ∧ s.2 ≤ 1000000, [], (0, t), fun _ => ⟨rfl, rfl⟩, ?_, fun s hI => ?_⟩
  · repeat' (first | ((with_reducible refine kok ?_); kernel_rfl) | ((with_reducible refine keq_mk ?_); kernel_rfl) | with_reducible rfl | ((conv => whnf); first | (with_reducible exact trivial) | ((with_reducible refine and_ff ?_ ?_); · exact rfl) | ((with_reducible refine and_tt ?_ ?_); · exact rfl) | (with_reducible refine And.intro ?_ ?_) | intro _ | (with_reducible refine fin2 hk ?_) | ((with_reducible refine eq_leaf ?_); exact rfl) | exact trivial))
    all_goals first
      | exact Nat.zero_le _
      | exact ht.1
      | exact ht.2
      | (rw [t1])
      | skip
  obtain ⟨i, u⟩ := s
  obtain ⟨hi, hu⟩ := hI
  have hi : i ≤ F.v.np := hi
  have hu : 0 ≤ u ∧ u ≤ 1000000 := hu
  have hP : i < F.v.np → PhIn (F.v.ph i) := fun h => ph_in (hF.chk.ph i h)
  repeat' (first | ((with_reducible refine kok ?_); kernel_rfl) | ((with_reducible refine keq_mk ?_); kernel_rfl) | with_reducible rfl | ((conv => whnf); first | (with_reducible exact trivial) | ((with_reducible refine and_ff ?_ ?_); · exact rfl) | ((with_reducible refine and_tt ?_ ?_); · exact rfl) | (with_reducible refine And.intro ?_ ?_) | intro _ | (with_reducible refine fin2 hk ?_) | ((with_reducible refine eq_leaf ?_); exact rfl) | exact trivial))
  all_goals try ((first | with_reducible refine (?_ : (_ : Int) ≤ _) | with_reducible refine (?_ : (_ : Int) < _) | with_reducible refine (?_ : (_ : Nat) ≤ _)); clear hK; simp only [taskOf_agg, ↓Bool.not_eq_true', ↓Bool.not_eq_false', ↓decT, ↓decF, out_true, out_false, isin_true, isin_false, Int.toNat_natCast, Int.ofNat_lt, Nat.zero_add, Nat.add_zero, Nat.reduceAdd] at *; first | omega | (have P := hP (by assumption); have := P.th; have := P.t; omega))
  · rename_i g1 g2
    have P := hP (by simp only [taskOf_agg, ↓Bool.not_eq_true', ↓Bool.not_eq_false', ↓decT, ↓decF, out_true, out_false, isin_true, isin_false, Int.toNat_natCast, Int.ofNat_lt, Nat.zero_add, Nat.add_zero, Nat.reduceAdd] at g1; exact g1)
    exact hK _ (bodyN_ok P)
  · rename_i g1 g2
    have hlt : i < F.v.np := by simp only [taskOf_agg, ↓Bool.not_eq_true', ↓Bool.not_eq_false', ↓decT, ↓decF, out_true, out_false, isin_true, isin_false, Int.toNat_natCast, Int.ofNat_lt, Nat.zero_add, Nat.add_zero, Nat.reduceAdd] at g1; exact g1
    have P := hP hlt
    have ht := P.t
    have g3 : F.v.ph i 0 ≤ u := by clear hK; simp only [taskOf_agg, ↓Bool.not_eq_true', ↓Bool.not_eq_false', ↓decT, ↓decF, out_true, out_false, isin_true, isin_false, Int.toNat_natCast, Int.ofNat_lt, Nat.zero_add, Nat.add_zero, Nat.reduceAdd] at g2; omega
    clear hK
    conv => whnf
    refine ⟨(i + 1, u - F.v.ph i 0), ?_⟩
    repeat' (first | ((with_reducible refine kok ?_); kernel_rfl) | ((with_reducible refine keq_mk ?_); kernel_rfl) | with_reducible rfl | ((conv => whnf); first | (with_reducible exact trivial) | ((with_reducible refine and_ff ?_ ?_); · exact rfl) | ((with_reducible refine and_tt ?_ ?_); · exact rfl) | (with_reducible refine And.intro ?_ ?_) | intro _ | (with_reducible refine fin2 hk ?_) | ((with_reducible refine eq_leaf ?_); exact rfl) | exact trivial))
    all_goals first
      | exact hlt
      | (simp only; omega)
      | omega
  · exact hK _ (bodyL_ok pl)
end Go.Proofs.YtphcblofacfkaaaGreat
end
