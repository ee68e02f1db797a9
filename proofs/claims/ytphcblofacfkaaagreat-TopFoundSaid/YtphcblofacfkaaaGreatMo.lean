/-
  The search of the recovery (plain).
-/
import Derived.Test.YtphcblofacfkaaaGreatMn
set_option linter.unusedVariables false
set_option linter.unusedSimpArgs false
set_option maxRecDepth 100000
set_option maxHeartbeats 4000000
section
namespace Go.Proofs.YtphcblofacfkaaaGreat
open Go.V
def cellG (t : RTask) (c : Int) : Nat := (cellsL t).getD c.toNat 0
def midX (t : RTask) (g : Nat) : Int := (cxl t g + cxh t g) / 2
def midY (t : RTask) (g : Nat) : Int := (cyl t g + cyh t g) / 2
def spX (t : RTask) (c : Int) : Int := if c < 0 then t.bx else midX t (cellG t c)
def spY (t : RTask) (c : Int) : Int := if c < 0 then t.bz else midY t (cellG t c)
def flC (t : RTask) (a b : Int) : Int := flOf t (spX t a) (spY t a) (spX t b) (spY t b)
def opC (t : RTask) (c : Int) : Int := cellN t (cellG t c) 4
def tripS (t : RTask) (c f vc vf : Int) : Int := if c < 0 then vf - flC t (-1) vc else f
def earlyB (t : RTask) (c u vc vf vu : Int) : Bool := (!(isin vf (-1000000000) 1000000000 && isin vu (-1000000000) 1000000000) || decide (vf < u + flC t c vc)) || ((decide (vc < 0) && decide (vu < vf + t.turn)) || (!decide (vc < 0) && !decide (vu = vf + t.look)))
def wrongS (t : RTask) (c u f vc vf vu : Int) : Int := if earlyB t c u vc vf vu = true then 200 else if vc < 0 then 0 else if opC t vc < 0 ∨ vf < opC t vc then 201 else if t.fuel < vu + flC t vc (-1) - tripS t c f vc vf then 202 else 0
def visF (t : RTask) (c u i : Int) : Int := if i < 0 then u + flC t c i else max (u + flC t c i) (opC t i)
def visU (t : RTask) (c u i : Int) : Int := if i < 0 then visF t c u i + t.turn else visF t c u i + t.look
def candB (t : RTask) (c u f : Int) (done : Nat → Bool) (i : Nat) : Bool := (!done i && decide (0 ≤ opC t i)) && decide (wrongS t c u f i (visF t c u i) (visU t c u i) = 0)
def bestF (t : RTask) (c u f : Int) (done : Nat → Bool) : Nat → Int
  | 0 => -1
  | n + 1 => if candB t c u f done n = true ∧ (bestF t c u f done n < 0 ∨ visU t c u n < visU t c u (bestF t c u f done n)) then (n : Int) else bestF t c u f done n
structure Sim where
  c : Int
  u : Int
  f : Int
  done : Nat → Bool
def cellsM (t : RTask) : Nat := (cellsL t).length
def bestS (t : RTask) (s : Sim) : Int := bestF t s.c s.u s.f s.done (cellsM t)
def stopB (t : RTask) (s : Sim) : Bool := decide (s.c < 0) && decide (bestS t s < 0)
def goS (t : RTask) (s : Sim) (b : Int) : Sim := ⟨if b < 0 then -1 else b, visU t s.c s.u b, if b < 0 then 0 else tripS t s.c s.f b (visF t s.c s.u b), fun j => s.done j || decide ((j : Int) = b)⟩
def stepS (t : RTask) (s : Sim) : Sim := goS t s (bestS t s)
def simS (t : RTask) : Nat → Sim
  | 0 => ⟨-1, t.start, 0, fun _ => false⟩
  | k + 1 => stepS t (simS t k)
def visN (t : RTask) (k j : Nat) : Int := match j with
  | 0 => bestS t (simS t k)
  | 1 => visF t (simS t k).c (simS t k).u (bestS t (simS t k))
  | 2 => visU t (simS t k).c (simS t k).u (bestS t (simS t k))
  | _ => 0
def stopAt (t : RTask) (k : Nat) : Bool := stopB t (simS t k)
def nVis (t : RTask) : Nat := (firstFrom (stopAt t) 0 (2 * cellsM t + 1)).toNat
def endS (t : RTask) : Sim := simS t (nVis t)
def leftTo (done : Nat → Bool) : Nat → List Nat
  | 0 => []
  | n + 1 => if done n = true then leftTo done n else leftTo done n ++ [n]
def leftM (t : RTask) (l : List Nat) (i j : Nat) : Int := match j with
  | 0 => ((l.getD i 0 : Nat) : Int)
  | 1 => if opC t ((l.getD i 0 : Nat) : Int) < 0 then 1 else 2
  | _ => 0
def leftsL (t : RTask) : List Nat := leftTo (endS t).done (cellsM t)
theorem flOf_in {t : RTask} (hs : 1 ≤ t.speed ∧ t.speed ≤ 1000000) {ax ay bx bz : Int} (h1 : spot ax) (h2 : spot ay) (h3 : spot bx) (h4 : spot bz) : 0 ≤ flOf t ax ay bx bz ∧ flOf t ax ay bx bz ≤ 402000000 := by
  unfold spot at h1 h2 h3 h4
  have X := sq_in (x := ax - bx) (A := 200000000) (by omega) (by decide)
  have Y := sq_in (x := ay - bz) (A := 200000000) (by omega) (by decide)
  have F := flHi (s := t.speed) (x := ax - bx) (y := ay - bz) (M := 200000000) hs (by decide) (by omega) (by omega)
  have I := flS_is (s := t.speed) (d := farS ax ay bx bz) hs.1 (far_nonneg _ _ _ _) (by unfold farS; omega)
  refine ⟨I.zero, Int.le_trans (I.le (by have := F.lo; omega) F.yes) F.top⟩
theorem spot_mid {t : RTask} (h : RtOK t) {g : Nat} (hg : g < wideN t * tallN t) : spot (midX t g) ∧ spot (midY t g) := by
  obtain ⟨c1, c2⟩ := cell_in h hg
  have hx := h.ax
  have hy := h.ay
  unfold spot midX midY
  omega
theorem spot_sp {t : RTask} (h : RtOK t) {c : Int} (hc : c < (cellsM t : Int)) : spot (spX t c) ∧ spot (spY t c) := by
  unfold spX spY
  by_cases h0 : c < 0
  · rw [if_pos h0, if_pos h0]; exact ⟨h.bx, h.bz⟩
  · rw [if_neg h0, if_neg h0]
    exact spot_mid h (cellsL_get (by unfold cellsM at hc; omega))
theorem flC_in {t : RTask} (h : RtOK t) {a b : Int} (ha : a < (cellsM t : Int)) (hb : b < (cellsM t : Int)) : 0 ≤ flC t a b ∧ flC t a b ≤ 402000000 := by
  have h1 := spot_sp h ha
  have h2 := spot_sp h hb
  exact flOf_in h.speed h1.1 h1.2 h2.1 h2.2
theorem flOf_comm (t : RTask) (ax ay bx bz : Int) : flOf t ax ay bx bz = flOf t bx bz ax ay := by unfold flOf; rw [far_comm]
theorem flC_comm (t : RTask) (a b : Int) : flC t a b = flC t b a := flOf_comm ..
theorem flC_neg {t : RTask} {a : Int} (h : a < 0) (b : Int) : flC t a b = flC t (-1) b := by
  unfold flC spX spY
  rw [if_pos h, if_pos h, if_pos (show (-1 : Int) < 0 by decide), if_pos (show (-1 : Int) < 0 by decide)]
theorem openG_in {a : Nat → Nat → Int} {xl xh yl yh : Int} : ∀ {m i : Nat} {n : Int}, (0 ≤ n ∧ n ≤ 100000) → (∀ j, i ≤ j → j < i + m → a j 4 ≤ 100000) → -1 ≤ openG a xl xh yl yh i n m ∧ openG a xl xh yl yh i n m ≤ 100000
  | 0, i, n, h, _ => by rw [openG]; omega
  | m + 1, i, n, h, hg => by
    rw [openG]
    split
    · exact openG_in h fun j h1 h2 => hg j (by omega) (by omega)
    · split
      · omega
      · exact openG_in (by have := hg i (Nat.le_refl i) (by omega); omega) fun j h1 h2 => hg j (by omega) (by omega)
theorem opC_in {t : RTask} (h : RtOK t) (c : Int) : -1 ≤ opC t c ∧ opC t c ≤ 100000 := by
  have e : opC t c = openS t (cxl t (cellG t c)) (cxh t (cellG t c)) (cyl t (cellG t c)) (cyh t (cellG t c)) := rfl
  rw [e]
  exact openG_in (by omega) fun j _ h2 => (h.grants.2 j (by omega)).2
theorem bestF_in (t : RTask) (c u f : Int) (done : Nat → Bool) : ∀ n, bestF t c u f done n = -1 ∨ (0 ≤ bestF t c u f done n ∧ bestF t c u f done n < n ∧ candB t c u f done (bestF t c u f done n).toNat = true)
  | 0 => .inl rfl
  | n + 1 => by
    unfold bestF
    split
    · rename_i h
      exact .inr ⟨by omega, by omega, by rw [Int.toNat_natCast]; exact h.1⟩
    · rcases bestF_in t c u f done n with h | h
      · exact .inl h
      · exact .inr ⟨h.1, by omega, h.2.2⟩
theorem bestF_none {t : RTask} {c u f : Int} {done : Nat → Bool} : ∀ {n}, bestF t c u f done n < 0 → ∀ i, i < n → candB t c u f done i = false
  | 0, _, i, hi => absurd hi (Nat.not_lt_zero _)
  | n + 1, h, i, hi => by
    unfold bestF at h
    split at h
    · omega
    · rename_i g
      rcases Nat.lt_or_eq_of_le (Nat.le_of_lt_succ hi) with h1 | rfl
      · exact bestF_none h i h1
      · cases hc : candB t c u f done i with
        | false => rfl
        | true => exact absurd ⟨hc, .inl h⟩ g
theorem bestF_next {t : RTask} {c u f : Int} {done : Nat → Bool} {n : Nat} (h : candB t c u f done n = true) (h2 : bestF t c u f done n < 0 ∨ visU t c u n < visU t c u (bestF t c u f done n)) : bestF t c u f done (n + 1) = n := if_pos ⟨h, h2⟩
theorem bestF_keep1 {t : RTask} {c u f : Int} {done : Nat → Bool} {n : Nat} (h : candB t c u f done n = false) : bestF t c u f done (n + 1) = bestF t c u f done n := if_neg (fun g => by rw [h] at g; exact Bool.noConfusion g.1)
theorem bestF_keep2 {t : RTask} {c u f : Int} {done : Nat → Bool} {n : Nat} (h2 : ¬ (bestF t c u f done n < 0 ∨ visU t c u n < visU t c u (bestF t c u f done n))) : bestF t c u f done (n + 1) = bestF t c u f done n := if_neg (fun g => h2 g.2)
theorem candB_true {t : RTask} {c u f : Int} {done : Nat → Bool} {i : Nat} : (candB t c u f done i = true) = (done i = false ∧ 0 ≤ opC t i ∧ wrongS t c u f i (visF t c u i) (visU t c u i) = 0) := by
  simp only [candB, Bool.and_eq_true, Bool.not_eq_true', decide_eq_true_eq, and_assoc]
theorem earlyB_true (t : RTask) (c u vc vf vu : Int) : (earlyB t c u vc vf vu = true) = (¬ ((-1000000000 ≤ vf ∧ vf ≤ 1000000000) ∧ -1000000000 ≤ vu ∧ vu ≤ 1000000000) ∨ vf < u + flC t c vc ∨ (vc < 0 ∧ vu < vf + t.turn) ∨ (¬ vc < 0 ∧ ¬ vu = vf + t.look)) := by
  simp only [earlyB, Bool.or_eq_true, Bool.and_eq_true, Bool.not_eq_true', decide_eq_true_eq, decide_eq_false_iff_not, ← Bool.not_eq_true, isin_true, or_assoc]
theorem wrong_iff (t : RTask) (c u f vc vf vu e : Int) : wrongS t c u f vc vf vu = e ↔ (earlyB t c u vc vf vu = true ∧ e = 200) ∨ (¬ earlyB t c u vc vf vu = true ∧ vc < 0 ∧ e = 0) ∨ (¬ earlyB t c u vc vf vu = true ∧ ¬ vc < 0 ∧ (opC t vc < 0 ∨ vf < opC t vc) ∧ e = 201) ∨
    (¬ earlyB t c u vc vf vu = true ∧ ¬ vc < 0 ∧ ¬ (opC t vc < 0 ∨ vf < opC t vc) ∧ t.fuel < vu + flC t vc (-1) - tripS t c f vc vf ∧ e = 202) ∨ (¬ earlyB t c u vc vf vu = true ∧ ¬ vc < 0 ∧ ¬ (opC t vc < 0 ∨ vf < opC t vc) ∧ ¬ t.fuel < vu + flC t vc (-1) - tripS t c f vc vf ∧ e = 0) := by
  unfold wrongS
  split
  · simp only [*, true_and, not_true_eq_false, false_and, or_false]; omega
  · split
    · simp only [*, true_and, not_true_eq_false, false_and, or_false, false_or, not_false_eq_true, Bool.false_eq_true]; omega
    · split
      · rename_i h1 h2 h3
        simp only [h1, h2, h3, true_and, not_true_eq_false, false_and, or_false, false_or, not_false_eq_true, Bool.false_eq_true]; omega
      · rename_i h1 h2 h3
        split <;> (simp only [*, true_and, not_true_eq_false, false_and, or_false, false_or, not_false_eq_true, Bool.false_eq_true]; omega)
structure SimOK (t : RTask) (k : Nat) (s : Sim) : Prop where
  c : -1 ≤ s.c ∧ s.c < cellsM t
  u : 0 ≤ s.u ∧ s.u ≤ 100000 + 200000 * k
  f : 0 ≤ s.f ∧ s.f ≤ s.u
  base : s.c < 0 → s.f = 0
  trip : 0 ≤ s.c → s.u + flC t s.c (-1) - s.f ≤ t.fuel ∧ s.done s.c.toNat = true
theorem simOK0 {t : RTask} (h : RtOK t) : SimOK t 0 (simS t 0) := by
  have := h.start
  exact ⟨by simp only [simS]; omega, by simp only [simS]; omega, by simp only [simS]; omega, fun _ => rfl, fun h => by simp only [simS] at h; omega⟩
structure CandOK (t : RTask) (s : Sim) (i : Int) : Prop where
  done : s.done i.toNat = false
  open' : 0 ≤ opC t i
  from' : visF t s.c s.u i = max (s.u + flC t s.c i) (opC t i)
  until' : visU t s.c s.u i = visF t s.c s.u i + t.look
  fuel : visU t s.c s.u i + flC t i (-1) - tripS t s.c s.f i (visF t s.c s.u i) ≤ t.fuel
theorem cand_ok {t : RTask} {s : Sim} {i : Nat} (h : candB t s.c s.u s.f s.done i = true) : CandOK t s i := by
  rw [candB_true, wrong_iff] at h
  obtain ⟨h1, h2, h3⟩ := h
  refine ⟨by rw [Int.toNat_natCast]; exact h1, h2, if_neg (by omega), if_neg (by omega), ?_⟩
  rcases h3 with h | h | h | h | h <;> omega
theorem best_ok {t : RTask} {s : Sim} (h : ¬ bestS t s < 0) : bestS t s < cellsM t ∧ CandOK t s (bestS t s) := by
  rcases bestF_in t s.c s.u s.f s.done (cellsM t) with g | ⟨g1, g2, g3⟩
  · exact absurd (show bestS t s < 0 by unfold bestS; omega) h
  · refine ⟨g2, ?_⟩
    have := cand_ok g3
    rwa [Int.toNat_of_nonneg g1] at this
theorem best_neg {t : RTask} {s : Sim} (h : bestS t s < 0) : bestS t s = -1 := by
  rcases bestF_in t s.c s.u s.f s.done (cellsM t) with g | ⟨g1, g2, g3⟩
  · exact g
  · unfold bestS at h; omega
theorem step_ok {t : RTask} (h : RtOK t) {k : Nat} {s : Sim} (hs : SimOK t k s) (hn : stopB t s = false) : SimOK t (k + 1) (stepS t s) := by
  have hc := hs.c
  have hu := hs.u
  have hf := hs.f
  have hfuel := h.fuel
  have hlook := h.look
  have hturn := h.turn
  by_cases hb : bestS t s < 0
  · have hb1 := best_neg hb
    have hc0 : 0 ≤ s.c := by
      simp only [stopB, hb, decide_true, Bool.and_true, decide_eq_false_iff_not] at hn
      omega
    have ht := hs.trip hc0
    have hfl := flC_in h (a := s.c) (b := -1) hc.2 (by omega)
    have e : visU t s.c s.u (-1) = s.u + flC t s.c (-1) + t.turn := by unfold visU visF; rw [if_pos (by decide), if_pos (by decide)]
    have E : stepS t s = ⟨-1, s.u + flC t s.c (-1) + t.turn, 0, (stepS t s).done⟩ := by
      simp only [stepS, goS, hb1, e, if_pos (show (-1 : Int) < 0 by decide)]
    rw [E]
    refine ⟨?_, ?_, ?_, ?_, ?_⟩
    · simp only; omega
    · simp only; omega
    · simp only; omega
    · exact fun _ => rfl
    · intro g; exact absurd (show (0 : Int) ≤ -1 from g) (by decide)
  · obtain ⟨b1, b2⟩ := best_ok hb
    have hfl := flC_in h (a := s.c) (b := bestS t s) hc.2 b1
    have hf2 := flC_in h (a := bestS t s) (b := -1) b1 (by omega)
    have ho := opC_in h (bestS t s)
    have e1 := b2.from'
    have e2 := b2.until'
    have e3 := b2.fuel
    have hl : s.c < 0 → tripS t s.c s.f (bestS t s) (visF t s.c s.u (bestS t s)) = visF t s.c s.u (bestS t s) - flC t s.c (bestS t s) := fun g => by unfold tripS; rw [if_pos g, flC_neg g]
    have hl2 : ¬ s.c < 0 → tripS t s.c s.f (bestS t s) (visF t s.c s.u (bestS t s)) = s.f := fun g => by unfold tripS; rw [if_neg g]
    have hl3 : 0 ≤ tripS t s.c s.f (bestS t s) (visF t s.c s.u (bestS t s)) ∧ tripS t s.c s.f (bestS t s) (visF t s.c s.u (bestS t s)) ≤ max s.u 100000 ∧ tripS t s.c s.f (bestS t s) (visF t s.c s.u (bestS t s)) ≤ visU t s.c s.u (bestS t s) := by
      by_cases g : s.c < 0
      · rw [hl g]; omega
      · rw [hl2 g]; omega
    refine ⟨?_, ?_, ?_, ?_, ?_⟩
    · simp only [stepS, goS, if_neg hb]; omega
    · simp only [stepS, goS]; omega
    · simp only [stepS, goS, if_neg hb]; omega
    · simp only [stepS, goS, if_neg hb]; intro g; exact absurd g hb
    · simp only [stepS, goS, if_neg hb]
      intro g
      refine ⟨by omega, ?_⟩
      rw [Int.toNat_of_nonneg g]
      simp
end Go.Proofs.YtphcblofacfkaaaGreat
end
section
namespace Go.Proofs.YtphcblofacfkaaaGreat
open Go.V
noncomputable def lr28 : Lib := lr27
theorem lr28_ok : LibOK Go.Proofs.Tryz.prog lr28 := lr27_ok
attribute [local irreducible] manyS goneB openS checkR cellsL
noncomputable def lr29 : Lib := lr28
theorem lr29_ok : LibOK Go.Proofs.Tryz.prog lr29 := lr28_ok
attribute [local irreducible] spX spY flOf cellM opC
end Go.Proofs.YtphcblofacfkaaaGreat
end
section
namespace Go.Proofs.YtphcblofacfkaaaGreat
open Go.V
noncomputable def lr30 : Lib := lr29
theorem lr30_ok : LibOK Go.Proofs.Tryz.prog lr30 := lr29_ok
attribute [local irreducible] manyS goneB openS checkR cellsL spX spY flOf cellM opC wrongS visF visU
end Go.Proofs.YtphcblofacfkaaaGreat
end
section
namespace Go.Proofs.YtphcblofacfkaaaGreat
open Go.V
def undo (done : Nat → Bool) : Nat → Nat
  | 0 => 0
  | n + 1 => undo done n + (if done n = true then 0 else 1)
theorem undo_le (done : Nat → Bool) : ∀ n, undo done n ≤ n
  | 0 => Nat.le_refl 0
  | n + 1 => by have := undo_le done n; simp only [undo]; split <;> omega
theorem undo_same {d d' : Nat → Bool} : ∀ {n}, (∀ j, j < n → d' j = d j) → undo d' n = undo d n
  | 0, _ => rfl
  | n + 1, h => by simp only [undo]; rw [undo_same fun j hj => h j (by omega), h n (Nat.lt_succ_self n)]
theorem undo_set {d d' : Nat → Bool} {i : Nat} : ∀ {n}, i < n → d i = false → d' i = true → (∀ j, j ≠ i → d' j = d j) → undo d' n + 1 = undo d n
  | 0, hi, _, _, _ => absurd hi (Nat.not_lt_zero _)
  | n + 1, hi, h1, h2, h3 => by
    simp only [undo]
    by_cases e : n = i
    · subst e
      rw [undo_same (n := n) (d := d) (d' := d') fun j hj => h3 j (by omega), h1, h2]
      simp
    · have := undo_set (n := n) (by omega) h1 h2 h3
      rw [h3 n e]
      omega
def muS (t : RTask) (s : Sim) : Nat := 2 * undo s.done (cellsM t) + (if 0 ≤ s.c then 1 else 0)
theorem mu_step {t : RTask} {s : Sim} (hn : stopB t s = false) : muS t (stepS t s) < muS t s := by
  by_cases hb : bestS t s < 0
  · have hb1 := best_neg hb
    have hc0 : 0 ≤ s.c := by
      simp only [stopB, hb, decide_true, Bool.and_true, decide_eq_false_iff_not] at hn
      omega
    have e : undo (stepS t s).done (cellsM t) = undo s.done (cellsM t) := undo_same fun j _ => by
      simp only [stepS, goS, hb1]
      rw [decide_eq_false (by omega), Bool.or_false]
    have e2 : (stepS t s).c = -1 := by simp only [stepS, goS, hb1]; rfl
    simp only [muS, e, e2]
    rw [if_pos hc0, if_neg (by decide)]
    omega
  · obtain ⟨b1, b2⟩ := best_ok hb
    have hb0 : ((bestS t s).toNat : Int) = bestS t s := Int.toNat_of_nonneg (by omega)
    have e := undo_set (d := s.done) (d' := (stepS t s).done) (i := (bestS t s).toNat) (n := cellsM t) (by omega) b2.done (by simp only [stepS, goS]; rw [decide_eq_true hb0, Bool.or_true]) (fun j hj => by
      simp only [stepS, goS]
      rw [decide_eq_false (by omega), Bool.or_false])
    simp only [muS]
    split <;> split <;> omega
structure Going (t : RTask) (k : Nat) : Prop where
  ok : SimOK t k (simS t k)
  mu : muS t (simS t k) + k ≤ 2 * cellsM t
  on : anyBelow (stopAt t) k = false
theorem going0 {t : RTask} (h : RtOK t) : Going t 0 := ⟨simOK0 h, by
  have := undo_le (simS t 0).done (cellsM t)
  simp only [muS]
  rw [if_neg (by simp only [simS]; decide)]
  omega, rfl⟩
theorem Going.next {t : RTask} (h : RtOK t) {k : Nat} (g : Going t k) (hn : stopB t (simS t k) = false) : Going t (k + 1) :=
  ⟨step_ok h g.ok hn, by
    have := mu_step hn
    have := g.mu
    simp only [simS]
    omega, by rw [anyBelow_succ, g.on, Bool.false_or]; exact hn⟩
theorem Going.stop {t : RTask} {k : Nat} (g : Going t k) (hn : stopB t (simS t k) = true) : nVis t = k := by
  have hk : k < 2 * cellsM t + 1 := by have := g.mu; omega
  unfold nVis
  rcases firstFrom_spec (stopAt t) (2 * cellsM t + 1) 0 with ⟨_, h2⟩ | ⟨m, h1, h2, h3, h4, h5⟩
  · have := h2 k (Nat.zero_le k) (by omega)
    rw [show stopAt t k = true from hn] at this
    cases this
  · rw [h1, Int.toNat_natCast]
    rcases Nat.lt_trichotomy m k with h | h | h
    · have := anyBelow_iff.mpr ⟨m, h, h4⟩
      rw [g.on] at this
      cases this
    · exact h
    · have := h5 k (Nat.zero_le k) h
      rw [show stopAt t k = true from hn] at this
      cases this
theorem going_all {t : RTask} (h : RtOK t) : Going t (nVis t) ∧ stopB t (endS t) = true := by
  have key : ∀ n k, 2 * cellsM t + 1 ≤ n + k → Going t k → Going t (nVis t) ∧ stopB t (endS t) = true := fun n => by
    induction n with
    | zero => intro k hk g; have := g.mu; omega
    | succ n ih =>
      intro k hk g
      cases hs : stopB t (simS t k) with
      | true =>
        have e := g.stop hs
        unfold endS
        rw [e]
        exact ⟨g, hs⟩
      | false => exact ih (k + 1) (by omega) (g.next h hs)
  exact key (2 * cellsM t + 1) 0 (Nat.le_refl _) (going0 h)
theorem best_wrong {t : RTask} (h : RtOK t) {k : Nat} {s : Sim} (hs : SimOK t k s) (hk : k ≤ 120) : wrongS t s.c s.u s.f (bestS t s) (visF t s.c s.u (bestS t s)) (visU t s.c s.u (bestS t s)) = 0 := by
  by_cases hb : bestS t s < 0
  · have hb1 := best_neg hb
    have hfl := flC_in h (a := s.c) (b := -1) hs.c.2 (by omega)
    have hu := hs.u
    have hturn := h.turn
    rw [hb1, wrong_iff, earlyB_true]
    have e1 : visU t s.c s.u (-1) = visF t s.c s.u (-1) + t.turn := by unfold visU; rw [if_pos (by decide)]
    have e2 : visF t s.c s.u (-1) = s.u + flC t s.c (-1) := by unfold visF; rw [if_pos (by decide)]
    omega
  · rcases bestF_in t s.c s.u s.f s.done (cellsM t) with g | ⟨g1, g2, g3⟩
    · exact absurd (show bestS t s < 0 by unfold bestS; omega) hb
    · rw [candB_true] at g3
      have := g3.2.2
      rwa [Int.toNat_of_nonneg g1] at this
theorem best_lt {t : RTask} {s : Sim} : -1 ≤ bestS t s ∧ bestS t s < (cellsM t : Int) := by
  rcases bestF_in t s.c s.u s.f s.done (cellsM t) with g | ⟨g1, g2, g3⟩ <;> unfold bestS <;> omega
theorem leftTo_len (done : Nat → Bool) : ∀ n, (leftTo done n).length ≤ n
  | 0 => Nat.le_refl 0
  | n + 1 => by
    have := leftTo_len done n
    simp only [leftTo]
    split
    · omega
    · simp only [List.length_append, List.length_singleton]; omega
theorem left_done {d : Nat → Bool} {n : Nat} (h : d n = true) : leftTo d (n + 1) = leftTo d n := by simp only [leftTo, if_pos h]
theorem left_more {d : Nat → Bool} {n : Nat} (h : d n = false) : leftTo d (n + 1) = leftTo d n ++ [n] := by simp only [leftTo]; rw [if_neg (by rw [h]; exact Bool.noConfusion)]
theorem left_more_len {d : Nat → Bool} {n : Nat} (h : d n = false) : (leftTo d (n + 1)).length = (leftTo d n).length + 1 := by rw [left_more h, List.length_append]; rfl
theorem left_snoc {t : RTask} {d : Nat → Bool} {n i j : Nat} (h : d n = false) {l : List V.D} (hl : l = [.int .i64 (n : Nat), .int .i64 (if opC t (n : Nat) < 0 then 1 else 2)])
    (hi : i < (leftTo d n).length + 1) (hj : j < 2) :
    (if i < (leftTo d n).length then imD (leftM t (leftTo d n)) i j else l.getD ((i - (leftTo d n).length) * 2 + j) D.top) = imD (leftM t (leftTo d (n + 1))) i j := by
  subst hl
  rw [left_more h]
  by_cases hlt : i < (leftTo d n).length
  · rw [if_pos hlt]
    unfold imD leftM
    rw [List.getD_eq_getElem?_getD, List.getD_eq_getElem?_getD, List.getElem?_append_left hlt]
  · rw [if_neg hlt]
    obtain rfl : i = (leftTo d n).length := by omega
    have e : (leftTo d n ++ [n]).getD (leftTo d n).length 0 = n := by simp [List.getD_eq_getElem?_getD]
    unfold imD leftM
    rw [e]
    have hj' : j = 0 ∨ j = 1 := by omega
    rcases hj' with rfl | rfl <;> simp
theorem vis_snoc {t : RTask} {k i j : Nat} {l : List V.D} (hl : l = [.int .i64 (visN t k 0), .int .i64 (visN t k 1), .int .i64 (visN t k 2)]) (hi : i < k + 1) (hj : j < 3) :
    (if i < k then imD (visN t) i j else l.getD ((i - k) * 3 + j) D.top) = imD (visN t) i j := by
  subst hl
  by_cases hlt : i < k
  · rw [if_pos hlt]
  · rw [if_neg hlt]
    obtain rfl : i = k := by omega
    have hj' : j = 0 ∨ j = 1 ∨ j = 2 := by omega
    rcases hj' with rfl | rfl | rfl <;> simp [imD]
end Go.Proofs.YtphcblofacfkaaaGreat
end
