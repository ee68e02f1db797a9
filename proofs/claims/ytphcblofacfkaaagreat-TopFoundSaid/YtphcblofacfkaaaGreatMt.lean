/-
  The recovery's law Flies: what its function answers.
-/
import Derived.Test.YtphcblofacfkaaaGreatMs
set_option linter.unusedVariables false
set_option linter.unusedSimpArgs false
set_option maxRecDepth 100000
set_option maxHeartbeats 4000000
section
namespace Go.Proofs.YtphcblofacfkaaaGreat
open Go.V
structure FlF (t : RTask) (ax ay bx bz : Int) : Prop where
  a : 0 ≤ flOf t ax ay bx bz ∧ flOf t ax ay bx bz ≤ 402000000
  m : 0 ≤ flOf t ax ay bx bz * t.speed ∧ flOf t ax ay bx bz * t.speed ≤ 402000000
  yes : (ax - bx) * (ax - bx) + (ay - bz) * (ay - bz) ≤ flOf t ax ay bx bz * t.speed * (flOf t ax ay bx bz * t.speed)
  no : 0 < flOf t ax ay bx bz → (flOf t ax ay bx bz * t.speed - t.speed) * (flOf t ax ay bx bz * t.speed - t.speed) < (ax - bx) * (ax - bx) + (ay - bz) * (ay - bz)
theorem fl_third {t : RTask} (hs : 1 ≤ t.speed ∧ t.speed ≤ 1000000) {ax ay bx bz cx cz : Int} (h1 : spot ax) (h2 : spot ay) (h3 : spot bx) (h4 : spot bz) (h5 : spot cx) (h6 : spot cz) : flOf t ax ay bx bz ≤ flOf t ax ay cx cz + flOf t cx cz bx bz := by
  have I : ∀ {ax ay bx bz : Int}, spot ax → spot ay → spot bx → spot bz → IsFl t.speed (farS ax ay bx bz) (flOf t ax ay bx bz) := fun {ax ay bx bz} h1 h2 h3 h4 => by
    unfold spot at h1 h2 h3 h4
    have X := sq_in (x := ax - bx) (A := 200000000) (by omega) (by decide)
    have Y := sq_in (x := ay - bz) (A := 200000000) (by omega) (by decide)
    exact flS_is (s := t.speed) (d := farS ax ay bx bz) hs.1 (far_nonneg _ _ _ _) (by unfold farS; omega)
  exact fl_tri (by omega) (I h1 h2 h5 h6) (I h5 h6 h3 h4) (I h1 h2 h3 h4)
attribute [local irreducible] exR checkR visitsN leftsN visN leftM leftsL cellT landT planA planB winA sameB cellsN cellM cellsL flOf
end Go.Proofs.YtphcblofacfkaaaGreat
end
section
namespace Go.Proofs.YtphcblofacfkaaaGreat
open Go.V
theorem flC_third {t : RTask} (h : RtOK t) {a b c : Int} (ha : a < (cellsM t : Int)) (hb : b < (cellsM t : Int)) (hc : c < (cellsM t : Int)) : flC t a b ≤ flC t a c + flC t c b := by
  have h1 := spot_sp h ha
  have h2 := spot_sp h hb
  have h3 := spot_sp h hc
  exact fl_third h.speed h1.1 h1.2 h2.1 h2.2 h3.1 h3.2
def near (t : RTask) (i : Int) : Prop := 0 ≤ opC t i ∧ t.look + 2 * flC t (-1) i ≤ t.fuel
instance (t : RTask) (i : Int) : Decidable (near t i) := inferInstanceAs (Decidable (_ ∧ _))
structure FarI (t : RTask) (s : Sim) : Prop where
  go : 0 ≤ s.c → flC t (-1) s.c + t.look ≤ s.u - s.f
  done : ∀ i : Nat, i < cellsM t → s.done i = true → near t i
theorem far_step {t : RTask} (h : RtOK t) {k : Nat} {s : Sim} (hs : SimOK t k s) (hf : FarI t s) : FarI t (stepS t s) := by
  have hlook := h.look
  by_cases hb : bestS t s < 0
  · have hb1 := best_neg hb
    refine ⟨fun g => ?_, fun i hi hd => ?_⟩
    · have e : (stepS t s).c = -1 := by simp only [stepS, goS, hb1]; decide
      omega
    · have e : (stepS t s).done i = (s.done i || decide ((i : Int) = bestS t s)) := rfl
      rw [e, decide_eq_false (by omega), Bool.or_false] at hd
      exact hf.done i hi hd
  · obtain ⟨b1, b2⟩ := best_ok hb
    have e1 : (stepS t s).c = bestS t s := if_neg hb
    have e2 : (stepS t s).u = visU t s.c s.u (bestS t s) := rfl
    have e3 : (stepS t s).f = tripS t s.c s.f (bestS t s) (visF t s.c s.u (bestS t s)) := if_neg hb
    have hc := hs.c
    have T := flC_third h (a := -1) (b := bestS t s) (c := s.c) (by omega) b1 hc.2
    have F := flC_in h (a := -1) (b := bestS t s) (by omega) b1
    have G := flC_in h (a := s.c) (b := bestS t s) hc.2 b1
    have w1 := b2.from'
    have w2 := b2.until'
    have w3 := b2.fuel
    have M : flC t (-1) (bestS t s) + t.look ≤ visU t s.c s.u (bestS t s) - tripS t s.c s.f (bestS t s) (visF t s.c s.u (bestS t s)) := by
      unfold tripS
      split
      · omega
      · have := hf.go (by omega)
        omega
    refine ⟨fun _ => by rw [e1, e2, e3]; exact M, fun i hi hd => ?_⟩
    have e : (stepS t s).done i = (s.done i || decide ((i : Int) = bestS t s)) := rfl
    rw [e] at hd
    by_cases hi2 : (i : Int) = bestS t s
    · rw [hi2]
      have c := flC_comm t (bestS t s) (-1)
      exact ⟨b2.open', by omega⟩
    · rw [decide_eq_false hi2, Bool.or_false] at hd
      exact hf.done i hi hd
theorem far_at {t : RTask} (h : RtOK t) : ∀ k, k ≤ nVis t → SimOK t k (simS t k) ∧ FarI t (simS t k)
  | 0, _ => ⟨simOK0 h, ⟨fun g => absurd (show (0 : Int) ≤ -1 from g) (by decide), fun i _ g => Bool.noConfusion (show false = true from g)⟩⟩
  | k + 1, hk => by
    obtain ⟨h1, h2⟩ := far_at h k (by omega)
    have hn : stopB t (simS t k) = false := by
      cases e : stopB t (simS t k) with
      | false => rfl
      | true =>
        have := anyBelow_iff.mpr ⟨k, (by omega : k < nVis t), (show stopAt t k = true from e)⟩
        rw [(going_all h).1.on] at this
        cases this
    exact ⟨step_ok h h1 hn, far_step h h1 h2⟩
theorem done_near {t : RTask} (h : RtOK t) {i : Nat} (hi : i < cellsM t) : (endS t).done i = decide (near t i) := by
  obtain ⟨h1, h2⟩ := far_at h (nVis t) (Nat.le_refl _)
  obtain ⟨g1, g2⟩ := going_all h
  cases hd : (endS t).done i with
  | true => exact (decide_eq_true (h2.done i hi hd)).symm
  | false =>
    symm
    refine decide_eq_false fun hn => ?_
    simp only [stopB, Bool.and_eq_true, decide_eq_true_eq] at g2
    have c := bestF_none g2.2 i hi
    have k1 := g1.mu
    have k2 := cellsL_len h
    have hcm : cellsM t = (cellsL t).length := rfl
    have hu := h1.u
    have hl := h.look
    have F := flC_in h (a := (endS t).c) (b := i) h1.c.2 (by omega)
    have e0 := flC_neg (t := t) g2.1 (i : Int)
    have cc := flC_comm t (i : Int) (-1)
    have ho := opC_in h (i : Int)
    have v1 : visF t (endS t).c (endS t).u i = max ((endS t).u + flC t (endS t).c i) (opC t i) := if_neg (by omega)
    have v2 : visU t (endS t).c (endS t).u i = visF t (endS t).c (endS t).u i + t.look := if_neg (by omega)
    have v3 : tripS t (endS t).c (endS t).f i (visF t (endS t).c (endS t).u i) = visF t (endS t).c (endS t).u i - flC t (-1) i := if_pos g2.1
    have hu : 0 ≤ (endS t).u ∧ (endS t).u ≤ 100000 + 200000 * (nVis t : Int) := h1.u
    obtain ⟨n1, n2⟩ := hn
    have cb : candB t (endS t).c (endS t).u (endS t).f (endS t).done i = true := by
      rw [candB_true, wrong_iff, earlyB_true]
      exact ⟨hd, n1, by omega⟩
    rw [c] at cb
    cases cb
end Go.Proofs.YtphcblofacfkaaaGreat
end
section
namespace Go.Proofs.YtphcblofacfkaaaGreat
open Go.V
theorem corner1 {a x lo hi : Int} (h1 : lo ≤ x) (h2 : x ≤ hi) : a * x ≤ a * lo ∨ a * x ≤ a * hi := by
  rcases Int.le_total 0 a with h | h
  · exact .inr (Int.mul_le_mul_of_nonneg_left h2 h)
  · left
    exact Int.mul_le_mul_of_nonpos_left h h1
def halfA (c d e k : Int) : Int := if k = 0 then c else if k = 1 then e * c + 1000 * d else e * c - 1000 * d
def halfB (c d e k : Int) : Int := if k = 0 then d else if k = 1 then e * d - 1000 * c else e * d + 1000 * c
theorem brg_half {a b c d e x y : Int} (k : Nat) (hk : k < 3) : brgB a b c d e x y k = decide (halfA c d e k * a + halfB c d e k * b ≤ halfA c d e k * x + halfB c d e k * y) := by
  have hk' : k = 0 ∨ k = 1 ∨ k = 2 := by omega
  unfold brgB halfA halfB fwd asd
  rcases hk' with rfl | rfl | rfl
  · rw [if_pos (show ((0 : Nat) : Int) = 0 from rfl), if_pos (show ((0 : Nat) : Int) = 0 from rfl), if_pos (show ((0 : Nat) : Int) = 0 from rfl)]
    congr 1
    apply propext
    have : c * (x - a) + d * (y - b) = (c * x + d * y) - (c * a + d * b) := by grind
    omega
  · rw [if_neg (show ¬ ((1 : Nat) : Int) = 0 by decide), if_pos (show ((1 : Nat) : Int) = 1 from rfl), if_neg (show ¬ ((1 : Nat) : Int) = 0 by decide), if_pos (show ((1 : Nat) : Int) = 1 from rfl), if_neg (show ¬ ((1 : Nat) : Int) = 0 by decide), if_pos (show ((1 : Nat) : Int) = 1 from rfl)]
    congr 1
    apply propext
    have : e * (c * (x - a) + d * (y - b)) - 1000 * (c * (y - b) - d * (x - a)) = ((e * c + 1000 * d) * x + (e * d - 1000 * c) * y) - ((e * c + 1000 * d) * a + (e * d - 1000 * c) * b) := by grind
    omega
  · rw [if_neg (show ¬ ((2 : Nat) : Int) = 0 by decide), if_neg (show ¬ ((2 : Nat) : Int) = 1 by decide), if_neg (show ¬ ((2 : Nat) : Int) = 0 by decide), if_neg (show ¬ ((2 : Nat) : Int) = 1 by decide), if_neg (show ¬ ((2 : Nat) : Int) = 0 by decide), if_neg (show ¬ ((2 : Nat) : Int) = 1 by decide)]
    congr 1
    apply propext
    have : e * (c * (x - a) + d * (y - b)) - (0 - 1000 * (c * (y - b) - d * (x - a))) = ((e * c - 1000 * d) * x + (e * d + 1000 * c) * y) - ((e * c - 1000 * d) * a + (e * d + 1000 * c) * b) := by grind
    omega
theorem some_of {a b c d e xl xh yl yh x y : Int} {k : Nat} (hk : k < 3) (hx : xl ≤ x ∧ x ≤ xh) (hy : yl ≤ y ∧ y ≤ yh) (h : brgB a b c d e x y k = true) : someB a b c d e xl xh yl yh k = true := by
  unfold someB
  rw [brg_half k hk] at h ⊢
  rw [brg_half k hk, brg_half k hk, brg_half k hk]
  simp only [Bool.or_eq_true, decide_eq_true_eq] at h ⊢
  have p := corner1 (a := halfA c d e k) hx.1 hx.2
  have q := corner1 (a := halfB c d e k) hy.1 hy.2
  omega
def disB (t : RTask) (x y : Int) (i : Nat) : Bool := decide (fwd (t.fx i 0) (t.fx i 1) (t.fx i 2) (t.fx i 3) x y < 0) || decide (t.fx i 4 * fwd (t.fx i 0) (t.fx i 1) (t.fx i 2) (t.fx i 3) x y < 1000 * max (asd (t.fx i 0) (t.fx i 1) (t.fx i 2) (t.fx i 3) x y) (0 - asd (t.fx i 0) (t.fx i 1) (t.fx i 2) (t.fx i 3) x y))
theorem dis_brg {t : RTask} {x y : Int} {i : Nat} (h : disB t x y i = false) (k : Nat) (hk : k < 3) : brgB (t.fx i 0) (t.fx i 1) (t.fx i 2) (t.fx i 3) (t.fx i 4) x y k = true := by
  unfold disB at h
  simp only [Bool.or_eq_false_iff, decide_eq_false_iff_not] at h
  have hk' : k = 0 ∨ k = 1 ∨ k = 2 := by omega
  unfold brgB
  rcases hk' with rfl | rfl | rfl
  · rw [if_pos (show ((0 : Nat) : Int) = 0 from rfl), decide_eq_true_eq]; omega
  · rw [if_neg (show ¬ ((1 : Nat) : Int) = 0 by decide), if_pos (show ((1 : Nat) : Int) = 1 from rfl), decide_eq_true_eq]; omega
  · rw [if_neg (show ¬ ((2 : Nat) : Int) = 0 by decide), if_neg (show ¬ ((2 : Nat) : Int) = 1 by decide), decide_eq_true_eq]; omega
def cellHas (t : RTask) (x y : Int) (g : Nat) : Prop := (cxl t g ≤ x ∧ x ≤ cxh t g) ∧ cyl t g ≤ y ∧ y ≤ cyh t g
theorem agrees_kept {t : RTask} {x y : Int} {g : Nat} (ha : anyBelow (disB t x y) t.nf = false) (hg : cellHas t x y g) : goneB t g = false := by
  unfold goneB
  rw [← Bool.not_eq_true, anyBelow_iff]
  rintro ⟨i, hi, h⟩
  have hd : disB t x y i = false := by
    rw [← Bool.not_eq_true]
    intro q
    have := anyBelow_iff.mpr ⟨i, hi, q⟩
    rw [ha] at this
    cases this
  have : ruledB (t.fx i 0) (t.fx i 1) (t.fx i 2) (t.fx i 3) (t.fx i 4) (cxl t g) (cxh t g) (cyl t g) (cyh t g) = false := ruled_false fun k hk => some_of hk hg.1 hg.2 (dis_brg hd k hk)
  rw [show outB t.fx (cxl t g) (cxh t g) (cyl t g) (cyh t g) i = false from this] at h
  cases h
theorem cell_some {t : RTask} (h : RtOK t) {x y : Int} (hx : t.xl ≤ x ∧ x ≤ t.xh) (hy : t.yl ≤ y ∧ y ≤ t.yh) : ∃ g, g < wideN t * tallN t ∧ cellHas t x y g := by
  have hs := h.size
  have hw := wide_pos h
  have a0 : 0 ≤ (x - t.xl) / t.size := Int.ediv_nonneg (by omega) (by omega)
  have a1 : (x - t.xl) / t.size * t.size ≤ x - t.xl := Int.ediv_mul_le _ (by omega)
  have a2 : x - t.xl < ((x - t.xl) / t.size + 1) * t.size := Int.lt_ediv_add_one_mul_self _ (by omega)
  have b0 : 0 ≤ (y - t.yl) / t.size := Int.ediv_nonneg (by omega) (by omega)
  have b1 : (y - t.yl) / t.size * t.size ≤ y - t.yl := Int.ediv_mul_le _ (by omega)
  have b2 : y - t.yl < ((y - t.yl) / t.size + 1) * t.size := Int.lt_ediv_add_one_mul_self _ (by omega)
  obtain ⟨c, hc⟩ := Int.eq_ofNat_of_zero_le a0
  obtain ⟨r, hr⟩ := Int.eq_ofNat_of_zero_le b0
  rw [hc] at a1 a2
  rw [hr] at b1 b2
  have c1 : (c : Int) < manyS t.xl t.xh t.size := (part_iff h.ax.2.1 hs.1 (by omega)).1 (by omega)
  have r1 : (r : Int) < manyS t.yl t.yh t.size := (part_iff h.ay.2.1 hs.1 (by omega)).1 (by omega)
  have hc1 : c < wideN t := by omega
  have hr1 : r < tallN t := by omega
  refine ⟨r * wideN t + c, grid_lt hr1 hc1, ?_⟩
  obtain ⟨q1, q2, q3, q4⟩ := grid_cx (t := t) (r := r) hc1
  have e1 := next_part (c : Int) t.size
  have e2 := next_part (r : Int) t.size
  unfold cellHas
  rw [q1, q2, q3, q4]
  omega
theorem cellsTo_mem {t : RTask} {g : Nat} : ∀ {n}, g < n → goneB t g = false → g ∈ cellsTo t n
  | 0, h, _ => absurd h (Nat.not_lt_zero _)
  | n + 1, h, hg => by
    by_cases e : g = n
    · subst e
      rw [cells_kept hg]
      simp
    · have := cellsTo_mem (n := n) (by omega) hg
      cases hn : goneB t n with
      | true => rw [cells_gone hn]; exact this
      | false => rw [cells_kept hn]; exact List.mem_append_left _ this
def cntB (p : Nat → Bool) : Nat → Nat
  | 0 => 0
  | n + 1 => cntB p n + (if p n = true then 1 else 0)
theorem cnt_none {p : Nat → Bool} : ∀ {n}, (∀ i, i < n → p i = false) → cntB p n = 0
  | 0, _ => rfl
  | n + 1, h => by
    unfold cntB
    rw [cnt_none fun i hi => h i (by omega), h n (Nat.lt_succ_self n)]
    rfl
theorem has_cell {t : RTask} {x y : Int} {i : Nat} : (hasB (cellM t (cellsL t)) x y i = true) = cellHas t x y ((cellsL t).getD i 0) := by
  unfold hasB cellHas
  rw [Bool.and_eq_true, isin_true, isin_true]
  rfl
theorem heard {t : RTask} (h : RtOK t) {x y : Int} (hx : t.xl ≤ x ∧ x ≤ t.xh) (hy : t.yl ≤ y ∧ y ≤ t.yh) (ha : anyBelow (disB t x y) t.nf = false) : anyBelow (hasB (cellM t (cellsL t)) x y) (cellsL t).length = true := by
  obtain ⟨g, h1, h2⟩ := cell_some h hx hy
  have hm : g ∈ cellsL t := cellsTo_mem h1 (agrees_kept ha h2)
  obtain ⟨i, hi, e⟩ := List.getElem_of_mem hm
  refine anyBelow_iff.mpr ⟨i, hi, ?_⟩
  rw [has_cell, List.getD_eq_getElem?_getD, List.getElem?_eq_getElem hi, Option.getD_some, e]
  exact h2
end Go.Proofs.YtphcblofacfkaaaGreat
end
section
namespace Go.Proofs.YtphcblofacfkaaaGreat
open Go.V
theorem vis_cnt {t : RTask} {i : Nat} : ∀ K, cntB (fun k => decide (visN t k 0 = (i : Int))) K = if (simS t K).done i = true then 1 else 0
  | 0 => rfl
  | K + 1 => by
    have ih := vis_cnt (t := t) (i := i) K
    have e : (simS t (K + 1)).done i = ((simS t K).done i || decide ((i : Int) = bestS t (simS t K))) := rfl
    have ev : visN t K 0 = bestS t (simS t K) := rfl
    show cntB _ K + (if decide (visN t K 0 = (i : Int)) = true then 1 else 0) = _
    rw [ih, e, ev]
    by_cases hb : bestS t (simS t K) = (i : Int)
    · have hd := (best_ok (t := t) (s := simS t K) (by omega)).2.done
      rw [hb, Int.toNat_natCast] at hd
      simp [hb, hd]
    · have hb' : ¬ (i : Int) = bestS t (simS t K) := fun g => hb g.symm
      simp [hb, hb']
end Go.Proofs.YtphcblofacfkaaaGreat
end
section
namespace Go.Proofs.YtphcblofacfkaaaGreat
open Go.V
def rDemand : List V.D → Option (Prop × V.D) := fun ds => match ds with
  | [.bool b, .int .i64 a, .int .i64 e] => some (b = true, .tup [])
  | [.tt, .int .i64 a, .int .i64 e] => some (True, .tup [])
  | _ => none
theorem demand_ok : PSound Go.Proofs.Tryz.prog 63 (mk rDemand) := by
  refine psound_mk Tryz.func63 (by kernel_rfl) rfl (ctx (.nil _)) ?_
  (intro ds p d h; unfold rDemand at h; split at h <;> first | (cases h; done) | skip; cases h; refine ⟨Nat.le_of_ble_eq_true rfl, fun hp k hk => ?_⟩)
  · rename_i b a e
    refine ⟨[.bool b, .int .i64 a, .int .i64 e], rfl, rfl, rfl, ?_⟩
    have hb : b = true := hp
    repeat' (first | ((with_reducible refine kok ?_); kernel_rfl) | ((with_reducible refine keq_mk ?_); kernel_rfl) | with_reducible rfl | ((conv => whnf); first | (with_reducible exact trivial) | ((with_reducible refine and_ff ?_ ?_); · exact rfl) | ((with_reducible refine and_tt ?_ ?_); · exact rfl) | (with_reducible refine And.intro ?_ ?_) | intro _ | (with_reducible refine fin2 hk ?_) | ((with_reducible refine eq_leaf ?_); exact rfl) | exact trivial))
    rename_i g
    rw [hb] at g
    cases g
  · rename_i a e
    refine ⟨[.tt, .int .i64 a, .int .i64 e], rfl, rfl, ?_⟩
    repeat' (first | ((with_reducible refine kok ?_); kernel_rfl) | ((with_reducible refine keq_mk ?_); kernel_rfl) | with_reducible rfl | ((conv => whnf); first | (with_reducible exact trivial) | ((with_reducible refine and_ff ?_ ?_); · exact rfl) | ((with_reducible refine and_tt ?_ ?_); · exact rfl) | (with_reducible refine And.intro ?_ ?_) | intro _ | (with_reducible refine fin2 hk ?_) | ((with_reducible refine eq_leaf ?_); exact rfl) | exact trivial))
end Go.Proofs.YtphcblofacfkaaaGreat
end
section
namespace Go.Proofs.YtphcblofacfkaaaGreat
open Go.V
theorem hK_neg (t : RTask) {b : Int} (hb : b < 0) : ∀ k, hK t k (.int .i64 b) = false
  | 0 => rfl
  | k + 1 => by
    have ih := hK_neg t hb k
    show (if bestS t (simS t k) < 0 then hK t k (.int .i64 b) else (hK t k (.int .i64 b) || veqV (.int .i64 b) (.int .i64 (bestS t (simS t k))))) = false
    split
    · exact ih
    · rw [ih, show veqV (.int .i64 b) (.int .i64 (bestS t (simS t k))) = decide (b = bestS t (simS t k)) from rfl, decide_eq_false (by omega)]; rfl
theorem hK_best (t : RTask) (k : Nat) : hK t k (.int .i64 (bestS t (simS t k))) = false := by
  by_cases hb : bestS t (simS t k) < 0
  · exact hK_neg t hb k
  · have hd := (best_ok (t := t) (s := simS t k) hb).2.done
    have ih := hK_done t (bestS t (simS t k)).toNat k
    unfold hereB at ih
    rw [decide_eq_true rfl, Bool.and_true, hd, Int.toNat_of_nonneg (by omega)] at ih
    exact ih
theorem nK_next (t : RTask) (k : Nat) : nK t (k + 1) = if bestS t (simS t k) < 0 then nK t k else nK t k + 1 := by
  show (if bestS t (simS t k) < 0 then nK t k else if hK t k (.int .i64 (bestS t (simS t k))) = true then nK t k else nK t k + 1) = _
  rw [hK_best]
  rfl
theorem left_len_set {d d' : Nat → Bool} {i : Nat} : ∀ {n}, i < n → d i = false → d' i = true → (∀ j, j ≠ i → d' j = d j) → (leftTo d' n).length + 1 = (leftTo d n).length
  | 0, h, _, _, _ => absurd h (Nat.not_lt_zero _)
  | n + 1, h, h1, h2, h3 => by
    by_cases e : i = n
    · subst e
      rw [left_done h2, left_more_len h1]
      have : leftTo d' i = leftTo d i := by
        have key : ∀ m, m ≤ i → leftTo d' m = leftTo d m := fun m => by
          induction m with
          | zero => intro _; rfl
          | succ m ih => intro hm; unfold leftTo; rw [h3 m (by omega), ih (by omega)]
        exact key i (Nat.le_refl i)
      rw [this]
    · have ih := left_len_set (n := n) (by omega) h1 h2 h3
      have hn := h3 n (fun g => e g.symm)
      cases hd : d n with
      | true => rw [left_done hd, left_done (by rw [hn, hd])]; exact ih
      | false => rw [left_more_len hd, left_more_len (by rw [hn, hd])]; omega
theorem nK_left (t : RTask) : ∀ k, nK t k + (leftTo (simS t k).done (cellsM t)).length = cellsM t
  | 0 => by
    have key : ∀ n, (leftTo (fun _ => false) n).length = n := fun n => by
      induction n with
      | zero => rfl
      | succ n ih => rw [left_more_len rfl, ih]
    show 0 + (leftTo (fun _ => false) (cellsM t)).length = _
    rw [key, Nat.zero_add]
  | k + 1 => by
    have ih := nK_left t k
    rw [nK_next]
    by_cases hb : bestS t (simS t k) < 0
    · rw [if_pos hb]
      have e : (simS t (k + 1)).done = (simS t k).done := by
        funext j
        show ((simS t k).done j || decide ((j : Int) = bestS t (simS t k))) = _
        rw [decide_eq_false (by omega), Bool.or_false]
      rw [e]; exact ih
    · rw [if_neg hb]
      obtain ⟨b1, b2⟩ := best_ok (t := t) (s := simS t k) hb
      have := left_len_set (d := (simS t k).done) (d' := (simS t (k + 1)).done) (i := (bestS t (simS t k)).toNat) (n := cellsM t) (by omega) b2.done
        (by show ((simS t k).done _ || decide _) = true; rw [decide_eq_true (by omega), Bool.or_true])
        (fun j hj => by show ((simS t k).done j || decide _) = _; rw [decide_eq_false (by omega), Bool.or_false])
      omega
end Go.Proofs.YtphcblofacfkaaaGreat
end
section
namespace Go.Proofs.YtphcblofacfkaaaGreat
open Go.V
theorem leftTo_mem {d : Nat → Bool} {x : Nat} : ∀ {n}, x ∈ leftTo d n ↔ x < n ∧ d x = false
  | 0 => by simp [leftTo]
  | n + 1 => by
    have ih := leftTo_mem (d := d) (x := x) (n := n)
    cases h : d n with
    | true =>
      rw [left_done h, ih]
      constructor
      · exact fun g => ⟨by omega, g.2⟩
      · intro g
        refine ⟨?_, g.2⟩
        have : x ≠ n := fun e => by rw [e, h] at g; exact Bool.noConfusion g.2
        omega
    | false =>
      rw [left_more h, List.mem_append, ih, List.mem_singleton]
      constructor
      · rintro (g | rfl)
        · exact ⟨by omega, g.2⟩
        · exact ⟨by omega, h⟩
      · intro g
        by_cases e : x = n
        · exact .inr e
        · exact .inl ⟨by omega, g.2⟩
theorem leftTo_sorted (d : Nat → Bool) : ∀ n, (leftTo d n).Pairwise (· < ·)
  | 0 => List.Pairwise.nil
  | n + 1 => by
    have ih := leftTo_sorted d n
    cases h : d n with
    | true => rw [left_done h]; exact ih
    | false =>
      rw [left_more h, List.pairwise_append]
      refine ⟨ih, List.pairwise_singleton _ _, fun a ha b hb => ?_⟩
      rw [List.mem_singleton] at hb
      rw [hb]
      exact (leftTo_mem.1 ha).1
theorem getD_mem {l : List Nat} {i : Nat} (h : i < l.length) : l.getD i 0 ∈ l := by
  rw [List.getD_eq_getElem?_getD, List.getElem?_eq_getElem h, Option.getD_some]
  exact List.getElem_mem h
theorem left_at {t : RTask} {i : Nat} (h : i < (leftsL t).length) : (leftsL t).getD i 0 < cellsM t ∧ (endS t).done ((leftsL t).getD i 0) = false := leftTo_mem.1 (getD_mem h)
theorem left_lt {t : RTask} {i j : Nat} (hij : i < j) (h : j < (leftsL t).length) : (leftsL t).getD i 0 < (leftsL t).getD j 0 := by
  have hs := leftTo_sorted (endS t).done (cellsM t)
  have := List.pairwise_iff_getElem.1 hs i j (by have : (leftsL t).length = (leftTo (endS t).done (cellsM t)).length := rfl; omega) h hij
  rw [List.getD_eq_getElem?_getD, List.getD_eq_getElem?_getD, List.getElem?_eq_getElem h, List.getElem?_eq_getElem (Nat.lt_trans hij h)]
  exact this
def befS (t : RTask) : Nat → Int
  | 0 => -1
  | i + 1 => (leftsL t).getD i 0
theorem bef_lt {t : RTask} {i : Nat} (h : i < (leftsL t).length) : befS t i < (leftsL t).getD i 0 := by
  cases i with
  | zero => show (-1 : Int) < _; omega
  | succ i => exact Int.ofNat_lt.2 (left_lt (Nat.lt_succ_self i) h)
theorem left_why {t : RTask} (hk : RtOK t) {i : Nat} (h : i < (leftsL t).length) (ho : ¬ opC t ((leftsL t).getD i 0 : Nat) < 0) : t.fuel < t.look + 2 * flC t (-1) ((leftsL t).getD i 0 : Nat) := by
  obtain ⟨h1, h2⟩ := left_at h
  rw [done_near hk h1] at h2
  have := of_decide_eq_false h2
  unfold near at this
  omega
end Go.Proofs.YtphcblofacfkaaaGreat
end
section
namespace Go.Proofs.YtphcblofacfkaaaGreat
open Go.V
def OwnPlan (t : RTask) (n : Nat) (g : Nat → Nat → V.D) (m : Nat) (h : Nat → Nat → V.D) : Prop :=
  n = visitsN t ∧ (∀ i j, i < n → j < 3 → g i j = imD (visN t) i j) ∧ m = leftsN t ∧ ∀ i j, i < m → j < 2 → h i j = imD (leftM t (leftsL t)) i j
def rJudge : List V.D → Option (Prop × V.D) := fun ds => match ds with
  | [d, .agg [.rsl 3 n g, .rsl 2 m h]] => some ((RtIs d ∧ (rtOf d).fits) ∧ OwnPlan (rtOf d) n g m h, .tup [.int .i64 0, .int .i64 (checkR (rtOf d)).2.2])
  | _ => none
noncomputable def lr48 : Lib := (63, mk rDemand) :: lr42
theorem lr48_ok : LibOK Go.Proofs.Tryz.prog lr48 := .cons demand_ok lr42_ok
noncomputable def Ljdg : Libs := ⟨lr48, [(32, inl (cxOf tab lr48) Go.Proofs.Tryz.f32), (34, inl (cxOf tab lr48) Go.Proofs.Tryz.f34)], [], [(62, inlD (cxOf tab lr48) Go.Proofs.Tryz.f62 (codeOf Go.Proofs.Tryz.f62))]⟩
theorem Ljdg_ok : LibsOK Go.Proofs.Tryz.prog Ljdg := ⟨lr48_ok, asGet_cons (csound_in Tryz.func32 (by kernel_rfl) rfl (ctx lr48_ok)) (asGet_cons (csound_in Tryz.func34 (by kernel_rfl) rfl (ctx lr48_ok)) (fun g s h => by cases h)), fun f r h => (by cases h),
  asGet_cons (dsound_of Tryz.func62 (by kernel_rfl) rfl rfl (ctx lr48_ok)) (fun g s h => by cases h)⟩
attribute [local irreducible] tripS manyS goneB openS checkR cellsL spX spY flOf cellM opC wrongS visF visU bestF
theorem judge_ok : PSound Go.Proofs.Tryz.prog 39 (mk rJudge) := by
  refine psound_mk Tryz.func39 (by kernel_rfl) rfl (ctxA Ljdg_ok) ?_
  (intro ds p d h; unfold rJudge at h; split at h <;> first | (cases h; done) | skip; cases h; refine ⟨Nat.le_of_ble_eq_true rfl, fun hp k hk => ?_⟩)
  rename_i d n g m h
  obtain ⟨⟨ht, hf⟩, hp⟩ := hp
  refine ⟨[(rtOf d).D, .agg [.rsl 3 n (imD (visN (rtOf d))), .rsl 2 m (imD (leftM (rtOf d) (leftsL (rtOf d))))]], rt_imp ht ⟨rfl, hp.2.1, rfl, hp.2.2.2, ?_⟩⟩
  clear ht
  obtain ⟨rfl, _, rfl, _⟩ := hp
  generalize rtOf d = t at *
  have hN1 : (checkR t).2.2 = 0 → visitsN t = nVis t ∧ leftsN t = (leftsL t).length ∧ cellsN t = cellsM t := fun h => ⟨if_pos h, if_pos h, if_pos h⟩
  repeat' (first | ((with_reducible refine kok ?_); kernel_rfl) | ((with_reducible refine keq_mk ?_); kernel_rfl) | with_reducible rfl | ((conv => whnf); first | (with_reducible exact trivial) | ((with_reducible refine and_ff ?_ ?_); · exact rfl) | ((with_reducible refine and_tt ?_ ?_); · exact rfl) | (with_reducible refine And.intro ?_ ?_) | intro _ | (with_reducible refine fin2 hk ?_) | ((with_reducible refine eq_leaf ?_); exact rfl) | exact trivial))
  all_goals try exact hf _ (by assumption)
  all_goals (rename_i g1; simp only [rtOf_agg, taskOf_agg, ↓Bool.not_eq_true', ↓Bool.not_eq_false', ↓decT, ↓decF, out_true, out_false, isin_true, isin_false, Int.toNat_natCast, Int.ofNat_lt, Nat.zero_add, Nat.add_zero, Nat.reduceAdd, Decidable.not_not] at g1)
  all_goals (
    have hok := rt_ok g1
    have hM : cellsM t ≤ 60 := cellsL_len hok
    obtain ⟨n1, n2, n3⟩ := hN1 g1
    have hmu := (going_all hok).1.mu)
  · exact decide_eq_true (by omega)
  · clear hk; simp only [rtOf_agg] at *; omega
  · clear hk; simp only [rtOf_agg] at *; omega
  clear hN1
  conv => whnf
  refine ⟨Nat, fun k => [(2, .ptr 0 0), (3, .ptr 1 0), (4, .ptr 2 0), (5, .ptr 3 0), (6, .ptr 6 0), (7, .int .i64 ((cellsM t : Int) - 1)), (35, .rsl 3 (visitsN t) (imD (visN t))), (36, .int .i64 (visitsN t)), (37, .int .i64 k)],
    fun k => [some (.row t.cells), some (.row [.rsl 3 (visitsN t) (imD (visN t)), .rsl 2 (leftsN t) (imD (leftM t (leftsL t)))]), some (.row [.int .i64 0]), some (.row [.int .i64 (checkR t).2.2]), some (.row t.cells), some (.mp (boolM (nK t k) (hK t k) (fun _ _ => 1))), some (.row (flRow t (simS t k).c (simS t k).u (lfS t k) (.map 5)))],
    fun k => nVis t - k, fun k => k ≤ nVis t ∧ Going t k ∧ LfOK t k, [], 0, fun k => ⟨rfl, rfl⟩, ?_, fun k hI => ?_⟩
  · clear hk
    repeat' (first | ((with_reducible refine kok ?_); kernel_rfl) | ((with_reducible refine keq_mk ?_); kernel_rfl) | with_reducible rfl | ((conv => whnf); first | (with_reducible exact trivial) | ((with_reducible refine and_ff ?_ ?_); · exact rfl) | ((with_reducible refine and_tt ?_ ?_); · exact rfl) | (with_reducible refine And.intro ?_ ?_) | intro _ | (with_reducible refine fin2 hk ?_) | ((with_reducible refine eq_leaf ?_); exact rfl) | exact trivial))
    all_goals first
      | exact going0 hok
      | exact lfOK0
      | exact Nat.zero_le _
      | (simp only [rtOf_agg]; omega)
      | (rename_i q j a1 a2; exact Bool.noConfusion (show false = true from a2))
  obtain ⟨hi, hG, hL⟩ := hI
  have hi : k ≤ nVis t := hi
  conv => whnf
  refine ⟨fun g1 => ?_, fun g1 => ?_⟩
  · have hk2 : k < nVis t := by have := of_decide_eq_true g1; omega
    have hk3 : k ≤ 120 := by omega
    have BL := best_lt (t := t) (s := simS t k)
    have BW := best_wrong hok hG.ok hk3
    have VI := vis_in hok hG.ok hk3
    have v0 : visN t k 0 = bestS t (simS t k) := rfl
    have v1 : visN t k 1 = visF t (simS t k).c (simS t k).u (bestS t (simS t k)) := rfl
    have v2 : visN t k 2 = visU t (simS t k).c (simS t k).u (bestS t (simS t k)) := rfl
    have sc := hG.ok.c
    have su := hG.ok.u
    have l0 := hL.lo
    have l1 := hL.hi
    have hn : stopB t (simS t k) = false := by
      cases e : stopB t (simS t k) with
      | false => rfl
      | true =>
        have := anyBelow_iff.mpr ⟨k, hk2, (show stopAt t k = true from e)⟩
        rw [(going_all hok).1.on] at this
        cases this
    have G := hG.next hok hn
    have L' := hL.next G
    repeat' (first | ((with_reducible refine kok ?_); kernel_rfl) | ((with_reducible refine keq_mk ?_); kernel_rfl) | with_reducible rfl | ((conv => whnf); first | (with_reducible exact trivial) | ((with_reducible refine and_ff ?_ ?_); · exact rfl) | ((with_reducible refine and_tt ?_ ?_); · exact rfl) | (with_reducible refine And.intro ?_ ?_) | intro _ | (with_reducible refine fin2 hk ?_) | ((with_reducible refine eq_leaf ?_); exact rfl) | exact trivial))
    all_goals try exact hok
    all_goals try (clear hk; (first | with_reducible refine (?_ : (_ : Int) ≤ _) | with_reducible refine (?_ : (_ : Int) < _)); simp only [taskOf_agg, ↓Bool.not_eq_true', ↓Bool.not_eq_false', ↓decT, ↓decF, out_true, out_false, isin_true, isin_false, Int.toNat_natCast, Int.ofNat_lt, Nat.zero_add, Nat.add_zero, Nat.reduceAdd, v0, v1, v2, Int.toNat_natCast] at *; first | omega | exact sc.1 | exact sc.2 | exact su.1 | exact l0)
    · show (!out (bestS t (simS t k)) (-1) ((cellsM t : Int) - 1)) = true
      unfold out
      rw [decide_eq_false (by omega), decide_eq_false (by omega)]; rfl
    · show (!(hK t k (.int .i64 (bestS t (simS t k))) && _)) = true
      rw [hK_best]; rfl
    · show (simS t k).u ≤ _
      omega
    · show lfS t k ≤ _
      omega
    · exact BL.2
    · refine decide_eq_true ?_
      show wrongS t (simS t k).c (simS t k).u (lfS t k) (bestS t (simS t k)) (visF t (simS t k).c (simS t k).u (bestS t (simS t k))) (visU t (simS t k).c (simS t k).u (bestS t (simS t k))) = 0
      rw [wrong_f hL.same]; exact BW
    · exact BL.2
    · rename_i g2
      have g3 : 0 ≤ bestS t (simS t k) := of_decide_eq_true g2
      have hb : ¬ bestS t (simS t k) < 0 := by omega
      clear hk
      conv => whnf
      refine ⟨k + 1, ?_⟩
      repeat' (first | ((with_reducible refine kok ?_); kernel_rfl) | ((with_reducible refine keq_mk ?_); kernel_rfl) | with_reducible rfl | ((conv => whnf); first | (with_reducible exact trivial) | ((with_reducible refine and_ff ?_ ?_); · exact rfl) | ((with_reducible refine and_tt ?_ ?_); · exact rfl) | (with_reducible refine And.intro ?_ ?_) | intro _ | (with_reducible refine fin2 hk ?_) | ((with_reducible refine eq_leaf ?_); exact rfl) | exact trivial))
      · exact (if_neg hb).symm
      · exact (if_neg hb).symm
      · rename_i q j hq hh
        have hh : hK t (k + 1) q = true := hh
        have e : hK t (k + 1) q = (hK t k q || veqV q (.int .i64 (bestS t (simS t k)))) := if_neg hb
        show (bif veqV q (.int .i64 (bestS t (simS t k))) then (1 : Int) else if hK t k q = true then 1 else 0) = 1
        rw [e] at hh
        cases h4 : veqV q (.int .i64 (bestS t (simS t k))) with
        | true => rfl
        | false =>
          rw [h4, Bool.or_false] at hh
          rw [hh]
          rfl
      · exact (if_neg hb).symm
      · exact (if_neg hb).symm
      · show k + 1 ≤ nVis t
        omega
      · exact G
      · exact L'
      · show nVis t - (k + 1) < nVis t - k
        omega
    · rename_i g2
      have g3 : ¬ 0 ≤ bestS t (simS t k) := of_decide_eq_false g2
      have hb : bestS t (simS t k) < 0 := by omega
      clear hk
      conv => whnf
      refine ⟨k + 1, ?_⟩
      repeat' (first | ((with_reducible refine kok ?_); kernel_rfl) | ((with_reducible refine keq_mk ?_); kernel_rfl) | with_reducible rfl | ((conv => whnf); first | (with_reducible exact trivial) | ((with_reducible refine and_ff ?_ ?_); · exact rfl) | ((with_reducible refine and_tt ?_ ?_); · exact rfl) | (with_reducible refine And.intro ?_ ?_) | intro _ | (with_reducible refine fin2 hk ?_) | ((with_reducible refine eq_leaf ?_); exact rfl) | exact trivial))
      · exact (if_pos hb).symm
      · exact (if_pos hb).symm
      · exact (best_neg hb).trans (if_pos hb).symm
      · exact (if_pos hb).symm
      · show k + 1 ≤ nVis t
        omega
      · exact G
      · exact L'
      · show nVis t - (k + 1) < nVis t - k
        omega
  · have hkn : k = nVis t := by have := of_decide_eq_false g1; omega
    have hD : ∀ i : Nat, hereB (hK t k) (fun _ _ => 1) i = (endS t).done i := fun i => by rw [hK_done, hkn]; rfl
    repeat' (first | ((with_reducible refine kok ?_); kernel_rfl) | ((with_reducible refine keq_mk ?_); kernel_rfl) | with_reducible rfl | ((conv => whnf); first | (with_reducible exact trivial) | ((with_reducible refine and_ff ?_ ?_); · exact rfl) | ((with_reducible refine and_tt ?_ ?_); · exact rfl) | (with_reducible refine And.intro ?_ ?_) | intro _ | (with_reducible refine fin2 hk ?_) | ((with_reducible refine eq_leaf ?_); exact rfl) | exact trivial))
    conv => whnf
    refine ⟨Nat, fun i => [(2, .ptr 0 0), (3, .ptr 1 0), (4, .ptr 2 0), (5, .ptr 3 0), (6, .ptr 6 0), (7, .int .i64 ((cellsM t : Int) - 1)), (11, .int .i64 (befS t i)), (72, .rsl 2 (leftsN t) (imD (leftM t (leftsL t)))), (73, .int .i64 (leftsN t)), (74, .int .i64 i)],
      fun i => [some (.row t.cells), some (.row [.rsl 3 (visitsN t) (imD (visN t)), .rsl 2 (leftsN t) (imD (leftM t (leftsL t)))]), some (.row [.int .i64 0]), some (.row [.int .i64 (checkR t).2.2]), some (.row t.cells), some (.mp (boolM (nK t k) (hK t k) (fun _ _ => 1))), some (.row (flRow t (simS t k).c (simS t k).u (lfS t k) (.map 5)))],
      fun i => (leftsL t).length - i, fun i => i ≤ (leftsL t).length, [], 0, fun k => ⟨rfl, rfl⟩, ?_, fun i hi => ?_⟩
    · clear hk
      repeat' (first | ((with_reducible refine kok ?_); kernel_rfl) | ((with_reducible refine keq_mk ?_); kernel_rfl) | with_reducible rfl | ((conv => whnf); first | (with_reducible exact trivial) | ((with_reducible refine and_ff ?_ ?_); · exact rfl) | ((with_reducible refine and_tt ?_ ?_); · exact rfl) | (with_reducible refine And.intro ?_ ?_) | intro _ | (with_reducible refine fin2 hk ?_) | ((with_reducible refine eq_leaf ?_); exact rfl) | exact trivial))
      all_goals first
        | exact Nat.zero_le _
        | skip
    have hi : i ≤ (leftsL t).length := hi
    have hNL := nK_left t k
    have hlen : (leftTo (simS t k).done (cellsM t)).length = (leftsL t).length := by rw [hkn]; rfl
    conv => whnf
    refine ⟨fun g2 => ?_, fun g2 => ?_⟩
    · have hlt : i < (leftsL t).length := by have := of_decide_eq_true g2; omega
      obtain ⟨L1, L2⟩ := left_at hlt
      have L3 := bef_lt hlt
      have L4 := left_why hok hlt
      have m0 : leftM t (leftsL t) i 0 = ((leftsL t).getD i 0 : Nat) := rfl
      have m1 : leftM t (leftsL t) i 1 = if opC t ((leftsL t).getD i 0 : Nat) < 0 then 1 else 2 := rfl
      have hop : cellM t (cellsL t) ((leftsL t).getD i 0) 4 = opC t ((leftsL t).getD i 0 : Nat) := by delta cellM opC; rfl
      have hb1 : -1 ≤ befS t i := by cases i <;> (delta befS; first | exact Int.le_refl _ | (simp only; omega))
      have HD := hD ((leftsL t).getD i 0)
      unfold hereB at HD
      rw [L2] at HD
      generalize (leftsL t).getD i 0 = c at *
      repeat' (first | ((with_reducible refine kok ?_); kernel_rfl) | ((with_reducible refine keq_mk ?_); kernel_rfl) | with_reducible rfl | ((conv => whnf); first | (with_reducible exact trivial) | ((with_reducible refine and_ff ?_ ?_); · exact rfl) | ((with_reducible refine and_tt ?_ ?_); · exact rfl) | (with_reducible refine And.intro ?_ ?_) | intro _ | (with_reducible refine fin2 hk ?_) | ((with_reducible refine eq_leaf ?_); exact rfl) | exact trivial))
      all_goals try exact hok
      all_goals try (clear hk; (first | with_reducible refine (?_ : (_ : Int) ≤ _) | with_reducible refine (?_ : (_ : Int) < _)); simp only [taskOf_agg, ↓Bool.not_eq_true', ↓Bool.not_eq_false', ↓decT, ↓decF, out_true, out_false, isin_true, isin_false, Int.toNat_natCast, Int.ofNat_lt, Nat.zero_add, Nat.add_zero, Nat.reduceAdd, m0] at *; omega)
      · simp only [Int.toNat_natCast, m0]
        show (!(hK t k (.int .i64 c) && decide ((1 : Int) = 1))) = true
        rw [HD]; rfl
      · clear hk
        conv => whnf
        refine ⟨i + 1, ?_⟩
        repeat' (first | ((with_reducible refine kok ?_); kernel_rfl) | ((with_reducible refine keq_mk ?_); kernel_rfl) | with_reducible rfl | ((conv => whnf); first | (with_reducible exact trivial) | ((with_reducible refine and_ff ?_ ?_); · exact rfl) | ((with_reducible refine and_tt ?_ ?_); · exact rfl) | (with_reducible refine And.intro ?_ ?_) | intro _ | (with_reducible refine fin2 hk ?_) | ((with_reducible refine eq_leaf ?_); exact rfl) | exact trivial))
        · show i + 1 ≤ _
          omega
        · show _ - (i + 1) < _ - i
          omega
      · exfalso
        rename_i g3 g4 g5 g6
        clear hk
        simp only [taskOf_agg, ↓Bool.not_eq_true', ↓Bool.not_eq_false', ↓decT, ↓decF, out_true, out_false, isin_true, isin_false, Int.toNat_natCast, Int.ofNat_lt, Nat.zero_add, Nat.add_zero, Nat.reduceAdd, m0, m1, Nat.add_zero, hop] at g3 g4 g5 g6
        rw [if_neg (by omega)] at g4
        omega
      · exfalso
        rename_i g3 g4 g5 g6
        clear hk
        simp only [taskOf_agg, ↓Bool.not_eq_true', ↓Bool.not_eq_false', ↓decT, ↓decF, out_true, out_false, isin_true, isin_false, Int.toNat_natCast, Int.ofNat_lt, Nat.zero_add, Nat.add_zero, Nat.reduceAdd, m0, m1, Nat.add_zero, hop] at g3 g4 g5 g6
        rw [if_neg (by omega)] at g4
        omega
      · exfalso
        rename_i g3 g4 g5 g6
        clear hk
        simp only [taskOf_agg, ↓Bool.not_eq_true', ↓Bool.not_eq_false', ↓decT, ↓decF, out_true, out_false, isin_true, isin_false, Int.toNat_natCast, Int.ofNat_lt, Nat.zero_add, Nat.add_zero, Nat.reduceAdd, m0, m1, Nat.add_zero, hop] at g3 g4 g5 g6
        rw [if_neg (by omega)] at g4
        omega
      · show leftM t (leftsL t) i 0 < (cellsM t : Int)
        rw [m0]; omega
      · rename_i g3 g4 g5
        refine decide_eq_true ?_
        show t.fuel < t.look + 2 * flC t (-1) (leftM t (leftsL t) i 0)
        rw [m0]
        refine L4 fun q => ?_
        have g4 : leftM t (leftsL t) i 1 ≠ 1 := of_decide_eq_false g4
        rw [m1, if_pos q] at g4
        exact g4 rfl
      · clear hk
        conv => whnf
        refine ⟨i + 1, ?_⟩
        repeat' (first | ((with_reducible refine kok ?_); kernel_rfl) | ((with_reducible refine keq_mk ?_); kernel_rfl) | with_reducible rfl | ((conv => whnf); first | (with_reducible exact trivial) | ((with_reducible refine and_ff ?_ ?_); · exact rfl) | ((with_reducible refine and_tt ?_ ?_); · exact rfl) | (with_reducible refine And.intro ?_ ?_) | intro _ | (with_reducible refine fin2 hk ?_) | ((with_reducible refine eq_leaf ?_); exact rfl) | exact trivial))
        · show i + 1 ≤ _
          omega
        · show _ - (i + 1) < _ - i
          omega
      · exfalso
        rename_i g3 g4 g5
        clear hk
        have g4 : leftM t (leftsL t) i 1 ≠ 1 := of_decide_eq_false g4
        have g5 : leftM t (leftsL t) i 1 ≠ 2 := of_decide_eq_false g5
        rw [m1] at g4 g5
        split at g4 <;> simp_all
      · exfalso
        rename_i g3
        clear hk
        simp only [Int.toNat_natCast, m0] at g3
        rw [Bool.not_eq_false', out_true] at g3
        omega
    · repeat' (first | ((with_reducible refine kok ?_); kernel_rfl) | ((with_reducible refine keq_mk ?_); kernel_rfl) | with_reducible rfl | ((conv => whnf); first | (with_reducible exact trivial) | ((with_reducible refine and_ff ?_ ?_); · exact rfl) | ((with_reducible refine and_tt ?_ ?_); · exact rfl) | (with_reducible refine And.intro ?_ ?_) | intro _ | (with_reducible refine fin2 hk ?_) | ((with_reducible refine eq_leaf ?_); exact rfl) | exact trivial))
      all_goals try (clear hk; (first | with_reducible refine (?_ : (_ : Int) ≤ _) | with_reducible refine (?_ : (_ : Int) < _)); simp only [taskOf_agg, ↓Bool.not_eq_true', ↓Bool.not_eq_false', ↓decT, ↓decF, out_true, out_false, isin_true, isin_false, Int.toNat_natCast, Int.ofNat_lt, Nat.zero_add, Nat.add_zero, Nat.reduceAdd] at *; omega)
      · show ((nK t k : Nat) : Int) + (leftsN t : Nat) ≤ _
        omega
      · refine decide_eq_true ?_
        show ((nK t k : Nat) : Int) + (leftsN t : Nat) = (cellsM t : Nat)
        have := of_decide_eq_false g2
        omega
      · exact (by assumption : (checkR t).2.2 = 0).symm
end Go.Proofs.YtphcblofacfkaaaGreat
end
