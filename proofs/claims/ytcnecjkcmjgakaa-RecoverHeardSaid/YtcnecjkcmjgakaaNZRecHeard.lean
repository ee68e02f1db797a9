/-
  The law RecoverHeard is proved: the spot of a whole task that lies in its area and agrees with all its fixes lies in one cell, and Cell finds a cell just then, the one that holds it, for any task and spot. No condition.
-/
import Derived.Test.YtcnecjkcmjgakaaMs
section
set_option linter.unusedVariables false
set_option linter.unusedSimpArgs false
namespace Go.Proofs.Ytcnecjkcmjgakaa
open Go.V
theorem corner1 {a x lo hi : Int} (h1 : lo ≤ x) (h2 : x ≤ hi) : a * x ≤ a * lo ∨ a * x ≤ a * hi := by
  rcases Int.le_total 0 a with h | h
  · exact .inr (Int.mul_le_mul_of_nonneg_left h2 h)
  · left
    exact Int.mul_le_mul_of_nonpos_left h h1
/-- A condition of a fix, as a half plane. -/
def halfA (c d e k : Int) : Int := if k = 0 then c else if k = 1 then e * c + 1000 * d else e * c - 1000 * d
def halfB (c d e k : Int) : Int := if k = 0 then d else if k = 1 then e * d - 1000 * c else e * d + 1000 * c
theorem brg_half {a b c d e x y : Int} (k : Nat) (hk : k < 3) : brgB a b c d e x y k = decide (halfA c d e k * a + halfB c d e k * b ≤ halfA c d e k * x + halfB c d e k * y) := by
  have hk' : k = 0 ∨ k = 1 ∨ k = 2 := by omega
  unfold brgB halfA halfB fwd asd
  rcases hk' with rfl | rfl | rfl
  · rw [if_pos (show ((0 : Nat) : Int) = 0 from rfl), if_pos (show ((0 : Nat) : Int) = 0 from rfl), if_pos (show ((0 : Nat) : Int) = 0 from rfl)]
    congr 1
    apply propext
    have : c * (x - a) + d * (y - b) = (c * x + d * y) - (c * a + d * b) := by grind
    omega
  · rw [if_neg (show ¬ ((1 : Nat) : Int) = 0 by decide), if_pos (show ((1 : Nat) : Int) = 1 from rfl), if_neg (show ¬ ((1 : Nat) : Int) = 0 by decide), if_pos (show ((1 : Nat) : Int) = 1 from rfl), if_neg (show ¬ ((1 : Nat) : Int) = 0 by decide), if_pos (show ((1 : Nat) : Int) = 1 from rfl)]
    congr 1
    apply propext
    have : e * (c * (x - a) + d * (y - b)) - 1000 * (c * (y - b) - d * (x - a)) = ((e * c + 1000 * d) * x + (e * d - 1000 * c) * y) - ((e * c + 1000 * d) * a + (e * d - 1000 * c) * b) := by grind
    omega
  · rw [if_neg (show ¬ ((2 : Nat) : Int) = 0 by decide), if_neg (show ¬ ((2 : Nat) : Int) = 1 by decide), if_neg (show ¬ ((2 : Nat) : Int) = 0 by decide), if_neg (show ¬ ((2 : Nat) : Int) = 1 by decide), if_neg (show ¬ ((2 : Nat) : Int) = 0 by decide), if_neg (show ¬ ((2 : Nat) : Int) = 1 by decide)]
    congr 1
    apply propext
    have : e * (c * (x - a) + d * (y - b)) - (0 - 1000 * (c * (y - b) - d * (x - a))) = ((e * c - 1000 * d) * x + (e * d + 1000 * c) * y) - ((e * c - 1000 * d) * a + (e * d + 1000 * c) * b) := by grind
    omega
theorem some_of {a b c d e xl xh yl yh x y : Int} {k : Nat} (hk : k < 3) (hx : xl ≤ x ∧ x ≤ xh) (hy : yl ≤ y ∧ y ≤ yh) (h : brgB a b c d e x y k = true) : someB a b c d e xl xh yl yh k = true := by
  unfold someB
  rw [brg_half k hk] at h ⊢
  rw [brg_half k hk, brg_half k hk, brg_half k hk]
  simp only [Bool.or_eq_true, decide_eq_true_eq] at h ⊢
  have p := corner1 (a := halfA c d e k) hx.1 hx.2
  have q := corner1 (a := halfB c d e k) hy.1 hy.2
  omega
/-- A place does not agree with a fix. -/
def disB (t : RTask) (x y : Int) (i : Nat) : Bool := decide (fwd (t.fx i 0) (t.fx i 1) (t.fx i 2) (t.fx i 3) x y < 0) || decide (t.fx i 4 * fwd (t.fx i 0) (t.fx i 1) (t.fx i 2) (t.fx i 3) x y < 1000 * max (asd (t.fx i 0) (t.fx i 1) (t.fx i 2) (t.fx i 3) x y) (0 - asd (t.fx i 0) (t.fx i 1) (t.fx i 2) (t.fx i 3) x y))
theorem dis_brg {t : RTask} {x y : Int} {i : Nat} (h : disB t x y i = false) (k : Nat) (hk : k < 3) : brgB (t.fx i 0) (t.fx i 1) (t.fx i 2) (t.fx i 3) (t.fx i 4) x y k = true := by
  unfold disB at h
  simp only [Bool.or_eq_false_iff, decide_eq_false_iff_not] at h
  have hk' : k = 0 ∨ k = 1 ∨ k = 2 := by omega
  unfold brgB
  rcases hk' with rfl | rfl | rfl
  · rw [if_pos (show ((0 : Nat) : Int) = 0 from rfl), decide_eq_true_eq]; omega
  · rw [if_neg (show ¬ ((1 : Nat) : Int) = 0 by decide), if_pos (show ((1 : Nat) : Int) = 1 from rfl), decide_eq_true_eq]; omega
  · rw [if_neg (show ¬ ((2 : Nat) : Int) = 0 by decide), if_neg (show ¬ ((2 : Nat) : Int) = 1 by decide), decide_eq_true_eq]; omega
def cellHas (t : RTask) (x y : Int) (g : Nat) : Prop := (cxl t g ≤ x ∧ x ≤ cxh t g) ∧ cyl t g ≤ y ∧ y ≤ cyh t g
theorem agrees_kept {t : RTask} {x y : Int} {g : Nat} (ha : anyBelow (disB t x y) t.nf = false) (hg : cellHas t x y g) : goneB t g = false := by
  unfold goneB
  rw [← Bool.not_eq_true, anyBelow_iff]
  rintro ⟨i, hi, h⟩
  have hd : disB t x y i = false := by
    rw [← Bool.not_eq_true]
    intro q
    have := anyBelow_iff.mpr ⟨i, hi, q⟩
    rw [ha] at this
    cases this
  have : ruledB (t.fx i 0) (t.fx i 1) (t.fx i 2) (t.fx i 3) (t.fx i 4) (cxl t g) (cxh t g) (cyl t g) (cyh t g) = false := ruled_false fun k hk => some_of hk hg.1 hg.2 (dis_brg hd k hk)
  rw [show outB t.fx (cxl t g) (cxh t g) (cyl t g) (cyh t g) i = false from this] at h
  cases h
theorem part_one {s x lo a b : Int} (hs : 1 ≤ s) (h1 : lo + a * s ≤ x) (h2 : x < lo + a * s + s) (h3 : lo + b * s ≤ x) (h4 : x < lo + b * s + s) : a = b := by
  have key : ∀ {a b : Int}, lo + a * s ≤ x → x < lo + b * s + s → a ≤ b := fun {a b} h1 h2 => by
    by_cases h : b < a
    · have := Int.mul_le_mul_of_nonneg_right (c := s) (show b + 1 ≤ a by omega) (by omega)
      rw [next_part] at this
      omega
    · omega
  exact Int.le_antisymm (key h1 h4) (key h3 h2)
/-- A place is in one cell of the grid at most. -/
theorem cell_one {t : RTask} (h : RtOK t) {x y : Int} {g g' : Nat} (h1 : cellHas t x y g) (h2 : cellHas t x y g') : g = g' := by
  unfold cellHas cxl cxh cyl cyh at h1 h2
  have hs := h.size
  have e1 := next_part ((g % wideN t : Nat) : Int) t.size
  have e2 := next_part ((g' % wideN t : Nat) : Int) t.size
  have e3 := next_part ((g / wideN t : Nat) : Int) t.size
  have e4 := next_part ((g' / wideN t : Nat) : Int) t.size
  have q1 : ((g % wideN t : Nat) : Int) = ((g' % wideN t : Nat) : Int) := by
    generalize g % wideN t = c at *
    generalize g' % wideN t = c' at *
    generalize g / wideN t = r at *
    generalize g' / wideN t = r' at *
    exact part_one (s := t.size) (x := x) (lo := t.xl) hs.1 (by omega) (by omega) (by omega) (by omega)
  have q2 : ((g / wideN t : Nat) : Int) = ((g' / wideN t : Nat) : Int) := by
    generalize g % wideN t = c at *
    generalize g' % wideN t = c' at *
    generalize g / wideN t = r at *
    generalize g' / wideN t = r' at *
    exact part_one (s := t.size) (x := y) (lo := t.yl) hs.1 (by omega) (by omega) (by omega) (by omega)
  have d1 := Nat.div_add_mod g (wideN t)
  have d2 := Nat.div_add_mod g' (wideN t)
  have q1' : g % wideN t = g' % wideN t := Int.ofNat.inj q1
  have q2' : g / wideN t = g' / wideN t := Int.ofNat.inj q2
  rw [← d1, ← d2, q1', q2']
/-- A place of the area is in one. -/
theorem cell_some {t : RTask} (h : RtOK t) {x y : Int} (hx : t.xl ≤ x ∧ x ≤ t.xh) (hy : t.yl ≤ y ∧ y ≤ t.yh) : ∃ g, g < wideN t * tallN t ∧ cellHas t x y g := by
  have hs := h.size
  have hw := wide_pos h
  have a0 : 0 ≤ (x - t.xl) / t.size := Int.ediv_nonneg (by omega) (by omega)
  have a1 : (x - t.xl) / t.size * t.size ≤ x - t.xl := Int.ediv_mul_le _ (by omega)
  have a2 : x - t.xl < ((x - t.xl) / t.size + 1) * t.size := Int.lt_ediv_add_one_mul_self _ (by omega)
  have b0 : 0 ≤ (y - t.yl) / t.size := Int.ediv_nonneg (by omega) (by omega)
  have b1 : (y - t.yl) / t.size * t.size ≤ y - t.yl := Int.ediv_mul_le _ (by omega)
  have b2 : y - t.yl < ((y - t.yl) / t.size + 1) * t.size := Int.lt_ediv_add_one_mul_self _ (by omega)
  obtain ⟨c, hc⟩ := Int.eq_ofNat_of_zero_le a0
  obtain ⟨r, hr⟩ := Int.eq_ofNat_of_zero_le b0
  rw [hc] at a1 a2
  rw [hr] at b1 b2
  have c1 : (c : Int) < manyS t.xl t.xh t.size := (part_iff h.ax.2.1 hs.1 (by omega)).1 (by omega)
  have r1 : (r : Int) < manyS t.yl t.yh t.size := (part_iff h.ay.2.1 hs.1 (by omega)).1 (by omega)
  have hc1 : c < wideN t := by omega
  have hr1 : r < tallN t := by omega
  refine ⟨r * wideN t + c, grid_lt hr1 hc1, ?_⟩
  obtain ⟨q1, q2, q3, q4⟩ := grid_cx (t := t) (r := r) hc1
  have e1 := next_part (c : Int) t.size
  have e2 := next_part (r : Int) t.size
  unfold cellHas
  rw [q1, q2, q3, q4]
  omega
theorem cellsTo_mem {t : RTask} {g : Nat} : ∀ {n}, g < n → goneB t g = false → g ∈ cellsTo t n
  | 0, h, _ => absurd h (Nat.not_lt_zero _)
  | n + 1, h, hg => by
    by_cases e : g = n
    · subst e
      rw [cells_kept hg]
      simp
    · have := cellsTo_mem (n := n) (by omega) hg
      cases hn : goneB t n with
      | true => rw [cells_gone hn]; exact this
      | false => rw [cells_kept hn]; exact List.mem_append_left _ this
/-- The list of cells goes up. -/
theorem cellsTo_up {t : RTask} : ∀ {n i j : Nat}, i < j → j < (cellsTo t n).length → (cellsTo t n).getD i 0 < (cellsTo t n).getD j 0
  | 0, i, j, _, h => absurd h (Nat.not_lt_zero _)
  | n + 1, i, j, hij, h => by
    cases hn : goneB t n with
    | true =>
      rw [cells_gone hn] at h ⊢
      exact cellsTo_up hij h
    | false =>
      rw [cells_kept hn] at h ⊢
      rw [List.length_append, List.length_singleton] at h
      by_cases hj : j < (cellsTo t n).length
      · rw [List.getD_eq_getElem?_getD, List.getD_eq_getElem?_getD, List.getElem?_append_left hj, List.getElem?_append_left (by omega), ← List.getD_eq_getElem?_getD, ← List.getD_eq_getElem?_getD]
        exact cellsTo_up hij hj
      · obtain rfl : j = (cellsTo t n).length := by omega
        have e : (cellsTo t n ++ [n]).getD (cellsTo t n).length 0 = n := by simp [List.getD_eq_getElem?_getD]
        rw [e, List.getD_eq_getElem?_getD, List.getElem?_append_left hij, ← List.getD_eq_getElem?_getD]
        have hm : (cellsTo t n).getD i 0 ∈ cellsTo t n := by
          rw [List.getD_eq_getElem?_getD, List.getElem?_eq_getElem hij]
          exact List.getElem_mem hij
        exact cellsTo_lt hm
/-- How many indexes have something. -/
def cntB (p : Nat → Bool) : Nat → Nat
  | 0 => 0
  | n + 1 => cntB p n + (if p n = true then 1 else 0)
theorem cnt_none {p : Nat → Bool} : ∀ {n}, (∀ i, i < n → p i = false) → cntB p n = 0
  | 0, _ => rfl
  | n + 1, h => by
    unfold cntB
    rw [cnt_none fun i hi => h i (by omega), h n (Nat.lt_succ_self n)]
    rfl
theorem cnt_one {p : Nat → Bool} : ∀ {n}, (∀ i j, i < n → j < n → p i = true → p j = true → i = j) → cntB p n = if anyBelow p n = true then 1 else 0
  | 0, _ => rfl
  | n + 1, h => by
    unfold cntB
    rw [anyBelow_succ]
    cases hn : p n with
    | true =>
      rw [cnt_none fun i hi => by
        rw [← Bool.not_eq_true]
        intro q
        have := h i n (by omega) (Nat.lt_succ_self n) q hn
        omega]
      simp
    | false =>
      rw [cnt_one fun i j hi hj => h i j (by omega) (by omega)]
      simp
theorem has_cell {t : RTask} {x y : Int} {i : Nat} : (hasB (cellM t (cellsL t)) x y i = true) = cellHas t x y ((cellsL t).getD i 0) := by
  unfold hasB cellHas
  rw [Bool.and_eq_true, isin_true, isin_true]
  rfl
theorem has_one {t : RTask} (h : RtOK t) {x y : Int} {i j : Nat} (hi : i < (cellsL t).length) (hj : j < (cellsL t).length) (h1 : hasB (cellM t (cellsL t)) x y i = true) (h2 : hasB (cellM t (cellsL t)) x y j = true) : i = j := by
  rw [has_cell] at h1 h2
  have e := cell_one h h1 h2
  rcases Nat.lt_trichotomy i j with g | g | g
  · have := cellsTo_up (t := t) g hj
    unfold cellsL at e
    omega
  · exact g
  · have := cellsTo_up (t := t) g hi
    unfold cellsL at e
    omega
theorem heard {t : RTask} (h : RtOK t) {x y : Int} (hx : t.xl ≤ x ∧ x ≤ t.xh) (hy : t.yl ≤ y ∧ y ≤ t.yh) (ha : anyBelow (disB t x y) t.nf = false) : anyBelow (hasB (cellM t (cellsL t)) x y) (cellsL t).length = true := by
  obtain ⟨g, h1, h2⟩ := cell_some h hx hy
  have hm : g ∈ cellsL t := cellsTo_mem h1 (agrees_kept ha h2)
  obtain ⟨i, hi, e⟩ := List.getElem_of_mem hm
  refine anyBelow_iff.mpr ⟨i, hi, ?_⟩
  rw [has_cell, List.getD_eq_getElem?_getD, List.getElem?_eq_getElem hi, Option.getD_some, e]
  exact h2
end Go.Proofs.Ytcnecjkcmjgakaa
end
section
set_option linter.unusedVariables false
set_option linter.unusedSimpArgs false
set_option maxRecDepth 100000
set_option maxHeartbeats 4000000
namespace Go.Proofs.Ytcnecjkcmjgakaa
open Go.V
def rWithinR : List V.D → Option (Prop × V.D) := fun ds => match ds with
  | [.agg [.int .i64 a, .int .i64 b, .int .i64 c, .int .i64 d], .agg [.int .i64 x, .int .i64 y]] => some (True, .bool (isin x a b && isin y c d))
  | _ => none
theorem withinR_ok : PSound Go.Proofs.Try.prog 28 (mk rWithinR) := by
  refine psound_mk Try.func28 (by kernel_rfl) rfl (ctx (.nil _)) ?_
  (intro ds p d h; unfold rWithinR at h; split at h <;> first | (cases h; done) | skip; cases h; refine ⟨Nat.le_of_ble_eq_true rfl, fun hp k hk => ?_⟩)
  rename_i a b c d x y
  refine ⟨[.agg [.int .i64 a, .int .i64 b, .int .i64 c, .int .i64 d], .agg [.int .i64 x, .int .i64 y]], rfl, rfl, rfl, rfl, rfl, rfl, ?_⟩
  generalize hS : (isin x a b && isin y c d) = s at *
  repeat' (first | ((with_reducible refine kok ?_); kernel_rfl) | ((with_reducible refine keq_mk ?_); kernel_rfl) | with_reducible rfl | ((conv => whnf); first | (with_reducible exact trivial) | ((with_reducible refine and_ff ?_ ?_); · exact rfl) | ((with_reducible refine and_tt ?_ ?_); · exact rfl) | (with_reducible refine And.intro ?_ ?_) | intro _ | (with_reducible refine fin2 hk ?_) | ((with_reducible refine eq_leaf ?_); exact rfl) | exact trivial))
  all_goals (clear hk; rw [← hS]; simp only [isin, taskOf_agg, ↓Bool.not_eq_true', ↓Bool.not_eq_false', ↓decT, ↓decF, out_true, out_false, isin_true, isin_false, Int.toNat_natCast, Int.ofNat_lt, Nat.zero_add, Nat.add_zero, Nat.reduceAdd] at *; simp_all <;> (intros; omega))
noncomputable def lr43 : Lib := (28, mk rWithinR) :: lr42
theorem lr43_ok : LibOK Go.Proofs.Try.prog lr43 := .cons withinR_ok lr42_ok
def rAgrees : List V.D → Option (Prop × V.D) := fun ds => match ds with
  | [d, .agg [.int .i64 x, .int .i64 y]] => some ((RtIs d ∧ (rtOf d).nf ≤ 6 ∧ ∀ i, i < (rtOf d).nf → fixOK (rtOf d).fx i) ∧ spot x ∧ spot y, .bool (!anyBelow (disB (rtOf d) x y) (rtOf d).nf))
  | _ => none
theorem agrees_ok : PSound Go.Proofs.Try.prog 30 (mk rAgrees) := by
  refine psound_mk Try.func30 (by kernel_rfl) rfl (ctx lr43_ok) ?_
  (intro ds p d h; unfold rAgrees at h; split at h <;> first | (cases h; done) | skip; cases h; refine ⟨Nat.le_of_ble_eq_true rfl, fun hp k hk => ?_⟩)
  rename_i d x y
  obtain ⟨⟨ht, hn, hf⟩, hx, hy⟩ := hp
  refine ⟨[(rtOf d).D, .agg [.int .i64 x, .int .i64 y]], rt_imp ht ⟨rfl, rfl, ?_⟩⟩
  clear ht
  generalize rtOf d = t at *
  generalize hS : (!anyBelow (disB t x y) t.nf) = c at *
  repeat' (first | ((with_reducible refine kok ?_); kernel_rfl) | ((with_reducible refine keq_mk ?_); kernel_rfl) | with_reducible rfl | ((conv => whnf); first | (with_reducible exact trivial) | ((with_reducible refine and_ff ?_ ?_); · exact rfl) | ((with_reducible refine and_tt ?_ ?_); · exact rfl) | (with_reducible refine And.intro ?_ ?_) | intro _ | (with_reducible refine fin2 hk ?_) | ((with_reducible refine eq_leaf ?_); exact rfl) | exact trivial))
  conv => whnf
  refine ⟨Nat, fun i => [(2, .ptr 0 0), (3, .ptr 1 0), (5, .int .i64 i)], fun i => [some (.row t.cells), some (.row [.int .i64 x, .int .i64 y])],
    fun i => t.nf - i, fun i => i ≤ t.nf ∧ anyBelow (disB t x y) i = false, [], 0, fun _ => ⟨rfl, rfl⟩, ?_, fun i hI => ?_⟩
  · clear hk
    repeat' (first | ((with_reducible refine kok ?_); kernel_rfl) | ((with_reducible refine keq_mk ?_); kernel_rfl) | with_reducible rfl | ((conv => whnf); first | (with_reducible exact trivial) | ((with_reducible refine and_ff ?_ ?_); · exact rfl) | ((with_reducible refine and_tt ?_ ?_); · exact rfl) | (with_reducible refine And.intro ?_ ?_) | intro _ | (with_reducible refine fin2 hk ?_) | ((with_reducible refine eq_leaf ?_); exact rfl) | exact trivial))
    all_goals first | exact Nat.zero_le _ | rfl
  obtain ⟨hi, hc⟩ := hI
  have hi : i ≤ t.nf := hi
  have hc : anyBelow (disB t x y) i = false := hc
  have BI := fun h => bear_in (hf i h) hx hy
  have FB := fun h => (hf i h)
  have N1 : disB t x y i = true → i < t.nf → c = false := fun h1 h2 => by
    rw [← hS, anyBelow_iff.mpr ⟨i, h2, h1⟩]; rfl
  have N2 : ¬ i < t.nf → c = true := fun h => by
    rw [← hS, show t.nf = i by omega, hc]; rfl
  have D1 : disB t x y i = (decide (fwd (t.fx i 0) (t.fx i 1) (t.fx i 2) (t.fx i 3) x y < 0) || decide (t.fx i 4 * fwd (t.fx i 0) (t.fx i 1) (t.fx i 2) (t.fx i 3) x y < 1000 * max (asd (t.fx i 0) (t.fx i 1) (t.fx i 2) (t.fx i 3) x y) (0 - asd (t.fx i 0) (t.fx i 1) (t.fx i 2) (t.fx i 3) x y))) := rfl
  have e1 : t.fx i 2 * (x - t.fx i 0) + t.fx i 3 * (y - t.fx i 1) = fwd (t.fx i 0) (t.fx i 1) (t.fx i 2) (t.fx i 3) x y := rfl
  have e2 : t.fx i 2 * (y - t.fx i 1) - t.fx i 3 * (x - t.fx i 0) = asd (t.fx i 0) (t.fx i 1) (t.fx i 2) (t.fx i 3) x y := rfl
  unfold spot at hx hy
  unfold fixOK at FB
  rw [fixB_true] at FB
  repeat' (first | ((with_reducible refine kok ?_); kernel_rfl) | ((with_reducible refine keq_mk ?_); kernel_rfl) | with_reducible rfl | ((conv => whnf); first | (with_reducible exact trivial) | ((with_reducible refine and_ff ?_ ?_); · exact rfl) | ((with_reducible refine and_tt ?_ ?_); · exact rfl) | (with_reducible refine And.intro ?_ ?_) | intro _ | (with_reducible refine fin2 hk ?_) | ((with_reducible refine eq_leaf ?_); exact rfl) | exact trivial))
  all_goals (clear hS)
  all_goals try ((first | with_reducible refine (?_ : (_ : Int) ≤ _) | with_reducible refine (?_ : (_ : Int) < _)); clear hk; simp only [taskOf_agg, ↓Bool.not_eq_true', ↓Bool.not_eq_false', ↓decT, ↓decF, out_true, out_false, isin_true, isin_false, Int.toNat_natCast, Int.ofNat_lt, Nat.zero_add, Nat.add_zero, Nat.reduceAdd] at *; first | omega | (have FB := FB (by omega); have BI := BI (by omega); unfold fwd at *; unfold asd at *; omega))
  · rename_i g1 g2
    clear hk
    simp only [taskOf_agg, ↓Bool.not_eq_true', ↓Bool.not_eq_false', ↓decT, ↓decF, out_true, out_false, isin_true, isin_false, Int.toNat_natCast, Int.ofNat_lt, Nat.zero_add, Nat.add_zero, Nat.reduceAdd, e1, e2] at g1 g2
    exact (N1 (by rw [D1, decide_eq_true g2]; rfl) g1).symm
  · rename_i g1 g2 g3
    clear hk
    simp only [taskOf_agg, ↓Bool.not_eq_true', ↓Bool.not_eq_false', ↓decT, ↓decF, out_true, out_false, isin_true, isin_false, Int.toNat_natCast, Int.ofNat_lt, Nat.zero_add, Nat.add_zero, Nat.reduceAdd, e1, e2] at g1 g2 g3
    exact (N1 (by rw [D1, decide_eq_true g3, Bool.or_true]) g1).symm
  · rename_i g1 g2 g3
    clear hk
    simp only [taskOf_agg, ↓Bool.not_eq_true', ↓Bool.not_eq_false', ↓decT, ↓decF, out_true, out_false, isin_true, isin_false, Int.toNat_natCast, Int.ofNat_lt, Nat.zero_add, Nat.add_zero, Nat.reduceAdd, e1, e2] at g1 g2 g3
    have hd : disB t x y i = false := by rw [D1, decide_eq_false g2, decide_eq_false g3]; rfl
    conv => whnf
    refine ⟨i + 1, ?_⟩
    repeat' (first | ((with_reducible refine kok ?_); kernel_rfl) | ((with_reducible refine keq_mk ?_); kernel_rfl) | with_reducible rfl | ((conv => whnf); first | (with_reducible exact trivial) | ((with_reducible refine and_ff ?_ ?_); · exact rfl) | ((with_reducible refine and_tt ?_ ?_); · exact rfl) | (with_reducible refine And.intro ?_ ?_) | intro _ | (with_reducible refine fin2 hk ?_) | ((with_reducible refine eq_leaf ?_); exact rfl) | exact trivial))
    all_goals first
      | (rw [anyBelow_succ, hc, hd]; rfl)
      | omega
      | (simp only; omega)
  · rename_i g1
    clear hk
    simp only [taskOf_agg, ↓Bool.not_eq_true', ↓Bool.not_eq_false', ↓decT, ↓decF, out_true, out_false, isin_true, isin_false, Int.toNat_natCast, Int.ofNat_lt, Nat.zero_add, Nat.add_zero, Nat.reduceAdd] at g1
    exact (N2 g1).symm
noncomputable def lr47 : Lib := (30, mk rAgrees) :: lr43
theorem lr47_ok : LibOK Go.Proofs.Try.prog lr47 := .cons agrees_ok lr43_ok
theorem cellT_any {t : RTask} {x y : Int} (h : (checkR t).2.2 = 0) : (anyBelow (hasB (cellM t (cellsL t)) x y) (cellsL t).length = true → (cellT t x y).2 = 0 ∧ (0 ≤ (cellT t x y).1 ∧ (cellT t x y).1 < ((cellsL t).length : Int)) ∧ hasB (cellM t (cellsL t)) x y (cellT t x y).1.toNat = true) ∧
    (anyBelow (hasB (cellM t (cellsL t)) x y) (cellsL t).length = false → (cellT t x y).2 = 4) := by
  have e : cellT t x y = if cellAt t x y < 0 then (0, 4) else (cellAt t x y, 0) := if_neg (fun g => g h)
  have hA : cellAt t x y = firstFrom (hasB (cellM t (cellsL t)) x y) 0 (cellsL t).length := rfl
  rcases firstFrom_spec (hasB (cellM t (cellsL t)) x y) (cellsL t).length 0 with ⟨g1, g2⟩ | ⟨m, g1, _, g3, g4, _⟩
  · refine ⟨fun q => ?_, fun _ => by rw [e, hA, g1]; rfl⟩
    obtain ⟨k, hk, e2⟩ := anyBelow_iff.1 q
    rw [g2 k (Nat.zero_le k) (by omega)] at e2
    cases e2
  · have hm : m < (cellsL t).length := by omega
    rw [e, hA, g1, if_neg (by omega)]
    refine ⟨fun _ => ⟨rfl, ⟨by show (0 : Int) ≤ m; omega, by show (m : Int) < _; omega⟩, g4⟩, fun q => ?_⟩
    rw [anyBelow_iff.mpr ⟨m, hm, g4⟩] at q
    cases q
def rLHeard : List V.D → Option (Prop × V.D) := fun ds => match ds with
  | [d, .agg [.int .i64 x, .int .i64 y]] => some (RtIs d ∧ (rtOf d).fits, .tt)
  | _ => none
attribute [local irreducible] checkR cellT cellsN cellM cellsL disB goneB manyS
theorem lawHeard_ok : PSound Go.Proofs.Try.prog 7 (mk rLHeard) := by
  refine psound_mk Try.func7 (by kernel_rfl) rfl (ctx lr47_ok) ?_
  (intro ds p d h; unfold rLHeard at h; split at h <;> first | (cases h; done) | skip; cases h; refine ⟨Nat.le_of_ble_eq_true rfl, fun hp k hk => ?_⟩)
  rename_i d x y
  obtain ⟨ht, hf⟩ := hp
  refine ⟨[(rtOf d).D, .agg [.int .i64 x, .int .i64 y]], rt_imp ht ⟨rfl, rfl, ?_⟩⟩
  clear ht
  generalize rtOf d = t at *
  have hN0 : (checkR t).2.2 ≠ 0 → cellsN t = 0 := fun h => by delta cellsN; exact if_neg h
  have hN1 : (checkR t).2.2 = 0 → cellsN t = (cellsL t).length := fun h => by delta cellsN; exact if_pos h
  repeat' (first | ((with_reducible refine kok ?_); kernel_rfl) | ((with_reducible refine keq_mk ?_); kernel_rfl) | with_reducible rfl | ((conv => whnf); first | (with_reducible exact trivial) | ((with_reducible refine and_ff ?_ ?_); · exact rfl) | ((with_reducible refine and_tt ?_ ?_); · exact rfl) | (with_reducible refine And.intro ?_ ?_) | intro _ | (with_reducible refine fin2 hk ?_) | ((with_reducible refine eq_leaf ?_); exact rfl) | exact trivial))
  all_goals try exact hf _ (by assumption)
  all_goals (rename_i g1; simp only [rtOf_agg, taskOf_agg, ↓Bool.not_eq_true', ↓Bool.not_eq_false', ↓decT, ↓decF, out_true, out_false, isin_true, isin_false, Int.toNat_natCast, Int.ofNat_lt, Nat.zero_add, Nat.add_zero, Nat.reduceAdd, Decidable.not_not] at g1)
  · rename_i g0
    exfalso
    simp only [rtOf_agg, taskOf_agg, ↓Bool.not_eq_true', ↓Bool.not_eq_false', ↓decT, ↓decF, out_true, out_false, isin_true, isin_false, Int.toNat_natCast, Int.ofNat_lt, Nat.zero_add, Nat.add_zero, Nat.reduceAdd] at g0
    have := hN0 g0
    omega
  have hok := rt_ok g1
  have hN := hN1 g1
  have hM := cellsL_len hok
  clear hN0 hN1
  conv => whnf
  have CN := cnt_one (p := hasB (cellM t (cellsL t)) x y) (n := (cellsL t).length) (fun i j hi hj => has_one hok hi hj)
  have HE := heard hok (x := x) (y := y)
  obtain ⟨C1, C0⟩ := cellT_any (x := x) (y := y) g1
  generalize hP : anyBelow (hasB (cellM t (cellsL t)) x y) (cellsL t).length = P at *
  refine ⟨Nat, fun i => [(2, .ptr 0 0), (3, .ptr 1 0), (5, .rsl 5 (cellsL t).length (imD (cellM t (cellsL t)))), (7, .int .i64 (cntB (hasB (cellM t (cellsL t)) x y) i : Nat)), (8, .int .i64 i)],
    fun i => [some (.row t.cells), some (.row [.int .i64 x, .int .i64 y])], fun i => (cellsL t).length - i, fun i => i ≤ (cellsL t).length ∧ cntB (hasB (cellM t (cellsL t)) x y) i ≤ i, [], 0, fun _ => ⟨rfl, rfl⟩, ?_, fun i hI => ?_⟩
  · clear hk
    repeat' (first | ((with_reducible refine kok ?_); kernel_rfl) | ((with_reducible refine keq_mk ?_); kernel_rfl) | with_reducible rfl | ((conv => whnf); first | (with_reducible exact trivial) | ((with_reducible refine and_ff ?_ ?_); · exact rfl) | ((with_reducible refine and_tt ?_ ?_); · exact rfl) | (with_reducible refine And.intro ?_ ?_) | intro _ | (with_reducible refine fin2 hk ?_) | ((with_reducible refine eq_leaf ?_); exact rfl) | exact trivial))
    all_goals first | exact hN | exact Nat.zero_le _ | exact Nat.le_refl _ | rfl
  obtain ⟨hi, hcn⟩ := hI
  have hi : i ≤ (cellsL t).length := hi
  have hcn : cntB (hasB (cellM t (cellsL t)) x y) i ≤ i := hcn
  have CI := fun h : i < (cellsL t).length => cell_in hok (cellsL_get h)
  have hx := hok.ax
  have hy := hok.ay
  have hs := hok.size
  have m0 : cellM t (cellsL t) i 0 = cxl t ((cellsL t).getD i 0) := by delta cellM; rfl
  have m1 : cellM t (cellsL t) i 1 = cxh t ((cellsL t).getD i 0) := by delta cellM; rfl
  have m2 : cellM t (cellsL t) i 2 = cyl t ((cellsL t).getD i 0) := by delta cellM; rfl
  have m3 : cellM t (cellsL t) i 3 = cyh t ((cellsL t).getD i 0) := by delta cellM; rfl
  repeat' (first | ((with_reducible refine kok ?_); kernel_rfl) | ((with_reducible refine keq_mk ?_); kernel_rfl) | with_reducible rfl | ((conv => whnf); first | (with_reducible exact trivial) | ((with_reducible refine and_ff ?_ ?_); · exact rfl) | ((with_reducible refine and_tt ?_ ?_); · exact rfl) | (with_reducible refine And.intro ?_ ?_) | intro _ | (with_reducible refine fin2 hk ?_) | ((with_reducible refine eq_leaf ?_); exact rfl) | exact trivial))
  all_goals try (clear hk HE CN C1 C0 hP; (first | with_reducible refine (?_ : (_ : Int) ≤ _) | with_reducible refine (?_ : (_ : Int) < _) | exfalso); simp only [rtOf_agg, taskOf_agg, ↓Bool.not_eq_true', ↓Bool.not_eq_false', ↓decT, ↓decF, out_true, out_false, isin_true, isin_false, Int.toNat_natCast, Int.ofNat_lt, Nat.zero_add, Nat.add_zero, Nat.reduceAdd, Int.toNat_zero, Int.reduceToNat, ↓reduceIte, reduceCtorEq, Bool.or_eq_true, Bool.or_eq_false_iff, Bool.and_eq_true, Bool.and_eq_false_iff, Nat.zero_add, m0, m1, m2, m3, id] at *; first | omega | (have C := CI (by omega); obtain ⟨C1, C2⟩ := C; omega))
  all_goals try exact hf _ (by assumption)
  all_goals try exact hok.nf
  all_goals try exact hok.fx _ (by assumption)
  · have q : hasB (cellM t (cellsL t)) x y i = true := by assumption
    have cs : cntB (hasB (cellM t (cellsL t)) x y) (i + 1) = cntB (hasB (cellM t (cellsL t)) x y) i + 1 := by
      show _ + (if _ then 1 else 0) = _
      rw [if_pos q]
    have hlt : (i : Int) < ((cellsL t).length : Int) := of_decide_eq_true (by assumption)
    clear hk
    conv => whnf
    refine ⟨i + 1, ?_⟩
    repeat' (first | ((with_reducible refine kok ?_); kernel_rfl) | ((with_reducible refine keq_mk ?_); kernel_rfl) | with_reducible rfl | ((conv => whnf); first | (with_reducible exact trivial) | ((with_reducible refine and_ff ?_ ?_); · exact rfl) | ((with_reducible refine and_tt ?_ ?_); · exact rfl) | (with_reducible refine And.intro ?_ ?_) | intro _ | (with_reducible refine fin2 hk ?_) | ((with_reducible refine eq_leaf ?_); exact rfl) | exact trivial))
    all_goals first
      | (rw [cs]; rfl)
      | omega
      | (simp only [cs]; omega)
  · have q : hasB (cellM t (cellsL t)) x y i = false := by assumption
    have cs : cntB (hasB (cellM t (cellsL t)) x y) (i + 1) = cntB (hasB (cellM t (cellsL t)) x y) i := by
      show _ + (if _ then 1 else 0) = _
      rw [if_neg (by rw [q]; decide)]; rfl
    have hlt : (i : Int) < ((cellsL t).length : Int) := of_decide_eq_true (by assumption)
    clear hk
    conv => whnf
    refine ⟨i + 1, ?_⟩
    repeat' (first | ((with_reducible refine kok ?_); kernel_rfl) | ((with_reducible refine keq_mk ?_); kernel_rfl) | with_reducible rfl | ((conv => whnf); first | (with_reducible exact trivial) | ((with_reducible refine and_ff ?_ ?_); · exact rfl) | ((with_reducible refine and_tt ?_ ?_); · exact rfl) | (with_reducible refine And.intro ?_ ?_) | intro _ | (with_reducible refine fin2 hk ?_) | ((with_reducible refine eq_leaf ?_); exact rfl) | exact trivial))
    all_goals first
      | (rw [cs]; rfl)
      | omega
      | (simp only [cs]; omega)
  all_goals (
    have hil : i = (cellsL t).length := by
      have := of_decide_eq_false (by assumption : decide ((i : Int) < ((cellsL t).length : Int)) = false)
      omega
    have cn : cntB (hasB (cellM t (cellsL t)) x y) i = if P = true then 1 else 0 := by rw [hil]; exact CN
    clear hk hP CI hN hM m0 m1 m2 m3 hcn
    exfalso
    simp only [rtOf_agg] at *)
  all_goals (
    cases P
    · have c0 := C0 rfl
      have cn : cntB (hasB (cellM t (cellsL t)) x y) i = 0 := cn
      have HE := fun a b c => Bool.false_ne_true (HE a b c)
      clear C0 C1 CN hok hf hs hx hy
      simp_all [isin] <;> omega
    · obtain ⟨c0, ⟨c1, c2⟩, c3⟩ := C1 rfl
      have cn : cntB (hasB (cellM t (cellsL t)) x y) i = 1 := cn
      clear C0 C1 CN HE hok hf hs hx hy
      simp only [hasB, Nat.zero_add] at *
      first
        | (have := of_decide_eq_true (by assumption : decide ((cellT t x y).1 < (0 : Int)) = true); omega)
        | (have := of_decide_eq_true (by assumption : decide (((cellsL t).length : Int) ≤ (cellT t x y).1) = true); omega)
        | simp_all)
end Go.Proofs.Ytcnecjkcmjgakaa
end
section
set_option linter.unusedVariables false
set_option linter.unusedSimpArgs false
set_option maxRecDepth 100000
namespace Go.Proofs.Ytcnecjkcmjgakaa
open Go.V

theorem recoverHeard_lifted (os : Os) (started : os.Started) (H : Type) (enc : TypeId × Value → H) :
    ReturnsInHanded {} Try.checked os 7 .any (Rows.recoverHeardSpec.pre6 enc Go.Proofs.Try.prog Try.f7 Rows.recoverHeardRow.domain false) (Rows.recoverHeardSpec.post enc Go.Proofs.Try.prog Try.f7 false Rows.recoverHeardRow.fresh Rows.recoverHeardRow.handsOn Rows.recoverHeardRow.again) := by
  refine returnsInHanded_of_change (C := Try.checked) own started (by kernel_rfl) Try.func7
    (ChangeSpec.witness6 (enc := enc) (C := Try.checked) false ⟨#[], #[.agg #[.int .i64 0, .int .i64 0, .int .i64 0, .int .i64 0, .int .i64 0, .slice none 0 0, .slice none 0 0, .int .i64 0, .int .i64 0, .int .i64 0, .int .i64 0, .int .i64 0, .int .i64 0, .int .i64 0], .agg #[.int .i64 0, .int .i64 0]], []⟩ 8 (by kernel_rfl) (by kernel_rfl) (by kernel_rfl) (by kernel_rfl)) ?_
  intro W base args ds gs before hok hW _ _
  refine law_contract (l := [rtK, .agg (ints 2)]) (tb := 4) laid_ok lawHeard_ok (by kernel_rfl) (by kernel_rfl) rfl tbool (fun ds h => ?_) rfl (fun ds hd => ?_) W base args ds gs before hok hW
  · obtain ⟨d, e, rfl, h1, h2⟩ := isAL2 h
    obtain ⟨a, b, rfl⟩ := ints2 h2
    exact ⟨_, _, rfl, rt_of_kinds h1, .inl rfl⟩
  · match ds, hd with
    | [a, b], _ => exact ⟨rfl, rfl, rfl⟩
theorem recoverHeard_holds : Rows.RecoverHeardSaid :=
  OpenClaim.holds_of_wide 7 Try.f7 rfl rfl rfl rfl rfl rfl rfl ⟨rfl, rfl, rfl, rfl, rfl⟩ rfl rfl rfl rfl rfl (by kernel_rfl) Try.func7 (by kernel_rfl)
    (of_decide_eq_true (by kernel_rfl)) (by unfold Func.isWrapper; first | (rw [if_pos (by decide +kernel)]; kernel_rfl) | (rw [if_neg (by decide +kernel)]; exact ⟨rfl, rfl⟩))
    (fun os started H enc _ => recoverHeard_lifted os started H enc)
#print axioms recoverHeard_holds
end Go.Proofs.Ytcnecjkcmjgakaa
end
