/-
  Contracts of the recovery: the cells (the document's).
-/
import Derived.Test.YtphcblofacfkaaaGreatMm
set_option linter.unusedVariables false
set_option linter.unusedSimpArgs false
set_option maxRecDepth 100000
set_option maxHeartbeats 4000000
section
namespace Go.Proofs.YtphcblofacfkaaaGreat
open Go.V
noncomputable def lr21 : Lib := lr20
theorem lr21_ok : LibOK Go.Proofs.Tryz.prog lr21 := lr20_ok
attribute [local irreducible] manyS goneB cellN openS
end Go.Proofs.YtphcblofacfkaaaGreat
end
section
namespace Go.Proofs.YtphcblofacfkaaaGreat
open Go.V
noncomputable def lr22 : Lib := lr21
theorem lr22_ok : LibOK Go.Proofs.Tryz.prog lr22 := lr21_ok
def cellsN (t : RTask) : Nat := if (checkR t).2.2 = 0 then (cellsL t).length else 0
def rCells : List V.D → Option (Prop × V.D) := fun ds => match ds with
  | [d] => some (RtIs d ∧ (rtOf d).fits, .tup [.rsl 5 (cellsN (rtOf d)) (imD (cellM (rtOf d) (cellsL (rtOf d)))), .int .i64 (checkR (rtOf d)).2.2])
  | _ => none
theorem grid_at {t : RTask} {r c : Nat} (hc : c < wideN t) : (r * wideN t + c) % wideN t = c ∧ (r * wideN t + c) / wideN t = r := by
  refine ⟨?_, ?_⟩
  · rw [Nat.mul_comm, Nat.mul_add_mod, Nat.mod_eq_of_lt hc]
  · rw [Nat.mul_comm, Nat.mul_add_div (by omega), Nat.div_eq_of_lt hc, Nat.add_zero]
theorem grid_cx {t : RTask} {r c : Nat} (hc : c < wideN t) : cxl t (r * wideN t + c) = t.xl + (c : Int) * t.size ∧ cxh t (r * wideN t + c) = min t.xh (t.xl + (c : Int) * t.size + t.size - 1) ∧ cyl t (r * wideN t + c) = t.yl + (r : Int) * t.size ∧ cyh t (r * wideN t + c) = min t.yh (t.yl + (r : Int) * t.size + t.size - 1) := by
  obtain ⟨h1, h2⟩ := grid_at (r := r) hc
  have e1 := next_part (c : Int) t.size
  have e2 := next_part (r : Int) t.size
  unfold cxl cxh cyl cyh
  rw [h1, h2]
  refine ⟨rfl, by omega, rfl, by omega⟩
theorem part_le {lo hi s : Int} {r : Nat} (h1 : lo ≤ hi) (h2 : 1 ≤ s) (h3 : (r : Int) ≤ manyS lo hi s) : 0 ≤ (r : Int) * s ∧ lo + (r : Int) * s ≤ hi + s := by
  have h4 : 0 ≤ (r : Int) * s := Int.mul_nonneg (by omega) (by omega)
  refine ⟨h4, ?_⟩
  cases r with
  | zero => simp; omega
  | succ r =>
    have := (part_iff (r := (r : Int)) h1 h2 (by omega)).2 (by omega)
    have e := next_part (r : Int) s
    rw [Int.natCast_succ]
    omega
theorem grid_lt {t : RTask} {r c : Nat} (hr : r < tallN t) (hc : c < wideN t) : r * wideN t + c < wideN t * tallN t := by
  calc r * wideN t + c < r * wideN t + wideN t := by omega
    _ = (r + 1) * wideN t := by rw [Nat.add_mul, Nat.one_mul]
    _ ≤ tallN t * wideN t := Nat.mul_le_mul_right _ hr
    _ = wideN t * tallN t := Nat.mul_comm _ _
attribute [local irreducible] manyS goneB cellN openS checkR
theorem rCells_ok : PSound Go.Proofs.Tryz.prog 35 (mk rCells) := by
  refine psound_mk Tryz.func35 (by kernel_rfl) rfl (ctx lr22_ok) ?_
  (intro ds p d h; unfold rCells at h; split at h <;> first | (cases h; done) | skip; cases h; refine ⟨Nat.le_of_ble_eq_true rfl, fun hp k hk => ?_⟩)
  rename_i d
  obtain ⟨ht, hf⟩ := hp
  refine ⟨[(rtOf d).D], rt_imp ht ?_⟩
  clear ht
  generalize rtOf d = t at *
  have hN0 : (checkR t).2.2 ≠ 0 → cellsN t = 0 := fun h => if_neg h
  have hN1 : (checkR t).2.2 = 0 → cellsN t = (cellsL t).length := fun h => if_pos h
  repeat' (first | ((with_reducible refine kok ?_); kernel_rfl) | ((with_reducible refine keq_mk ?_); kernel_rfl) | with_reducible rfl | ((conv => whnf); first | (with_reducible exact trivial) | ((with_reducible refine and_ff ?_ ?_); · exact rfl) | ((with_reducible refine and_tt ?_ ?_); · exact rfl) | (with_reducible refine And.intro ?_ ?_) | intro _ | (with_reducible refine fin2 hk ?_) | ((with_reducible refine eq_leaf ?_); exact rfl) | exact trivial))
  all_goals try exact hf _ (by assumption)
  · rename_i g1
    simp only [rtOf_agg, taskOf_agg, ↓Bool.not_eq_true', ↓Bool.not_eq_false', ↓decT, ↓decF, out_true, out_false, isin_true, isin_false, Int.toNat_natCast, Int.ofNat_lt, Nat.zero_add, Nat.add_zero, Nat.reduceAdd] at g1
    exact (hN0 g1).symm
  rename_i g1
  simp only [rtOf_agg, taskOf_agg, ↓Bool.not_eq_true', ↓Bool.not_eq_false', ↓decT, ↓decF, out_true, out_false, isin_true, isin_false, Int.toNat_natCast, Int.ofNat_lt, Nat.zero_add, Nat.add_zero, Nat.reduceAdd, Decidable.not_not] at g1
  have hok := rt_ok g1
  have hN := hN1 g1
  have hx := hok.ax
  have hy := hok.ay
  have hs := hok.size
  have hw := wide_pos hok
  have hg := grid_count hok
  clear hN0 hN1
  conv => whnf
  have PY : ∀ r : Nat, t.yl + (r : Int) * t.size ≤ t.yh ↔ r < tallN t := fun r => by rw [part_iff hy.2.1 hs.1 (by omega)]; omega
  have PX : ∀ c : Nat, t.xl + (c : Int) * t.size ≤ t.xh ↔ c < wideN t := fun c => by rw [part_iff hx.2.1 hs.1 (by omega)]; omega
  refine ⟨Nat, fun r => [(1, .ptr 0 0), (2, .own 1 (cellsTo t (r * wideN t)).length), (4, .int .i64 (t.yl + (r : Int) * t.size))], fun r => [some (.row t.cells), some (.buf 113 5 (cellsTo t (r * wideN t)).length (imD (cellM t (cellsTo t (r * wideN t)))))],
    fun r => tallN t - r, fun r => r ≤ tallN t, [(113, 5)], 0, fun _ => ⟨?_, ?_⟩, ?_, fun r hr => ?_⟩
  · conv => lhs; whnf
  · conv => lhs; whnf
  · clear hk
    repeat' (first | ((with_reducible refine kok ?_); kernel_rfl) | ((with_reducible refine keq_mk ?_); kernel_rfl) | with_reducible rfl | ((conv => whnf); first | (with_reducible exact trivial) | ((with_reducible refine and_ff ?_ ?_); · exact rfl) | ((with_reducible refine and_tt ?_ ?_); · exact rfl) | (with_reducible refine And.intro ?_ ?_) | intro _ | (with_reducible refine fin2 hk ?_) | ((with_reducible refine eq_leaf ?_); exact rfl) | exact trivial))
    all_goals first
      | exact Nat.zero_le _
      | (exact absurd (by assumption) (Nat.not_lt_zero _))
      | (rw [show 0 * wideN t = 0 from Nat.zero_mul _]; rfl)
      | (rw [show ((0 : Nat) : Int) * t.size = 0 from Int.zero_mul _]; omega)
      | (rename_i i j h1 h2; rw [show 0 * wideN t = 0 from Nat.zero_mul _] at h1; exact absurd h1 (Nat.not_lt_zero _))
  have hr : r ≤ tallN t := hr
  have LY := part_le (r := r) hy.2.1 hs.1 (by omega)
  have PYr := PY r
  have e2 := next_part (r : Int) t.size
  repeat' (first | ((with_reducible refine kok ?_); kernel_rfl) | ((with_reducible refine keq_mk ?_); kernel_rfl) | with_reducible rfl | ((conv => whnf); first | (with_reducible exact trivial) | ((with_reducible refine and_ff ?_ ?_); · exact rfl) | ((with_reducible refine and_tt ?_ ?_); · exact rfl) | (with_reducible refine And.intro ?_ ?_) | intro _ | (with_reducible refine fin2 hk ?_) | ((with_reducible refine eq_leaf ?_); exact rfl) | exact trivial))
  all_goals try omega
  rotate_left
  · have e : r = tallN t := by clear hk; simp only [taskOf_agg, ↓Bool.not_eq_true', ↓Bool.not_eq_false', ↓decT, ↓decF, out_true, out_false, isin_true, isin_false, Int.toNat_natCast, Int.ofNat_lt, Nat.zero_add, Nat.add_zero, Nat.reduceAdd] at *; omega
    rw [hN, e, Nat.mul_comm]; rfl
  · have e : r = tallN t := by clear hk; simp only [taskOf_agg, ↓Bool.not_eq_true', ↓Bool.not_eq_false', ↓decT, ↓decF, out_true, out_false, isin_true, isin_false, Int.toNat_natCast, Int.ofNat_lt, Nat.zero_add, Nat.add_zero, Nat.reduceAdd] at *; omega
    rw [e, Nat.mul_comm]; rfl
  conv => whnf
  have hlr : r < tallN t := by rename_i q; simp only [taskOf_agg, ↓Bool.not_eq_true', ↓Bool.not_eq_false', ↓decT, ↓decF, out_true, out_false, isin_true, isin_false, Int.toNat_natCast, Int.ofNat_lt, Nat.zero_add, Nat.add_zero, Nat.reduceAdd] at q; exact PYr.1 q
  refine ⟨Nat, fun c => [(1, .ptr 0 0), (2, .own 1 (cellsTo t (r * wideN t + c)).length), (4, .int .i64 (t.yl + (r : Int) * t.size)), (5, .int .i64 (t.xl + (c : Int) * t.size))], fun c => [some (.row t.cells), some (.buf 113 5 (cellsTo t (r * wideN t + c)).length (imD (cellM t (cellsTo t (r * wideN t + c)))))],
    fun c => wideN t - c, fun c => c ≤ wideN t, [], 0, fun _ => ⟨?_, ?_⟩, ?_, fun c hc => ?_⟩
  · conv => lhs; whnf
  · conv => lhs; whnf
  · clear hk
    repeat' (first | ((with_reducible refine kok ?_); kernel_rfl) | ((with_reducible refine keq_mk ?_); kernel_rfl) | with_reducible rfl | ((conv => whnf); first | (with_reducible exact trivial) | ((with_reducible refine and_ff ?_ ?_); · exact rfl) | ((with_reducible refine and_tt ?_ ?_); · exact rfl) | (with_reducible refine And.intro ?_ ?_) | intro _ | (with_reducible refine fin2 hk ?_) | ((with_reducible refine eq_leaf ?_); exact rfl) | exact trivial))
    all_goals first
      | exact Nat.zero_le _
      | rfl
      | (rw [show ((0 : Nat) : Int) * t.size = 0 from Int.zero_mul _]; omega)
  have hc : c ≤ wideN t := hc
  have LX := part_le (r := c) hx.2.1 hs.1 (by omega)
  have PXc := PX c
  have e1 := next_part (c : Int) t.size
  have F := hok.fx
  have hnf := hok.nf
  have hgr := hok.grants
  have hlen := cellsTo_len t (r * wideN t + c)
  have hlt : c < wideN t → r * wideN t + c < wideN t * tallN t := fun h => grid_lt hlr h
  have hle : c ≤ wideN t → r * wideN t + c ≤ wideN t * tallN t := fun h => by
    have := grid_lt (t := t) hlr (c := 0) (by omega)
    calc r * wideN t + c ≤ r * wideN t + wideN t := by omega
      _ = (r + 1) * wideN t := by rw [Nat.add_mul, Nat.one_mul]
      _ ≤ tallN t * wideN t := Nat.mul_le_mul_right _ hlr
      _ = wideN t * tallN t := Nat.mul_comm _ _
  have GC := grid_cx (t := t) (r := r) (c := c)
  repeat' (first | ((with_reducible refine kok ?_); kernel_rfl) | ((with_reducible refine keq_mk ?_); kernel_rfl) | with_reducible rfl | ((conv => whnf); first | (with_reducible exact trivial) | ((with_reducible refine and_ff ?_ ?_); · exact rfl) | ((with_reducible refine and_tt ?_ ?_); · exact rfl) | (with_reducible refine And.intro ?_ ?_) | intro _ | (with_reducible refine fin2 hk ?_) | ((with_reducible refine eq_leaf ?_); exact rfl) | exact trivial))
  all_goals try ((first | with_reducible refine (?_ : (_ : Int) ≤ _) | with_reducible refine (?_ : (_ : Int) < _) | with_reducible refine (?_ : spot _)); clear hk; first | (unfold spot; omega) | (simp only [taskOf_agg, ↓Bool.not_eq_true', ↓Bool.not_eq_false', ↓decT, ↓decF, out_true, out_false, isin_true, isin_false, Int.toNat_natCast, Int.ofNat_lt, Nat.zero_add, Nat.add_zero, Nat.reduceAdd] at *; omega))
  all_goals try exact hgr.1
  all_goals try exact (hgr.2 _ (by assumption)).1
  all_goals try exact (hgr.2 _ (by assumption)).2
  all_goals try exact F _ (by assumption)
  all_goals try omega
  all_goals try first
    | (change (-100000000 : Int) ≤ t.xl + (c : Int) * t.size; clear hk; simp only [taskOf_agg, ↓Bool.not_eq_true', ↓Bool.not_eq_false', ↓decT, ↓decF, out_true, out_false, isin_true, isin_false, Int.toNat_natCast, Int.ofNat_lt, Nat.zero_add, Nat.add_zero, Nat.reduceAdd] at *; omega)
    | (change t.xl + (c : Int) * t.size ≤ 100000000; clear hk; simp only [taskOf_agg, ↓Bool.not_eq_true', ↓Bool.not_eq_false', ↓decT, ↓decF, out_true, out_false, isin_true, isin_false, Int.toNat_natCast, Int.ofNat_lt, Nat.zero_add, Nat.add_zero, Nat.reduceAdd] at *; omega)
    | (change (-100000000 : Int) ≤ min t.xh (t.xl + (c : Int) * t.size + t.size - 1); clear hk; simp only [taskOf_agg, ↓Bool.not_eq_true', ↓Bool.not_eq_false', ↓decT, ↓decF, out_true, out_false, isin_true, isin_false, Int.toNat_natCast, Int.ofNat_lt, Nat.zero_add, Nat.add_zero, Nat.reduceAdd] at *; omega)
    | (change min t.xh (t.xl + (c : Int) * t.size + t.size - 1) ≤ 100000000; clear hk; simp only [taskOf_agg, ↓Bool.not_eq_true', ↓Bool.not_eq_false', ↓decT, ↓decF, out_true, out_false, isin_true, isin_false, Int.toNat_natCast, Int.ofNat_lt, Nat.zero_add, Nat.add_zero, Nat.reduceAdd] at *; omega)
    | (change (-100000000 : Int) ≤ t.yl + (r : Int) * t.size; clear hk; simp only [taskOf_agg, ↓Bool.not_eq_true', ↓Bool.not_eq_false', ↓decT, ↓decF, out_true, out_false, isin_true, isin_false, Int.toNat_natCast, Int.ofNat_lt, Nat.zero_add, Nat.add_zero, Nat.reduceAdd] at *; omega)
    | (change t.yl + (r : Int) * t.size ≤ 100000000; clear hk; simp only [taskOf_agg, ↓Bool.not_eq_true', ↓Bool.not_eq_false', ↓decT, ↓decF, out_true, out_false, isin_true, isin_false, Int.toNat_natCast, Int.ofNat_lt, Nat.zero_add, Nat.add_zero, Nat.reduceAdd] at *; omega)
    | (change (-100000000 : Int) ≤ min t.yh (t.yl + (r : Int) * t.size + t.size - 1); clear hk; simp only [taskOf_agg, ↓Bool.not_eq_true', ↓Bool.not_eq_false', ↓decT, ↓decF, out_true, out_false, isin_true, isin_false, Int.toNat_natCast, Int.ofNat_lt, Nat.zero_add, Nat.add_zero, Nat.reduceAdd] at *; omega)
    | (change min t.yh (t.yl + (r : Int) * t.size + t.size - 1) ≤ 100000000; clear hk; simp only [taskOf_agg, ↓Bool.not_eq_true', ↓Bool.not_eq_false', ↓decT, ↓decF, out_true, out_false, isin_true, isin_false, Int.toNat_natCast, Int.ofNat_lt, Nat.zero_add, Nat.add_zero, Nat.reduceAdd] at *; omega)
    | (change ((cellsTo t (r * wideN t + c)).length + 1) * 40 ≤ 140737488355328; have := hle hc; omega)
  · rename_i g2 g3 g4
    clear hk
    have hc1 : c < wideN t := by simp only [taskOf_agg, ↓Bool.not_eq_true', ↓Bool.not_eq_false', ↓decT, ↓decF, out_true, out_false, isin_true, isin_false, Int.toNat_natCast, Int.ofNat_lt, Nat.zero_add, Nat.add_zero, Nat.reduceAdd] at *; omega
    obtain ⟨q1, q2, q3, q4⟩ := GC hc1
    have hgone : goneB t (r * wideN t + c) = false := by
      delta goneB
      rw [q1, q2, q3, q4]
      exact (Bool.not_eq_true' _).mp g4
    have hl := cells_kept_len hgone
    conv => whnf
    refine ⟨c + 1, ?_⟩
    repeat' (first | ((with_reducible refine kok ?_); kernel_rfl) | ((with_reducible refine keq_mk ?_); kernel_rfl) | with_reducible rfl | ((conv => whnf); first | (with_reducible exact trivial) | ((with_reducible refine and_ff ?_ ?_); · exact rfl) | ((with_reducible refine and_tt ?_ ?_); · exact rfl) | (with_reducible refine And.intro ?_ ?_) | intro _ | (with_reducible refine fin2 hk ?_) | ((with_reducible refine eq_leaf ?_); exact rfl) | exact trivial))
    all_goals first
      | exact hl.symm
      | exact cell_snoc hgone (by rw [q1, q2, q3, q4]; rfl) (by rw [← hl]; assumption) (by assumption)
      | (rw [Int.natCast_succ]; omega)
      | omega
      | (simp only; omega)
  · rename_i g2 g3 g4
    clear hk
    have hc1 : c < wideN t := by simp only [taskOf_agg, ↓Bool.not_eq_true', ↓Bool.not_eq_false', ↓decT, ↓decF, out_true, out_false, isin_true, isin_false, Int.toNat_natCast, Int.ofNat_lt, Nat.zero_add, Nat.add_zero, Nat.reduceAdd] at *; omega
    obtain ⟨q1, q2, q3, q4⟩ := GC hc1
    have hgone : goneB t (r * wideN t + c) = true := by
      delta goneB
      rw [q1, q2, q3, q4]
      exact (Bool.not_eq_false' _).mp g4
    have hl := cells_gone hgone
    conv => whnf
    refine ⟨c + 1, ?_⟩
    repeat' (first | ((with_reducible refine kok ?_); kernel_rfl) | ((with_reducible refine keq_mk ?_); kernel_rfl) | with_reducible rfl | ((conv => whnf); first | (with_reducible exact trivial) | ((with_reducible refine and_ff ?_ ?_); · exact rfl) | ((with_reducible refine and_tt ?_ ?_); · exact rfl) | (with_reducible refine And.intro ?_ ?_) | intro _ | (with_reducible refine fin2 hk ?_) | ((with_reducible refine eq_leaf ?_); exact rfl) | exact trivial))
    all_goals first
      | (rw [← Nat.add_assoc, hl]; done)
      | (rw [Int.natCast_succ]; omega)
      | omega
      | (simp only; omega)
  · rename_i g2 g3
    clear hk
    obtain rfl : c = wideN t := by simp only [taskOf_agg, ↓Bool.not_eq_true', ↓Bool.not_eq_false', ↓decT, ↓decF, out_true, out_false, isin_true, isin_false, Int.toNat_natCast, Int.ofNat_lt, Nat.zero_add, Nat.add_zero, Nat.reduceAdd] at *; omega
    conv => whnf
    refine ⟨r + 1, ?_⟩
    repeat' (first | ((with_reducible refine kok ?_); kernel_rfl) | ((with_reducible refine keq_mk ?_); kernel_rfl) | with_reducible rfl | ((conv => whnf); first | (with_reducible exact trivial) | ((with_reducible refine and_ff ?_ ?_); · exact rfl) | ((with_reducible refine and_tt ?_ ?_); · exact rfl) | (with_reducible refine And.intro ?_ ?_) | intro _ | (with_reducible refine fin2 hk ?_) | ((with_reducible refine eq_leaf ?_); exact rfl) | exact trivial))
    all_goals first
      | (rw [Nat.add_mul, Nat.one_mul]; done)
      | (rw [Int.natCast_succ]; omega)
      | omega
      | (simp only; omega)
end Go.Proofs.YtphcblofacfkaaaGreat
end
section
namespace Go.Proofs.YtphcblofacfkaaaGreat
open Go.V
attribute [local irreducible] manyS goneB cellN openS checkR cellsL
noncomputable def lr23 : Lib := (35, mk rCells) :: lr22
theorem lr23_ok : LibOK Go.Proofs.Tryz.prog lr23 := .cons rCells_ok lr22_ok
noncomputable def lr24 : Lib := lr23
theorem lr24_ok : LibOK Go.Proofs.Tryz.prog lr24 := lr23_ok
def hasB (a : Nat → Nat → Int) (x y : Int) (i : Nat) : Bool := isin x (a i 0) (a i 1) && isin y (a i 2) (a i 3)
def cellAt (t : RTask) (x y : Int) : Int := firstFrom (hasB (cellM t (cellsL t)) x y) 0 (cellsL t).length
def cellT (t : RTask) (x y : Int) : Int × Int := if (checkR t).2.2 ≠ 0 then (0, (checkR t).2.2) else if cellAt t x y < 0 then (0, 4) else (cellAt t x y, 0)
def rCell : List V.D → Option (Prop × V.D) := fun ds => match ds with
  | [d, .agg [.int .i64 x, .int .i64 y]] => some (RtIs d ∧ (rtOf d).fits, .tup [.int .i64 (cellT (rtOf d) x y).1, .int .i64 (cellT (rtOf d) x y).2])
  | _ => none
def rCell1 : List V.D → Option (Prop × V.D) := fun ds => match ds with
  | [.agg [.int .i64 a, .int .i64 b, .int .i64 c, .int .i64 d, .int .i64 o], .eptr 2 e] => some (oneI e 0 ∧ oneI e 1, .bool (isin (toI (e 0)) a b && isin (toI (e 1)) c d))
  | _ => none
def two (a b : Int) (j : Nat) : V.D := .int .i64 ([a, b].getD j 0)
theorem cell1_ok : PSound Go.Proofs.Tryz.prog 37 (mk rCell1) := by
  refine psound_mk Tryz.func37 (by kernel_rfl) rfl (ctx lr24_ok) ?_
  (intro ds p d h; unfold rCell1 at h; split at h <;> first | (cases h; done) | skip; cases h; refine ⟨Nat.le_of_ble_eq_true rfl, fun hp k hk => ?_⟩)
  rename_i a b c d o e
  obtain ⟨g0, g1⟩ := hp
  unfold oneI at g0 g1
  generalize toI (e 0) = x at *
  generalize toI (e 1) = y at *
  refine ⟨[.agg [.int .i64 a, .int .i64 b, .int .i64 c, .int .i64 d, .int .i64 o], .eptr 2 (two x y)], rfl, rfl, rfl, rfl, rfl, rfl, fun j hj => ?_, ?_⟩
  · have : j = 0 ∨ j = 1 := by omega
    rcases this with rfl | rfl
    · exact g0
    · exact g1
  clear g0 g1
  have ex : ∀ p q r : Int, out p q r = !isin p q r := fun p q r => by rw [out_isin]
  generalize hS : (isin x a b && isin y c d) = s at *
  repeat' (first | ((with_reducible refine kok ?_); kernel_rfl) | ((with_reducible refine keq_mk ?_); kernel_rfl) | with_reducible rfl | ((conv => whnf); first | (with_reducible exact trivial) | ((with_reducible refine and_ff ?_ ?_); · exact rfl) | ((with_reducible refine and_tt ?_ ?_); · exact rfl) | (with_reducible refine And.intro ?_ ?_) | intro _ | (with_reducible refine fin2 hk ?_) | ((with_reducible refine eq_leaf ?_); exact rfl) | exact trivial))
  all_goals (rename_i g1; rw [← hS]; simp only [two, ex, List.getD_cons_zero, List.getD_cons_succ, Bool.not_not] at *; simp_all)
noncomputable def lr25 : Lib := (37, mk rCell1) :: lr24
theorem lr25_ok : LibOK Go.Proofs.Tryz.prog lr25 := .cons cell1_ok lr24_ok
def rIdxCell : List V.D → Option (Prop × V.D) := fun ds => match ds with
  | [.rsl 5 n g, .fn 37 [] [.eptr 2 e]] => some ((IM n 5 g ∧ n ≤ 1099511627776) ∧ oneI e 0 ∧ oneI e 1, .int .i64 (firstFrom (hasB (im g) (toI (e 0)) (toI (e 1))) 0 n))
  | _ => none
theorem idxCell_ok : PSound Go.Proofs.Tryz.prog 36 (mk rIdxCell) := by
  refine psound_mk Tryz.func36 (by kernel_rfl) rfl (ctx lr25_ok) ?_
  (intro ds p d h; unfold rIdxCell at h; split at h <;> first | (cases h; done) | skip; cases h; refine ⟨Nat.le_of_ble_eq_true rfl, fun hp k hk => ?_⟩)
  rename_i n g e
  obtain ⟨⟨h1, h2⟩, g0, g1⟩ := hp
  refine ⟨[.rsl 5 n (imD (im g)), .fn 37 [] [.eptr 2 e]], rfl, h1, ?_⟩
  clear h1
  generalize im g = a at *
  generalize hS : firstFrom (hasB a (toI (e 0)) (toI (e 1))) 0 n = c at *
  repeat' (first | ((with_reducible refine kok ?_); kernel_rfl) | ((with_reducible refine keq_mk ?_); kernel_rfl) | with_reducible rfl | ((conv => whnf); first | (with_reducible exact trivial) | ((with_reducible refine and_ff ?_ ?_); · exact rfl) | ((with_reducible refine and_tt ?_ ?_); · exact rfl) | (with_reducible refine And.intro ?_ ?_) | intro _ | (with_reducible refine fin2 hk ?_) | ((with_reducible refine eq_leaf ?_); exact rfl) | exact trivial))
  conv => whnf
  refine ⟨Nat, fun i => [(0, .rsl 5 n (imD a)), (1, .fn 37 [] [.eptr 2 e]), (7, .int .i64 n), (8, .int .i64 i)], fun _ => [], fun i => n - i, fun i => i ≤ n ∧ c = firstFrom (hasB a (toI (e 0)) (toI (e 1))) i (n - i), [], 0, fun _ => ⟨rfl, rfl⟩, ?_, fun i hI => ?_⟩
  · clear hk
    repeat' (first | ((with_reducible refine kok ?_); kernel_rfl) | ((with_reducible refine keq_mk ?_); kernel_rfl) | with_reducible rfl | ((conv => whnf); first | (with_reducible exact trivial) | ((with_reducible refine and_ff ?_ ?_); · exact rfl) | ((with_reducible refine and_tt ?_ ?_); · exact rfl) | (with_reducible refine And.intro ?_ ?_) | intro _ | (with_reducible refine fin2 hk ?_) | ((with_reducible refine eq_leaf ?_); exact rfl) | exact trivial))
    · exact Nat.zero_le n
    · exact hS.symm
  obtain ⟨hi, hc⟩ := hI
  have hi : i ≤ n := hi
  have hc : c = firstFrom (hasB a (toI (e 0)) (toI (e 1))) i (n - i) := hc
  clear hS
  have K1 : i < n → hasB a (toI (e 0)) (toI (e 1)) i = true → (i : Int) = c := fun h1 h2 => by
    rw [firstFrom_step h1, if_pos h2] at hc
    exact hc.symm
  have K2 : ¬ i < n → -1 = c := fun h1 => by
    rw [firstFrom_end (by omega)] at hc
    exact hc.symm
  have K3 : i < n → hasB a (toI (e 0)) (toI (e 1)) i = false → c = firstFrom (hasB a (toI (e 0)) (toI (e 1))) (i + 1) (n - (i + 1)) := fun h1 h2 => by
    rw [firstFrom_step h1, if_neg (by rw [h2]; exact Bool.noConfusion)] at hc
    exact hc
  repeat' (first | ((with_reducible refine kok ?_); kernel_rfl) | ((with_reducible refine keq_mk ?_); kernel_rfl) | with_reducible rfl | ((conv => whnf); first | (with_reducible exact trivial) | ((with_reducible refine and_ff ?_ ?_); · exact rfl) | ((with_reducible refine and_tt ?_ ?_); · exact rfl) | (with_reducible refine And.intro ?_ ?_) | intro _ | (with_reducible refine fin2 hk ?_) | ((with_reducible refine eq_leaf ?_); exact rfl) | exact trivial))
  all_goals try exact g0
  all_goals try exact g1
  all_goals try ((first | with_reducible refine (?_ : (_ : Int) ≤ _) | with_reducible refine (?_ : (_ : Int) < _)); clear hk hc; simp only [taskOf_agg, ↓Bool.not_eq_true', ↓Bool.not_eq_false', ↓decT, ↓decF, out_true, out_false, isin_true, isin_false, Int.toNat_natCast, Int.ofNat_lt, Nat.zero_add, Nat.add_zero, Nat.reduceAdd] at *; omega)
  · rename_i q1 q2
    exact K1 (by clear hk hc; simp only [taskOf_agg, ↓Bool.not_eq_true', ↓Bool.not_eq_false', ↓decT, ↓decF, out_true, out_false, isin_true, isin_false, Int.toNat_natCast, Int.ofNat_lt, Nat.zero_add, Nat.add_zero, Nat.reduceAdd] at *; omega) q2
  · rename_i q1 q2
    have q4 : i < n := by clear hk hc; simp only [taskOf_agg, ↓Bool.not_eq_true', ↓Bool.not_eq_false', ↓decT, ↓decF, out_true, out_false, isin_true, isin_false, Int.toNat_natCast, Int.ofNat_lt, Nat.zero_add, Nat.add_zero, Nat.reduceAdd] at *; omega
    have q5 := K3 q4 q2
    conv => whnf
    clear hk K1 K2 K3
    refine ⟨i + 1, ?_⟩
    repeat' (first | ((with_reducible refine kok ?_); kernel_rfl) | ((with_reducible refine keq_mk ?_); kernel_rfl) | with_reducible rfl | ((conv => whnf); first | (with_reducible exact trivial) | ((with_reducible refine and_ff ?_ ?_); · exact rfl) | ((with_reducible refine and_tt ?_ ?_); · exact rfl) | (with_reducible refine And.intro ?_ ?_) | intro _ | (with_reducible refine fin2 hk ?_) | ((with_reducible refine eq_leaf ?_); exact rfl) | exact trivial))
    all_goals first | exact q4 | exact q5 | (simp only; omega)
  · rename_i q1
    exact K2 (by clear hk hc; simp only [taskOf_agg, ↓Bool.not_eq_true', ↓Bool.not_eq_false', ↓decT, ↓decF, out_true, out_false, isin_true, isin_false, Int.toNat_natCast, Int.ofNat_lt, Nat.zero_add, Nat.add_zero, Nat.reduceAdd] at *; omega)
noncomputable def lr26 : Lib := (36, mk rIdxCell) :: lr25
theorem lr26_ok : LibOK Go.Proofs.Tryz.prog lr26 := .cons idxCell_ok lr25_ok
attribute [local irreducible] firstFrom
theorem rCell_ok : PSound Go.Proofs.Tryz.prog 12 (mk rCell) := by
  refine psound_mk Tryz.func12 (by kernel_rfl) rfl (ctx lr26_ok) ?_
  (intro ds p d h; unfold rCell at h; split at h <;> first | (cases h; done) | skip; cases h; refine ⟨Nat.le_of_ble_eq_true rfl, fun hp k hk => ?_⟩)
  rename_i d x y
  obtain ⟨ht, hf⟩ := hp
  refine ⟨[(rtOf d).D, .agg [.int .i64 x, .int .i64 y]], rt_imp ht ⟨rfl, rfl, ?_⟩⟩
  clear ht
  generalize rtOf d = t at *
  have hN1 : (checkR t).2.2 = 0 → cellsN t = (cellsL t).length ∧ (cellsL t).length ≤ 60 := fun h => ⟨if_pos h, cellsL_len (rt_ok h)⟩
  generalize hS : cellT t x y = c at *
  repeat' (first | ((with_reducible refine kok ?_); kernel_rfl) | ((with_reducible refine keq_mk ?_); kernel_rfl) | with_reducible rfl | ((conv => whnf); first | (with_reducible exact trivial) | ((with_reducible refine and_ff ?_ ?_); · exact rfl) | ((with_reducible refine and_tt ?_ ?_); · exact rfl) | (with_reducible refine And.intro ?_ ?_) | intro _ | (with_reducible refine fin2 hk ?_) | ((with_reducible refine eq_leaf ?_); exact rfl) | exact trivial))
  all_goals try exact hf _ (by assumption)
  all_goals (clear hk; simp only [rtOf_agg, im_imD, taskOf_agg, ↓Bool.not_eq_true', ↓Bool.not_eq_false', ↓decT, ↓decF, out_true, out_false, isin_true, isin_false, Int.toNat_natCast, Int.ofNat_lt, Nat.zero_add, Nat.add_zero, Nat.reduceAdd, Decidable.not_not] at *)
  · rename_i g1; rw [← hS, cellT, if_pos g1]
  · rename_i g1; rw [← hS, cellT, if_pos g1]
  · rename_i g1; have := hN1 g1; omega
  all_goals (rename_i g1 g2; have hN := hN1 g1; rw [hN.1] at g2; first | change cellAt t x y < 0 at g2 | change ¬ cellAt t x y < 0 at g2)
  · rw [← hS, cellT, if_neg (fun h => h g1), if_pos g2]
  · rw [← hS, cellT, if_neg (fun h => h g1), if_pos g2]
  · rw [← hS, cellT, if_neg (fun h => h g1), if_neg g2, hN.1]; rfl
  · rw [← hS, cellT, if_neg (fun h => h g1), if_neg g2]
noncomputable def lr27 : Lib := (12, mk rCell) :: lr26
theorem lr27_ok : LibOK Go.Proofs.Tryz.prog lr27 := .cons rCell_ok lr26_ok
attribute [local irreducible] flOf
end Go.Proofs.YtphcblofacfkaaaGreat
end
