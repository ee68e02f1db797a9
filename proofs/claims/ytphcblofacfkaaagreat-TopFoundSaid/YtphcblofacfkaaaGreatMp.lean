/-
  Contracts of the recovery: Search (the document's).
-/
import Derived.Test.YtphcblofacfkaaaGreatMo
set_option linter.unusedVariables false
set_option linter.unusedSimpArgs false
set_option maxRecDepth 100000
set_option maxHeartbeats 4000000
section
namespace Go.Proofs.YtphcblofacfkaaaGreat
open Go.V
noncomputable def lr31 : Lib := lr30
theorem lr31_ok : LibOK Go.Proofs.Tryz.prog lr31 := lr30_ok
def visitsN (t : RTask) : Nat := if (checkR t).2.2 = 0 then nVis t else 0
def leftsN (t : RTask) : Nat := if (checkR t).2.2 = 0 then (leftsL t).length else 0
def planD (t : RTask) : V.D := .agg [.rsl 3 (visitsN t) (imD (visN t)), .rsl 2 (leftsN t) (imD (leftM t (leftsL t)))]
def rSearch : List V.D → Option (Prop × V.D) := fun ds => match ds with
  | [d] => some (RtIs d ∧ (rtOf d).fits, .tup [planD (rtOf d), .int .i64 (checkR (rtOf d)).2.2])
  | _ => none
attribute [local irreducible] manyS goneB openS checkR cellsL spX spY flOf cellM opC wrongS visF visU bestF
end Go.Proofs.YtphcblofacfkaaaGreat
end
section
namespace Go.Proofs.YtphcblofacfkaaaGreat
open Go.V
def flRow (t : RTask) (c u f : Int) (x : V.D) : List V.D := [.int .i64 t.xl, .int .i64 t.xh, .int .i64 t.yl, .int .i64 t.yh, .int .i64 t.size, .rsl 5 t.nf (imD t.fx), .rsl 6 t.no (smD t.nm t.oa), .int .i64 t.bx, .int .i64 t.bz, .int .i64 t.start, .int .i64 t.speed, .int .i64 t.fuel, .int .i64 t.look, .int .i64 t.turn, .rsl 5 (cellsM t) (imD (cellM t (cellsL t))), .int .i64 c, .int .i64 u, .int .i64 f, x]
def flE (t : RTask) (c u f : Int) (x : V.D) (j : Nat) : V.D := (flRow t c u f x).getD j .top
def flT (e : Nat → V.D) : RTask := rtOf (.agg [e 0, e 1, e 2, e 3, e 4, e 5, e 6, e 7, e 8, e 9, e 10, e 11, e 12, e 13])
def FlIs (e : Nat → V.D) : Prop := ((e 0 = .int .i64 (flT e).xl ∧ e 1 = .int .i64 (flT e).xh ∧ e 2 = .int .i64 (flT e).yl ∧ e 3 = .int .i64 (flT e).yh ∧ e 4 = .int .i64 (flT e).size) ∧
  (e 5 = .rsl 5 (flT e).nf (imD (flT e).fx) ∧ e 6 = .rsl 6 (flT e).no (smD (flT e).nm (flT e).oa) ∧ e 7 = .int .i64 (flT e).bx ∧ e 8 = .int .i64 (flT e).bz ∧ e 9 = .int .i64 (flT e).start)) ∧
  (e 10 = .int .i64 (flT e).speed ∧ e 11 = .int .i64 (flT e).fuel ∧ e 12 = .int .i64 (flT e).look ∧ e 13 = .int .i64 (flT e).turn) ∧
  (e 14 = .rsl 5 (cellsM (flT e)) (imD (cellM (flT e) (cellsL (flT e)))) ∧ oneI e 15 ∧ oneI e 16 ∧ oneI e 17)
theorem fl_imp {e : Nat → V.D} (h : FlIs e) (j : Nat) (hj : j < 19) : e j = flE (flT e) (toI (e 15)) (toI (e 16)) (toI (e 17)) (e 18) j := by
  obtain ⟨⟨⟨h0, h1, h2, h3, h4⟩, h5, h6, h7, h8, h9⟩, ⟨h10, h11, h12, h13⟩, h14, h15, h16, h17⟩ := h
  have : j = 0 ∨ j = 1 ∨ j = 2 ∨ j = 3 ∨ j = 4 ∨ j = 5 ∨ j = 6 ∨ j = 7 ∨ j = 8 ∨ j = 9 ∨ j = 10 ∨ j = 11 ∨ j = 12 ∨ j = 13 ∨ j = 14 ∨ j = 15 ∨ j = 16 ∨ j = 17 ∨ j = 18 := by omega
  rcases this with rfl | rfl | rfl | rfl | rfl | rfl | rfl | rfl | rfl | rfl | rfl | rfl | rfl | rfl | rfl | rfl | rfl | rfl | rfl
  · exact h0
  · exact h1
  · exact h2
  · exact h3
  · exact h4
  · exact h5
  · exact h6
  · exact h7
  · exact h8
  · exact h9
  · exact h10
  · exact h11
  · exact h12
  · exact h13
  · exact h14
  · exact h15
  · exact h16
  · exact h17
  · rfl
theorem flT_E (t : RTask) (c u f : Int) (x : V.D) : flT (flE t c u f x) = t := rfl
theorem fl15 (t : RTask) (c u f : Int) (x : V.D) : toI (flE t c u f x 15) = c := rfl
theorem fl16 (t : RTask) (c u f : Int) (x : V.D) : toI (flE t c u f x 16) = u := rfl
theorem fl17 (t : RTask) (c u f : Int) (x : V.D) : toI (flE t c u f x 17) = f := rfl
theorem shr1 (x : Int) : x.fdiv (2 ^ min (Int.toNat 1) IntKind.i64.bits) = x / 2 := by
  have e2 : (2 : Int) ^ min (Int.toNat 1) IntKind.i64.bits = 2 := rfl
  rw [e2, Int.fdiv_eq_ediv_of_nonneg _ (by decide)]
def rFSpot : List V.D → Option (Prop × V.D) := fun ds => match ds with
  | [.eptr 19 e, .int .i64 i] => some ((FlIs e ∧ RtOK (flT e)) ∧ -1 ≤ i ∧ i < (cellsM (flT e) : Int), .agg [.int .i64 (spX (flT e) i), .int .i64 (spY (flT e) i)])
  | _ => none
attribute [local irreducible] manyS goneB openS checkR cellsL bestF
theorem fSpot_ok : PSound Go.Proofs.Tryz.prog 101 (mk rFSpot) := by
  refine psound_mk Tryz.func101 (by kernel_rfl) rfl (ctx lr31_ok) ?_
  (intro ds p d h; unfold rFSpot at h; split at h <;> first | (cases h; done) | skip; cases h; refine ⟨Nat.le_of_ble_eq_true rfl, fun hp k hk => ?_⟩)
  rename_i e i
  obtain ⟨⟨hfl, hok⟩, hi⟩ := hp
  refine ⟨[.eptr 19 (flE (flT e) (toI (e 15)) (toI (e 16)) (toI (e 17)) (e 18)), .int .i64 i], rfl, fl_imp hfl, rfl, ?_⟩
  clear hfl
  generalize flT e = t at *
  generalize toI (e 15) = c at *
  generalize toI (e 16) = u at *
  generalize toI (e 17) = f at *
  generalize e 18 = x at *
  have hx := hok.ax
  have hy := hok.ay
  have hC : 0 ≤ i → CellIn t (cxl t (cellG t i)) (cxh t (cellG t i)) (cyl t (cellG t i)) (cyh t (cellG t i)) := fun h => cell_in hok (cellsL_get (by have : i < ((cellsL t).length : Int) := hi.2; omega))
  have e0 : cellM t (cellsL t) i.toNat 0 = cxl t (cellG t i) := rfl
  have e1 : cellM t (cellsL t) i.toNat 1 = cxh t (cellG t i) := rfl
  have e2 : cellM t (cellsL t) i.toNat 2 = cyl t (cellG t i) := rfl
  have e3 : cellM t (cellsL t) i.toNat 3 = cyh t (cellG t i) := rfl
  have X0 : i < 0 → spX t i = t.bx ∧ spY t i = t.bz := fun h => ⟨if_pos h, if_pos h⟩
  have X1 : ¬ i < 0 → spX t i = (cxl t (cellG t i) + cxh t (cellG t i)) / 2 ∧ spY t i = (cyl t (cellG t i) + cyh t (cellG t i)) / 2 := fun h => ⟨if_neg h, if_neg h⟩
  generalize spX t i = p at *
  generalize spY t i = q at *
  repeat' (first | ((with_reducible refine kok ?_); kernel_rfl) | ((with_reducible refine keq_mk ?_); kernel_rfl) | with_reducible rfl | ((conv => whnf); first | (with_reducible exact trivial) | ((with_reducible refine and_ff ?_ ?_); · exact rfl) | ((with_reducible refine and_tt ?_ ?_); · exact rfl) | (with_reducible refine And.intro ?_ ?_) | intro _ | (with_reducible refine fin2 hk ?_) | ((with_reducible refine eq_leaf ?_); exact rfl) | exact trivial))
  all_goals (clear hk; try simp only [taskOf_agg, ↓Bool.not_eq_true', ↓Bool.not_eq_false', ↓decT, ↓decF, out_true, out_false, isin_true, isin_false, Int.toNat_natCast, Int.ofNat_lt, Nat.zero_add, Nat.add_zero, Nat.reduceAdd, e0, e1, e2, e3, shr1] at *)
  all_goals first
    | omega
    | exact (X0 (by assumption)).1.symm
    | exact (X0 (by assumption)).2.symm
    | exact (X1 (by assumption)).1.symm
    | exact (X1 (by assumption)).2.symm
    | (have C := hC (by omega); obtain ⟨C1, C2⟩ := C; omega)
noncomputable def lr32 : Lib := (101, mk rFSpot) :: lr31
theorem lr32_ok : LibOK Go.Proofs.Tryz.prog lr32 := .cons fSpot_ok lr31_ok
def rTicks : List V.D → Option (Prop × V.D) := fun ds => match ds with
  | [.eptr 19 e, .int .i64 a, .int .i64 b] => some ((FlIs e ∧ RtOK (flT e)) ∧ (-1 ≤ a ∧ a < (cellsM (flT e) : Int)) ∧ (-1 ≤ b ∧ b < (cellsM (flT e) : Int)), .int .i64 (flC (flT e) a b))
  | _ => none
attribute [local irreducible] spX spY flOf cellM opC
theorem fTicks_ok : PSound Go.Proofs.Tryz.prog 83 (mk rTicks) := by
  refine psound_mk Tryz.func83 (by kernel_rfl) rfl (ctx lr32_ok) ?_
  (intro ds p d h; unfold rTicks at h; split at h <;> first | (cases h; done) | skip; cases h; refine ⟨Nat.le_of_ble_eq_true rfl, fun hp k hk => ?_⟩)
  rename_i e a b
  obtain ⟨⟨hfl, hok⟩, ha, hb⟩ := hp
  refine ⟨[.eptr 19 (flE (flT e) (toI (e 15)) (toI (e 16)) (toI (e 17)) (e 18)), .int .i64 a, .int .i64 b], rfl, fl_imp hfl, rfl, rfl, ?_⟩
  clear hfl
  generalize flT e = t at *
  generalize toI (e 15) = c at *
  generalize toI (e 16) = u at *
  generalize toI (e 17) = f at *
  generalize e 18 = x at *
  have hsp := hok.speed
  have S1 := fun (c : Int) h => (spot_sp hok (c := c) h).1
  have S2 := fun (c : Int) h => (spot_sp hok (c := c) h).2
  repeat' (first | ((with_reducible refine kok ?_); kernel_rfl) | ((with_reducible refine keq_mk ?_); kernel_rfl) | with_reducible rfl | ((conv => whnf); first | (with_reducible exact trivial) | ((with_reducible refine and_ff ?_ ?_); · exact rfl) | ((with_reducible refine and_tt ?_ ?_); · exact rfl) | (with_reducible refine And.intro ?_ ?_) | intro _ | (with_reducible refine fin2 hk ?_) | ((with_reducible refine eq_leaf ?_); exact rfl) | exact trivial))
  all_goals try exact hok
  all_goals (clear hk; try simp only [rtOf_agg, flT_E, taskOf_agg, ↓Bool.not_eq_true', ↓Bool.not_eq_false', ↓decT, ↓decF, out_true, out_false, isin_true, isin_false, Int.toNat_natCast, Int.ofNat_lt, Nat.zero_add, Nat.add_zero, Nat.reduceAdd] at *)
  all_goals first
    | omega
    | exact (S1 _ ha.2).1
    | exact (S1 _ ha.2).2
    | exact (S2 _ ha.2).1
    | exact (S2 _ ha.2).2
    | exact (S1 _ hb.2).1
    | exact (S1 _ hb.2).2
    | exact (S2 _ hb.2).1
    | exact (S2 _ hb.2).2
end Go.Proofs.YtphcblofacfkaaaGreat
end
section
namespace Go.Proofs.YtphcblofacfkaaaGreat
open Go.V
noncomputable def lr33 : Lib := (83, mk rTicks) :: lr32
theorem lr33_ok : LibOK Go.Proofs.Tryz.prog lr33 := .cons fTicks_ok lr32_ok
def rVisit : List V.D → Option (Prop × V.D) := fun ds => match ds with
  | [.eptr 19 e, .int .i64 i] => some ((FlIs e ∧ RtOK (flT e)) ∧ (-1 ≤ toI (e 15) ∧ toI (e 15) < (cellsM (flT e) : Int)) ∧ (0 ≤ toI (e 16) ∧ toI (e 16) ≤ 90000000) ∧ (-1 ≤ i ∧ i < (cellsM (flT e) : Int)), .agg [.int .i64 i, .int .i64 (visF (flT e) (toI (e 15)) (toI (e 16)) i), .int .i64 (visU (flT e) (toI (e 15)) (toI (e 16)) i)])
  | _ => none
def rLeaves : List V.D → Option (Prop × V.D) := fun ds => match ds with
  | [.eptr 19 e, .agg [.int .i64 vc, .int .i64 vf, .int .i64 vu]] => some ((FlIs e ∧ RtOK (flT e)) ∧ (-1 ≤ vc ∧ vc < (cellsM (flT e) : Int)) ∧ (-1000000000 ≤ vf ∧ vf ≤ 1000000000), .int .i64 (tripS (flT e) (toI (e 15)) (toI (e 17)) vc vf))
  | _ => none
def rWrong : List V.D → Option (Prop × V.D) := fun ds => match ds with
  | [.eptr 19 e, .agg [.int .i64 vc, .int .i64 vf, .int .i64 vu]] => some ((FlIs e ∧ RtOK (flT e)) ∧ (-1 ≤ toI (e 15) ∧ toI (e 15) < (cellsM (flT e) : Int)) ∧ (0 ≤ toI (e 16) ∧ toI (e 16) ≤ 500000000) ∧ (0 ≤ toI (e 17) ∧ toI (e 17) ≤ 500000000) ∧ (-1 ≤ vc ∧ vc < (cellsM (flT e) : Int)), .int .i64 (wrongS (flT e) (toI (e 15)) (toI (e 16)) (toI (e 17)) vc vf vu))
  | _ => none
def rFar : List V.D → Option (Prop × V.D) := fun ds => match ds with
  | [.eptr 19 e, .int .i64 i] => some ((FlIs e ∧ RtOK (flT e)) ∧ (-1 ≤ i ∧ i < (cellsM (flT e) : Int)), .bool (decide ((flT e).fuel < (flT e).look + 2 * flC (flT e) (-1) i)))
  | _ => none
attribute [local irreducible] manyS goneB openS checkR cellsL bestF spX spY flOf flC cellM opC
theorem fVisit_ok : PSound Go.Proofs.Tryz.prog 52 (mk rVisit) := by
  refine psound_mk Tryz.func52 (by kernel_rfl) rfl (ctx lr33_ok) ?_
  (intro ds p d h; unfold rVisit at h; split at h <;> first | (cases h; done) | skip; cases h; refine ⟨Nat.le_of_ble_eq_true rfl, fun hp k hk => ?_⟩)
  rename_i e i
  obtain ⟨⟨hfl, hok⟩, hc, hu, hi⟩ := hp
  refine ⟨[.eptr 19 (flE (flT e) (toI (e 15)) (toI (e 16)) (toI (e 17)) (e 18)), .int .i64 i], rfl, fl_imp hfl, rfl, ?_⟩
  clear hfl
  generalize flT e = t at *
  generalize toI (e 15) = c at *
  generalize toI (e 16) = u at *
  generalize toI (e 17) = f at *
  generalize e 18 = x at *
  have hlk := hok.look
  have htn := hok.turn
  have FC := flC_in hok hc.2 hi.2
  have OP := opC_in hok i
  have hop : cellM t (cellsL t) i.toNat 4 = opC t i := by delta cellM opC; rfl
  have V1 : i < 0 → visF t c u i = u + flC t c i := fun h => if_pos h
  have V2 : ¬ i < 0 → visF t c u i = max (u + flC t c i) (opC t i) := fun h => if_neg h
  have V3 : i < 0 → visU t c u i = visF t c u i + t.turn := fun h => if_pos h
  have V4 : ¬ i < 0 → visU t c u i = visF t c u i + t.look := fun h => if_neg h
  generalize visF t c u i = vf at *
  generalize visU t c u i = vu at *
  repeat' (first | ((with_reducible refine kok ?_); kernel_rfl) | ((with_reducible refine keq_mk ?_); kernel_rfl) | with_reducible rfl | ((conv => whnf); first | (with_reducible exact trivial) | ((with_reducible refine and_ff ?_ ?_); · exact rfl) | ((with_reducible refine and_tt ?_ ?_); · exact rfl) | (with_reducible refine And.intro ?_ ?_) | intro _ | (with_reducible refine fin2 hk ?_) | ((with_reducible refine eq_leaf ?_); exact rfl) | exact trivial))
  all_goals try exact hok
  all_goals (clear hk; try simp only [rtOf_agg, flT_E, fl15, fl16, fl17, hop, taskOf_agg, ↓Bool.not_eq_true', ↓Bool.not_eq_false', ↓decT, ↓decF, out_true, out_false, isin_true, isin_false, Int.toNat_natCast, Int.ofNat_lt, Nat.zero_add, Nat.add_zero, Nat.reduceAdd] at *)
  all_goals omega
theorem fLeaves_ok : PSound Go.Proofs.Tryz.prog 56 (mk rLeaves) := by
  refine psound_mk Tryz.func56 (by kernel_rfl) rfl (ctx lr33_ok) ?_
  (intro ds p d h; unfold rLeaves at h; split at h <;> first | (cases h; done) | skip; cases h; refine ⟨Nat.le_of_ble_eq_true rfl, fun hp k hk => ?_⟩)
  rename_i e vc vf vu
  obtain ⟨⟨hfl, hok⟩, hv, hf⟩ := hp
  refine ⟨[.eptr 19 (flE (flT e) (toI (e 15)) (toI (e 16)) (toI (e 17)) (e 18)), .agg [.int .i64 vc, .int .i64 vf, .int .i64 vu]], rfl, fl_imp hfl, rfl, rfl, rfl, ?_⟩
  clear hfl
  generalize flT e = t at *
  generalize toI (e 15) = c at *
  generalize toI (e 16) = u at *
  generalize toI (e 17) = f at *
  generalize e 18 = x at *
  have FC := flC_in hok (a := -1) (b := vc) (by omega) hv.2
  have T1 : c < 0 → tripS t c f vc vf = vf - flC t (-1) vc := fun h => if_pos h
  have T2 : ¬ c < 0 → tripS t c f vc vf = f := fun h => if_neg h
  generalize tripS t c f vc vf = ts at *
  repeat' (first | ((with_reducible refine kok ?_); kernel_rfl) | ((with_reducible refine keq_mk ?_); kernel_rfl) | with_reducible rfl | ((conv => whnf); first | (with_reducible exact trivial) | ((with_reducible refine and_ff ?_ ?_); · exact rfl) | ((with_reducible refine and_tt ?_ ?_); · exact rfl) | (with_reducible refine And.intro ?_ ?_) | intro _ | (with_reducible refine fin2 hk ?_) | ((with_reducible refine eq_leaf ?_); exact rfl) | exact trivial))
  all_goals try exact hok
  all_goals (clear hk; try simp only [rtOf_agg, flT_E, fl15, fl16, fl17, taskOf_agg, ↓Bool.not_eq_true', ↓Bool.not_eq_false', ↓decT, ↓decF, out_true, out_false, isin_true, isin_false, Int.toNat_natCast, Int.ofNat_lt, Nat.zero_add, Nat.add_zero, Nat.reduceAdd] at *)
  all_goals omega
noncomputable def lr34 : Lib := (52, mk rVisit) :: (56, mk rLeaves) :: lr33
theorem lr34_ok : LibOK Go.Proofs.Tryz.prog lr34 := .cons fVisit_ok (.cons fLeaves_ok lr33_ok)
attribute [local irreducible] tripS
theorem fWrong_ok : PSound Go.Proofs.Tryz.prog 53 (mk rWrong) := by
  refine psound_mk Tryz.func53 (by kernel_rfl) rfl (ctx lr34_ok) ?_
  (intro ds p d h; unfold rWrong at h; split at h <;> first | (cases h; done) | skip; cases h; refine ⟨Nat.le_of_ble_eq_true rfl, fun hp k hk => ?_⟩)
  rename_i e vc vf vu
  obtain ⟨⟨hfl, hok⟩, hc, hu, hf, hv⟩ := hp
  refine ⟨[.eptr 19 (flE (flT e) (toI (e 15)) (toI (e 16)) (toI (e 17)) (e 18)), .agg [.int .i64 vc, .int .i64 vf, .int .i64 vu]], rfl, fl_imp hfl, rfl, rfl, rfl, ?_⟩
  clear hfl
  generalize flT e = t at *
  generalize toI (e 15) = c at *
  generalize toI (e 16) = u at *
  generalize toI (e 17) = f at *
  generalize e 18 = x at *
  have hlk := hok.look
  have htn := hok.turn
  have hfu := hok.fuel
  have FC := flC_in hok hc.2 hv.2
  have FB := flC_in hok (a := vc) (b := -1) hv.2 (by omega)
  have FD := flC_in hok (a := -1) (b := vc) (by omega) hv.2
  have hop : ∀ i : Int, cellM t (cellsL t) i.toNat 4 = opC t i := fun i => by delta cellM opC; rfl
  have W := (wrong_iff t c u f vc vf vu (wrongS t c u f vc vf vu)).1 rfl
  rw [earlyB_true] at W
  have T1 : c < 0 → tripS t c f vc vf = vf - flC t (-1) vc := fun h => by delta tripS; exact if_pos h
  have T2 : ¬ c < 0 → tripS t c f vc vf = f := fun h => by delta tripS; exact if_neg h
  generalize wrongS t c u f vc vf vu = e at *
  repeat' (first | ((with_reducible refine kok ?_); kernel_rfl) | ((with_reducible refine keq_mk ?_); kernel_rfl) | with_reducible rfl | ((conv => whnf); first | (with_reducible exact trivial) | ((with_reducible refine and_ff ?_ ?_); · exact rfl) | ((with_reducible refine and_tt ?_ ?_); · exact rfl) | (with_reducible refine And.intro ?_ ?_) | intro _ | (with_reducible refine fin2 hk ?_) | ((with_reducible refine eq_leaf ?_); exact rfl) | exact trivial))
  all_goals try exact hok
  all_goals (clear hk; try simp only [rtOf_agg, flT_E, fl15, fl16, fl17, hop, taskOf_agg, ↓Bool.not_eq_true', ↓Bool.not_eq_false', ↓decT, ↓decF, out_true, out_false, isin_true, isin_false, Int.toNat_natCast, Int.ofNat_lt, Nat.zero_add, Nat.add_zero, Nat.reduceAdd] at *)
  all_goals omega
theorem fFar_ok : PSound Go.Proofs.Tryz.prog 64 (mk rFar) := by
  refine psound_mk Tryz.func64 (by kernel_rfl) rfl (ctx lr33_ok) ?_
  (intro ds p d h; unfold rFar at h; split at h <;> first | (cases h; done) | skip; cases h; refine ⟨Nat.le_of_ble_eq_true rfl, fun hp k hk => ?_⟩)
  rename_i e i
  obtain ⟨⟨hfl, hok⟩, hi⟩ := hp
  refine ⟨[.eptr 19 (flE (flT e) (toI (e 15)) (toI (e 16)) (toI (e 17)) (e 18)), .int .i64 i], rfl, fl_imp hfl, rfl, ?_⟩
  clear hfl
  generalize flT e = t at *
  generalize toI (e 15) = c at *
  generalize toI (e 16) = u at *
  generalize toI (e 17) = f at *
  generalize e 18 = x at *
  have hlk := hok.look
  have FC := flC_in hok (a := -1) (b := i) (by omega) hi.2
  repeat' (first | ((with_reducible refine kok ?_); kernel_rfl) | ((with_reducible refine keq_mk ?_); kernel_rfl) | with_reducible rfl | ((conv => whnf); first | (with_reducible exact trivial) | ((with_reducible refine and_ff ?_ ?_); · exact rfl) | ((with_reducible refine and_tt ?_ ?_); · exact rfl) | (with_reducible refine And.intro ?_ ?_) | intro _ | (with_reducible refine fin2 hk ?_) | ((with_reducible refine eq_leaf ?_); exact rfl) | exact trivial))
  all_goals try exact hok
  all_goals (clear hk; try simp only [rtOf_agg, flT_E, fl15, fl16, fl17, taskOf_agg, ↓Bool.not_eq_true', ↓Bool.not_eq_false', ↓decT, ↓decF, out_true, out_false, isin_true, isin_false, Int.toNat_natCast, Int.ofNat_lt, Nat.zero_add, Nat.add_zero, Nat.reduceAdd] at *)
  all_goals omega
noncomputable def lr35 : Lib := (53, mk rWrong) :: (64, mk rFar) :: lr34
theorem lr35_ok : LibOK Go.Proofs.Tryz.prog lr35 := .cons fWrong_ok (.cons fFar_ok lr34_ok)
end Go.Proofs.YtphcblofacfkaaaGreat
end
section
namespace Go.Proofs.YtphcblofacfkaaaGreat
open Go.V
def leastI (a : Nat → Nat → Int) : Nat → Int
  | 0 => -1
  | k + 1 => if leastI a k < 0 ∨ a k 2 < a (leastI a k).toNat 2 then (k : Int) else leastI a k
theorem leastI_in (a : Nat → Nat → Int) : ∀ n, leastI a n = -1 ∧ n = 0 ∨ (0 ≤ leastI a n ∧ leastI a n < n)
  | 0 => .inl ⟨rfl, rfl⟩
  | n + 1 => by
    unfold leastI
    split
    · right; omega
    · rcases leastI_in a n with h | h
      · omega
      · right; omega
theorem leastI_congr {a b : Nat → Nat → Int} : ∀ {n}, (∀ i, i < n → a i 2 = b i 2) → leastI a n = leastI b n
  | 0, _ => rfl
  | n + 1, h => by
    have ih := leastI_congr (n := n) fun i hi => h i (by omega)
    unfold leastI
    rw [ih, h n (Nat.lt_succ_self n)]
    rcases leastI_in b n with ⟨g, _⟩ | g
    · rw [g]; simp
    · rw [h (leastI b n).toNat (by omega)]
def candTo (t : RTask) (c u f : Int) (done : Nat → Bool) : Nat → List Nat
  | 0 => []
  | n + 1 => if candB t c u f done n = true then candTo t c u f done n ++ [n] else candTo t c u f done n
def visM (t : RTask) (c u : Int) (l : List Nat) (i j : Nat) : Int := match j with
  | 0 => ((l.getD i 0 : Nat) : Int)
  | 1 => visF t c u ((l.getD i 0 : Nat) : Int)
  | 2 => visU t c u ((l.getD i 0 : Nat) : Int)
  | _ => 0
theorem candTo_len (t : RTask) (c u f : Int) (done : Nat → Bool) : ∀ n, (candTo t c u f done n).length ≤ n
  | 0 => Nat.le_refl 0
  | n + 1 => by
    have := candTo_len t c u f done n
    simp only [candTo]
    split
    · simp only [List.length_append, List.length_singleton]; omega
    · omega
theorem best_least (t : RTask) (c u f : Int) (done : Nat → Bool) : ∀ n, bestF t c u f done n = if leastI (visM t c u (candTo t c u f done n)) (candTo t c u f done n).length < 0 then -1 else (((candTo t c u f done n).getD (leastI (visM t c u (candTo t c u f done n)) (candTo t c u f done n).length).toNat 0 : Nat) : Int)
  | 0 => rfl
  | n + 1 => by
    have ih := best_least t c u f done n
    cases hc : candB t c u f done n with
    | false =>
      rw [bestF_keep1 hc]
      have e : candTo t c u f done (n + 1) = candTo t c u f done n := by simp only [candTo]; rw [if_neg (by rw [hc]; exact Bool.noConfusion)]
      rw [e]
      exact ih
    | true =>
      have e : candTo t c u f done (n + 1) = candTo t c u f done n ++ [n] := by simp only [candTo, if_pos hc]
      rw [e]
      generalize candTo t c u f done n = l at *
      have el : (l ++ [n]).length = l.length + 1 := by rw [List.length_append]; rfl
      have eL : leastI (visM t c u (l ++ [n])) l.length = leastI (visM t c u l) l.length := leastI_congr fun i hi => by
        simp only [visM, List.getD_eq_getElem?_getD, List.getElem?_append_left hi]
      have eN : (l ++ [n]).getD l.length 0 = n := by simp [List.getD_eq_getElem?_getD]
      have eO : ∀ i, i < l.length → (l ++ [n]).getD i 0 = l.getD i 0 := fun i hi => by simp only [List.getD_eq_getElem?_getD, List.getElem?_append_left hi]
      have hL := leastI_in (visM t c u l) l.length
      have eS : leastI (visM t c u (l ++ [n])) (l.length + 1) = if leastI (visM t c u l) l.length < 0 ∨ visU t c u n < visM t c u (l ++ [n]) (leastI (visM t c u l) l.length).toNat 2 then (l.length : Int) else leastI (visM t c u l) l.length := by
        rw [leastI, eL]
        simp only [visM, eN]
      rw [el]
      by_cases h0 : leastI (visM t c u l) l.length < 0
      · rw [if_pos (Or.inl h0)] at eS
        rw [eS, if_neg (show ¬ ((l.length : Nat) : Int) < 0 by omega), Int.toNat_natCast, eN]
        rw [if_pos h0] at ih
        exact bestF_next hc (Or.inl (by omega))
      · have hlt : (leastI (visM t c u l) l.length).toNat < l.length := by omega
        rw [if_neg h0] at ih
        have eV : visM t c u (l ++ [n]) (leastI (visM t c u l) l.length).toNat 2 = visU t c u (bestF t c u f done n) := by
          rw [ih]
          simp only [visM, eO _ hlt]
        rw [eV] at eS
        by_cases h1 : visU t c u n < visU t c u (bestF t c u f done n)
        · rw [if_pos (Or.inr h1)] at eS
          rw [eS, if_neg (show ¬ ((l.length : Nat) : Int) < 0 by omega), Int.toNat_natCast, eN]
          exact bestF_next hc (Or.inr h1)
        · rw [if_neg (show ¬ (leastI (visM t c u l) l.length < 0 ∨ visU t c u n < visU t c u (bestF t c u f done n)) from fun q => q.elim h0 h1)] at eS
          rw [eS, if_neg h0, eO _ hlt, bestF_keep2 (by
            intro q
            rcases q with q | q
            · omega
            · exact h1 q)]
          exact ih
theorem cand_snoc {t : RTask} {c u f : Int} {done : Nat → Bool} {n i j : Nat} (h : candB t c u f done n = true) {l : List V.D} (hl : l = [.int .i64 (n : Nat), .int .i64 (visF t c u (n : Nat)), .int .i64 (visU t c u (n : Nat))])
    (hi : i < (candTo t c u f done n).length + 1) (hj : j < 3) :
    (if i < (candTo t c u f done n).length then imD (visM t c u (candTo t c u f done n)) i j else l.getD ((i - (candTo t c u f done n).length) * 3 + j) D.top) = imD (visM t c u (candTo t c u f done (n + 1))) i j := by
  subst hl
  have e : candTo t c u f done (n + 1) = candTo t c u f done n ++ [n] := by simp only [candTo, if_pos h]
  rw [e]
  by_cases hlt : i < (candTo t c u f done n).length
  · rw [if_pos hlt]
    unfold imD visM
    rw [List.getD_eq_getElem?_getD, List.getD_eq_getElem?_getD, List.getElem?_append_left hlt]
  · rw [if_neg hlt]
    obtain rfl : i = (candTo t c u f done n).length := by omega
    have e : (candTo t c u f done n ++ [n]).getD (candTo t c u f done n).length 0 = n := by simp [List.getD_eq_getElem?_getD]
    unfold imD visM
    rw [e]
    have hj' : j = 0 ∨ j = 1 ∨ j = 2 := by omega
    rcases hj' with rfl | rfl | rfl <;> simp
theorem cand_kept_len {t : RTask} {c u f : Int} {done : Nat → Bool} {n : Nat} (h : candB t c u f done n = true) : (candTo t c u f done (n + 1)).length = (candTo t c u f done n).length + 1 := by
  simp only [candTo, if_pos h, List.length_append, List.length_singleton]
theorem cand_gone {t : RTask} {c u f : Int} {done : Nat → Bool} {n : Nat} (h : candB t c u f done n = false) : candTo t c u f done (n + 1) = candTo t c u f done n := by
  simp only [candTo]
  rw [if_neg (by rw [h]; exact Bool.noConfusion)]
end Go.Proofs.YtphcblofacfkaaaGreat
end
section
namespace Go.Proofs.YtphcblofacfkaaaGreat
open Go.V
def rNext1 : List V.D → Option (Prop × V.D) := fun ds => match ds with
  | [.agg [.int .i64 a, .int .i64 b, .int .i64 c]] => some (True, .int .i64 c)
  | _ => none
theorem next1_ok : PSound Go.Proofs.Tryz.prog 55 (mk rNext1) := by
  refine psound_mk Tryz.func55 (by kernel_rfl) rfl (ctx (.nil _)) ?_
  (intro ds p d h; unfold rNext1 at h; split at h <;> first | (cases h; done) | skip; cases h; refine ⟨Nat.le_of_ble_eq_true rfl, fun hp k hk => ?_⟩)
  rename_i a b c
  refine ⟨[.agg [.int .i64 a, .int .i64 b, .int .i64 c]], rfl, rfl, rfl, ?_⟩
  repeat' (first | ((with_reducible refine kok ?_); kernel_rfl) | ((with_reducible refine keq_mk ?_); kernel_rfl) | with_reducible rfl | ((conv => whnf); first | (with_reducible exact trivial) | ((with_reducible refine and_ff ?_ ?_); · exact rfl) | ((with_reducible refine and_tt ?_ ?_); · exact rfl) | (with_reducible refine And.intro ?_ ?_) | intro _ | (with_reducible refine fin2 hk ?_) | ((with_reducible refine eq_leaf ?_); exact rfl) | exact trivial))
noncomputable def lr36 : Lib := (55, mk rNext1) :: lr35
theorem lr36_ok : LibOK Go.Proofs.Tryz.prog lr36 := .cons next1_ok lr35_ok
def leastR (a : Nat → Nat → Int) (b : Int) (j : Nat) : Int := if b < 0 then 0 else a b.toNat j
def rLeast : List V.D → Option (Prop × V.D) := fun ds => match ds with
  | [.rsl 3 n g, .fn 55 [] []] => some (IM n 3 g ∧ n ≤ 1099511627776, .tup [.agg [.int .i64 (leastR (im g) (leastI (im g) n) 0), .int .i64 (leastR (im g) (leastI (im g) n) 1), .int .i64 (leastR (im g) (leastI (im g) n) 2)], .bool (decide (0 ≤ leastI (im g) n))])
  | _ => none
theorem least_ok : PSound Go.Proofs.Tryz.prog 54 (mk rLeast) := by
  refine psound_mk Tryz.func54 (by kernel_rfl) rfl (ctx lr36_ok) ?_
  (intro ds p d h; unfold rLeast at h; split at h <;> first | (cases h; done) | skip; cases h; refine ⟨Nat.le_of_ble_eq_true rfl, fun hp k hk => ?_⟩)
  rename_i n g
  obtain ⟨h1, h2⟩ := hp
  refine ⟨[.rsl 3 n (imD (im g)), .fn 55 [] []], rfl, h1, ?_⟩
  clear h1
  generalize im g = a at *
  repeat' (first | ((with_reducible refine kok ?_); kernel_rfl) | ((with_reducible refine keq_mk ?_); kernel_rfl) | with_reducible rfl | ((conv => whnf); first | (with_reducible exact trivial) | ((with_reducible refine and_ff ?_ ?_); · exact rfl) | ((with_reducible refine and_tt ?_ ?_); · exact rfl) | (with_reducible refine And.intro ?_ ?_) | intro _ | (with_reducible refine fin2 hk ?_) | ((with_reducible refine eq_leaf ?_); exact rfl) | exact trivial))
  conv => whnf
  refine ⟨Nat, fun i => [(0, .rsl 3 n (imD a)), (1, .fn 55 [] []), (4, .ptr 0 0), (5, .bool (decide (0 ≤ leastI a i))), (8, .rsl 3 n (imD a)), (9, .int .i64 n), (10, .int .i64 i)],
    fun i => [some (.row [.int .i64 (leastR a (leastI a i) 0), .int .i64 (leastR a (leastI a i) 1), .int .i64 (leastR a (leastI a i) 2)])], fun i => n - i, fun i => i ≤ n, [], 0, fun _ => ⟨rfl, rfl⟩, ?_, fun i hi => ?_⟩
  · clear hk
    repeat' (first | ((with_reducible refine kok ?_); kernel_rfl) | ((with_reducible refine keq_mk ?_); kernel_rfl) | with_reducible rfl | ((conv => whnf); first | (with_reducible exact trivial) | ((with_reducible refine and_ff ?_ ?_); · exact rfl) | ((with_reducible refine and_tt ?_ ?_); · exact rfl) | (with_reducible refine And.intro ?_ ?_) | intro _ | (with_reducible refine fin2 hk ?_) | ((with_reducible refine eq_leaf ?_); exact rfl) | exact trivial))
    all_goals first | exact Nat.zero_le _ | rfl
  have hi : i ≤ n := hi
  have I := leastI_in a i
  have S : leastI a (i + 1) = if leastI a i < 0 ∨ a i 2 < a (leastI a i).toNat 2 then (i : Int) else leastI a i := rfl
  have R : ¬ leastI a i < 0 → leastR a (leastI a i) 2 = a (leastI a i).toNat 2 := fun h => if_neg h
  have R0 : ∀ j, leastR a (i : Int) j = a i j := fun j => if_neg (by omega)
  repeat' (first | ((with_reducible refine kok ?_); kernel_rfl) | ((with_reducible refine keq_mk ?_); kernel_rfl) | with_reducible rfl | ((conv => whnf); first | (with_reducible exact trivial) | ((with_reducible refine and_ff ?_ ?_); · exact rfl) | ((with_reducible refine and_tt ?_ ?_); · exact rfl) | (with_reducible refine And.intro ?_ ?_) | intro _ | (with_reducible refine fin2 hk ?_) | ((with_reducible refine eq_leaf ?_); exact rfl) | exact trivial))
  all_goals try ((first | with_reducible refine (?_ : (_ : Int) ≤ _) | with_reducible refine (?_ : (_ : Int) < _)); clear hk; simp only [taskOf_agg, ↓Bool.not_eq_true', ↓Bool.not_eq_false', ↓decT, ↓decF, out_true, out_false, isin_true, isin_false, Int.toNat_natCast, Int.ofNat_lt, Nat.zero_add, Nat.add_zero, Nat.reduceAdd] at *; omega)
  · rename_i g1 g2
    have E : leastI a (i + 1) = i := by rw [S, if_pos (Or.inl (by simp only [taskOf_agg, ↓Bool.not_eq_true', ↓Bool.not_eq_false', ↓decT, ↓decF, out_true, out_false, isin_true, isin_false, Int.toNat_natCast, Int.ofNat_lt, Nat.zero_add, Nat.add_zero, Nat.reduceAdd] at *; omega))]
    clear hk
    conv => whnf
    refine ⟨i + 1, ?_⟩
    repeat' (first | ((with_reducible refine kok ?_); kernel_rfl) | ((with_reducible refine keq_mk ?_); kernel_rfl) | with_reducible rfl | ((conv => whnf); first | (with_reducible exact trivial) | ((with_reducible refine and_ff ?_ ?_); · exact rfl) | ((with_reducible refine and_tt ?_ ?_); · exact rfl) | (with_reducible refine And.intro ?_ ?_) | intro _ | (with_reducible refine fin2 hk ?_) | ((with_reducible refine eq_leaf ?_); exact rfl) | exact trivial))
    all_goals first
      | (rw [E, R0]; done)
      | (rw [E, R0]; rfl)
      | (rw [E]; exact (decide_eq_true (by omega)).symm)
      | (simp only [taskOf_agg, ↓Bool.not_eq_true', ↓Bool.not_eq_false', ↓decT, ↓decF, out_true, out_false, isin_true, isin_false, Int.toNat_natCast, Int.ofNat_lt, Nat.zero_add, Nat.add_zero, Nat.reduceAdd] at *; omega)
  · rename_i g1 g2 g3
    have E : leastI a (i + 1) = i := by
      simp only [taskOf_agg, ↓Bool.not_eq_true', ↓Bool.not_eq_false', ↓decT, ↓decF, out_true, out_false, isin_true, isin_false, Int.toNat_natCast, Int.ofNat_lt, Nat.zero_add, Nat.add_zero, Nat.reduceAdd] at g1 g2 g3
      rw [R (by omega)] at g3
      rw [S, if_pos (Or.inr g3)]
    clear hk
    conv => whnf
    refine ⟨i + 1, ?_⟩
    repeat' (first | ((with_reducible refine kok ?_); kernel_rfl) | ((with_reducible refine keq_mk ?_); kernel_rfl) | with_reducible rfl | ((conv => whnf); first | (with_reducible exact trivial) | ((with_reducible refine and_ff ?_ ?_); · exact rfl) | ((with_reducible refine and_tt ?_ ?_); · exact rfl) | (with_reducible refine And.intro ?_ ?_) | intro _ | (with_reducible refine fin2 hk ?_) | ((with_reducible refine eq_leaf ?_); exact rfl) | exact trivial))
    all_goals first
      | (rw [E, R0]; done)
      | (rw [E, R0]; rfl)
      | (rw [E]; exact (decide_eq_true (by omega)).symm)
      | (simp only [taskOf_agg, ↓Bool.not_eq_true', ↓Bool.not_eq_false', ↓decT, ↓decF, out_true, out_false, isin_true, isin_false, Int.toNat_natCast, Int.ofNat_lt, Nat.zero_add, Nat.add_zero, Nat.reduceAdd] at *; omega)
  · rename_i g1 g2 g3
    have E : leastI a (i + 1) = leastI a i := by
      simp only [taskOf_agg, ↓Bool.not_eq_true', ↓Bool.not_eq_false', ↓decT, ↓decF, out_true, out_false, isin_true, isin_false, Int.toNat_natCast, Int.ofNat_lt, Nat.zero_add, Nat.add_zero, Nat.reduceAdd] at g1 g2 g3
      rw [R (by omega)] at g3
      rw [S, if_neg (by omega)]
    clear hk
    conv => whnf
    refine ⟨i + 1, ?_⟩
    repeat' (first | ((with_reducible refine kok ?_); kernel_rfl) | ((with_reducible refine keq_mk ?_); kernel_rfl) | with_reducible rfl | ((conv => whnf); first | (with_reducible exact trivial) | ((with_reducible refine and_ff ?_ ?_); · exact rfl) | ((with_reducible refine and_tt ?_ ?_); · exact rfl) | (with_reducible refine And.intro ?_ ?_) | intro _ | (with_reducible refine fin2 hk ?_) | ((with_reducible refine eq_leaf ?_); exact rfl) | exact trivial))
    all_goals first
      | (rw [E]; done)
      | (simp only [taskOf_agg, ↓Bool.not_eq_true', ↓Bool.not_eq_false', ↓decT, ↓decF, out_true, out_false, isin_true, isin_false, Int.toNat_natCast, Int.ofNat_lt, Nat.zero_add, Nat.add_zero, Nat.reduceAdd] at *; omega)
  all_goals (obtain rfl : i = n := by clear hk; simp only [taskOf_agg, ↓Bool.not_eq_true', ↓Bool.not_eq_false', ↓decT, ↓decF, out_true, out_false, isin_true, isin_false, Int.toNat_natCast, Int.ofNat_lt, Nat.zero_add, Nat.add_zero, Nat.reduceAdd] at *; omega)
  all_goals rfl
noncomputable def lr37 : Lib := (54, mk rLeast) :: lr36
theorem lr37_ok : LibOK Go.Proofs.Tryz.prog lr37 := .cons least_ok lr36_ok
end Go.Proofs.YtphcblofacfkaaaGreat
end
