/-
  Contracts of aiming: where the vehicle comes down with a setting, and how far away.
-/
import Derived.Test.YtbakdblbknfadaaMj
section
set_option linter.unusedVariables false
set_option linter.unusedSimpArgs false
set_option maxRecDepth 100000
set_option maxHeartbeats 4000000
namespace Go.Proofs.Ytbakdblbknfadaa
open Go.V
def dnV (w sc : Int) : Int := w * sc / 1000000
def upV (w sc : Int) : Int := 0 - (0 - w) * sc / 1000000
theorem wsc_in {w sc : Int} (hw : -4000000000000 ≤ w ∧ w ≤ 4000000000000) (hs : 0 ≤ sc ∧ sc ≤ 2000) : -8000000000000000 ≤ w * sc ∧ w * sc ≤ 8000000000000000 := mul_abs (A := 4000000000000) (B := 2000) hw ⟨by omega, hs.2⟩ (by decide) (by decide)
theorem dnV_in {w sc : Int} (hw : -4000000000000 ≤ w ∧ w ≤ 4000000000000) (hs : 0 ≤ sc ∧ sc ≤ 2000) : (-8000000000000000 ≤ w * sc ∧ w * sc ≤ 8000000000000000) ∧ (-8000000000000000 ≤ (0 - w) * sc ∧ (0 - w) * sc ≤ 8000000000000000) ∧ (-8000000000 ≤ dnV w sc ∧ dnV w sc ≤ 8000000000) ∧ -8000000000 ≤ upV w sc ∧ upV w sc ≤ 8000000000 := by
  have h1 := wsc_in hw hs
  have h2 := wsc_in (w := 0 - w) (by omega) hs
  unfold dnV upV
  refine ⟨h1, h2, ?_, ?_⟩ <;> omega
/-- The impact area of a setting. -/
def imp (s : Scn) (i j : Nat) : Int := match j with
  | 0 => s.t.sa i 0 + dnV s.xl (s.t.sa i 4)
  | 1 => s.t.sa i 1 + upV s.xh (s.t.sa i 4)
  | 2 => s.t.sa i 2 + dnV s.yl (s.t.sa i 4)
  | _ => s.t.sa i 3 + upV s.yh (s.t.sa i 4)
theorem imp_in {s : Scn} (h : ScOK s) {i : Nat} (hi : i < s.t.ns) : ((-8500000000 ≤ imp s i 0 ∧ imp s i 0 ≤ 8500000000) ∧ -8500000000 ≤ imp s i 1 ∧ imp s i 1 ≤ 8500000000) ∧ (-8500000000 ≤ imp s i 2 ∧ imp s i 2 ≤ 8500000000) ∧ -8500000000 ≤ imp s i 3 ∧ imp s i 3 ≤ 8500000000 := by
  obtain ⟨hok, ⟨h1, h2⟩, h3, h4⟩ := h
  have r := hok.sets i hi
  unfold SetOK at r
  have d1 := dnV_in h1 (sc := s.t.sa i 4) r.2
  have d2 := dnV_in h2 (sc := s.t.sa i 4) r.2
  have d3 := dnV_in h3 (sc := s.t.sa i 4) r.2
  have d4 := dnV_in h4 (sc := s.t.sa i 4) r.2
  simp only [imp]
  omega
def cornV (t : ATask) (x0 x1 x2 x3 k : Int) : Int := sqM ((if k = 1 ∨ k = 3 then x1 else x0) - t.tx) + sqM ((if k = 2 ∨ k = 3 then x3 else x2) - t.ty)
def crn (s : Scn) (i : Nat) (k : Int) : Int := cornV s.t (imp s i 0) (imp s i 1) (imp s i 2) (imp s i 3) k
theorem corn_in {t : ATask} (h : RestOK t) {x0 x1 x2 x3 : Int} (h0 : -8500000000 ≤ x0 ∧ x0 ≤ 8500000000) (h1 : -8500000000 ≤ x1 ∧ x1 ≤ 8500000000) (h2 : -8500000000 ≤ x2 ∧ x2 ≤ 8500000000) (h3 : -8500000000 ≤ x3 ∧ x3 ≤ 8500000000) (k : Int) : 0 ≤ cornV t x0 x1 x2 x3 k ∧ cornV t x0 x1 x2 x3 k ≤ 20000000400000002 := by
  unfold RestOK at h
  have a := sqM_in (n := (if k = 1 ∨ k = 3 then x1 else x0) - t.tx) (by split <;> omega)
  have b := sqM_in (n := (if k = 2 ∨ k = 3 then x3 else x2) - t.ty) (by split <;> omega)
  unfold cornV
  omega
theorem crn_in {s : Scn} (h : ScOK s) {i : Nat} (hi : i < s.t.ns) (k : Int) : 0 ≤ crn s i k ∧ crn s i k ≤ 20000000400000002 := by
  have I := imp_in h hi
  exact corn_in h.1.rest I.1.1 I.1.2 I.2.1 I.2.2 k
def missS (s : Scn) (i : Nat) : Int := max (max (max (crn s i 0) (crn s i 1)) (crn s i 2)) (crn s i 3)
theorem miss_in {s : Scn} (h : ScOK s) {i : Nat} (hi : i < s.t.ns) : 0 ≤ missS s i ∧ missS s i ≤ 20000000400000002 := by
  have a := crn_in h hi 0
  have b := crn_in h hi 1
  have c := crn_in h hi 2
  have d := crn_in h hi 3
  unfold missS
  omega
def lvB (t : ATask) (x0 x1 x2 x3 k : Int) : Bool := if k = 0 then decide (x0 < t.al) else if k = 1 then decide (t.ah < x1) else if k = 2 then decide (x2 < t.bl) else decide (t.bh < x3)
def sdB (s : Scn) (i : Nat) (k : Int) : Bool := lvB s.t (imp s i 0) (imp s i 1) (imp s i 2) (imp s i 3) k
def alwB (s : Scn) (i : Nat) : Bool := !sdB s i 0 && (!sdB s i 1 && (!sdB s i 2 && !sdB s i 3))
/-- A scene, read through a pointer. -/
def scT (e : Nat → V.D) : Scn := ⟨atOf (.agg [e 0, e 1, e 2, e 3, e 4, e 5, e 6, e 7, e 8, e 9, e 10]), toI (e 11), toI (e 12), toI (e 13), toI (e 14)⟩
def ScIs (e : Nat → V.D) : Prop := (e 0 = (scT e).e 0 ∧ e 1 = (scT e).e 1 ∧ e 2 = (scT e).e 2 ∧ e 3 = (scT e).e 3 ∧ e 4 = (scT e).e 4) ∧ (e 5 = (scT e).e 5 ∧ e 6 = (scT e).e 6 ∧ e 7 = (scT e).e 7 ∧ e 8 = (scT e).e 8 ∧ e 9 = (scT e).e 9) ∧ e 10 = (scT e).e 10 ∧ e 11 = (scT e).e 11 ∧ e 12 = (scT e).e 12 ∧ e 13 = (scT e).e 13 ∧ e 14 = (scT e).e 14
theorem sc_imp {e : Nat → V.D} (h : ScIs e) (j : Nat) (hj : j < 15) : e j = (scT e).e j := by
  obtain ⟨⟨h0, h1, h2, h3, h4⟩, ⟨h5, h6, h7, h8, h9⟩, h10, h11, h12, h13, h14⟩ := h
  match j, hj with
  | 0, _ => exact h0
  | 1, _ => exact h1
  | 2, _ => exact h2
  | 3, _ => exact h3
  | 4, _ => exact h4
  | 5, _ => exact h5
  | 6, _ => exact h6
  | 7, _ => exact h7
  | 8, _ => exact h8
  | 9, _ => exact h9
  | 10, _ => exact h10
  | 11, _ => exact h11
  | 12, _ => exact h12
  | 13, _ => exact h13
  | 14, _ => exact h14
theorem scT_e (s : Scn) : scT s.e = s := rfl
def rMoved : List V.D → Option (Prop × V.D) := fun ds => match ds with
  | [.agg [.int .i64 a, .int .i64 b], .eptr 5 e] => some (((-4000000000000 ≤ a ∧ a ≤ 4000000000000) ∧ -4000000000000 ≤ b ∧ b ≤ 4000000000000) ∧ e 4 = .int .i64 (toI (e 4)) ∧ 0 ≤ toI (e 4) ∧ toI (e 4) ≤ 2000, .agg [.int .i64 (dnV a (toI (e 4))), .int .i64 (upV b (toI (e 4)))])
  | _ => none
def fiveE (e : Nat → V.D) (x : Int) (j : Nat) : V.D := [e 0, e 1, e 2, e 3, .int .i64 x].getD j .top
noncomputable def la6 : Lib := (84, mk rWeighed) :: (72, mk rWeighQ) :: la5
theorem la6_ok : LibOK Go.Proofs.Try.prog la6 := .cons aWeighed_ok (.cons qWeigh_ok la5_ok)
theorem aMoved_ok : PSound Go.Proofs.Try.prog 100 (mk rMoved) := by
  refine psound_mk Try.func100 (by kernel_rfl) rfl (ctx la6_ok) ?_
  (intro ds p d h; unfold rMoved at h; split at h <;> first | (cases h; done) | skip; cases h; refine ⟨Nat.le_of_ble_eq_true rfl, fun hp k hk => ?_⟩)
  rename_i a b e
  obtain ⟨⟨ha, hb⟩, h4, hx⟩ := hp
  generalize toI (e 4) = x at *
  refine ⟨[.agg [.int .i64 a, .int .i64 b], .eptr 5 (fiveE e x)], rfl, rfl, rfl, fun j hj => ?_, ?_⟩
  · match j, hj with
    | 0, _ | 1, _ | 2, _ | 3, _ => rfl
    | 4, _ => exact h4
  clear h4
  have d1 := dnV_in ha hx
  have d2 := dnV_in hb hx
  have E1 : dnV a x = a * x / 1000000 := rfl
  have E2 : upV b x = 0 - (0 - b) * x / 1000000 := rfl
  repeat' (first | ((with_reducible refine kok ?_); kernel_rfl) | ((with_reducible refine keq_mk ?_); kernel_rfl) | with_reducible rfl | ((conv => whnf); first | (with_reducible exact trivial) | ((with_reducible refine and_ff ?_ ?_); · exact rfl) | ((with_reducible refine and_tt ?_ ?_); · exact rfl) | (with_reducible refine And.intro ?_ ?_) | intro _ | (with_reducible refine fin2 hk ?_) | ((with_reducible refine eq_leaf ?_); exact rfl) | exact trivial))
  all_goals clear hk
  all_goals first
    | omega
    | (simp only [fiveE, List.getD_cons_succ, List.getD_cons_zero] at *; omega)
def rQSide : List V.D → Option (Prop × V.D) := fun ds => match ds with
  | [.agg [.int .i64 a, .int .i64 b], .agg [.int .i64 c, .int .i64 d], .int .i64 x] => some (((-500000000 ≤ a ∧ a ≤ 500000000) ∧ -500000000 ≤ b ∧ b ≤ 500000000) ∧ ((-4000000000000 ≤ c ∧ c ≤ 4000000000000) ∧ -4000000000000 ≤ d ∧ d ≤ 4000000000000) ∧ 0 ≤ x ∧ x ≤ 2000, .agg [.int .i64 (a + dnV c x), .int .i64 (b + upV d x)])
  | _ => none
theorem qSide_ok : PSound Go.Proofs.Try.prog 103 (mk rQSide) := by
  refine psound_mk Try.func103 (by kernel_rfl) rfl (ctx la6_ok) ?_
  (intro ds p d h; unfold rQSide at h; split at h <;> first | (cases h; done) | skip; cases h; refine ⟨Nat.le_of_ble_eq_true rfl, fun hp k hk => ?_⟩)
  rename_i a b c d x
  obtain ⟨⟨ha, hb⟩, ⟨hc, hd⟩, hx⟩ := hp
  refine ⟨[.agg [.int .i64 a, .int .i64 b], .agg [.int .i64 c, .int .i64 d], .int .i64 x], rfl, rfl, rfl, rfl, rfl, ?_⟩
  have d1 := dnV_in hc hx
  have d2 := dnV_in hd hx
  have E1 : dnV c x = c * x / 1000000 := rfl
  have E2 : upV d x = 0 - (0 - d) * x / 1000000 := rfl
  repeat' (first | ((with_reducible refine kok ?_); kernel_rfl) | ((with_reducible refine keq_mk ?_); kernel_rfl) | with_reducible rfl | ((conv => whnf); first | (with_reducible exact trivial) | ((with_reducible refine and_ff ?_ ?_); · exact rfl) | ((with_reducible refine and_tt ?_ ?_); · exact rfl) | (with_reducible refine And.intro ?_ ?_) | intro _ | (with_reducible refine fin2 hk ?_) | ((with_reducible refine eq_leaf ?_); exact rfl) | exact trivial))
  all_goals clear hk
  all_goals omega
noncomputable def la7 : Lib := (100, mk rMoved) :: (103, mk rQSide) :: la6
theorem la7_ok : LibOK Go.Proofs.Try.prog la7 := .cons aMoved_ok (.cons qSide_ok la6_ok)
def impD (s : Scn) (i : Nat) : V.D := .agg [.int .i64 (imp s i 0), .int .i64 (imp s i 1), .int .i64 (imp s i 2), .int .i64 (imp s i 3)]
/-- The rule of a method of a scene, for a setting. -/
def rScI (f : Scn → Nat → V.D) : List V.D → Option (Prop × V.D) := fun ds => match ds with
  | [.eptr 15 e, .int .i64 i] => some (ScIs e ∧ ScOK (scT e) ∧ 0 ≤ i ∧ i < (scT e).t.ns, f (scT e) i.toNat)
  | _ => none
attribute [local irreducible] dnV upV
theorem aImpact_ok : PSound Go.Proofs.Try.prog 74 (mk (rScI impD)) := by
  refine psound_mk Try.func74 (by kernel_rfl) rfl (ctx la7_ok) ?_
  (intro ds p d h; unfold rScI at h; split at h <;> first | (cases h; done) | skip; cases h; refine ⟨Nat.le_of_ble_eq_true rfl, fun hp k hk => ?_⟩)
  rename_i e i
  obtain ⟨he, hs, hi⟩ := hp
  refine ⟨[.eptr 15 (scT e).e, .int .i64 i], rfl, sc_imp he, rfl, ?_⟩
  clear he
  generalize scT e = s at *
  obtain ⟨hok, ⟨S1, S2⟩, S3, S4⟩ := hs
  have hns := hok.ns
  have r := hok.sets i.toNat (by omega)
  unfold SetOK at r
  have D1 := dnV_in S1 (sc := s.t.sa i.toNat 4) r.2
  have D2 := dnV_in S2 (sc := s.t.sa i.toNat 4) r.2
  have D3 := dnV_in S3 (sc := s.t.sa i.toNat 4) r.2
  have D4 := dnV_in S4 (sc := s.t.sa i.toNat 4) r.2
  repeat' (first | ((with_reducible refine kok ?_); kernel_rfl) | ((with_reducible refine keq_mk ?_); kernel_rfl) | with_reducible rfl | ((conv => whnf); first | (with_reducible exact trivial) | ((with_reducible refine and_ff ?_ ?_); · exact rfl) | ((with_reducible refine and_tt ?_ ?_); · exact rfl) | (with_reducible refine And.intro ?_ ?_) | intro _ | (with_reducible refine fin2 hk ?_) | ((with_reducible refine eq_leaf ?_); exact rfl) | exact trivial))
  all_goals clear hk
  all_goals try omega
  all_goals first
    | exact r.2.1
    | exact r.2.2
    | exact (Int.zero_add _ ▸ rfl : 0 + s.t.sa i.toNat 0 + dnV s.xl (s.t.sa i.toNat 4) = s.t.sa i.toNat 0 + dnV s.xl (s.t.sa i.toNat 4))
    | exact (Int.zero_add _ ▸ rfl : 0 + s.t.sa i.toNat 1 + upV s.xh (s.t.sa i.toNat 4) = s.t.sa i.toNat 1 + upV s.xh (s.t.sa i.toNat 4))
    | exact (Int.zero_add _ ▸ rfl : 0 + s.t.sa i.toNat 2 + dnV s.yl (s.t.sa i.toNat 4) = s.t.sa i.toNat 2 + dnV s.yl (s.t.sa i.toNat 4))
    | exact (Int.zero_add _ ▸ rfl : 0 + s.t.sa i.toNat 3 + upV s.yh (s.t.sa i.toNat 4) = s.t.sa i.toNat 3 + upV s.yh (s.t.sa i.toNat 4))
    | skip
  all_goals (
       rename_i i' j' hi' hj'
       have e1 : i' = 0 ∨ i' = 1 := by omega
       have e2 : j' = 0 ∨ j' = 1 := by omega
       rcases e1 with rfl | rfl <;> rcases e2 with rfl | rfl <;> first
         | rfl
         | (show (_ : Int) ≤ dnV _ (s.t.sa i.toNat 4); omega)
         | (show dnV _ (s.t.sa i.toNat 4) ≤ (_ : Int); omega)
         | (show (_ : Int) ≤ upV _ (s.t.sa i.toNat 4); omega)
         | (show upV _ (s.t.sa i.toNat 4) ≤ (_ : Int); omega)
         | (show (_ : Int) ≤ s.t.sa i.toNat 0; omega)
         | (show s.t.sa i.toNat 0 ≤ (_ : Int); omega)
         | (show (_ : Int) ≤ s.t.sa i.toNat 1; omega)
         | (show s.t.sa i.toNat 1 ≤ (_ : Int); omega)
         | (show (_ : Int) ≤ s.t.sa i.toNat 2; omega)
         | (show s.t.sa i.toNat 2 ≤ (_ : Int); omega)
         | (show (_ : Int) ≤ s.t.sa i.toNat 3; omega)
         | (show s.t.sa i.toNat 3 ≤ (_ : Int); omega))
noncomputable def la8 : Lib := (74, mk (rScI impD)) :: la7
theorem la8_ok : LibOK Go.Proofs.Try.prog la8 := .cons aImpact_ok la7_ok
def sidesD (s : Scn) (i : Nat) : V.D := .agg [.bool (sdB s i 0), .bool (sdB s i 1), .bool (sdB s i 2), .bool (sdB s i 3)]
attribute [local irreducible] imp ScOK
theorem aSides_ok : PSound Go.Proofs.Try.prog 57 (mk (rScI sidesD)) := by
  refine psound_mk Try.func57 (by kernel_rfl) rfl (ctx la8_ok) ?_
  (intro ds p d h; unfold rScI at h; split at h <;> first | (cases h; done) | skip; cases h; refine ⟨Nat.le_of_ble_eq_true rfl, fun hp k hk => ?_⟩)
  rename_i e i
  obtain ⟨he, hs, hi⟩ := hp
  refine ⟨[.eptr 15 (scT e).e, .int .i64 i], rfl, sc_imp he, rfl, ?_⟩
  clear he
  generalize scT e = s at *
  repeat' (first | ((with_reducible refine kok ?_); kernel_rfl) | ((with_reducible refine keq_mk ?_); kernel_rfl) | with_reducible rfl | ((conv => whnf); first | (with_reducible exact trivial) | ((with_reducible refine and_ff ?_ ?_); · exact rfl) | ((with_reducible refine and_tt ?_ ?_); · exact rfl) | (with_reducible refine And.intro ?_ ?_) | intro _ | (with_reducible refine fin2 hk ?_) | ((with_reducible refine eq_leaf ?_); exact rfl) | exact trivial))
  all_goals try exact hs
  all_goals clear hk
  all_goals try omega
  all_goals first | exact hi.2 | (show (_ && (_ && (_ && (_ && true)))) = _; rw [Bool.and_true]; rfl)
noncomputable def la9 : Lib := (57, mk (rScI sidesD)) :: la8
theorem la9_ok : LibOK Go.Proofs.Try.prog la9 := .cons aSides_ok la8_ok
def alwD (s : Scn) (i : Nat) : V.D := .bool (alwB s i)
attribute [local irreducible] sdB
theorem aAllowed_ok : PSound Go.Proofs.Try.prog 58 (mk (rScI alwD)) := by
  refine psound_mk Try.func58 (by kernel_rfl) rfl (ctx la9_ok) ?_
  (intro ds p d h; unfold rScI at h; split at h <;> first | (cases h; done) | skip; cases h; refine ⟨Nat.le_of_ble_eq_true rfl, fun hp k hk => ?_⟩)
  rename_i e i
  obtain ⟨he, hs, hi⟩ := hp
  refine ⟨[.eptr 15 (scT e).e, .int .i64 i], rfl, sc_imp he, rfl, ?_⟩
  clear he
  generalize scT e = s at *
  repeat' (first | ((with_reducible refine kok ?_); kernel_rfl) | ((with_reducible refine keq_mk ?_); kernel_rfl) | with_reducible rfl | ((conv => whnf); first | (with_reducible exact trivial) | ((with_reducible refine and_ff ?_ ?_); · exact rfl) | ((with_reducible refine and_tt ?_ ?_); · exact rfl) | (with_reducible refine And.intro ?_ ?_) | intro _ | (with_reducible refine fin2 hk ?_) | ((with_reducible refine eq_leaf ?_); exact rfl) | exact trivial))
  all_goals try exact hs
  all_goals clear hk
  all_goals try omega
  all_goals first | exact hi.2 | (show (_ && (_ && (_ && (_ && true)))) = _; rw [Bool.and_true]; rfl)
end Go.Proofs.Ytbakdblbknfadaa
end
section
set_option linter.unusedVariables false
set_option linter.unusedSimpArgs false
set_option maxRecDepth 100000
set_option maxHeartbeats 4000000
namespace Go.Proofs.Ytbakdblbknfadaa
open Go.V
noncomputable def la10 : Lib := (58, mk (rScI alwD)) :: la9
theorem la10_ok : LibOK Go.Proofs.Try.prog la10 := .cons aAllowed_ok la9_ok
def crnD (s : Scn) (i : Nat) : V.D := .agg [.int .i64 (crn s i 0), .int .i64 (crn s i 1), .int .i64 (crn s i 2), .int .i64 (crn s i 3)]
def crnTo (s : Scn) (i k j : Nat) : Int := if j < k then crn s i j else 0
theorem ScOK.bounds {s : Scn} (h : ScOK s) : ((-4000000000000 ≤ s.xl ∧ s.xl ≤ 4000000000000) ∧ -4000000000000 ≤ s.xh ∧ s.xh ≤ 4000000000000) ∧ (-4000000000000 ≤ s.yl ∧ s.yl ≤ 4000000000000) ∧ -4000000000000 ≤ s.yh ∧ s.yh ≤ 4000000000000 := h.2
attribute [local irreducible] imp ScOK sdB sqM
theorem crn_0 (s : Scn) (i : Nat) : crn s i 0 = sqM (imp s i 0 - s.t.tx) + sqM (imp s i 2 - s.t.ty) := rfl
theorem crn_1 (s : Scn) (i : Nat) : crn s i 1 = sqM (imp s i 1 - s.t.tx) + sqM (imp s i 2 - s.t.ty) := rfl
theorem crn_2 (s : Scn) (i : Nat) : crn s i 2 = sqM (imp s i 0 - s.t.tx) + sqM (imp s i 3 - s.t.ty) := rfl
theorem crn_3 (s : Scn) (i : Nat) : crn s i 3 = sqM (imp s i 1 - s.t.tx) + sqM (imp s i 3 - s.t.ty) := rfl
theorem ScOK.am {s : Scn} (h : ScOK s) : AmOK s.t := by
  delta ScOK at h
  exact h.1
theorem aCorners_ok : PSound Go.Proofs.Try.prog 86 (mk (rScI crnD)) := by
  refine psound_mk Try.func86 (by kernel_rfl) rfl (ctx la10_ok) ?_
  (intro ds p d h; unfold rScI at h; split at h <;> first | (cases h; done) | skip; cases h; refine ⟨Nat.le_of_ble_eq_true rfl, fun hp k hk => ?_⟩)
  rename_i e i
  obtain ⟨he, hs, hi⟩ := hp
  refine ⟨[.eptr 15 (scT e).e, .int .i64 i], rfl, sc_imp he, rfl, ?_⟩
  clear he
  generalize scT e = s at *
  have hok := hs.am
  have I := imp_in hs (i := i.toNat) (by omega)
  have R := hok.rest
  unfold RestOK at R
  repeat' (first | ((with_reducible refine kok ?_); kernel_rfl) | ((with_reducible refine keq_mk ?_); kernel_rfl) | with_reducible rfl | ((conv => whnf); first | (with_reducible exact trivial) | ((with_reducible refine and_ff ?_ ?_); · exact rfl) | ((with_reducible refine and_tt ?_ ?_); · exact rfl) | (with_reducible refine And.intro ?_ ?_) | intro _ | (with_reducible refine fin2 hk ?_) | ((with_reducible refine eq_leaf ?_); exact rfl) | exact trivial))
  · exact hs
  · exact hi.1
  · exact hi.2
  conv => whnf
  refine ⟨Nat, fun k => [(0, .eptr 15 s.e), (4, .ptr 0 0), (5, .ptr 1 0), (12, .int .i64 k)],
    fun k => [some (.row [.int .i64 (crnTo s i.toNat k 0), .int .i64 (crnTo s i.toNat k 1), .int .i64 (crnTo s i.toNat k 2), .int .i64 (crnTo s i.toNat k 3)]), some (.row [.int .i64 (imp s i.toNat 0), .int .i64 (imp s i.toNat 1), .int .i64 (imp s i.toNat 2), .int .i64 (imp s i.toNat 3)])],
    fun k => 4 - k, fun k => k ≤ 4, [], 0, fun _ => ⟨rfl, rfl⟩, ?_, fun k hk' => ?_⟩
  · clear hk
    repeat' (first | ((with_reducible refine kok ?_); kernel_rfl) | ((with_reducible refine keq_mk ?_); kernel_rfl) | with_reducible rfl | ((conv => whnf); first | (with_reducible exact trivial) | ((with_reducible refine and_ff ?_ ?_); · exact rfl) | ((with_reducible refine and_tt ?_ ?_); · exact rfl) | (with_reducible refine And.intro ?_ ?_) | intro _ | (with_reducible refine fin2 hk ?_) | ((with_reducible refine eq_leaf ?_); exact rfl) | exact trivial))
    all_goals first | exact Nat.zero_le _ | rfl
  have hk' : k ≤ 4 := hk'
  have e : k = 0 ∨ k = 1 ∨ k = 2 ∨ k = 3 ∨ k = 4 := by omega
  have B1 := sqM_in (n := imp s i.toNat 0 - s.t.tx) (by omega)
  have B2 := sqM_in (n := imp s i.toNat 1 - s.t.tx) (by omega)
  have B3 := sqM_in (n := imp s i.toNat 2 - s.t.ty) (by omega)
  have B4 := sqM_in (n := imp s i.toNat 3 - s.t.ty) (by omega)
  clear hk'
  rcases e with rfl | rfl | rfl | rfl | rfl
  · repeat' (first | ((with_reducible refine kok ?_); kernel_rfl) | ((with_reducible refine keq_mk ?_); kernel_rfl) | with_reducible rfl | ((conv => whnf); first | (with_reducible exact trivial) | ((with_reducible refine and_ff ?_ ?_); · exact rfl) | ((with_reducible refine and_tt ?_ ?_); · exact rfl) | (with_reducible refine And.intro ?_ ?_) | intro _ | (with_reducible refine fin2 hk ?_) | ((with_reducible refine eq_leaf ?_); exact rfl) | exact trivial))
    all_goals try ((first | with_reducible refine (?_ : (_ : Int) ≤ _) | with_reducible refine (?_ : (_ : Int) < _)); clear hk; first | omega | decide)
    clear hk
    conv => whnf
    refine ⟨1, ?_⟩
    repeat' (first | ((with_reducible refine kok ?_); kernel_rfl) | ((with_reducible refine keq_mk ?_); kernel_rfl) | with_reducible rfl | ((conv => whnf); first | (with_reducible exact trivial) | ((with_reducible refine and_ff ?_ ?_); · exact rfl) | ((with_reducible refine and_tt ?_ ?_); · exact rfl) | (with_reducible refine And.intro ?_ ?_) | intro _ | (with_reducible refine fin2 hk ?_) | ((with_reducible refine eq_leaf ?_); exact rfl) | exact trivial))
    all_goals first | (with_reducible rfl) | exact (crn_0 s i.toNat).symm | rfl | (simp only; omega)
  · repeat' (first | ((with_reducible refine kok ?_); kernel_rfl) | ((with_reducible refine keq_mk ?_); kernel_rfl) | with_reducible rfl | ((conv => whnf); first | (with_reducible exact trivial) | ((with_reducible refine and_ff ?_ ?_); · exact rfl) | ((with_reducible refine and_tt ?_ ?_); · exact rfl) | (with_reducible refine And.intro ?_ ?_) | intro _ | (with_reducible refine fin2 hk ?_) | ((with_reducible refine eq_leaf ?_); exact rfl) | exact trivial))
    all_goals try ((first | with_reducible refine (?_ : (_ : Int) ≤ _) | with_reducible refine (?_ : (_ : Int) < _)); clear hk; first | omega | decide)
    clear hk
    conv => whnf
    refine ⟨2, ?_⟩
    repeat' (first | ((with_reducible refine kok ?_); kernel_rfl) | ((with_reducible refine keq_mk ?_); kernel_rfl) | with_reducible rfl | ((conv => whnf); first | (with_reducible exact trivial) | ((with_reducible refine and_ff ?_ ?_); · exact rfl) | ((with_reducible refine and_tt ?_ ?_); · exact rfl) | (with_reducible refine And.intro ?_ ?_) | intro _ | (with_reducible refine fin2 hk ?_) | ((with_reducible refine eq_leaf ?_); exact rfl) | exact trivial))
    all_goals first | (with_reducible rfl) | exact (crn_1 s i.toNat).symm | rfl | (simp only; omega)
  · repeat' (first | ((with_reducible refine kok ?_); kernel_rfl) | ((with_reducible refine keq_mk ?_); kernel_rfl) | with_reducible rfl | ((conv => whnf); first | (with_reducible exact trivial) | ((with_reducible refine and_ff ?_ ?_); · exact rfl) | ((with_reducible refine and_tt ?_ ?_); · exact rfl) | (with_reducible refine And.intro ?_ ?_) | intro _ | (with_reducible refine fin2 hk ?_) | ((with_reducible refine eq_leaf ?_); exact rfl) | exact trivial))
    all_goals try ((first | with_reducible refine (?_ : (_ : Int) ≤ _) | with_reducible refine (?_ : (_ : Int) < _)); clear hk; first | omega | decide)
    clear hk
    conv => whnf
    refine ⟨3, ?_⟩
    repeat' (first | ((with_reducible refine kok ?_); kernel_rfl) | ((with_reducible refine keq_mk ?_); kernel_rfl) | with_reducible rfl | ((conv => whnf); first | (with_reducible exact trivial) | ((with_reducible refine and_ff ?_ ?_); · exact rfl) | ((with_reducible refine and_tt ?_ ?_); · exact rfl) | (with_reducible refine And.intro ?_ ?_) | intro _ | (with_reducible refine fin2 hk ?_) | ((with_reducible refine eq_leaf ?_); exact rfl) | exact trivial))
    all_goals first | (with_reducible rfl) | exact (crn_2 s i.toNat).symm | rfl | (simp only; omega)
  · repeat' (first | ((with_reducible refine kok ?_); kernel_rfl) | ((with_reducible refine keq_mk ?_); kernel_rfl) | with_reducible rfl | ((conv => whnf); first | (with_reducible exact trivial) | ((with_reducible refine and_ff ?_ ?_); · exact rfl) | ((with_reducible refine and_tt ?_ ?_); · exact rfl) | (with_reducible refine And.intro ?_ ?_) | intro _ | (with_reducible refine fin2 hk ?_) | ((with_reducible refine eq_leaf ?_); exact rfl) | exact trivial))
    all_goals try ((first | with_reducible refine (?_ : (_ : Int) ≤ _) | with_reducible refine (?_ : (_ : Int) < _)); clear hk; first | omega | decide)
    clear hk
    conv => whnf
    refine ⟨4, ?_⟩
    repeat' (first | ((with_reducible refine kok ?_); kernel_rfl) | ((with_reducible refine keq_mk ?_); kernel_rfl) | with_reducible rfl | ((conv => whnf); first | (with_reducible exact trivial) | ((with_reducible refine and_ff ?_ ?_); · exact rfl) | ((with_reducible refine and_tt ?_ ?_); · exact rfl) | (with_reducible refine And.intro ?_ ?_) | intro _ | (with_reducible refine fin2 hk ?_) | ((with_reducible refine eq_leaf ?_); exact rfl) | exact trivial))
    all_goals first | (with_reducible rfl) | exact (crn_3 s i.toNat).symm | rfl | (simp only; omega)
  · repeat' (first | ((with_reducible refine kok ?_); kernel_rfl) | ((with_reducible refine keq_mk ?_); kernel_rfl) | with_reducible rfl | ((conv => whnf); first | (with_reducible exact trivial) | ((with_reducible refine and_ff ?_ ?_); · exact rfl) | ((with_reducible refine and_tt ?_ ?_); · exact rfl) | (with_reducible refine And.intro ?_ ?_) | intro _ | (with_reducible refine fin2 hk ?_) | ((with_reducible refine eq_leaf ?_); exact rfl) | exact trivial))
noncomputable def la11 : Lib := (86, mk (rScI crnD)) :: la10
theorem la11_ok : LibOK Go.Proofs.Try.prog la11 := .cons aCorners_ok la10_ok
def missD (s : Scn) (i : Nat) : V.D := .int .i64 (missS s i)
attribute [local irreducible] crn
theorem aMiss_ok : PSound Go.Proofs.Try.prog 56 (mk (rScI missD)) := by
  refine psound_mk Try.func56 (by kernel_rfl) rfl (ctx la11_ok) ?_
  (intro ds p d h; unfold rScI at h; split at h <;> first | (cases h; done) | skip; cases h; refine ⟨Nat.le_of_ble_eq_true rfl, fun hp k hk => ?_⟩)
  rename_i e i
  obtain ⟨he, hs, hi⟩ := hp
  refine ⟨[.eptr 15 (scT e).e, .int .i64 i], rfl, sc_imp he, rfl, ?_⟩
  clear he
  generalize scT e = s at *
  repeat' (first | ((with_reducible refine kok ?_); kernel_rfl) | ((with_reducible refine keq_mk ?_); kernel_rfl) | with_reducible rfl | ((conv => whnf); first | (with_reducible exact trivial) | ((with_reducible refine and_ff ?_ ?_); · exact rfl) | ((with_reducible refine and_tt ?_ ?_); · exact rfl) | (with_reducible refine And.intro ?_ ?_) | intro _ | (with_reducible refine fin2 hk ?_) | ((with_reducible refine eq_leaf ?_); exact rfl) | exact trivial))
  all_goals clear hk
  all_goals first
    | exact hs
    | exact hi.1
    | exact hi.2
    | decide
    | (rename_i i' j' hi' hj'
       have e1 : i' = 0 ∨ i' = 1 ∨ i' = 2 ∨ i' = 3 := by omega
       have e2 : j' = 0 := by omega
       subst e2
       rcases e1 with rfl | rfl | rfl | rfl <;> rfl)
    | skip
/-- The document's functions of a task, bands and a setting. -/
def rTLI (f : Scn → Nat → V.D) : List V.D → Option (Prop × V.D) := fun ds => match ds with
  | [d, .rsl 6 n g, .int .i64 i] => some (AtIs d ∧ AmOK (atOf d) ∧ IM n 6 g ∧ BandsOK n (im g) ∧ 0 ≤ i ∧ i < (atOf d).ns, f (weighS (atOf d) n (im g)) i.toNat)
  | _ => none
theorem weighS_ok {t : ATask} (h : AmOK t) {n : Nat} {a : Nat → Nat → Int} (hb : BandsOK n a) : ScOK (weighS t n a) := by
  exact weighTo_ok h hb (Nat.le_refl _)
theorem qImpact_ok : PSound Go.Proofs.Try.prog 75 (mk (rTLI impD)) := by
  refine psound_mk Try.func75 (by kernel_rfl) rfl (ctx la11_ok) ?_
  (intro ds p d h; unfold rTLI at h; split at h <;> first | (cases h; done) | skip; cases h; refine ⟨Nat.le_of_ble_eq_true rfl, fun hp k hk => ?_⟩)
  rename_i d n g i
  obtain ⟨ht, hok, hg, hb, hi⟩ := hp
  have hf := at_fits ht
  refine ⟨[(atOf d).D, .rsl 6 n (imD (im g)), .int .i64 i], at_imp ht ⟨rfl, hg, rfl, ?_⟩⟩
  clear ht hg
  generalize atOf d = t at *
  generalize im g = a at *
  obtain ⟨⟨S1, S2⟩, S3, S4⟩ := (weighS_ok hok hb).bounds
  have r := hok.sets i.toNat (by omega)
  unfold SetOK at r
  have I : impD (weighS t n a) i.toNat = .agg [.int .i64 (t.sa i.toNat 0 + dnV (weighS t n a).xl (t.sa i.toNat 4)), .int .i64 (t.sa i.toNat 1 + upV (weighS t n a).xh (t.sa i.toNat 4)), .int .i64 (t.sa i.toNat 2 + dnV (weighS t n a).yl (t.sa i.toNat 4)), .int .i64 (t.sa i.toNat 3 + upV (weighS t n a).yh (t.sa i.toNat 4))] := by delta impD imp; rfl
  rw [I] at hk
  repeat' (first | ((with_reducible refine kok ?_); kernel_rfl) | ((with_reducible refine keq_mk ?_); kernel_rfl) | with_reducible rfl | ((conv => whnf); first | (with_reducible exact trivial) | ((with_reducible refine and_ff ?_ ?_); · exact rfl) | ((with_reducible refine and_tt ?_ ?_); · exact rfl) | (with_reducible refine And.intro ?_ ?_) | intro _ | (with_reducible refine fin2 hk ?_) | ((with_reducible refine eq_leaf ?_); exact rfl) | exact trivial))
  all_goals clear hk
  all_goals first
    | exact hf.1
    | exact hf.2
    | exact hok
    | exact hb
    | omega
    | (simp only [atOf_agg, im_imD]; omega)
noncomputable def la12 : Lib := (75, mk (rTLI impD)) :: (56, mk (rScI missD)) :: la11
theorem la12_ok : LibOK Go.Proofs.Try.prog la12 := .cons qImpact_ok (.cons aMiss_ok la11_ok)
def rLeaves3 : List V.D → Option (Prop × V.D) := fun ds => match ds with
  | [d, .agg [.int .i64 x0, .int .i64 x1, .int .i64 x2, .int .i64 x3], .int .i64 q] => some (AtIs d, .bool (lvB (atOf d) x0 x1 x2 x3 q))
  | _ => none
theorem qLeaves_ok : PSound Go.Proofs.Try.prog 91 (mk rLeaves3) := by
  refine psound_mk Try.func91 (by kernel_rfl) rfl (ctx (.nil _)) ?_
  (intro ds p d h; unfold rLeaves3 at h; split at h <;> first | (cases h; done) | skip; cases h; refine ⟨Nat.le_of_ble_eq_true rfl, fun hp k hk => ?_⟩)
  rename_i d x0 x1 x2 x3 q
  refine ⟨[(atOf d).D, .agg [.int .i64 x0, .int .i64 x1, .int .i64 x2, .int .i64 x3], .int .i64 q], at_imp hp ⟨rfl, rfl, rfl, rfl, rfl, ?_⟩⟩
  clear hp
  generalize atOf d = t at *
  have E : lvB t x0 x1 x2 x3 q = if q = 0 then decide (x0 < t.al) else if q = 1 then decide (t.ah < x1) else if q = 2 then decide (x2 < t.bl) else decide (t.bh < x3) := rfl
  generalize lvB t x0 x1 x2 x3 q = b at *
  repeat' (first | ((with_reducible refine kok ?_); kernel_rfl) | ((with_reducible refine keq_mk ?_); kernel_rfl) | with_reducible rfl | ((conv => whnf); first | (with_reducible exact trivial) | ((with_reducible refine and_ff ?_ ?_); · exact rfl) | ((with_reducible refine and_tt ?_ ?_); · exact rfl) | (with_reducible refine And.intro ?_ ?_) | intro _ | (with_reducible refine fin2 hk ?_) | ((with_reducible refine eq_leaf ?_); exact rfl) | exact trivial))
  all_goals (clear hk; simp only [taskOf_agg, ↓Bool.not_eq_true', ↓Bool.not_eq_false', ↓decT, ↓decF, out_true, out_false, isin_true, isin_false, Int.toNat_natCast, Int.ofNat_lt, Nat.zero_add, Nat.add_zero, Nat.reduceAdd] at *; simp_all)
def rCorner : List V.D → Option (Prop × V.D) := fun ds => match ds with
  | [d, .agg [.int .i64 x0, .int .i64 x1, .int .i64 x2, .int .i64 x3], .int .i64 q] => some (AtIs d ∧ AmOK (atOf d) ∧ (((-8500000000 ≤ x0 ∧ x0 ≤ 8500000000) ∧ -8500000000 ≤ x1 ∧ x1 ≤ 8500000000) ∧ (-8500000000 ≤ x2 ∧ x2 ≤ 8500000000) ∧ -8500000000 ≤ x3 ∧ x3 ≤ 8500000000) ∧ 0 ≤ q ∧ q ≤ 3, .int .i64 (cornV (atOf d) x0 x1 x2 x3 q))
  | _ => none
theorem qCorner_ok : PSound Go.Proofs.Try.prog 90 (mk rCorner) := by
  refine psound_mk Try.func90 (by kernel_rfl) rfl (ctx la12_ok) ?_
  (intro ds p d h; unfold rCorner at h; split at h <;> first | (cases h; done) | skip; cases h; refine ⟨Nat.le_of_ble_eq_true rfl, fun hp k hk => ?_⟩)
  rename_i d x0 x1 x2 x3 q
  obtain ⟨ht, hok, ⟨⟨h0, h1⟩, h2, h3⟩, hk0⟩ := hp
  refine ⟨[(atOf d).D, .agg [.int .i64 x0, .int .i64 x1, .int .i64 x2, .int .i64 x3], .int .i64 q], at_imp ht ⟨rfl, rfl, rfl, rfl, rfl, ?_⟩⟩
  clear ht
  generalize atOf d = t at *
  have R := hok.rest
  unfold RestOK at R
  have B1 := sqM_in (n := x0 - t.tx) (by omega)
  have B2 := sqM_in (n := x1 - t.tx) (by omega)
  have B3 := sqM_in (n := x2 - t.ty) (by omega)
  have B4 := sqM_in (n := x3 - t.ty) (by omega)
  have e : q = 0 ∨ q = 1 ∨ q = 2 ∨ q = 3 := by omega
  clear hk0
  rcases e with rfl | rfl | rfl | rfl
  all_goals repeat' (first | ((with_reducible refine kok ?_); kernel_rfl) | ((with_reducible refine keq_mk ?_); kernel_rfl) | with_reducible rfl | ((conv => whnf); first | (with_reducible exact trivial) | ((with_reducible refine and_ff ?_ ?_); · exact rfl) | ((with_reducible refine and_tt ?_ ?_); · exact rfl) | (with_reducible refine And.intro ?_ ?_) | intro _ | (with_reducible refine fin2 hk ?_) | ((with_reducible refine eq_leaf ?_); exact rfl) | exact trivial))
  all_goals try (clear hk; first | omega | decide)
noncomputable def la13 : Lib := (91, mk rLeaves3) :: (90, mk rCorner) :: la12
theorem la13_ok : LibOK Go.Proofs.Try.prog la13 := .cons qLeaves_ok (.cons qCorner_ok la12_ok)
theorem qAllowed_ok : PSound Go.Proofs.Try.prog 64 (mk (rTLI alwD)) := by
  refine psound_mk Try.func64 (by kernel_rfl) rfl (ctx la13_ok) ?_
  (intro ds p d h; unfold rTLI at h; split at h <;> first | (cases h; done) | skip; cases h; refine ⟨Nat.le_of_ble_eq_true rfl, fun hp k hk => ?_⟩)
  rename_i d n g i
  obtain ⟨ht, hok, hg, hb, hi⟩ := hp
  have hf := at_fits ht
  refine ⟨[(atOf d).D, .rsl 6 n (imD (im g)), .int .i64 i], at_imp ht ⟨rfl, hg, rfl, ?_⟩⟩
  clear ht hg
  generalize atOf d = t at *
  generalize im g = a at *
  have E : alwB (weighS t n a) i.toNat = (!lvB t (imp (weighS t n a) i.toNat 0) (imp (weighS t n a) i.toNat 1) (imp (weighS t n a) i.toNat 2) (imp (weighS t n a) i.toNat 3) 0 && (!lvB t (imp (weighS t n a) i.toNat 0) (imp (weighS t n a) i.toNat 1) (imp (weighS t n a) i.toNat 2) (imp (weighS t n a) i.toNat 3) 1 && (!lvB t (imp (weighS t n a) i.toNat 0) (imp (weighS t n a) i.toNat 1) (imp (weighS t n a) i.toNat 2) (imp (weighS t n a) i.toNat 3) 2 && !lvB t (imp (weighS t n a) i.toNat 0) (imp (weighS t n a) i.toNat 1) (imp (weighS t n a) i.toNat 2) (imp (weighS t n a) i.toNat 3) 3))) := by delta alwB sdB; rfl
  repeat' (first | ((with_reducible refine kok ?_); kernel_rfl) | ((with_reducible refine keq_mk ?_); kernel_rfl) | with_reducible rfl | ((conv => whnf); first | (with_reducible exact trivial) | ((with_reducible refine and_ff ?_ ?_); · exact rfl) | ((with_reducible refine and_tt ?_ ?_); · exact rfl) | (with_reducible refine And.intro ?_ ?_) | intro _ | (with_reducible refine fin2 hk ?_) | ((with_reducible refine eq_leaf ?_); exact rfl) | exact trivial))
  all_goals clear hk
  all_goals first
    | exact hf.1
    | exact hf.2
    | exact hok
    | exact hb
    | exact hi.2
    | omega
    | (rw [E]; clear E; simp only [atOf_agg, im_imD] at *; simp_all)
theorem qMiss_ok : PSound Go.Proofs.Try.prog 63 (mk (rTLI missD)) := by
  refine psound_mk Try.func63 (by kernel_rfl) rfl (ctx la13_ok) ?_
  (intro ds p d h; unfold rTLI at h; split at h <;> first | (cases h; done) | skip; cases h; refine ⟨Nat.le_of_ble_eq_true rfl, fun hp k hk => ?_⟩)
  rename_i d n g i
  obtain ⟨ht, hok, hg, hb, hi⟩ := hp
  have hf := at_fits ht
  refine ⟨[(atOf d).D, .rsl 6 n (imD (im g)), .int .i64 i], at_imp ht ⟨rfl, hg, rfl, ?_⟩⟩
  clear ht hg
  generalize atOf d = t at *
  generalize im g = a at *
  have I := imp_in (weighS_ok hok hb) (i := i.toNat) (by show i.toNat < t.ns; omega)
  repeat' (first | ((with_reducible refine kok ?_); kernel_rfl) | ((with_reducible refine keq_mk ?_); kernel_rfl) | with_reducible rfl | ((conv => whnf); first | (with_reducible exact trivial) | ((with_reducible refine and_ff ?_ ?_); · exact rfl) | ((with_reducible refine and_tt ?_ ?_); · exact rfl) | (with_reducible refine And.intro ?_ ?_) | intro _ | (with_reducible refine fin2 hk ?_) | ((with_reducible refine eq_leaf ?_); exact rfl) | exact trivial))
  all_goals clear hk
  all_goals first
    | exact hf.1
    | exact hf.2
    | exact hok
    | exact hb
    | omega
    | exact I.1.1.1
    | exact I.1.1.2
    | exact I.1.2.1
    | exact I.1.2.2
    | exact I.2.1.1
    | exact I.2.1.2
    | exact I.2.2.1
    | exact I.2.2.2
    | exact hi.2
    | (delta missS crn; rfl)
end Go.Proofs.Ytbakdblbknfadaa
end
section
set_option linter.unusedVariables false
set_option linter.unusedSimpArgs false
set_option maxRecDepth 100000
set_option maxHeartbeats 4000000
namespace Go.Proofs.Ytbakdblbknfadaa
open Go.V
def alwTo (s : Scn) : Nat → List Nat
  | 0 => []
  | k + 1 => if alwB s k = true then alwTo s k ++ [k] else alwTo s k
def listM (l : List Nat) (i j : Nat) : Int := ((l.getD i 0 : Nat) : Int)
theorem alwTo_len (s : Scn) : ∀ k, (alwTo s k).length ≤ k
  | 0 => Nat.le_refl 0
  | k + 1 => by
    have := alwTo_len s k
    simp only [alwTo]
    split
    · simp only [List.length_append, List.length_singleton]; omega
    · omega
theorem alw_yes {s : Scn} {k : Nat} (h : alwB s k = true) : alwTo s (k + 1) = alwTo s k ++ [k] := if_pos h
theorem alw_no {s : Scn} {k : Nat} (h : alwB s k = false) : alwTo s (k + 1) = alwTo s k := if_neg (by rw [h]; exact Bool.noConfusion)
theorem alw_len {s : Scn} {k : Nat} (h : alwB s k = true) : (alwTo s (k + 1)).length = (alwTo s k).length + 1 := by rw [alw_yes h, List.length_append]; rfl
theorem list_snoc {l : List Nat} {k i j : Nat} {d : List V.D} (hd : d = [.int .i64 (k : Nat)]) (hi : i < l.length + 1) (hj : j < 1) :
    (if i < l.length then imD (listM l) i j else d.getD ((i - l.length) * 1 + j) .top) = imD (listM (l ++ [k])) i j := by
  subst hd
  obtain rfl : j = 0 := by omega
  by_cases hlt : i < l.length
  · rw [if_pos hlt]
    unfold imD listM
    rw [List.getD_eq_getElem?_getD, List.getD_eq_getElem?_getD, List.getElem?_append_left hlt]
  · rw [if_neg hlt]
    obtain rfl : i = l.length := by omega
    have e : (l ++ [k]).getD l.length 0 = k := by simp [List.getD_eq_getElem?_getD]
    unfold imD listM
    rw [e]
    simp
def rAlwL : List V.D → Option (Prop × V.D) := fun ds => match ds with
  | [.eptr 15 e] => some (ScIs e ∧ ScOK (scT e), .rsl 1 (alwTo (scT e) (scT e).t.ns).length (imD (listM (alwTo (scT e) (scT e).t.ns))))
  | _ => none
noncomputable def la14 : Lib := (64, mk (rTLI alwD)) :: (63, mk (rTLI missD)) :: la13
theorem la14_ok : LibOK Go.Proofs.Try.prog la14 := .cons qAllowed_ok (.cons qMiss_ok la13_ok)
attribute [local irreducible] ScOK alwB
theorem aAll_ok : PSound Go.Proofs.Try.prog 71 (mk rAlwL) := by
  refine psound_mk Try.func71 (by kernel_rfl) rfl (ctx la14_ok) ?_
  (intro ds p d h; unfold rAlwL at h; split at h <;> first | (cases h; done) | skip; cases h; refine ⟨Nat.le_of_ble_eq_true rfl, fun hp k hk => ?_⟩)
  rename_i e
  obtain ⟨he, hs⟩ := hp
  refine ⟨[.eptr 15 (scT e).e], rfl, sc_imp he, ?_⟩
  clear he
  generalize scT e = s at *
  have hns := hs.am.ns
  repeat' (first | ((with_reducible refine kok ?_); kernel_rfl) | ((with_reducible refine keq_mk ?_); kernel_rfl) | with_reducible rfl | ((conv => whnf); first | (with_reducible exact trivial) | ((with_reducible refine and_ff ?_ ?_); · exact rfl) | ((with_reducible refine and_tt ?_ ?_); · exact rfl) | (with_reducible refine And.intro ?_ ?_) | intro _ | (with_reducible refine fin2 hk ?_) | ((with_reducible refine eq_leaf ?_); exact rfl) | exact trivial))
  conv => whnf
  refine ⟨Nat, fun i => [(0, .eptr 15 s.e), (2, .own 0 (alwTo s i).length), (9, .int .i64 s.t.ns), (10, .int .i64 i)], fun i => [some (.buf 3 1 (alwTo s i).length (imD (listM (alwTo s i))))],
    fun i => s.t.ns - i, fun i => i ≤ s.t.ns, [(3, 1)], 0, fun _ => ⟨?_, ?_⟩, ?_, fun i hi => ?_⟩
  · conv => lhs; whnf
  · conv => lhs; whnf
  · clear hk
    repeat' (first | ((with_reducible refine kok ?_); kernel_rfl) | ((with_reducible refine keq_mk ?_); kernel_rfl) | with_reducible rfl | ((conv => whnf); first | (with_reducible exact trivial) | ((with_reducible refine and_ff ?_ ?_); · exact rfl) | ((with_reducible refine and_tt ?_ ?_); · exact rfl) | (with_reducible refine And.intro ?_ ?_) | intro _ | (with_reducible refine fin2 hk ?_) | ((with_reducible refine eq_leaf ?_); exact rfl) | exact trivial))
    all_goals first
      | exact Nat.zero_le _
      | (exact absurd (by assumption) (Nat.not_lt_zero _))
      | rfl
  have hi : i ≤ s.t.ns := hi
  have hl := alwTo_len s i
  conv => whnf
  refine ⟨fun g1 => ?_, fun g1 => ?_⟩
  rotate_left
  · repeat' (first | ((with_reducible refine kok ?_); kernel_rfl) | ((with_reducible refine keq_mk ?_); kernel_rfl) | with_reducible rfl | ((conv => whnf); first | (with_reducible exact trivial) | ((with_reducible refine and_ff ?_ ?_); · exact rfl) | ((with_reducible refine and_tt ?_ ?_); · exact rfl) | (with_reducible refine And.intro ?_ ?_) | intro _ | (with_reducible refine fin2 hk ?_) | ((with_reducible refine eq_leaf ?_); exact rfl) | exact trivial))
    all_goals (
      have e : i = s.t.ns := by have := of_decide_eq_false g1; omega
      rw [e])
  have hlt : i < s.t.ns := by have := of_decide_eq_true g1; omega
  repeat' (first | ((with_reducible refine kok ?_); kernel_rfl) | ((with_reducible refine keq_mk ?_); kernel_rfl) | with_reducible rfl | ((conv => whnf); first | (with_reducible exact trivial) | ((with_reducible refine and_ff ?_ ?_); · exact rfl) | ((with_reducible refine and_tt ?_ ?_); · exact rfl) | (with_reducible refine And.intro ?_ ?_) | intro _ | (with_reducible refine fin2 hk ?_) | ((with_reducible refine eq_leaf ?_); exact rfl) | exact trivial))
  all_goals try exact hs
  all_goals try exact Int.ofNat_lt.2 hlt
  all_goals try (clear hk; (first | with_reducible refine (?_ : (_ : Int) ≤ _) | with_reducible refine (?_ : (_ : Int) < _)); omega)
  all_goals try (show ((alwTo s i).length + 1) * 8 ≤ 140737488355328; omega)
  · rename_i g2
    have q : alwB s i = true := g2
    clear hk
    conv => whnf
    refine ⟨i + 1, ?_⟩
    repeat' (first | ((with_reducible refine kok ?_); kernel_rfl) | ((with_reducible refine keq_mk ?_); kernel_rfl) | with_reducible rfl | ((conv => whnf); first | (with_reducible exact trivial) | ((with_reducible refine and_ff ?_ ?_); · exact rfl) | ((with_reducible refine and_tt ?_ ?_); · exact rfl) | (with_reducible refine And.intro ?_ ?_) | intro _ | (with_reducible refine fin2 hk ?_) | ((with_reducible refine eq_leaf ?_); exact rfl) | exact trivial))
    all_goals first
      | exact (alw_len q).symm
      | (rw [alw_yes q]; exact list_snoc rfl (by rw [← alw_len q]; assumption) (by assumption))
      | exact hlt
      | (simp only; omega)
  · rename_i g2
    have q : alwB s i = false := g2
    clear hk
    conv => whnf
    refine ⟨i + 1, ?_⟩
    repeat' (first | ((with_reducible refine kok ?_); kernel_rfl) | ((with_reducible refine keq_mk ?_); kernel_rfl) | with_reducible rfl | ((conv => whnf); first | (with_reducible exact trivial) | ((with_reducible refine and_ff ?_ ?_); · exact rfl) | ((with_reducible refine and_tt ?_ ?_); · exact rfl) | (with_reducible refine And.intro ?_ ?_) | intro _ | (with_reducible refine fin2 hk ?_) | ((with_reducible refine eq_leaf ?_); exact rfl) | exact trivial))
    all_goals first
      | (rw [alw_no q]; done)
      | exact hlt
      | (simp only; omega)
/-- The error of a task and bands. -/
def askE (t : ATask) (n : Nat) (a : Nat → Nat → Int) : Int := if (chkA t).2.2 ≠ 0 then (chkA t).2.2 else if (checkBands n a).2 ≠ 0 then (checkBands n a).2 else if lowB t n a = true then 4 else 0
def ifz (e x : Int) : Int := if e = 0 then x else 0
theorem ifz_ne {e x : Int} (h : ¬ e = 0) : ifz e x = 0 := if_neg h
theorem ifz_0 (x : Int) : ifz 0 x = x := rfl
theorem ask_1 {t : ATask} {n : Nat} {a : Nat → Nat → Int} (h : ¬ (chkA t).2.2 = 0) : askE t n a = (chkA t).2.2 := if_pos h
theorem ask_2 {t : ATask} {n : Nat} {a : Nat → Nat → Int} (h : (chkA t).2.2 = 0) (h2 : ¬ (checkBands n a).2 = 0) : askE t n a = (checkBands n a).2 := by simp [askE, h, h2]
theorem ask_3 {t : ATask} {n : Nat} {a : Nat → Nat → Int} (h : (chkA t).2.2 = 0) (h2 : (checkBands n a).2 = 0) (h3 : lowB t n a = true) : askE t n a = 4 := by simp [askE, h, h2, h3]
theorem ask_4 {t : ATask} {n : Nat} {a : Nat → Nat → Int} (h : (chkA t).2.2 = 0) (h2 : (checkBands n a).2 = 0) (h3 : lowB t n a = false) : askE t n a = 0 := by simp [askE, h, h2, h3]
/-- What there is if nothing is wrong. -/
theorem ask_ok {t : ATask} {n : Nat} {a : Nat → Nat → Int} (h : askE t n a = 0) : AmOK t ∧ BandsOK n a ∧ lowB t n a = false ∧ (chkA t).2.2 = 0 ∧ (checkBands n a).2 = 0 := by
  unfold askE at h
  split at h
  · exact absurd h (by assumption)
  rename_i h1
  split at h
  · exact absurd h (by assumption)
  rename_i h2
  split at h
  · exact absurd h (by decide)
  rename_i h3
  exact ⟨am_ok (Classical.not_not.1 h1), bands_ok (Classical.not_not.1 h2), by simpa using h3, Classical.not_not.1 h1, Classical.not_not.1 h2⟩
def rTL (f : ATask → Nat → (Nat → Nat → Int) → V.D) : List V.D → Option (Prop × V.D) := fun ds => match ds with
  | [d, .rsl 6 n g] => some (AtIs d ∧ IM n 6 g, f (atOf d) n (im g))
  | _ => none
noncomputable def la15 : Lib := (71, mk rAlwL) :: la14
theorem la15_ok : LibOK Go.Proofs.Try.prog la15 := .cons aAll_ok la14_ok
attribute [local irreducible] chkA checkBands lowB
theorem qAsked_ok : PSound Go.Proofs.Try.prog 61 (mk (rTL fun t n a => .int .i64 (askE t n a))) := by
  refine psound_mk Try.func61 (by kernel_rfl) rfl (ctx la15_ok) ?_
  (intro ds p d h; unfold rTL at h; split at h <;> first | (cases h; done) | skip; cases h; refine ⟨Nat.le_of_ble_eq_true rfl, fun hp k hk => ?_⟩)
  rename_i d n g
  obtain ⟨ht, hg⟩ := hp
  have hf := at_fits ht
  refine ⟨[(atOf d).D, .rsl 6 n (imD (im g))], at_imp ht ⟨rfl, hg, ?_⟩⟩
  clear ht hg
  generalize atOf d = t at *
  generalize im g = a at *
  have A1 := @ask_1 t n a
  have A2 := @ask_2 t n a
  have A3 := @ask_3 t n a
  have A4 := @ask_4 t n a
  repeat' (first | ((with_reducible refine kok ?_); kernel_rfl) | ((with_reducible refine keq_mk ?_); kernel_rfl) | with_reducible rfl | ((conv => whnf); first | (with_reducible exact trivial) | ((with_reducible refine and_ff ?_ ?_); · exact rfl) | ((with_reducible refine and_tt ?_ ?_); · exact rfl) | (with_reducible refine And.intro ?_ ?_) | intro _ | (with_reducible refine fin2 hk ?_) | ((with_reducible refine eq_leaf ?_); exact rfl) | exact trivial))
  all_goals clear hk
  all_goals try (exfalso; simp only [atOf_agg, im_imD, taskOf_agg, ↓Bool.not_eq_true', ↓Bool.not_eq_false', ↓decT, ↓decF, out_true, out_false, isin_true, isin_false, Int.toNat_natCast, Int.ofNat_lt, Nat.zero_add, Nat.add_zero, Nat.reduceAdd] at *; contradiction)
  all_goals try simp only [atOf_agg, im_imD, taskOf_agg, ↓Bool.not_eq_true', ↓Bool.not_eq_false', ↓decT, ↓decF, out_true, out_false, isin_true, isin_false, Int.toNat_natCast, Int.ofNat_lt, Nat.zero_add, Nat.add_zero, Nat.reduceAdd] at *
  all_goals (first | exact hf.1 | exact hf.2 | exact am_ok (by assumption) | exact bands_ok (by assumption) | exact (bands_ok (by assumption)).len.1 | exact (bands_ok (by assumption)).len.2 | exact (A1 (by assumption)).symm | exact (A2 (by assumption) (by assumption)).symm | exact (A3 (by assumption) (by assumption) (by assumption)).symm | exact (A4 (by assumption) (by assumption) (by assumption)).symm | (rw [A4 (by assumption) (by assumption) (by assumption)]; assumption) | (rw [A4 (by assumption) (by assumption) (by assumption), ifz_0]; done) | (rw [A4 (by assumption) (by assumption) (by assumption), ifn_0]; done) | ((first | rw [ifz_ne (by rw [A1 (by assumption)]; assumption)] | rw [ifn_ne (by rw [A1 (by assumption)]; assumption)]); done) | ((first | rw [ifz_ne (by rw [A2 (by assumption) (by assumption)]; assumption)] | rw [ifn_ne (by rw [A2 (by assumption) (by assumption)]; assumption)]); done) | ((first | rw [ifz_ne (by rw [A3 (by assumption) (by assumption) (by assumption)]; decide)] | rw [ifn_ne (by rw [A3 (by assumption) (by assumption) (by assumption)]; decide)]); done))
/-- The code's look, taken apart where it is called. -/
noncomputable def Llook : Libs := ⟨la15, [(54, inl (cxOf tab la15) Go.Proofs.Try.f54)], [], []⟩
theorem Llook_ok : LibsOK Go.Proofs.Try.prog Llook := ⟨la15_ok, asGet_cons (csound_in Try.func54 (by kernel_rfl) rfl (ctx la15_ok)) (fun g s h => by cases h), fun f r h => (by cases h), fun f r h => (by cases h)⟩
noncomputable def Lone : Libs := ⟨la15, [(73, inl (cxA tab Llook) Go.Proofs.Try.f73)], [], []⟩
theorem Lone_ok : LibsOK Go.Proofs.Try.prog Lone := ⟨la15_ok, asGet_cons (csound_in Try.func73 (by kernel_rfl) rfl (ctxA Llook_ok)) (fun g s h => by cases h), fun f r h => (by cases h), fun f r h => (by cases h)⟩
def weighT (t : ATask) (n : Nat) (a : Nat → Nat → Int) : V.D := .tup [.agg [.int .i64 (ifz (askE t n a) (weighS t n a).xl), .int .i64 (ifz (askE t n a) (weighS t n a).xh)], .agg [.int .i64 (ifz (askE t n a) (weighS t n a).yl), .int .i64 (ifz (askE t n a) (weighS t n a).yh)], .int .i64 (askE t n a)]
attribute [local irreducible] weighS
theorem aWeighT_ok : PSound Go.Proofs.Try.prog 28 (mk (rTL weighT)) := by
  refine psound_mk Try.func28 (by kernel_rfl) rfl (ctxA Llook_ok) ?_
  (intro ds p d h; unfold rTL at h; split at h <;> first | (cases h; done) | skip; cases h; refine ⟨Nat.le_of_ble_eq_true rfl, fun hp k hk => ?_⟩)
  rename_i d n g
  obtain ⟨ht, hg⟩ := hp
  have hf := at_fits ht
  refine ⟨[(atOf d).D, .rsl 6 n (imD (im g))], at_imp ht ⟨rfl, hg, ?_⟩⟩
  clear ht hg
  generalize atOf d = t at *
  generalize im g = a at *
  have A1 := @ask_1 t n a
  have A2 := @ask_2 t n a
  have A3 := @ask_3 t n a
  have A4 := @ask_4 t n a
  unfold weighT at hk
  generalize askE t n a = e at *
  repeat' (first | ((with_reducible refine kok ?_); kernel_rfl) | ((with_reducible refine keq_mk ?_); kernel_rfl) | with_reducible rfl | ((conv => whnf); first | (with_reducible exact trivial) | ((with_reducible refine and_ff ?_ ?_); · exact rfl) | ((with_reducible refine and_tt ?_ ?_); · exact rfl) | (with_reducible refine And.intro ?_ ?_) | intro _ | (with_reducible refine fin2 hk ?_) | ((with_reducible refine eq_leaf ?_); exact rfl) | exact trivial))
  all_goals clear hk
  all_goals try (exfalso; simp only [atOf_agg, im_imD, taskOf_agg, ↓Bool.not_eq_true', ↓Bool.not_eq_false', ↓decT, ↓decF, out_true, out_false, isin_true, isin_false, Int.toNat_natCast, Int.ofNat_lt, Nat.zero_add, Nat.add_zero, Nat.reduceAdd] at *; contradiction)
  all_goals try simp only [atOf_agg, im_imD, taskOf_agg, ↓Bool.not_eq_true', ↓Bool.not_eq_false', ↓decT, ↓decF, out_true, out_false, isin_true, isin_false, Int.toNat_natCast, Int.ofNat_lt, Nat.zero_add, Nat.add_zero, Nat.reduceAdd] at *
  all_goals try (first | exact hf.1 | exact hf.2 | exact am_ok (by assumption) | exact bands_ok (by assumption) | exact (bands_ok (by assumption)).len.1 | exact (bands_ok (by assumption)).len.2 | exact (A1 (by assumption)).symm | exact (A2 (by assumption) (by assumption)).symm | exact (A3 (by assumption) (by assumption) (by assumption)).symm | exact (A4 (by assumption) (by assumption) (by assumption)).symm | (rw [A4 (by assumption) (by assumption) (by assumption)]; assumption) | (rw [A4 (by assumption) (by assumption) (by assumption), ifz_0]; done) | (rw [A4 (by assumption) (by assumption) (by assumption), ifn_0]; done) | ((first | rw [ifz_ne (by rw [A1 (by assumption)]; assumption)] | rw [ifn_ne (by rw [A1 (by assumption)]; assumption)]); done) | ((first | rw [ifz_ne (by rw [A2 (by assumption) (by assumption)]; assumption)] | rw [ifn_ne (by rw [A2 (by assumption) (by assumption)]; assumption)]); done) | ((first | rw [ifz_ne (by rw [A3 (by assumption) (by assumption) (by assumption)]; decide)] | rw [ifn_ne (by rw [A3 (by assumption) (by assumption) (by assumption)]; decide)]); done))
end Go.Proofs.Ytbakdblbknfadaa
end
section
set_option linter.unusedVariables false
set_option linter.unusedSimpArgs false
set_option maxRecDepth 100000
set_option maxHeartbeats 4000000
namespace Go.Proofs.Ytbakdblbknfadaa
open Go.V
def askI (t : ATask) (n : Nat) (a : Nat → Nat → Int) (i : Int) : Int := if askE t n a ≠ 0 then askE t n a else if 0 ≤ i ∧ i ≤ (t.ns : Int) - 1 then 0 else 4
theorem askI_0 {t : ATask} {n : Nat} {a : Nat → Nat → Int} {i : Int} (h : askE t n a = 0) (hi : 0 ≤ i ∧ i ≤ (t.ns : Int) - 1) : askI t n a i = 0 := by simp [askI, h, hi]
theorem askI_4 {t : ATask} {n : Nat} {a : Nat → Nat → Int} {i : Int} (h : askE t n a = 0) (hi : ¬ (0 ≤ i ∧ i ≤ (t.ns : Int) - 1)) : askI t n a i = 4 := by simp only [askI, h]; rw [if_neg (fun q => q rfl), if_neg hi]
theorem askI_e {t : ATask} {n : Nat} {a : Nat → Nat → Int} {i : Int} (h : ¬ askE t n a = 0) : askI t n a i = askE t n a := if_pos h
theorem askI_ok {t : ATask} {n : Nat} {a : Nat → Nat → Int} {i : Int} (h : askI t n a i = 0) : askE t n a = 0 ∧ 0 ≤ i ∧ i < (t.ns : Int) := by
  by_cases q : askE t n a = 0
  · refine ⟨q, ?_⟩
    by_cases g : 0 ≤ i ∧ i ≤ (t.ns : Int) - 1
    · omega
    · rw [askI_4 q g] at h
      exact absurd h (by decide)
  · rw [askI_e q] at h
    exact absurd h q
theorem askI_1 {t : ATask} {n : Nat} {a : Nat → Nat → Int} {i : Int} (h : ¬ (chkA t).2.2 = 0) : askI t n a i = (chkA t).2.2 := by
  have e := ask_1 (n := n) (a := a) h
  rw [askI_e (by rw [e]; exact h), e]
theorem askI_2 {t : ATask} {n : Nat} {a : Nat → Nat → Int} {i : Int} (h : (chkA t).2.2 = 0) (h2 : ¬ (checkBands n a).2 = 0) : askI t n a i = (checkBands n a).2 := by
  have e := ask_2 (n := n) (a := a) h h2
  rw [askI_e (by rw [e]; exact h2), e]
theorem askI_3 {t : ATask} {n : Nat} {a : Nat → Nat → Int} {i : Int} (h : (chkA t).2.2 = 0) (h2 : (checkBands n a).2 = 0) (h3 : lowB t n a = true) : askI t n a i = 4 := by
  have e := ask_3 (n := n) (a := a) h h2 h3
  rw [askI_e (by rw [e]; decide), e]
def rTLS (f : ATask → Nat → (Nat → Nat → Int) → Int → V.D) : List V.D → Option (Prop × V.D) := fun ds => match ds with
  | [d, .rsl 6 n g, .int .i64 i] => some (AtIs d ∧ IM n 6 g, f (atOf d) n (im g) i)
  | _ => none
def impT (t : ATask) (n : Nat) (a : Nat → Nat → Int) (i : Int) : V.D := .tup [.agg [.int .i64 (ifz (askI t n a i) (imp (weighS t n a) i.toNat 0)), .int .i64 (ifz (askI t n a i) (imp (weighS t n a) i.toNat 1)), .int .i64 (ifz (askI t n a i) (imp (weighS t n a) i.toNat 2)), .int .i64 (ifz (askI t n a i) (imp (weighS t n a) i.toNat 3))], .int .i64 (askI t n a i)]
def missT (t : ATask) (n : Nat) (a : Nat → Nat → Int) (i : Int) : V.D := .tup [.int .i64 (ifz (askI t n a i) (missS (weighS t n a) i.toNat)), .int .i64 (askI t n a i)]
def ifn (e : Int) (x : Nat) : Nat := if e = 0 then x else 0
theorem ifn_ne {e : Int} {x : Nat} (h : ¬ e = 0) : ifn e x = 0 := if_neg h
theorem ifn_0 (x : Nat) : ifn 0 x = x := rfl
def alwN (t : ATask) (n : Nat) (a : Nat → Nat → Int) : Nat := ifn (askE t n a) (alwTo (weighS t n a) t.ns).length
def allowT (t : ATask) (n : Nat) (a : Nat → Nat → Int) : V.D := .tup [.rsl 1 (alwN t n a) (imD (listM (alwTo (weighS t n a) t.ns))), .int .i64 (askE t n a)]
noncomputable def la16 : Lib := (61, mk (rTL fun t n a => .int .i64 (askE t n a))) :: la15
theorem la16_ok : LibOK Go.Proofs.Try.prog la16 := .cons qAsked_ok la15_ok
theorem weighS_t (t : ATask) (n : Nat) (a : Nat → Nat → Int) : (weighS t n a).t = t := rfl
attribute [local irreducible] weighS chkA checkBands lowB ScOK askE imp missS alwB
theorem qWeighT_ok : PSound Go.Proofs.Try.prog 29 (mk (rTL weighT)) := by
  refine psound_mk Try.func29 (by kernel_rfl) rfl (ctx la16_ok) ?_
  (intro ds p d h; unfold rTL at h; split at h <;> first | (cases h; done) | skip; cases h; refine ⟨Nat.le_of_ble_eq_true rfl, fun hp k hk => ?_⟩)
  rename_i d n g
  obtain ⟨ht, hg⟩ := hp
  have hf := at_fits ht
  refine ⟨[(atOf d).D, .rsl 6 n (imD (im g))], at_imp ht ⟨rfl, hg, ?_⟩⟩
  clear ht hg
  generalize atOf d = t at *
  generalize im g = a at *
  unfold weighT at hk
  repeat' (first | ((with_reducible refine kok ?_); kernel_rfl) | ((with_reducible refine keq_mk ?_); kernel_rfl) | with_reducible rfl | ((conv => whnf); first | (with_reducible exact trivial) | ((with_reducible refine and_ff ?_ ?_); · exact rfl) | ((with_reducible refine and_tt ?_ ?_); · exact rfl) | (with_reducible refine And.intro ?_ ?_) | intro _ | (with_reducible refine fin2 hk ?_) | ((with_reducible refine eq_leaf ?_); exact rfl) | exact trivial))
  all_goals clear hk
  all_goals try (exfalso; simp only [atOf_agg, im_imD, taskOf_agg, ↓Bool.not_eq_true', ↓Bool.not_eq_false', ↓decT, ↓decF, out_true, out_false, isin_true, isin_false, Int.toNat_natCast, Int.ofNat_lt, Nat.zero_add, Nat.add_zero, Nat.reduceAdd] at *; contradiction)
  all_goals try simp only [atOf_agg, im_imD, taskOf_agg, ↓Bool.not_eq_true', ↓Bool.not_eq_false', ↓decT, ↓decF, out_true, out_false, isin_true, isin_false, Int.toNat_natCast, Int.ofNat_lt, Nat.zero_add, Nat.add_zero, Nat.reduceAdd] at *
  all_goals try (first | rfl | exact hf.1 | exact hf.2 | exact (ask_ok (by assumption)).1 | exact (ask_ok (by assumption)).2.1 | exact weighS_ok (ask_ok (by assumption)).1 (ask_ok (by assumption)).2.1 | exact (ask_ok (by assumption)).2.1.len.1 | exact (ask_ok (by assumption)).2.1.len.2 | (rw [ifz_ne (by assumption)]; done) | (rw [ifn_ne (by assumption)]; done) | (rw [show askE t n a = 0 from by assumption, ifz_0]; done) | (rw [show askE t n a = 0 from by assumption, ifn_0]; done) | assumption | exact (by assumption : askE t n a = 0).symm | exact (askI_e (by assumption)).symm | exact (askI_4 (by assumption) (by omega)).symm | exact (askI_0 (by assumption) (by omega)).symm | (rw [ifz_ne (by rw [askI_e (by assumption)]; assumption)]; done) | (rw [ifz_ne (by rw [askI_4 (by assumption) (by omega)]; decide)]; done) | (rw [askI_0 (by assumption) (by omega), ifz_0]; done))
theorem aImpactT_ok : PSound Go.Proofs.Try.prog 30 (mk (rTLS impT)) := by
  refine psound_mk Try.func30 (by kernel_rfl) rfl (ctxA Lone_ok) ?_
  (intro ds p d h; unfold rTLS at h; split at h <;> first | (cases h; done) | skip; cases h; refine ⟨Nat.le_of_ble_eq_true rfl, fun hp k hk => ?_⟩)
  rename_i d n g i
  obtain ⟨ht, hg⟩ := hp
  have hf := at_fits ht
  refine ⟨[(atOf d).D, .rsl 6 n (imD (im g)), .int .i64 i], at_imp ht ⟨rfl, hg, rfl, ?_⟩⟩
  clear ht hg
  generalize atOf d = t at *
  generalize im g = a at *
  have J1 := @askI_1 t n a i
  have J2 := @askI_2 t n a i
  have J3 := @askI_3 t n a i
  have J4 : (chkA t).2.2 = 0 → (checkBands n a).2 = 0 → lowB t n a = false → ¬ (0 ≤ i ∧ i ≤ (t.ns : Int) - 1) → askI t n a i = 4 := fun h1 h2 h3 h4 => askI_4 (ask_4 h1 h2 h3) h4
  have J5 : (chkA t).2.2 = 0 → (checkBands n a).2 = 0 → lowB t n a = false → 0 ≤ i ∧ i ≤ (t.ns : Int) - 1 → askI t n a i = 0 := fun h1 h2 h3 h4 => askI_0 (ask_4 h1 h2 h3) h4
  unfold impT at hk
  generalize askI t n a i = e at *
  repeat' (first | ((with_reducible refine kok ?_); kernel_rfl) | ((with_reducible refine keq_mk ?_); kernel_rfl) | with_reducible rfl | ((conv => whnf); first | (with_reducible exact trivial) | ((with_reducible refine and_ff ?_ ?_); · exact rfl) | ((with_reducible refine and_tt ?_ ?_); · exact rfl) | (with_reducible refine And.intro ?_ ?_) | intro _ | (with_reducible refine fin2 hk ?_) | ((with_reducible refine eq_leaf ?_); exact rfl) | exact trivial))
  all_goals clear hk
  all_goals try (exfalso; simp only [atOf_agg, im_imD, taskOf_agg, ↓Bool.not_eq_true', ↓Bool.not_eq_false', ↓decT, ↓decF, out_true, out_false, isin_true, isin_false, Int.toNat_natCast, Int.ofNat_lt, Nat.zero_add, Nat.add_zero, Nat.reduceAdd] at *; contradiction)
  all_goals try simp only [atOf_agg, im_imD, taskOf_agg, ↓Bool.not_eq_true', ↓Bool.not_eq_false', ↓decT, ↓decF, out_true, out_false, isin_true, isin_false, Int.toNat_natCast, Int.ofNat_lt, Nat.zero_add, Nat.add_zero, Nat.reduceAdd] at *
  all_goals try (simp only [id, scT_e, weighS_t] at *)
  all_goals try (first | exact hf.1 | exact hf.2 | exact am_ok (by assumption) | exact bands_ok (by assumption) | exact weighS_ok (am_ok (by assumption)) (bands_ok (by assumption)) | exact (bands_ok (by assumption)).len.1 | exact (bands_ok (by assumption)).len.2 | exact (J1 (by assumption)).symm | exact (J2 (by assumption) (by assumption)).symm | exact (J3 (by assumption) (by assumption) (by assumption)).symm | exact (J4 (by assumption) (by assumption) (by assumption) (by omega)).symm | exact (J5 (by assumption) (by assumption) (by assumption) (by omega)).symm | (rw [J5 (by assumption) (by assumption) (by assumption) (by omega)]; assumption) | (rw [J5 (by assumption) (by assumption) (by assumption) (by omega), ifz_0]; done) | (rw [ifz_ne (by rw [J1 (by assumption)]; assumption)]; done) | (rw [ifz_ne (by rw [J2 (by assumption) (by assumption)]; assumption)]; done) | (rw [ifz_ne (by rw [J3 (by assumption) (by assumption) (by assumption)]; decide)]; done) | (rw [ifz_ne (by rw [J4 (by assumption) (by assumption) (by assumption) (by omega)]; decide)]; done))
  all_goals try (have := hf.1; have := hf.2; omega)
theorem qImpactT_ok : PSound Go.Proofs.Try.prog 31 (mk (rTLS impT)) := by
  refine psound_mk Try.func31 (by kernel_rfl) rfl (ctx la16_ok) ?_
  (intro ds p d h; unfold rTLS at h; split at h <;> first | (cases h; done) | skip; cases h; refine ⟨Nat.le_of_ble_eq_true rfl, fun hp k hk => ?_⟩)
  rename_i d n g i
  obtain ⟨ht, hg⟩ := hp
  have hf := at_fits ht
  refine ⟨[(atOf d).D, .rsl 6 n (imD (im g)), .int .i64 i], at_imp ht ⟨rfl, hg, rfl, ?_⟩⟩
  clear ht hg
  generalize atOf d = t at *
  generalize im g = a at *
  unfold impT at hk
  repeat' (first | ((with_reducible refine kok ?_); kernel_rfl) | ((with_reducible refine keq_mk ?_); kernel_rfl) | with_reducible rfl | ((conv => whnf); first | (with_reducible exact trivial) | ((with_reducible refine and_ff ?_ ?_); · exact rfl) | ((with_reducible refine and_tt ?_ ?_); · exact rfl) | (with_reducible refine And.intro ?_ ?_) | intro _ | (with_reducible refine fin2 hk ?_) | ((with_reducible refine eq_leaf ?_); exact rfl) | exact trivial))
  all_goals clear hk
  all_goals try (exfalso; simp only [atOf_agg, im_imD, taskOf_agg, ↓Bool.not_eq_true', ↓Bool.not_eq_false', ↓decT, ↓decF, out_true, out_false, isin_true, isin_false, Int.toNat_natCast, Int.ofNat_lt, Nat.zero_add, Nat.add_zero, Nat.reduceAdd] at *; contradiction)
  all_goals try simp only [atOf_agg, im_imD, taskOf_agg, ↓Bool.not_eq_true', ↓Bool.not_eq_false', ↓decT, ↓decF, out_true, out_false, isin_true, isin_false, Int.toNat_natCast, Int.ofNat_lt, Nat.zero_add, Nat.add_zero, Nat.reduceAdd] at *
  all_goals try (first | rfl | exact hf.1 | exact hf.2 | exact (ask_ok (by assumption)).1 | exact (ask_ok (by assumption)).2.1 | exact weighS_ok (ask_ok (by assumption)).1 (ask_ok (by assumption)).2.1 | exact (ask_ok (by assumption)).2.1.len.1 | exact (ask_ok (by assumption)).2.1.len.2 | (rw [ifz_ne (by assumption)]; done) | (rw [ifn_ne (by assumption)]; done) | (rw [show askE t n a = 0 from by assumption, ifz_0]; done) | (rw [show askE t n a = 0 from by assumption, ifn_0]; done) | assumption | exact (by assumption : askE t n a = 0).symm | exact (askI_e (by assumption)).symm | exact (askI_4 (by assumption) (by omega)).symm | exact (askI_0 (by assumption) (by omega)).symm | (rw [ifz_ne (by rw [askI_e (by assumption)]; assumption)]; done) | (rw [ifz_ne (by rw [askI_4 (by assumption) (by omega)]; decide)]; done) | (rw [askI_0 (by assumption) (by omega), ifz_0]; done))
  all_goals try (have := hf.1; have := hf.2; omega)
theorem aMissT_ok : PSound Go.Proofs.Try.prog 32 (mk (rTLS missT)) := by
  refine psound_mk Try.func32 (by kernel_rfl) rfl (ctxA Lone_ok) ?_
  (intro ds p d h; unfold rTLS at h; split at h <;> first | (cases h; done) | skip; cases h; refine ⟨Nat.le_of_ble_eq_true rfl, fun hp k hk => ?_⟩)
  rename_i d n g i
  obtain ⟨ht, hg⟩ := hp
  have hf := at_fits ht
  refine ⟨[(atOf d).D, .rsl 6 n (imD (im g)), .int .i64 i], at_imp ht ⟨rfl, hg, rfl, ?_⟩⟩
  clear ht hg
  generalize atOf d = t at *
  generalize im g = a at *
  have J1 := @askI_1 t n a i
  have J2 := @askI_2 t n a i
  have J3 := @askI_3 t n a i
  have J4 : (chkA t).2.2 = 0 → (checkBands n a).2 = 0 → lowB t n a = false → ¬ (0 ≤ i ∧ i ≤ (t.ns : Int) - 1) → askI t n a i = 4 := fun h1 h2 h3 h4 => askI_4 (ask_4 h1 h2 h3) h4
  have J5 : (chkA t).2.2 = 0 → (checkBands n a).2 = 0 → lowB t n a = false → 0 ≤ i ∧ i ≤ (t.ns : Int) - 1 → askI t n a i = 0 := fun h1 h2 h3 h4 => askI_0 (ask_4 h1 h2 h3) h4
  unfold missT at hk
  generalize askI t n a i = e at *
  repeat' (first | ((with_reducible refine kok ?_); kernel_rfl) | ((with_reducible refine keq_mk ?_); kernel_rfl) | with_reducible rfl | ((conv => whnf); first | (with_reducible exact trivial) | ((with_reducible refine and_ff ?_ ?_); · exact rfl) | ((with_reducible refine and_tt ?_ ?_); · exact rfl) | (with_reducible refine And.intro ?_ ?_) | intro _ | (with_reducible refine fin2 hk ?_) | ((with_reducible refine eq_leaf ?_); exact rfl) | exact trivial))
  all_goals clear hk
  all_goals try (exfalso; simp only [atOf_agg, im_imD, taskOf_agg, ↓Bool.not_eq_true', ↓Bool.not_eq_false', ↓decT, ↓decF, out_true, out_false, isin_true, isin_false, Int.toNat_natCast, Int.ofNat_lt, Nat.zero_add, Nat.add_zero, Nat.reduceAdd] at *; contradiction)
  all_goals try simp only [atOf_agg, im_imD, taskOf_agg, ↓Bool.not_eq_true', ↓Bool.not_eq_false', ↓decT, ↓decF, out_true, out_false, isin_true, isin_false, Int.toNat_natCast, Int.ofNat_lt, Nat.zero_add, Nat.add_zero, Nat.reduceAdd] at *
  all_goals try (simp only [id, scT_e, weighS_t] at *)
  all_goals try (first | exact hf.1 | exact hf.2 | exact am_ok (by assumption) | exact bands_ok (by assumption) | exact weighS_ok (am_ok (by assumption)) (bands_ok (by assumption)) | exact (bands_ok (by assumption)).len.1 | exact (bands_ok (by assumption)).len.2 | exact (J1 (by assumption)).symm | exact (J2 (by assumption) (by assumption)).symm | exact (J3 (by assumption) (by assumption) (by assumption)).symm | exact (J4 (by assumption) (by assumption) (by assumption) (by omega)).symm | exact (J5 (by assumption) (by assumption) (by assumption) (by omega)).symm | (rw [J5 (by assumption) (by assumption) (by assumption) (by omega)]; assumption) | (rw [J5 (by assumption) (by assumption) (by assumption) (by omega), ifz_0]; done) | (rw [ifz_ne (by rw [J1 (by assumption)]; assumption)]; done) | (rw [ifz_ne (by rw [J2 (by assumption) (by assumption)]; assumption)]; done) | (rw [ifz_ne (by rw [J3 (by assumption) (by assumption) (by assumption)]; decide)]; done) | (rw [ifz_ne (by rw [J4 (by assumption) (by assumption) (by assumption) (by omega)]; decide)]; done))
  all_goals try (have := hf.1; have := hf.2; omega)
theorem qMissT_ok : PSound Go.Proofs.Try.prog 33 (mk (rTLS missT)) := by
  refine psound_mk Try.func33 (by kernel_rfl) rfl (ctx la16_ok) ?_
  (intro ds p d h; unfold rTLS at h; split at h <;> first | (cases h; done) | skip; cases h; refine ⟨Nat.le_of_ble_eq_true rfl, fun hp k hk => ?_⟩)
  rename_i d n g i
  obtain ⟨ht, hg⟩ := hp
  have hf := at_fits ht
  refine ⟨[(atOf d).D, .rsl 6 n (imD (im g)), .int .i64 i], at_imp ht ⟨rfl, hg, rfl, ?_⟩⟩
  clear ht hg
  generalize atOf d = t at *
  generalize im g = a at *
  unfold missT at hk
  repeat' (first | ((with_reducible refine kok ?_); kernel_rfl) | ((with_reducible refine keq_mk ?_); kernel_rfl) | with_reducible rfl | ((conv => whnf); first | (with_reducible exact trivial) | ((with_reducible refine and_ff ?_ ?_); · exact rfl) | ((with_reducible refine and_tt ?_ ?_); · exact rfl) | (with_reducible refine And.intro ?_ ?_) | intro _ | (with_reducible refine fin2 hk ?_) | ((with_reducible refine eq_leaf ?_); exact rfl) | exact trivial))
  all_goals clear hk
  all_goals try (exfalso; simp only [atOf_agg, im_imD, taskOf_agg, ↓Bool.not_eq_true', ↓Bool.not_eq_false', ↓decT, ↓decF, out_true, out_false, isin_true, isin_false, Int.toNat_natCast, Int.ofNat_lt, Nat.zero_add, Nat.add_zero, Nat.reduceAdd] at *; contradiction)
  all_goals try simp only [atOf_agg, im_imD, taskOf_agg, ↓Bool.not_eq_true', ↓Bool.not_eq_false', ↓decT, ↓decF, out_true, out_false, isin_true, isin_false, Int.toNat_natCast, Int.ofNat_lt, Nat.zero_add, Nat.add_zero, Nat.reduceAdd] at *
  all_goals try (first | rfl | exact hf.1 | exact hf.2 | exact (ask_ok (by assumption)).1 | exact (ask_ok (by assumption)).2.1 | exact weighS_ok (ask_ok (by assumption)).1 (ask_ok (by assumption)).2.1 | exact (ask_ok (by assumption)).2.1.len.1 | exact (ask_ok (by assumption)).2.1.len.2 | (rw [ifz_ne (by assumption)]; done) | (rw [ifn_ne (by assumption)]; done) | (rw [show askE t n a = 0 from by assumption, ifz_0]; done) | (rw [show askE t n a = 0 from by assumption, ifn_0]; done) | assumption | exact (by assumption : askE t n a = 0).symm | exact (askI_e (by assumption)).symm | exact (askI_4 (by assumption) (by omega)).symm | exact (askI_0 (by assumption) (by omega)).symm | (rw [ifz_ne (by rw [askI_e (by assumption)]; assumption)]; done) | (rw [ifz_ne (by rw [askI_4 (by assumption) (by omega)]; decide)]; done) | (rw [askI_0 (by assumption) (by omega), ifz_0]; done))
  all_goals try (have := hf.1; have := hf.2; omega)
end Go.Proofs.Ytbakdblbknfadaa
end
