/-
  Contracts of the recovery: what is ruled out (the code's).
-/
import Derived.Test.YtphcblofacfkaaaGreatMk
set_option linter.unusedVariables false
set_option linter.unusedSimpArgs false
set_option maxRecDepth 100000
set_option maxHeartbeats 4000000
section
namespace Go.Proofs.YtphcblofacfkaaaGreat
open Go.V
def asm (a b c d x y : Int) : Int := 1000 * asd a b c d x y
def eInt (e : Nat → V.D) : Prop := e 0 = .int .i64 (toI (e 0)) ∧ e 1 = .int .i64 (toI (e 1)) ∧ e 2 = .int .i64 (toI (e 2)) ∧ e 3 = .int .i64 (toI (e 3)) ∧ e 4 = .int .i64 (toI (e 4))
def five (a b c d f : Int) (j : Nat) : V.D := .int .i64 ([a, b, c, d, f].getD j 0)
def rCnd (f : Int → Int → Int → Int → Int → Int → Int) : List V.D → Option (Prop × V.D) := fun ds => match ds with
  | [.agg [.int .i64 x, .int .i64 y], .eptr 5 e] => some (eInt e ∧ fixB (toI (e 0)) (toI (e 1)) (toI (e 2)) (toI (e 3)) (toI (e 4)) = true ∧ spot x ∧ spot y, .int .i64 (f (toI (e 0)) (toI (e 1)) (toI (e 2)) (toI (e 3)) x y))
  | _ => none
theorem fwd_ok : PSound Go.Proofs.Tryz.prog 103 (mk (rCnd fwd)) := by
  refine psound_mk Tryz.func103 (by kernel_rfl) rfl (ctx (.nil _)) ?_
  (intro ds p d h; unfold rCnd at h; split at h <;> first | (cases h; done) | skip; cases h; refine ⟨Nat.le_of_ble_eq_true rfl, fun hp k hk => ?_⟩)
  rename_i x y g
  obtain ⟨⟨g0, g1, g2, g3, g4⟩, h1, h2, h3⟩ := hp
  generalize toI (g 0) = a at *
  generalize toI (g 1) = b at *
  generalize toI (g 2) = c at *
  generalize toI (g 3) = d at *
  generalize toI (g 4) = e at *
  refine ⟨[.agg [.int .i64 x, .int .i64 y], .eptr 5 (five a b c d e)], rfl, rfl, rfl, fun j hj => ?_, ?_⟩
  · have : j = 0 ∨ j = 1 ∨ j = 2 ∨ j = 3 ∨ j = 4 := by omega
    rcases this with rfl | rfl | rfl | rfl | rfl
    · exact g0
    · exact g1
    · exact g2
    · exact g3
    · exact g4
  clear g0 g1 g2 g3 g4
  have B := bear_in h1 h2 h3
  rw [fixB_true] at h1
  unfold spot at h2 h3
  have e1 : fwd a b c d x y = c * (x - a) + d * (y - b) := rfl
  generalize fwd a b c d x y = r at *
  subst e1
  repeat' (first | ((with_reducible refine kok ?_); kernel_rfl) | ((with_reducible refine keq_mk ?_); kernel_rfl) | with_reducible rfl | ((conv => whnf); first | (with_reducible exact trivial) | ((with_reducible refine and_ff ?_ ?_); · exact rfl) | ((with_reducible refine and_tt ?_ ?_); · exact rfl) | (with_reducible refine And.intro ?_ ?_) | intro _ | (with_reducible refine fin2 hk ?_) | ((with_reducible refine eq_leaf ?_); exact rfl) | exact trivial))
  all_goals (show _ ≤ _; simp only [five, Nat.zero_add, Nat.reduceAdd, List.getD_cons_zero, List.getD_cons_succ]; omega)
theorem aside_ok : PSound Go.Proofs.Tryz.prog 104 (mk (rCnd asm)) := by
  refine psound_mk Tryz.func104 (by kernel_rfl) rfl (ctx (.nil _)) ?_
  (intro ds p d h; unfold rCnd at h; split at h <;> first | (cases h; done) | skip; cases h; refine ⟨Nat.le_of_ble_eq_true rfl, fun hp k hk => ?_⟩)
  rename_i x y g
  obtain ⟨⟨g0, g1, g2, g3, g4⟩, h1, h2, h3⟩ := hp
  generalize toI (g 0) = a at *
  generalize toI (g 1) = b at *
  generalize toI (g 2) = c at *
  generalize toI (g 3) = d at *
  generalize toI (g 4) = e at *
  refine ⟨[.agg [.int .i64 x, .int .i64 y], .eptr 5 (five a b c d e)], rfl, rfl, rfl, fun j hj => ?_, ?_⟩
  · have : j = 0 ∨ j = 1 ∨ j = 2 ∨ j = 3 ∨ j = 4 := by omega
    rcases this with rfl | rfl | rfl | rfl | rfl
    · exact g0
    · exact g1
    · exact g2
    · exact g3
    · exact g4
  clear g0 g1 g2 g3 g4
  have B := bear_in h1 h2 h3
  rw [fixB_true] at h1
  unfold spot at h2 h3
  have e1 : asm a b c d x y = 1000 * (c * (y - b) - d * (x - a)) := rfl
  generalize asm a b c d x y = r at *
  subst e1
  repeat' (first | ((with_reducible refine kok ?_); kernel_rfl) | ((with_reducible refine keq_mk ?_); kernel_rfl) | with_reducible rfl | ((conv => whnf); first | (with_reducible exact trivial) | ((with_reducible refine and_ff ?_ ?_); · exact rfl) | ((with_reducible refine and_tt ?_ ?_); · exact rfl) | (with_reducible refine And.intro ?_ ?_) | intro _ | (with_reducible refine fin2 hk ?_) | ((with_reducible refine eq_leaf ?_); exact rfl) | exact trivial))
  all_goals (show _ ≤ _; simp only [five, Nat.zero_add, Nat.reduceAdd, List.getD_cons_zero, List.getD_cons_succ]; omega)
noncomputable def lr12 : Lib := (103, mk (rCnd fwd)) :: (104, mk (rCnd asm)) :: lr11
theorem lr12_ok : LibOK Go.Proofs.Tryz.prog lr12 := .cons fwd_ok (.cons aside_ok lr11_ok)
theorem asm_in {a b c d e x y : Int} (h : fixB a b c d e = true) (hx : spot x) (hy : spot y) : -400000000000000 ≤ asm a b c d x y ∧ asm a b c d x y ≤ 400000000000000 := by
  have := bear_in h hx hy
  unfold asm asd
  omega
noncomputable def Lruled : Libs := ⟨lr11, [(105, inl (cxOf tab lr12) Go.Proofs.Tryz.f105), (106, inl (cxOf tab lr12) Go.Proofs.Tryz.f106), (107, inl (cxOf tab lr12) Go.Proofs.Tryz.f107),
  (90, inl (cxOf tab lr11) Go.Proofs.Tryz.f90), (91, inl (cxOf tab lr11) Go.Proofs.Tryz.f91)],
  [(108, inlI (cxOf tab lr11) Go.Proofs.Tryz.f108 (codeOf Go.Proofs.Tryz.f108))], []⟩
theorem Lruled_ok : LibsOK Go.Proofs.Tryz.prog Lruled := ⟨lr11_ok,
  asGet_cons (csound_in Tryz.func105 (by kernel_rfl) rfl (ctx lr12_ok)) (asGet_cons (csound_in Tryz.func106 (by kernel_rfl) rfl (ctx lr12_ok)) (asGet_cons (csound_in Tryz.func107 (by kernel_rfl) rfl (ctx lr12_ok))
    (asGet_cons (csound_in Tryz.func90 (by kernel_rfl) rfl (ctx lr11_ok)) (asGet_cons (csound_in Tryz.func91 (by kernel_rfl) rfl (ctx lr11_ok)) (fun g s h => by cases h))))),
  asGet_cons (isound_of Tryz.func108 (by kernel_rfl) rfl (ctx lr11_ok)) (fun g s h => by cases h), fun f r h => (by cases h)⟩
def cndL : List V.D := [.fn 105 [] [.ptr 4 0], .fn 106 [] [.ptr 5 0, .ptr 2 0, .ptr 4 0], .fn 107 [] [.ptr 5 0, .ptr 2 0, .ptr 4 0]]
def cndH (a b c d e xl xh yl yh : Int) : HL := [some (.row [.int .i64 a, .int .i64 b, .int .i64 c, .int .i64 d, .int .i64 e]), some (.row [.int .i64 xl, .int .i64 xh, .int .i64 yl, .int .i64 yh]),
  some (.row [.int .i64 a, .int .i64 b, .int .i64 c, .int .i64 d, .int .i64 e]), some (.row cndL), some (.row [.fn 103 [] [.ptr 2 0]]), some (.row [.fn 104 [] [.ptr 2 0]])]
theorem brgT0 {a b c d e x y : Int} (h : 0 ≤ fwd a b c d x y) : brgB a b c d e x y 0 = true := by
  unfold brgB; rw [if_pos rfl]; exact decide_eq_true h
theorem brgF0 {a b c d e x y : Int} (h : ¬ 0 ≤ fwd a b c d x y) : brgB a b c d e x y 0 = false := by
  unfold brgB; rw [if_pos rfl]; exact decide_eq_false h
theorem brgT1 {a b c d e x y : Int} (h : asm a b c d x y ≤ e * fwd a b c d x y) : brgB a b c d e x y 1 = true := by
  unfold brgB; rw [if_neg (by decide), if_pos rfl]; exact decide_eq_true h
theorem brgF1 {a b c d e x y : Int} (h : ¬ asm a b c d x y ≤ e * fwd a b c d x y) : brgB a b c d e x y 1 = false := by
  unfold brgB; rw [if_neg (by decide), if_pos rfl]; exact decide_eq_false h
theorem brgT2 {a b c d e x y : Int} (h : 0 - asm a b c d x y ≤ e * fwd a b c d x y) : brgB a b c d e x y 2 = true := by
  unfold brgB; rw [if_neg (by decide), if_neg (by decide)]; exact decide_eq_true h
theorem brgF2 {a b c d e x y : Int} (h : ¬ 0 - asm a b c d x y ≤ e * fwd a b c d x y) : brgB a b c d e x y 2 = false := by
  unfold brgB; rw [if_neg (by decide), if_neg (by decide)]; exact decide_eq_false h
attribute [local irreducible] brgB fwd asm
theorem rRuled_ok : PSound Go.Proofs.Tryz.prog 60 (mk rRuled) := by
  refine psound_mk Tryz.func60 (by kernel_rfl) rfl (ctxA Lruled_ok) ?_
  (intro ds p d h; unfold rRuled at h; split at h <;> first | (cases h; done) | skip; cases h; refine ⟨Nat.le_of_ble_eq_true rfl, fun hp k hk => ?_⟩)
  rename_i a b c d e xl xh yl yh
  obtain ⟨h1, ⟨h2, h3⟩, h4, h5⟩ := hp
  refine ⟨[.agg [.int .i64 a, .int .i64 b, .int .i64 c, .int .i64 d, .int .i64 e], .agg [.int .i64 xl, .int .i64 xh, .int .i64 yl, .int .i64 yh]], ?_⟩
  generalize hS : ruledB a b c d e xl xh yl yh = r at *
  repeat' (first | ((with_reducible refine kok ?_); kernel_rfl) | ((with_reducible refine keq_mk ?_); kernel_rfl) | with_reducible rfl | ((conv => whnf); first | (with_reducible exact trivial) | ((with_reducible refine and_ff ?_ ?_); · exact rfl) | ((with_reducible refine and_tt ?_ ?_); · exact rfl) | (with_reducible refine And.intro ?_ ?_) | intro _ | (with_reducible refine fin2 hk ?_) | ((with_reducible refine eq_leaf ?_); exact rfl) | exact trivial))
  conv => whnf
  refine ⟨Nat, fun k => [(2, .ptr 0 0), (3, .ptr 1 0), (9, .agg cndL), (10, .int .i64 k)], fun _ => cndH a b c d e xl xh yl yh,
    fun k => 3 - k, fun k => k ≤ 3 ∧ ∀ j : Nat, j < k → someB a b c d e xl xh yl yh j = true, [], 0, fun _ => ⟨?_, ?_⟩, ?_, fun k hI => ?_⟩
  · conv => lhs; whnf
  · conv => lhs; whnf
  · repeat' (first | ((with_reducible refine kok ?_); kernel_rfl) | ((with_reducible refine keq_mk ?_); kernel_rfl) | with_reducible rfl | ((conv => whnf); first | (with_reducible exact trivial) | ((with_reducible refine and_ff ?_ ?_); · exact rfl) | ((with_reducible refine and_tt ?_ ?_); · exact rfl) | (with_reducible refine And.intro ?_ ?_) | intro _ | (with_reducible refine fin2 hk ?_) | ((with_reducible refine eq_leaf ?_); exact rfl) | exact trivial))
    · exact Nat.zero_le _
    · rename_i j hj; exact absurd hj (Nat.not_lt_zero j)
  obtain ⟨hi, hc⟩ := hI
  have hi : k ≤ 3 := hi
  have hc : ∀ j : Nat, j < k → someB a b c d e xl xh yl yh j = true := hc
  have B := fun x y hx hy => And.intro (bear_in (x := x) (y := y) h1 hx hy).2.2.2.2 (asm_in (x := x) (y := y) h1 hx hy)
  have B1 := B xl yl h2 h4
  have B2 := B xl yh h2 h5
  have B3 := B xh yl h3 h4
  have B4 := B xh yh h3 h5
  clear B
  unfold spot at h2 h3 h4 h5
  have hk3 : k = 0 ∨ k = 1 ∨ k = 2 ∨ k = 3 := by omega
  have y0 : (List.map numOf [D.int .i64 yl, D.int .i64 yh]).getD ((0 : Nat) : Int).toNat 0 = yl := rfl
  have y1 : (List.map numOf [D.int .i64 yl, D.int .i64 yh]).getD ((1 : Nat) : Int).toNat 0 = yh := rfl
  rcases hk3 with rfl | rfl | rfl | rfl
  · repeat' (first | ((with_reducible refine kok ?_); kernel_rfl) | ((with_reducible refine keq_mk ?_); kernel_rfl) | with_reducible rfl | ((conv => whnf); first | (with_reducible exact trivial) | ((with_reducible refine and_ff ?_ ?_); · exact rfl) | ((with_reducible refine and_tt ?_ ?_); · exact rfl) | (with_reducible refine And.intro ?_ ?_) | intro _ | (with_reducible refine fin2 hk ?_) | ((with_reducible refine eq_leaf ?_); exact rfl) | exact trivial))
    all_goals try omega
    rename_i r0
    conv => whnf
    refine ⟨Nat, fun i => [(0, .yld 8), (1, .ptr 7 0), (13, .agg [.int .i64 xl, .int .i64 xh]), (14, .int .i64 i)], fun _ => cndH a b c d e xl xh yl yh ++ [some (.row [.fn 105 [] [.ptr 4 0]]), some (.row [.int .i64 xl, .int .i64 xh, .int .i64 yl, .int .i64 yh]), some (.lp r0 .ready)], fun i => 2 - i, fun i => i ≤ 2 ∧ (1 ≤ i → brgB a b c d e xl yl 0 = false ∧ brgB a b c d e xl yh 0 = false) ∧ (2 ≤ i → brgB a b c d e xh yl 0 = false ∧ brgB a b c d e xh yh 0 = false), [], 0, fun _ => ⟨?_, ?_⟩, ?_, fun i hI2 => ?_⟩
    · conv => lhs; whnf
    · conv => lhs; whnf
    · repeat' (first | ((with_reducible refine kok ?_); kernel_rfl) | ((with_reducible refine keq_mk ?_); kernel_rfl) | with_reducible rfl | ((conv => whnf); first | (with_reducible exact trivial) | ((with_reducible refine and_ff ?_ ?_); · exact rfl) | ((with_reducible refine and_tt ?_ ?_); · exact rfl) | (with_reducible refine And.intro ?_ ?_) | intro _ | (with_reducible refine fin2 hk ?_) | ((with_reducible refine eq_leaf ?_); exact rfl) | exact trivial))
      all_goals omega
    obtain ⟨hi2, hx1, hx2⟩ := hI2
    have hi2 : i ≤ 2 := hi2
    have hi3 : i = 0 ∨ i = 1 ∨ i = 2 := by omega
    rcases hi3 with rfl | rfl | rfl
    · repeat' (first | ((with_reducible refine kok ?_); kernel_rfl) | ((with_reducible refine keq_mk ?_); kernel_rfl) | with_reducible rfl | ((conv => whnf); first | (with_reducible exact trivial) | ((with_reducible refine and_ff ?_ ?_); · exact rfl) | ((with_reducible refine and_tt ?_ ?_); · exact rfl) | (with_reducible refine And.intro ?_ ?_) | intro _ | (with_reducible refine fin2 hk ?_) | ((with_reducible refine eq_leaf ?_); exact rfl) | exact trivial))
      all_goals try omega
      conv => whnf
      refine ⟨Nat, fun j => [(0, .yld 8), (1, .ptr 7 0), (4, .int .i64 xl), (13, .agg [.int .i64 xl, .int .i64 xh]), (14, .int .i64 (0 : Nat)), (23, .agg [.int .i64 yl, .int .i64 yh]), (24, .int .i64 j)], fun _ => cndH a b c d e xl xh yl yh ++ [some (.row [.fn 105 [] [.ptr 4 0]]), some (.row [.int .i64 xl, .int .i64 xh, .int .i64 yl, .int .i64 yh]), some (.lp r0 .ready)], fun j => 2 - j, fun j => j ≤ 2 ∧ (1 ≤ j → brgB a b c d e xl yl 0 = false) ∧ (2 ≤ j → brgB a b c d e xl yh 0 = false), [], 0, fun _ => ⟨?_, ?_⟩, ?_, fun j hJ => ?_⟩
      · conv => lhs; whnf
      · conv => lhs; whnf
      · repeat' (first | ((with_reducible refine kok ?_); kernel_rfl) | ((with_reducible refine keq_mk ?_); kernel_rfl) | with_reducible rfl | ((conv => whnf); first | (with_reducible exact trivial) | ((with_reducible refine and_ff ?_ ?_); · exact rfl) | ((with_reducible refine and_tt ?_ ?_); · exact rfl) | (with_reducible refine And.intro ?_ ?_) | intro _ | (with_reducible refine fin2 hk ?_) | ((with_reducible refine eq_leaf ?_); exact rfl) | exact trivial))
        all_goals omega
      obtain ⟨hj2, hy1, hy2⟩ := hJ
      have hj2 : j ≤ 2 := hj2
      have hj3 : j = 0 ∨ j = 1 ∨ j = 2 := by omega
      rcases hj3 with rfl | rfl | rfl
      · repeat' (first | ((with_reducible refine kok ?_); kernel_rfl) | ((with_reducible refine keq_mk ?_); kernel_rfl) | with_reducible rfl | ((conv => whnf); first | (with_reducible exact trivial) | ((with_reducible refine and_ff ?_ ?_); · exact rfl) | ((with_reducible refine and_tt ?_ ?_); · exact rfl) | (with_reducible refine And.intro ?_ ?_) | intro _ | (with_reducible refine fin2 hk ?_) | ((with_reducible refine eq_leaf ?_); exact rfl) | exact trivial))
        all_goals try exact h1
        all_goals try omega
        all_goals try (with_reducible refine (?_ : (_ : Int) ≤ _); simp only [y0, y1, Nat.zero_add, Nat.reduceAdd, hide_int, toI_int, List.getD_cons_zero, List.getD_cons_succ]; omega)
        all_goals rename_i g
        all_goals simp only [decT, decF, y0, Nat.zero_add, Nat.reduceAdd, hide_int, toI_int, List.getD_cons_zero, List.getD_cons_succ] at g
        · have q : brgB a b c d e xl yl 0 = true := brgT0 g
          have e1 : someB a b c d e xl xh yl yh ((0 : Nat) : Int) = true := by
            show someB a b c d e xl xh yl yh 0 = true
            simp [someB, q]
          conv => whnf
          clear hk
          refine ⟨1, ?_⟩
          repeat' (first | ((with_reducible refine kok ?_); kernel_rfl) | ((with_reducible refine keq_mk ?_); kernel_rfl) | with_reducible rfl | ((conv => whnf); first | (with_reducible exact trivial) | ((with_reducible refine and_ff ?_ ?_); · exact rfl) | ((with_reducible refine and_tt ?_ ?_); · exact rfl) | (with_reducible refine And.intro ?_ ?_) | intro _ | (with_reducible refine fin2 hk ?_) | ((with_reducible refine eq_leaf ?_); exact rfl) | exact trivial))
          all_goals first | omega | (simp only; omega) | (rename_i j hj; rcases Nat.lt_or_eq_of_le (Nat.le_of_lt_succ hj) with g | g; exact hc j g; rw [g]; exact e1)
        · have q : brgB a b c d e xl yl 0 = false := brgF0 g
          conv => whnf
          clear hk
          refine ⟨1, ?_⟩
          repeat' (first | ((with_reducible refine kok ?_); kernel_rfl) | ((with_reducible refine keq_mk ?_); kernel_rfl) | with_reducible rfl | ((conv => whnf); first | (with_reducible exact trivial) | ((with_reducible refine and_ff ?_ ?_); · exact rfl) | ((with_reducible refine and_tt ?_ ?_); · exact rfl) | (with_reducible refine And.intro ?_ ?_) | intro _ | (with_reducible refine fin2 hk ?_) | ((with_reducible refine eq_leaf ?_); exact rfl) | exact trivial))
          all_goals first | omega | exact q | exact hy1 (by omega) | exact hy2 (by omega) | (simp only; omega)
      · repeat' (first | ((with_reducible refine kok ?_); kernel_rfl) | ((with_reducible refine keq_mk ?_); kernel_rfl) | with_reducible rfl | ((conv => whnf); first | (with_reducible exact trivial) | ((with_reducible refine and_ff ?_ ?_); · exact rfl) | ((with_reducible refine and_tt ?_ ?_); · exact rfl) | (with_reducible refine And.intro ?_ ?_) | intro _ | (with_reducible refine fin2 hk ?_) | ((with_reducible refine eq_leaf ?_); exact rfl) | exact trivial))
        all_goals try exact h1
        all_goals try omega
        all_goals try (with_reducible refine (?_ : (_ : Int) ≤ _); simp only [y0, y1, Nat.zero_add, Nat.reduceAdd, hide_int, toI_int, List.getD_cons_zero, List.getD_cons_succ]; omega)
        all_goals rename_i g
        all_goals simp only [decT, decF, y1, Nat.zero_add, Nat.reduceAdd, hide_int, toI_int, List.getD_cons_zero, List.getD_cons_succ] at g
        · have q : brgB a b c d e xl yh 0 = true := brgT0 g
          have e1 : someB a b c d e xl xh yl yh ((0 : Nat) : Int) = true := by
            show someB a b c d e xl xh yl yh 0 = true
            simp [someB, q]
          conv => whnf
          clear hk
          refine ⟨1, ?_⟩
          repeat' (first | ((with_reducible refine kok ?_); kernel_rfl) | ((with_reducible refine keq_mk ?_); kernel_rfl) | with_reducible rfl | ((conv => whnf); first | (with_reducible exact trivial) | ((with_reducible refine and_ff ?_ ?_); · exact rfl) | ((with_reducible refine and_tt ?_ ?_); · exact rfl) | (with_reducible refine And.intro ?_ ?_) | intro _ | (with_reducible refine fin2 hk ?_) | ((with_reducible refine eq_leaf ?_); exact rfl) | exact trivial))
          all_goals first | omega | (simp only; omega) | (rename_i j hj; rcases Nat.lt_or_eq_of_le (Nat.le_of_lt_succ hj) with g | g; exact hc j g; rw [g]; exact e1)
        · have q : brgB a b c d e xl yh 0 = false := brgF0 g
          conv => whnf
          clear hk
          refine ⟨2, ?_⟩
          repeat' (first | ((with_reducible refine kok ?_); kernel_rfl) | ((with_reducible refine keq_mk ?_); kernel_rfl) | with_reducible rfl | ((conv => whnf); first | (with_reducible exact trivial) | ((with_reducible refine and_ff ?_ ?_); · exact rfl) | ((with_reducible refine and_tt ?_ ?_); · exact rfl) | (with_reducible refine And.intro ?_ ?_) | intro _ | (with_reducible refine fin2 hk ?_) | ((with_reducible refine eq_leaf ?_); exact rfl) | exact trivial))
          all_goals first | omega | exact q | exact hy1 (by omega) | exact hy2 (by omega) | (simp only; omega)
      · repeat' (first | ((with_reducible refine kok ?_); kernel_rfl) | ((with_reducible refine keq_mk ?_); kernel_rfl) | with_reducible rfl | ((conv => whnf); first | (with_reducible exact trivial) | ((with_reducible refine and_ff ?_ ?_); · exact rfl) | ((with_reducible refine and_tt ?_ ?_); · exact rfl) | (with_reducible refine And.intro ?_ ?_) | intro _ | (with_reducible refine fin2 hk ?_) | ((with_reducible refine eq_leaf ?_); exact rfl) | exact trivial))
        all_goals try omega
        conv => whnf
        clear hk
        refine ⟨1, ?_⟩
        repeat' (first | ((with_reducible refine kok ?_); kernel_rfl) | ((with_reducible refine keq_mk ?_); kernel_rfl) | with_reducible rfl | ((conv => whnf); first | (with_reducible exact trivial) | ((with_reducible refine and_ff ?_ ?_); · exact rfl) | ((with_reducible refine and_tt ?_ ?_); · exact rfl) | (with_reducible refine And.intro ?_ ?_) | intro _ | (with_reducible refine fin2 hk ?_) | ((with_reducible refine eq_leaf ?_); exact rfl) | exact trivial))
        all_goals first | omega | exact hy1 (by omega) | exact hy2 (by omega) | exact (hx1 (by omega)).1 | exact (hx1 (by omega)).2 | (simp only; omega)
    · repeat' (first | ((with_reducible refine kok ?_); kernel_rfl) | ((with_reducible refine keq_mk ?_); kernel_rfl) | with_reducible rfl | ((conv => whnf); first | (with_reducible exact trivial) | ((with_reducible refine and_ff ?_ ?_); · exact rfl) | ((with_reducible refine and_tt ?_ ?_); · exact rfl) | (with_reducible refine And.intro ?_ ?_) | intro _ | (with_reducible refine fin2 hk ?_) | ((with_reducible refine eq_leaf ?_); exact rfl) | exact trivial))
      all_goals try omega
      conv => whnf
      refine ⟨Nat, fun j => [(0, .yld 8), (1, .ptr 7 0), (4, .int .i64 xh), (13, .agg [.int .i64 xl, .int .i64 xh]), (14, .int .i64 (1 : Nat)), (23, .agg [.int .i64 yl, .int .i64 yh]), (24, .int .i64 j)], fun _ => cndH a b c d e xl xh yl yh ++ [some (.row [.fn 105 [] [.ptr 4 0]]), some (.row [.int .i64 xl, .int .i64 xh, .int .i64 yl, .int .i64 yh]), some (.lp r0 .ready)], fun j => 2 - j, fun j => j ≤ 2 ∧ (1 ≤ j → brgB a b c d e xh yl 0 = false) ∧ (2 ≤ j → brgB a b c d e xh yh 0 = false), [], 0, fun _ => ⟨?_, ?_⟩, ?_, fun j hJ => ?_⟩
      · conv => lhs; whnf
      · conv => lhs; whnf
      · repeat' (first | ((with_reducible refine kok ?_); kernel_rfl) | ((with_reducible refine keq_mk ?_); kernel_rfl) | with_reducible rfl | ((conv => whnf); first | (with_reducible exact trivial) | ((with_reducible refine and_ff ?_ ?_); · exact rfl) | ((with_reducible refine and_tt ?_ ?_); · exact rfl) | (with_reducible refine And.intro ?_ ?_) | intro _ | (with_reducible refine fin2 hk ?_) | ((with_reducible refine eq_leaf ?_); exact rfl) | exact trivial))
        all_goals omega
      obtain ⟨hj2, hy1, hy2⟩ := hJ
      have hj2 : j ≤ 2 := hj2
      have hj3 : j = 0 ∨ j = 1 ∨ j = 2 := by omega
      rcases hj3 with rfl | rfl | rfl
      · repeat' (first | ((with_reducible refine kok ?_); kernel_rfl) | ((with_reducible refine keq_mk ?_); kernel_rfl) | with_reducible rfl | ((conv => whnf); first | (with_reducible exact trivial) | ((with_reducible refine and_ff ?_ ?_); · exact rfl) | ((with_reducible refine and_tt ?_ ?_); · exact rfl) | (with_reducible refine And.intro ?_ ?_) | intro _ | (with_reducible refine fin2 hk ?_) | ((with_reducible refine eq_leaf ?_); exact rfl) | exact trivial))
        all_goals try exact h1
        all_goals try omega
        all_goals try (with_reducible refine (?_ : (_ : Int) ≤ _); simp only [y0, y1, Nat.zero_add, Nat.reduceAdd, hide_int, toI_int, List.getD_cons_zero, List.getD_cons_succ]; omega)
        all_goals rename_i g
        all_goals simp only [decT, decF, y0, Nat.zero_add, Nat.reduceAdd, hide_int, toI_int, List.getD_cons_zero, List.getD_cons_succ] at g
        · have q : brgB a b c d e xh yl 0 = true := brgT0 g
          have e1 : someB a b c d e xl xh yl yh ((0 : Nat) : Int) = true := by
            show someB a b c d e xl xh yl yh 0 = true
            simp [someB, q]
          conv => whnf
          clear hk
          refine ⟨1, ?_⟩
          repeat' (first | ((with_reducible refine kok ?_); kernel_rfl) | ((with_reducible refine keq_mk ?_); kernel_rfl) | with_reducible rfl | ((conv => whnf); first | (with_reducible exact trivial) | ((with_reducible refine and_ff ?_ ?_); · exact rfl) | ((with_reducible refine and_tt ?_ ?_); · exact rfl) | (with_reducible refine And.intro ?_ ?_) | intro _ | (with_reducible refine fin2 hk ?_) | ((with_reducible refine eq_leaf ?_); exact rfl) | exact trivial))
          all_goals first | omega | (simp only; omega) | (rename_i j hj; rcases Nat.lt_or_eq_of_le (Nat.le_of_lt_succ hj) with g | g; exact hc j g; rw [g]; exact e1)
        · have q : brgB a b c d e xh yl 0 = false := brgF0 g
          conv => whnf
          clear hk
          refine ⟨1, ?_⟩
          repeat' (first | ((with_reducible refine kok ?_); kernel_rfl) | ((with_reducible refine keq_mk ?_); kernel_rfl) | with_reducible rfl | ((conv => whnf); first | (with_reducible exact trivial) | ((with_reducible refine and_ff ?_ ?_); · exact rfl) | ((with_reducible refine and_tt ?_ ?_); · exact rfl) | (with_reducible refine And.intro ?_ ?_) | intro _ | (with_reducible refine fin2 hk ?_) | ((with_reducible refine eq_leaf ?_); exact rfl) | exact trivial))
          all_goals first | omega | exact q | exact hy1 (by omega) | exact hy2 (by omega) | (simp only; omega)
      · repeat' (first | ((with_reducible refine kok ?_); kernel_rfl) | ((with_reducible refine keq_mk ?_); kernel_rfl) | with_reducible rfl | ((conv => whnf); first | (with_reducible exact trivial) | ((with_reducible refine and_ff ?_ ?_); · exact rfl) | ((with_reducible refine and_tt ?_ ?_); · exact rfl) | (with_reducible refine And.intro ?_ ?_) | intro _ | (with_reducible refine fin2 hk ?_) | ((with_reducible refine eq_leaf ?_); exact rfl) | exact trivial))
        all_goals try exact h1
        all_goals try omega
        all_goals try (with_reducible refine (?_ : (_ : Int) ≤ _); simp only [y0, y1, Nat.zero_add, Nat.reduceAdd, hide_int, toI_int, List.getD_cons_zero, List.getD_cons_succ]; omega)
        all_goals rename_i g
        all_goals simp only [decT, decF, y1, Nat.zero_add, Nat.reduceAdd, hide_int, toI_int, List.getD_cons_zero, List.getD_cons_succ] at g
        · have q : brgB a b c d e xh yh 0 = true := brgT0 g
          have e1 : someB a b c d e xl xh yl yh ((0 : Nat) : Int) = true := by
            show someB a b c d e xl xh yl yh 0 = true
            simp [someB, q]
          conv => whnf
          clear hk
          refine ⟨1, ?_⟩
          repeat' (first | ((with_reducible refine kok ?_); kernel_rfl) | ((with_reducible refine keq_mk ?_); kernel_rfl) | with_reducible rfl | ((conv => whnf); first | (with_reducible exact trivial) | ((with_reducible refine and_ff ?_ ?_); · exact rfl) | ((with_reducible refine and_tt ?_ ?_); · exact rfl) | (with_reducible refine And.intro ?_ ?_) | intro _ | (with_reducible refine fin2 hk ?_) | ((with_reducible refine eq_leaf ?_); exact rfl) | exact trivial))
          all_goals first | omega | (simp only; omega) | (rename_i j hj; rcases Nat.lt_or_eq_of_le (Nat.le_of_lt_succ hj) with g | g; exact hc j g; rw [g]; exact e1)
        · have q : brgB a b c d e xh yh 0 = false := brgF0 g
          conv => whnf
          clear hk
          refine ⟨2, ?_⟩
          repeat' (first | ((with_reducible refine kok ?_); kernel_rfl) | ((with_reducible refine keq_mk ?_); kernel_rfl) | with_reducible rfl | ((conv => whnf); first | (with_reducible exact trivial) | ((with_reducible refine and_ff ?_ ?_); · exact rfl) | ((with_reducible refine and_tt ?_ ?_); · exact rfl) | (with_reducible refine And.intro ?_ ?_) | intro _ | (with_reducible refine fin2 hk ?_) | ((with_reducible refine eq_leaf ?_); exact rfl) | exact trivial))
          all_goals first | omega | exact q | exact hy1 (by omega) | exact hy2 (by omega) | (simp only; omega)
      · repeat' (first | ((with_reducible refine kok ?_); kernel_rfl) | ((with_reducible refine keq_mk ?_); kernel_rfl) | with_reducible rfl | ((conv => whnf); first | (with_reducible exact trivial) | ((with_reducible refine and_ff ?_ ?_); · exact rfl) | ((with_reducible refine and_tt ?_ ?_); · exact rfl) | (with_reducible refine And.intro ?_ ?_) | intro _ | (with_reducible refine fin2 hk ?_) | ((with_reducible refine eq_leaf ?_); exact rfl) | exact trivial))
        all_goals try omega
        conv => whnf
        clear hk
        refine ⟨2, ?_⟩
        repeat' (first | ((with_reducible refine kok ?_); kernel_rfl) | ((with_reducible refine keq_mk ?_); kernel_rfl) | with_reducible rfl | ((conv => whnf); first | (with_reducible exact trivial) | ((with_reducible refine and_ff ?_ ?_); · exact rfl) | ((with_reducible refine and_tt ?_ ?_); · exact rfl) | (with_reducible refine And.intro ?_ ?_) | intro _ | (with_reducible refine fin2 hk ?_) | ((with_reducible refine eq_leaf ?_); exact rfl) | exact trivial))
        all_goals first | omega | exact hy1 (by omega) | exact hy2 (by omega) | exact (hx1 (by omega)).1 | exact (hx1 (by omega)).2 | (simp only; omega)
    · repeat' (first | ((with_reducible refine kok ?_); kernel_rfl) | ((with_reducible refine keq_mk ?_); kernel_rfl) | with_reducible rfl | ((conv => whnf); first | (with_reducible exact trivial) | ((with_reducible refine and_ff ?_ ?_); · exact rfl) | ((with_reducible refine and_tt ?_ ?_); · exact rfl) | (with_reducible refine And.intro ?_ ?_) | intro _ | (with_reducible refine fin2 hk ?_) | ((with_reducible refine eq_leaf ?_); exact rfl) | exact trivial))
      all_goals try omega
      rw [← hS]
      have e1 : ¬ someB a b c d e xl xh yl yh ((0 : Nat) : Int) = true := by
        show ¬ someB a b c d e xl xh yl yh 0 = true
        simp [someB, hx1 (by omega), hx2 (by omega)]
      exact (ruled_true (by omega) e1).symm
  · repeat' (first | ((with_reducible refine kok ?_); kernel_rfl) | ((with_reducible refine keq_mk ?_); kernel_rfl) | with_reducible rfl | ((conv => whnf); first | (with_reducible exact trivial) | ((with_reducible refine and_ff ?_ ?_); · exact rfl) | ((with_reducible refine and_tt ?_ ?_); · exact rfl) | (with_reducible refine And.intro ?_ ?_) | intro _ | (with_reducible refine fin2 hk ?_) | ((with_reducible refine eq_leaf ?_); exact rfl) | exact trivial))
    all_goals try omega
    rename_i r0
    conv => whnf
    refine ⟨Nat, fun i => [(0, .yld 8), (1, .ptr 7 0), (13, .agg [.int .i64 xl, .int .i64 xh]), (14, .int .i64 i)], fun _ => cndH a b c d e xl xh yl yh ++ [some (.row [.fn 106 [] [.ptr 5 0, .ptr 2 0, .ptr 4 0]]), some (.row [.int .i64 xl, .int .i64 xh, .int .i64 yl, .int .i64 yh]), some (.lp r0 .ready)], fun i => 2 - i, fun i => i ≤ 2 ∧ (1 ≤ i → brgB a b c d e xl yl 1 = false ∧ brgB a b c d e xl yh 1 = false) ∧ (2 ≤ i → brgB a b c d e xh yl 1 = false ∧ brgB a b c d e xh yh 1 = false), [], 0, fun _ => ⟨?_, ?_⟩, ?_, fun i hI2 => ?_⟩
    · conv => lhs; whnf
    · conv => lhs; whnf
    · repeat' (first | ((with_reducible refine kok ?_); kernel_rfl) | ((with_reducible refine keq_mk ?_); kernel_rfl) | with_reducible rfl | ((conv => whnf); first | (with_reducible exact trivial) | ((with_reducible refine and_ff ?_ ?_); · exact rfl) | ((with_reducible refine and_tt ?_ ?_); · exact rfl) | (with_reducible refine And.intro ?_ ?_) | intro _ | (with_reducible refine fin2 hk ?_) | ((with_reducible refine eq_leaf ?_); exact rfl) | exact trivial))
      all_goals omega
    obtain ⟨hi2, hx1, hx2⟩ := hI2
    have hi2 : i ≤ 2 := hi2
    have hi3 : i = 0 ∨ i = 1 ∨ i = 2 := by omega
    rcases hi3 with rfl | rfl | rfl
    · repeat' (first | ((with_reducible refine kok ?_); kernel_rfl) | ((with_reducible refine keq_mk ?_); kernel_rfl) | with_reducible rfl | ((conv => whnf); first | (with_reducible exact trivial) | ((with_reducible refine and_ff ?_ ?_); · exact rfl) | ((with_reducible refine and_tt ?_ ?_); · exact rfl) | (with_reducible refine And.intro ?_ ?_) | intro _ | (with_reducible refine fin2 hk ?_) | ((with_reducible refine eq_leaf ?_); exact rfl) | exact trivial))
      all_goals try omega
      conv => whnf
      refine ⟨Nat, fun j => [(0, .yld 8), (1, .ptr 7 0), (4, .int .i64 xl), (13, .agg [.int .i64 xl, .int .i64 xh]), (14, .int .i64 (0 : Nat)), (23, .agg [.int .i64 yl, .int .i64 yh]), (24, .int .i64 j)], fun _ => cndH a b c d e xl xh yl yh ++ [some (.row [.fn 106 [] [.ptr 5 0, .ptr 2 0, .ptr 4 0]]), some (.row [.int .i64 xl, .int .i64 xh, .int .i64 yl, .int .i64 yh]), some (.lp r0 .ready)], fun j => 2 - j, fun j => j ≤ 2 ∧ (1 ≤ j → brgB a b c d e xl yl 1 = false) ∧ (2 ≤ j → brgB a b c d e xl yh 1 = false), [], 0, fun _ => ⟨?_, ?_⟩, ?_, fun j hJ => ?_⟩
      · conv => lhs; whnf
      · conv => lhs; whnf
      · repeat' (first | ((with_reducible refine kok ?_); kernel_rfl) | ((with_reducible refine keq_mk ?_); kernel_rfl) | with_reducible rfl | ((conv => whnf); first | (with_reducible exact trivial) | ((with_reducible refine and_ff ?_ ?_); · exact rfl) | ((with_reducible refine and_tt ?_ ?_); · exact rfl) | (with_reducible refine And.intro ?_ ?_) | intro _ | (with_reducible refine fin2 hk ?_) | ((with_reducible refine eq_leaf ?_); exact rfl) | exact trivial))
        all_goals omega
      obtain ⟨hj2, hy1, hy2⟩ := hJ
      have hj2 : j ≤ 2 := hj2
      have hj3 : j = 0 ∨ j = 1 ∨ j = 2 := by omega
      rcases hj3 with rfl | rfl | rfl
      · repeat' (first | ((with_reducible refine kok ?_); kernel_rfl) | ((with_reducible refine keq_mk ?_); kernel_rfl) | with_reducible rfl | ((conv => whnf); first | (with_reducible exact trivial) | ((with_reducible refine and_ff ?_ ?_); · exact rfl) | ((with_reducible refine and_tt ?_ ?_); · exact rfl) | (with_reducible refine And.intro ?_ ?_) | intro _ | (with_reducible refine fin2 hk ?_) | ((with_reducible refine eq_leaf ?_); exact rfl) | exact trivial))
        all_goals try exact h1
        all_goals try omega
        all_goals try (with_reducible refine (?_ : (_ : Int) ≤ _); simp only [y0, y1, Nat.zero_add, Nat.reduceAdd, hide_int, toI_int, List.getD_cons_zero, List.getD_cons_succ]; omega)
        all_goals rename_i g
        all_goals simp only [decT, decF, y0, Nat.zero_add, Nat.reduceAdd, hide_int, toI_int, List.getD_cons_zero, List.getD_cons_succ] at g
        · have q : brgB a b c d e xl yl 1 = true := brgT1 g
          have e1 : someB a b c d e xl xh yl yh ((1 : Nat) : Int) = true := by
            show someB a b c d e xl xh yl yh 1 = true
            simp [someB, q]
          conv => whnf
          clear hk
          refine ⟨2, ?_⟩
          repeat' (first | ((with_reducible refine kok ?_); kernel_rfl) | ((with_reducible refine keq_mk ?_); kernel_rfl) | with_reducible rfl | ((conv => whnf); first | (with_reducible exact trivial) | ((with_reducible refine and_ff ?_ ?_); · exact rfl) | ((with_reducible refine and_tt ?_ ?_); · exact rfl) | (with_reducible refine And.intro ?_ ?_) | intro _ | (with_reducible refine fin2 hk ?_) | ((with_reducible refine eq_leaf ?_); exact rfl) | exact trivial))
          all_goals first | omega | (simp only; omega) | (rename_i j hj; rcases Nat.lt_or_eq_of_le (Nat.le_of_lt_succ hj) with g | g; exact hc j g; rw [g]; exact e1)
        · have q : brgB a b c d e xl yl 1 = false := brgF1 g
          conv => whnf
          clear hk
          refine ⟨1, ?_⟩
          repeat' (first | ((with_reducible refine kok ?_); kernel_rfl) | ((with_reducible refine keq_mk ?_); kernel_rfl) | with_reducible rfl | ((conv => whnf); first | (with_reducible exact trivial) | ((with_reducible refine and_ff ?_ ?_); · exact rfl) | ((with_reducible refine and_tt ?_ ?_); · exact rfl) | (with_reducible refine And.intro ?_ ?_) | intro _ | (with_reducible refine fin2 hk ?_) | ((with_reducible refine eq_leaf ?_); exact rfl) | exact trivial))
          all_goals first | omega | exact q | exact hy1 (by omega) | exact hy2 (by omega) | (simp only; omega)
      · repeat' (first | ((with_reducible refine kok ?_); kernel_rfl) | ((with_reducible refine keq_mk ?_); kernel_rfl) | with_reducible rfl | ((conv => whnf); first | (with_reducible exact trivial) | ((with_reducible refine and_ff ?_ ?_); · exact rfl) | ((with_reducible refine and_tt ?_ ?_); · exact rfl) | (with_reducible refine And.intro ?_ ?_) | intro _ | (with_reducible refine fin2 hk ?_) | ((with_reducible refine eq_leaf ?_); exact rfl) | exact trivial))
        all_goals try exact h1
        all_goals try omega
        all_goals try (with_reducible refine (?_ : (_ : Int) ≤ _); simp only [y0, y1, Nat.zero_add, Nat.reduceAdd, hide_int, toI_int, List.getD_cons_zero, List.getD_cons_succ]; omega)
        all_goals rename_i g
        all_goals simp only [decT, decF, y1, Nat.zero_add, Nat.reduceAdd, hide_int, toI_int, List.getD_cons_zero, List.getD_cons_succ] at g
        · have q : brgB a b c d e xl yh 1 = true := brgT1 g
          have e1 : someB a b c d e xl xh yl yh ((1 : Nat) : Int) = true := by
            show someB a b c d e xl xh yl yh 1 = true
            simp [someB, q]
          conv => whnf
          clear hk
          refine ⟨2, ?_⟩
          repeat' (first | ((with_reducible refine kok ?_); kernel_rfl) | ((with_reducible refine keq_mk ?_); kernel_rfl) | with_reducible rfl | ((conv => whnf); first | (with_reducible exact trivial) | ((with_reducible refine and_ff ?_ ?_); · exact rfl) | ((with_reducible refine and_tt ?_ ?_); · exact rfl) | (with_reducible refine And.intro ?_ ?_) | intro _ | (with_reducible refine fin2 hk ?_) | ((with_reducible refine eq_leaf ?_); exact rfl) | exact trivial))
          all_goals first | omega | (simp only; omega) | (rename_i j hj; rcases Nat.lt_or_eq_of_le (Nat.le_of_lt_succ hj) with g | g; exact hc j g; rw [g]; exact e1)
        · have q : brgB a b c d e xl yh 1 = false := brgF1 g
          conv => whnf
          clear hk
          refine ⟨2, ?_⟩
          repeat' (first | ((with_reducible refine kok ?_); kernel_rfl) | ((with_reducible refine keq_mk ?_); kernel_rfl) | with_reducible rfl | ((conv => whnf); first | (with_reducible exact trivial) | ((with_reducible refine and_ff ?_ ?_); · exact rfl) | ((with_reducible refine and_tt ?_ ?_); · exact rfl) | (with_reducible refine And.intro ?_ ?_) | intro _ | (with_reducible refine fin2 hk ?_) | ((with_reducible refine eq_leaf ?_); exact rfl) | exact trivial))
          all_goals first | omega | exact q | exact hy1 (by omega) | exact hy2 (by omega) | (simp only; omega)
      · repeat' (first | ((with_reducible refine kok ?_); kernel_rfl) | ((with_reducible refine keq_mk ?_); kernel_rfl) | with_reducible rfl | ((conv => whnf); first | (with_reducible exact trivial) | ((with_reducible refine and_ff ?_ ?_); · exact rfl) | ((with_reducible refine and_tt ?_ ?_); · exact rfl) | (with_reducible refine And.intro ?_ ?_) | intro _ | (with_reducible refine fin2 hk ?_) | ((with_reducible refine eq_leaf ?_); exact rfl) | exact trivial))
        all_goals try omega
        conv => whnf
        clear hk
        refine ⟨1, ?_⟩
        repeat' (first | ((with_reducible refine kok ?_); kernel_rfl) | ((with_reducible refine keq_mk ?_); kernel_rfl) | with_reducible rfl | ((conv => whnf); first | (with_reducible exact trivial) | ((with_reducible refine and_ff ?_ ?_); · exact rfl) | ((with_reducible refine and_tt ?_ ?_); · exact rfl) | (with_reducible refine And.intro ?_ ?_) | intro _ | (with_reducible refine fin2 hk ?_) | ((with_reducible refine eq_leaf ?_); exact rfl) | exact trivial))
        all_goals first | omega | exact hy1 (by omega) | exact hy2 (by omega) | exact (hx1 (by omega)).1 | exact (hx1 (by omega)).2 | (simp only; omega)
    · repeat' (first | ((with_reducible refine kok ?_); kernel_rfl) | ((with_reducible refine keq_mk ?_); kernel_rfl) | with_reducible rfl | ((conv => whnf); first | (with_reducible exact trivial) | ((with_reducible refine and_ff ?_ ?_); · exact rfl) | ((with_reducible refine and_tt ?_ ?_); · exact rfl) | (with_reducible refine And.intro ?_ ?_) | intro _ | (with_reducible refine fin2 hk ?_) | ((with_reducible refine eq_leaf ?_); exact rfl) | exact trivial))
      all_goals try omega
      conv => whnf
      refine ⟨Nat, fun j => [(0, .yld 8), (1, .ptr 7 0), (4, .int .i64 xh), (13, .agg [.int .i64 xl, .int .i64 xh]), (14, .int .i64 (1 : Nat)), (23, .agg [.int .i64 yl, .int .i64 yh]), (24, .int .i64 j)], fun _ => cndH a b c d e xl xh yl yh ++ [some (.row [.fn 106 [] [.ptr 5 0, .ptr 2 0, .ptr 4 0]]), some (.row [.int .i64 xl, .int .i64 xh, .int .i64 yl, .int .i64 yh]), some (.lp r0 .ready)], fun j => 2 - j, fun j => j ≤ 2 ∧ (1 ≤ j → brgB a b c d e xh yl 1 = false) ∧ (2 ≤ j → brgB a b c d e xh yh 1 = false), [], 0, fun _ => ⟨?_, ?_⟩, ?_, fun j hJ => ?_⟩
      · conv => lhs; whnf
      · conv => lhs; whnf
      · repeat' (first | ((with_reducible refine kok ?_); kernel_rfl) | ((with_reducible refine keq_mk ?_); kernel_rfl) | with_reducible rfl | ((conv => whnf); first | (with_reducible exact trivial) | ((with_reducible refine and_ff ?_ ?_); · exact rfl) | ((with_reducible refine and_tt ?_ ?_); · exact rfl) | (with_reducible refine And.intro ?_ ?_) | intro _ | (with_reducible refine fin2 hk ?_) | ((with_reducible refine eq_leaf ?_); exact rfl) | exact trivial))
        all_goals omega
      obtain ⟨hj2, hy1, hy2⟩ := hJ
      have hj2 : j ≤ 2 := hj2
      have hj3 : j = 0 ∨ j = 1 ∨ j = 2 := by omega
      rcases hj3 with rfl | rfl | rfl
      · repeat' (first | ((with_reducible refine kok ?_); kernel_rfl) | ((with_reducible refine keq_mk ?_); kernel_rfl) | with_reducible rfl | ((conv => whnf); first | (with_reducible exact trivial) | ((with_reducible refine and_ff ?_ ?_); · exact rfl) | ((with_reducible refine and_tt ?_ ?_); · exact rfl) | (with_reducible refine And.intro ?_ ?_) | intro _ | (with_reducible refine fin2 hk ?_) | ((with_reducible refine eq_leaf ?_); exact rfl) | exact trivial))
        all_goals try exact h1
        all_goals try omega
        all_goals try (with_reducible refine (?_ : (_ : Int) ≤ _); simp only [y0, y1, Nat.zero_add, Nat.reduceAdd, hide_int, toI_int, List.getD_cons_zero, List.getD_cons_succ]; omega)
        all_goals rename_i g
        all_goals simp only [decT, decF, y0, Nat.zero_add, Nat.reduceAdd, hide_int, toI_int, List.getD_cons_zero, List.getD_cons_succ] at g
        · have q : brgB a b c d e xh yl 1 = true := brgT1 g
          have e1 : someB a b c d e xl xh yl yh ((1 : Nat) : Int) = true := by
            show someB a b c d e xl xh yl yh 1 = true
            simp [someB, q]
          conv => whnf
          clear hk
          refine ⟨2, ?_⟩
          repeat' (first | ((with_reducible refine kok ?_); kernel_rfl) | ((with_reducible refine keq_mk ?_); kernel_rfl) | with_reducible rfl | ((conv => whnf); first | (with_reducible exact trivial) | ((with_reducible refine and_ff ?_ ?_); · exact rfl) | ((with_reducible refine and_tt ?_ ?_); · exact rfl) | (with_reducible refine And.intro ?_ ?_) | intro _ | (with_reducible refine fin2 hk ?_) | ((with_reducible refine eq_leaf ?_); exact rfl) | exact trivial))
          all_goals first | omega | (simp only; omega) | (rename_i j hj; rcases Nat.lt_or_eq_of_le (Nat.le_of_lt_succ hj) with g | g; exact hc j g; rw [g]; exact e1)
        · have q : brgB a b c d e xh yl 1 = false := brgF1 g
          conv => whnf
          clear hk
          refine ⟨1, ?_⟩
          repeat' (first | ((with_reducible refine kok ?_); kernel_rfl) | ((with_reducible refine keq_mk ?_); kernel_rfl) | with_reducible rfl | ((conv => whnf); first | (with_reducible exact trivial) | ((with_reducible refine and_ff ?_ ?_); · exact rfl) | ((with_reducible refine and_tt ?_ ?_); · exact rfl) | (with_reducible refine And.intro ?_ ?_) | intro _ | (with_reducible refine fin2 hk ?_) | ((with_reducible refine eq_leaf ?_); exact rfl) | exact trivial))
          all_goals first | omega | exact q | exact hy1 (by omega) | exact hy2 (by omega) | (simp only; omega)
      · repeat' (first | ((with_reducible refine kok ?_); kernel_rfl) | ((with_reducible refine keq_mk ?_); kernel_rfl) | with_reducible rfl | ((conv => whnf); first | (with_reducible exact trivial) | ((with_reducible refine and_ff ?_ ?_); · exact rfl) | ((with_reducible refine and_tt ?_ ?_); · exact rfl) | (with_reducible refine And.intro ?_ ?_) | intro _ | (with_reducible refine fin2 hk ?_) | ((with_reducible refine eq_leaf ?_); exact rfl) | exact trivial))
        all_goals try exact h1
        all_goals try omega
        all_goals try (with_reducible refine (?_ : (_ : Int) ≤ _); simp only [y0, y1, Nat.zero_add, Nat.reduceAdd, hide_int, toI_int, List.getD_cons_zero, List.getD_cons_succ]; omega)
        all_goals rename_i g
        all_goals simp only [decT, decF, y1, Nat.zero_add, Nat.reduceAdd, hide_int, toI_int, List.getD_cons_zero, List.getD_cons_succ] at g
        · have q : brgB a b c d e xh yh 1 = true := brgT1 g
          have e1 : someB a b c d e xl xh yl yh ((1 : Nat) : Int) = true := by
            show someB a b c d e xl xh yl yh 1 = true
            simp [someB, q]
          conv => whnf
          clear hk
          refine ⟨2, ?_⟩
          repeat' (first | ((with_reducible refine kok ?_); kernel_rfl) | ((with_reducible refine keq_mk ?_); kernel_rfl) | with_reducible rfl | ((conv => whnf); first | (with_reducible exact trivial) | ((with_reducible refine and_ff ?_ ?_); · exact rfl) | ((with_reducible refine and_tt ?_ ?_); · exact rfl) | (with_reducible refine And.intro ?_ ?_) | intro _ | (with_reducible refine fin2 hk ?_) | ((with_reducible refine eq_leaf ?_); exact rfl) | exact trivial))
          all_goals first | omega | (simp only; omega) | (rename_i j hj; rcases Nat.lt_or_eq_of_le (Nat.le_of_lt_succ hj) with g | g; exact hc j g; rw [g]; exact e1)
        · have q : brgB a b c d e xh yh 1 = false := brgF1 g
          conv => whnf
          clear hk
          refine ⟨2, ?_⟩
          repeat' (first | ((with_reducible refine kok ?_); kernel_rfl) | ((with_reducible refine keq_mk ?_); kernel_rfl) | with_reducible rfl | ((conv => whnf); first | (with_reducible exact trivial) | ((with_reducible refine and_ff ?_ ?_); · exact rfl) | ((with_reducible refine and_tt ?_ ?_); · exact rfl) | (with_reducible refine And.intro ?_ ?_) | intro _ | (with_reducible refine fin2 hk ?_) | ((with_reducible refine eq_leaf ?_); exact rfl) | exact trivial))
          all_goals first | omega | exact q | exact hy1 (by omega) | exact hy2 (by omega) | (simp only; omega)
      · repeat' (first | ((with_reducible refine kok ?_); kernel_rfl) | ((with_reducible refine keq_mk ?_); kernel_rfl) | with_reducible rfl | ((conv => whnf); first | (with_reducible exact trivial) | ((with_reducible refine and_ff ?_ ?_); · exact rfl) | ((with_reducible refine and_tt ?_ ?_); · exact rfl) | (with_reducible refine And.intro ?_ ?_) | intro _ | (with_reducible refine fin2 hk ?_) | ((with_reducible refine eq_leaf ?_); exact rfl) | exact trivial))
        all_goals try omega
        conv => whnf
        clear hk
        refine ⟨2, ?_⟩
        repeat' (first | ((with_reducible refine kok ?_); kernel_rfl) | ((with_reducible refine keq_mk ?_); kernel_rfl) | with_reducible rfl | ((conv => whnf); first | (with_reducible exact trivial) | ((with_reducible refine and_ff ?_ ?_); · exact rfl) | ((with_reducible refine and_tt ?_ ?_); · exact rfl) | (with_reducible refine And.intro ?_ ?_) | intro _ | (with_reducible refine fin2 hk ?_) | ((with_reducible refine eq_leaf ?_); exact rfl) | exact trivial))
        all_goals first | omega | exact hy1 (by omega) | exact hy2 (by omega) | exact (hx1 (by omega)).1 | exact (hx1 (by omega)).2 | (simp only; omega)
    · repeat' (first | ((with_reducible refine kok ?_); kernel_rfl) | ((with_reducible refine keq_mk ?_); kernel_rfl) | with_reducible rfl | ((conv => whnf); first | (with_reducible exact trivial) | ((with_reducible refine and_ff ?_ ?_); · exact rfl) | ((with_reducible refine and_tt ?_ ?_); · exact rfl) | (with_reducible refine And.intro ?_ ?_) | intro _ | (with_reducible refine fin2 hk ?_) | ((with_reducible refine eq_leaf ?_); exact rfl) | exact trivial))
      all_goals try omega
      rw [← hS]
      have e1 : ¬ someB a b c d e xl xh yl yh ((1 : Nat) : Int) = true := by
        show ¬ someB a b c d e xl xh yl yh 1 = true
        simp [someB, hx1 (by omega), hx2 (by omega)]
      exact (ruled_true (by omega) e1).symm
  · repeat' (first | ((with_reducible refine kok ?_); kernel_rfl) | ((with_reducible refine keq_mk ?_); kernel_rfl) | with_reducible rfl | ((conv => whnf); first | (with_reducible exact trivial) | ((with_reducible refine and_ff ?_ ?_); · exact rfl) | ((with_reducible refine and_tt ?_ ?_); · exact rfl) | (with_reducible refine And.intro ?_ ?_) | intro _ | (with_reducible refine fin2 hk ?_) | ((with_reducible refine eq_leaf ?_); exact rfl) | exact trivial))
    all_goals try omega
    rename_i r0
    conv => whnf
    refine ⟨Nat, fun i => [(0, .yld 8), (1, .ptr 7 0), (13, .agg [.int .i64 xl, .int .i64 xh]), (14, .int .i64 i)], fun _ => cndH a b c d e xl xh yl yh ++ [some (.row [.fn 107 [] [.ptr 5 0, .ptr 2 0, .ptr 4 0]]), some (.row [.int .i64 xl, .int .i64 xh, .int .i64 yl, .int .i64 yh]), some (.lp r0 .ready)], fun i => 2 - i, fun i => i ≤ 2 ∧ (1 ≤ i → brgB a b c d e xl yl 2 = false ∧ brgB a b c d e xl yh 2 = false) ∧ (2 ≤ i → brgB a b c d e xh yl 2 = false ∧ brgB a b c d e xh yh 2 = false), [], 0, fun _ => ⟨?_, ?_⟩, ?_, fun i hI2 => ?_⟩
    · conv => lhs; whnf
    · conv => lhs; whnf
    · repeat' (first | ((with_reducible refine kok ?_); kernel_rfl) | ((with_reducible refine keq_mk ?_); kernel_rfl) | with_reducible rfl | ((conv => whnf); first | (with_reducible exact trivial) | ((with_reducible refine and_ff ?_ ?_); · exact rfl) | ((with_reducible refine and_tt ?_ ?_); · exact rfl) | (with_reducible refine And.intro ?_ ?_) | intro _ | (with_reducible refine fin2 hk ?_) | ((with_reducible refine eq_leaf ?_); exact rfl) | exact trivial))
      all_goals omega
    obtain ⟨hi2, hx1, hx2⟩ := hI2
    have hi2 : i ≤ 2 := hi2
    have hi3 : i = 0 ∨ i = 1 ∨ i = 2 := by omega
    rcases hi3 with rfl | rfl | rfl
    · repeat' (first | ((with_reducible refine kok ?_); kernel_rfl) | ((with_reducible refine keq_mk ?_); kernel_rfl) | with_reducible rfl | ((conv => whnf); first | (with_reducible exact trivial) | ((with_reducible refine and_ff ?_ ?_); · exact rfl) | ((with_reducible refine and_tt ?_ ?_); · exact rfl) | (with_reducible refine And.intro ?_ ?_) | intro _ | (with_reducible refine fin2 hk ?_) | ((with_reducible refine eq_leaf ?_); exact rfl) | exact trivial))
      all_goals try omega
      conv => whnf
      refine ⟨Nat, fun j => [(0, .yld 8), (1, .ptr 7 0), (4, .int .i64 xl), (13, .agg [.int .i64 xl, .int .i64 xh]), (14, .int .i64 (0 : Nat)), (23, .agg [.int .i64 yl, .int .i64 yh]), (24, .int .i64 j)], fun _ => cndH a b c d e xl xh yl yh ++ [some (.row [.fn 107 [] [.ptr 5 0, .ptr 2 0, .ptr 4 0]]), some (.row [.int .i64 xl, .int .i64 xh, .int .i64 yl, .int .i64 yh]), some (.lp r0 .ready)], fun j => 2 - j, fun j => j ≤ 2 ∧ (1 ≤ j → brgB a b c d e xl yl 2 = false) ∧ (2 ≤ j → brgB a b c d e xl yh 2 = false), [], 0, fun _ => ⟨?_, ?_⟩, ?_, fun j hJ => ?_⟩
      · conv => lhs; whnf
      · conv => lhs; whnf
      · repeat' (first | ((with_reducible refine kok ?_); kernel_rfl) | ((with_reducible refine keq_mk ?_); kernel_rfl) | with_reducible rfl | ((conv => whnf); first | (with_reducible exact trivial) | ((with_reducible refine and_ff ?_ ?_); · exact rfl) | ((with_reducible refine and_tt ?_ ?_); · exact rfl) | (with_reducible refine And.intro ?_ ?_) | intro _ | (with_reducible refine fin2 hk ?_) | ((with_reducible refine eq_leaf ?_); exact rfl) | exact trivial))
        all_goals omega
      obtain ⟨hj2, hy1, hy2⟩ := hJ
      have hj2 : j ≤ 2 := hj2
      have hj3 : j = 0 ∨ j = 1 ∨ j = 2 := by omega
      rcases hj3 with rfl | rfl | rfl
      · repeat' (first | ((with_reducible refine kok ?_); kernel_rfl) | ((with_reducible refine keq_mk ?_); kernel_rfl) | with_reducible rfl | ((conv => whnf); first | (with_reducible exact trivial) | ((with_reducible refine and_ff ?_ ?_); · exact rfl) | ((with_reducible refine and_tt ?_ ?_); · exact rfl) | (with_reducible refine And.intro ?_ ?_) | intro _ | (with_reducible refine fin2 hk ?_) | ((with_reducible refine eq_leaf ?_); exact rfl) | exact trivial))
        all_goals try exact h1
        all_goals try omega
        all_goals try (with_reducible refine (?_ : (_ : Int) ≤ _); simp only [y0, y1, Nat.zero_add, Nat.reduceAdd, hide_int, toI_int, List.getD_cons_zero, List.getD_cons_succ]; omega)
        all_goals rename_i g
        all_goals simp only [decT, decF, y0, Nat.zero_add, Nat.reduceAdd, hide_int, toI_int, List.getD_cons_zero, List.getD_cons_succ] at g
        · have q : brgB a b c d e xl yl 2 = true := brgT2 g
          have e1 : someB a b c d e xl xh yl yh ((2 : Nat) : Int) = true := by
            show someB a b c d e xl xh yl yh 2 = true
            simp [someB, q]
          conv => whnf
          clear hk
          refine ⟨3, ?_⟩
          repeat' (first | ((with_reducible refine kok ?_); kernel_rfl) | ((with_reducible refine keq_mk ?_); kernel_rfl) | with_reducible rfl | ((conv => whnf); first | (with_reducible exact trivial) | ((with_reducible refine and_ff ?_ ?_); · exact rfl) | ((with_reducible refine and_tt ?_ ?_); · exact rfl) | (with_reducible refine And.intro ?_ ?_) | intro _ | (with_reducible refine fin2 hk ?_) | ((with_reducible refine eq_leaf ?_); exact rfl) | exact trivial))
          all_goals first | omega | (simp only; omega) | (rename_i j hj; rcases Nat.lt_or_eq_of_le (Nat.le_of_lt_succ hj) with g | g; exact hc j g; rw [g]; exact e1)
        · have q : brgB a b c d e xl yl 2 = false := brgF2 g
          conv => whnf
          clear hk
          refine ⟨1, ?_⟩
          repeat' (first | ((with_reducible refine kok ?_); kernel_rfl) | ((with_reducible refine keq_mk ?_); kernel_rfl) | with_reducible rfl | ((conv => whnf); first | (with_reducible exact trivial) | ((with_reducible refine and_ff ?_ ?_); · exact rfl) | ((with_reducible refine and_tt ?_ ?_); · exact rfl) | (with_reducible refine And.intro ?_ ?_) | intro _ | (with_reducible refine fin2 hk ?_) | ((with_reducible refine eq_leaf ?_); exact rfl) | exact trivial))
          all_goals first | omega | exact q | exact hy1 (by omega) | exact hy2 (by omega) | (simp only; omega)
      · repeat' (first | ((with_reducible refine kok ?_); kernel_rfl) | ((with_reducible refine keq_mk ?_); kernel_rfl) | with_reducible rfl | ((conv => whnf); first | (with_reducible exact trivial) | ((with_reducible refine and_ff ?_ ?_); · exact rfl) | ((with_reducible refine and_tt ?_ ?_); · exact rfl) | (with_reducible refine And.intro ?_ ?_) | intro _ | (with_reducible refine fin2 hk ?_) | ((with_reducible refine eq_leaf ?_); exact rfl) | exact trivial))
        all_goals try exact h1
        all_goals try omega
        all_goals try (with_reducible refine (?_ : (_ : Int) ≤ _); simp only [y0, y1, Nat.zero_add, Nat.reduceAdd, hide_int, toI_int, List.getD_cons_zero, List.getD_cons_succ]; omega)
        all_goals rename_i g
        all_goals simp only [decT, decF, y1, Nat.zero_add, Nat.reduceAdd, hide_int, toI_int, List.getD_cons_zero, List.getD_cons_succ] at g
        · have q : brgB a b c d e xl yh 2 = true := brgT2 g
          have e1 : someB a b c d e xl xh yl yh ((2 : Nat) : Int) = true := by
            show someB a b c d e xl xh yl yh 2 = true
            simp [someB, q]
          conv => whnf
          clear hk
          refine ⟨3, ?_⟩
          repeat' (first | ((with_reducible refine kok ?_); kernel_rfl) | ((with_reducible refine keq_mk ?_); kernel_rfl) | with_reducible rfl | ((conv => whnf); first | (with_reducible exact trivial) | ((with_reducible refine and_ff ?_ ?_); · exact rfl) | ((with_reducible refine and_tt ?_ ?_); · exact rfl) | (with_reducible refine And.intro ?_ ?_) | intro _ | (with_reducible refine fin2 hk ?_) | ((with_reducible refine eq_leaf ?_); exact rfl) | exact trivial))
          all_goals first | omega | (simp only; omega) | (rename_i j hj; rcases Nat.lt_or_eq_of_le (Nat.le_of_lt_succ hj) with g | g; exact hc j g; rw [g]; exact e1)
        · have q : brgB a b c d e xl yh 2 = false := brgF2 g
          conv => whnf
          clear hk
          refine ⟨2, ?_⟩
          repeat' (first | ((with_reducible refine kok ?_); kernel_rfl) | ((with_reducible refine keq_mk ?_); kernel_rfl) | with_reducible rfl | ((conv => whnf); first | (with_reducible exact trivial) | ((with_reducible refine and_ff ?_ ?_); · exact rfl) | ((with_reducible refine and_tt ?_ ?_); · exact rfl) | (with_reducible refine And.intro ?_ ?_) | intro _ | (with_reducible refine fin2 hk ?_) | ((with_reducible refine eq_leaf ?_); exact rfl) | exact trivial))
          all_goals first | omega | exact q | exact hy1 (by omega) | exact hy2 (by omega) | (simp only; omega)
      · repeat' (first | ((with_reducible refine kok ?_); kernel_rfl) | ((with_reducible refine keq_mk ?_); kernel_rfl) | with_reducible rfl | ((conv => whnf); first | (with_reducible exact trivial) | ((with_reducible refine and_ff ?_ ?_); · exact rfl) | ((with_reducible refine and_tt ?_ ?_); · exact rfl) | (with_reducible refine And.intro ?_ ?_) | intro _ | (with_reducible refine fin2 hk ?_) | ((with_reducible refine eq_leaf ?_); exact rfl) | exact trivial))
        all_goals try omega
        conv => whnf
        clear hk
        refine ⟨1, ?_⟩
        repeat' (first | ((with_reducible refine kok ?_); kernel_rfl) | ((with_reducible refine keq_mk ?_); kernel_rfl) | with_reducible rfl | ((conv => whnf); first | (with_reducible exact trivial) | ((with_reducible refine and_ff ?_ ?_); · exact rfl) | ((with_reducible refine and_tt ?_ ?_); · exact rfl) | (with_reducible refine And.intro ?_ ?_) | intro _ | (with_reducible refine fin2 hk ?_) | ((with_reducible refine eq_leaf ?_); exact rfl) | exact trivial))
        all_goals first | omega | exact hy1 (by omega) | exact hy2 (by omega) | exact (hx1 (by omega)).1 | exact (hx1 (by omega)).2 | (simp only; omega)
    · repeat' (first | ((with_reducible refine kok ?_); kernel_rfl) | ((with_reducible refine keq_mk ?_); kernel_rfl) | with_reducible rfl | ((conv => whnf); first | (with_reducible exact trivial) | ((with_reducible refine and_ff ?_ ?_); · exact rfl) | ((with_reducible refine and_tt ?_ ?_); · exact rfl) | (with_reducible refine And.intro ?_ ?_) | intro _ | (with_reducible refine fin2 hk ?_) | ((with_reducible refine eq_leaf ?_); exact rfl) | exact trivial))
      all_goals try omega
      conv => whnf
      refine ⟨Nat, fun j => [(0, .yld 8), (1, .ptr 7 0), (4, .int .i64 xh), (13, .agg [.int .i64 xl, .int .i64 xh]), (14, .int .i64 (1 : Nat)), (23, .agg [.int .i64 yl, .int .i64 yh]), (24, .int .i64 j)], fun _ => cndH a b c d e xl xh yl yh ++ [some (.row [.fn 107 [] [.ptr 5 0, .ptr 2 0, .ptr 4 0]]), some (.row [.int .i64 xl, .int .i64 xh, .int .i64 yl, .int .i64 yh]), some (.lp r0 .ready)], fun j => 2 - j, fun j => j ≤ 2 ∧ (1 ≤ j → brgB a b c d e xh yl 2 = false) ∧ (2 ≤ j → brgB a b c d e xh yh 2 = false), [], 0, fun _ => ⟨?_, ?_⟩, ?_, fun j hJ => ?_⟩
      · conv => lhs; whnf
      · conv => lhs; whnf
      · repeat' (first | ((with_reducible refine kok ?_); kernel_rfl) | ((with_reducible refine keq_mk ?_); kernel_rfl) | with_reducible rfl | ((conv => whnf); first | (with_reducible exact trivial) | ((with_reducible refine and_ff ?_ ?_); · exact rfl) | ((with_reducible refine and_tt ?_ ?_); · exact rfl) | (with_reducible refine And.intro ?_ ?_) | intro _ | (with_reducible refine fin2 hk ?_) | ((with_reducible refine eq_leaf ?_); exact rfl) | exact trivial))
        all_goals omega
      obtain ⟨hj2, hy1, hy2⟩ := hJ
      have hj2 : j ≤ 2 := hj2
      have hj3 : j = 0 ∨ j = 1 ∨ j = 2 := by omega
      rcases hj3 with rfl | rfl | rfl
      · repeat' (first | ((with_reducible refine kok ?_); kernel_rfl) | ((with_reducible refine keq_mk ?_); kernel_rfl) | with_reducible rfl | ((conv => whnf); first | (with_reducible exact trivial) | ((with_reducible refine and_ff ?_ ?_); · exact rfl) | ((with_reducible refine and_tt ?_ ?_); · exact rfl) | (with_reducible refine And.intro ?_ ?_) | intro _ | (with_reducible refine fin2 hk ?_) | ((with_reducible refine eq_leaf ?_); exact rfl) | exact trivial))
        all_goals try exact h1
        all_goals try omega
        all_goals try (with_reducible refine (?_ : (_ : Int) ≤ _); simp only [y0, y1, Nat.zero_add, Nat.reduceAdd, hide_int, toI_int, List.getD_cons_zero, List.getD_cons_succ]; omega)
        all_goals rename_i g
        all_goals simp only [decT, decF, y0, Nat.zero_add, Nat.reduceAdd, hide_int, toI_int, List.getD_cons_zero, List.getD_cons_succ] at g
        · have q : brgB a b c d e xh yl 2 = true := brgT2 g
          have e1 : someB a b c d e xl xh yl yh ((2 : Nat) : Int) = true := by
            show someB a b c d e xl xh yl yh 2 = true
            simp [someB, q]
          conv => whnf
          clear hk
          refine ⟨3, ?_⟩
          repeat' (first | ((with_reducible refine kok ?_); kernel_rfl) | ((with_reducible refine keq_mk ?_); kernel_rfl) | with_reducible rfl | ((conv => whnf); first | (with_reducible exact trivial) | ((with_reducible refine and_ff ?_ ?_); · exact rfl) | ((with_reducible refine and_tt ?_ ?_); · exact rfl) | (with_reducible refine And.intro ?_ ?_) | intro _ | (with_reducible refine fin2 hk ?_) | ((with_reducible refine eq_leaf ?_); exact rfl) | exact trivial))
          all_goals first | omega | (simp only; omega) | (rename_i j hj; rcases Nat.lt_or_eq_of_le (Nat.le_of_lt_succ hj) with g | g; exact hc j g; rw [g]; exact e1)
        · have q : brgB a b c d e xh yl 2 = false := brgF2 g
          conv => whnf
          clear hk
          refine ⟨1, ?_⟩
          repeat' (first | ((with_reducible refine kok ?_); kernel_rfl) | ((with_reducible refine keq_mk ?_); kernel_rfl) | with_reducible rfl | ((conv => whnf); first | (with_reducible exact trivial) | ((with_reducible refine and_ff ?_ ?_); · exact rfl) | ((with_reducible refine and_tt ?_ ?_); · exact rfl) | (with_reducible refine And.intro ?_ ?_) | intro _ | (with_reducible refine fin2 hk ?_) | ((with_reducible refine eq_leaf ?_); exact rfl) | exact trivial))
          all_goals first | omega | exact q | exact hy1 (by omega) | exact hy2 (by omega) | (simp only; omega)
      · repeat' (first | ((with_reducible refine kok ?_); kernel_rfl) | ((with_reducible refine keq_mk ?_); kernel_rfl) | with_reducible rfl | ((conv => whnf); first | (with_reducible exact trivial) | ((with_reducible refine and_ff ?_ ?_); · exact rfl) | ((with_reducible refine and_tt ?_ ?_); · exact rfl) | (with_reducible refine And.intro ?_ ?_) | intro _ | (with_reducible refine fin2 hk ?_) | ((with_reducible refine eq_leaf ?_); exact rfl) | exact trivial))
        all_goals try exact h1
        all_goals try omega
        all_goals try (with_reducible refine (?_ : (_ : Int) ≤ _); simp only [y0, y1, Nat.zero_add, Nat.reduceAdd, hide_int, toI_int, List.getD_cons_zero, List.getD_cons_succ]; omega)
        all_goals rename_i g
        all_goals simp only [decT, decF, y1, Nat.zero_add, Nat.reduceAdd, hide_int, toI_int, List.getD_cons_zero, List.getD_cons_succ] at g
        · have q : brgB a b c d e xh yh 2 = true := brgT2 g
          have e1 : someB a b c d e xl xh yl yh ((2 : Nat) : Int) = true := by
            show someB a b c d e xl xh yl yh 2 = true
            simp [someB, q]
          conv => whnf
          clear hk
          refine ⟨3, ?_⟩
          repeat' (first | ((with_reducible refine kok ?_); kernel_rfl) | ((with_reducible refine keq_mk ?_); kernel_rfl) | with_reducible rfl | ((conv => whnf); first | (with_reducible exact trivial) | ((with_reducible refine and_ff ?_ ?_); · exact rfl) | ((with_reducible refine and_tt ?_ ?_); · exact rfl) | (with_reducible refine And.intro ?_ ?_) | intro _ | (with_reducible refine fin2 hk ?_) | ((with_reducible refine eq_leaf ?_); exact rfl) | exact trivial))
          all_goals first | omega | (simp only; omega) | (rename_i j hj; rcases Nat.lt_or_eq_of_le (Nat.le_of_lt_succ hj) with g | g; exact hc j g; rw [g]; exact e1)
        · have q : brgB a b c d e xh yh 2 = false := brgF2 g
          conv => whnf
          clear hk
          refine ⟨2, ?_⟩
          repeat' (first | ((with_reducible refine kok ?_); kernel_rfl) | ((with_reducible refine keq_mk ?_); kernel_rfl) | with_reducible rfl | ((conv => whnf); first | (with_reducible exact trivial) | ((with_reducible refine and_ff ?_ ?_); · exact rfl) | ((with_reducible refine and_tt ?_ ?_); · exact rfl) | (with_reducible refine And.intro ?_ ?_) | intro _ | (with_reducible refine fin2 hk ?_) | ((with_reducible refine eq_leaf ?_); exact rfl) | exact trivial))
          all_goals first | omega | exact q | exact hy1 (by omega) | exact hy2 (by omega) | (simp only; omega)
      · repeat' (first | ((with_reducible refine kok ?_); kernel_rfl) | ((with_reducible refine keq_mk ?_); kernel_rfl) | with_reducible rfl | ((conv => whnf); first | (with_reducible exact trivial) | ((with_reducible refine and_ff ?_ ?_); · exact rfl) | ((with_reducible refine and_tt ?_ ?_); · exact rfl) | (with_reducible refine And.intro ?_ ?_) | intro _ | (with_reducible refine fin2 hk ?_) | ((with_reducible refine eq_leaf ?_); exact rfl) | exact trivial))
        all_goals try omega
        conv => whnf
        clear hk
        refine ⟨2, ?_⟩
        repeat' (first | ((with_reducible refine kok ?_); kernel_rfl) | ((with_reducible refine keq_mk ?_); kernel_rfl) | with_reducible rfl | ((conv => whnf); first | (with_reducible exact trivial) | ((with_reducible refine and_ff ?_ ?_); · exact rfl) | ((with_reducible refine and_tt ?_ ?_); · exact rfl) | (with_reducible refine And.intro ?_ ?_) | intro _ | (with_reducible refine fin2 hk ?_) | ((with_reducible refine eq_leaf ?_); exact rfl) | exact trivial))
        all_goals first | omega | exact hy1 (by omega) | exact hy2 (by omega) | exact (hx1 (by omega)).1 | exact (hx1 (by omega)).2 | (simp only; omega)
    · repeat' (first | ((with_reducible refine kok ?_); kernel_rfl) | ((with_reducible refine keq_mk ?_); kernel_rfl) | with_reducible rfl | ((conv => whnf); first | (with_reducible exact trivial) | ((with_reducible refine and_ff ?_ ?_); · exact rfl) | ((with_reducible refine and_tt ?_ ?_); · exact rfl) | (with_reducible refine And.intro ?_ ?_) | intro _ | (with_reducible refine fin2 hk ?_) | ((with_reducible refine eq_leaf ?_); exact rfl) | exact trivial))
      all_goals try omega
      rw [← hS]
      have e1 : ¬ someB a b c d e xl xh yl yh ((2 : Nat) : Int) = true := by
        show ¬ someB a b c d e xl xh yl yh 2 = true
        simp [someB, hx1 (by omega), hx2 (by omega)]
      exact (ruled_true (by omega) e1).symm
  · repeat' (first | ((with_reducible refine kok ?_); kernel_rfl) | ((with_reducible refine keq_mk ?_); kernel_rfl) | with_reducible rfl | ((conv => whnf); first | (with_reducible exact trivial) | ((with_reducible refine and_ff ?_ ?_); · exact rfl) | ((with_reducible refine and_tt ?_ ?_); · exact rfl) | (with_reducible refine And.intro ?_ ?_) | intro _ | (with_reducible refine fin2 hk ?_) | ((with_reducible refine eq_leaf ?_); exact rfl) | exact trivial))
    all_goals try omega
    all_goals (rw [← hS]; exact (ruled_false hc).symm)
end Go.Proofs.YtphcblofacfkaaaGreat
end
