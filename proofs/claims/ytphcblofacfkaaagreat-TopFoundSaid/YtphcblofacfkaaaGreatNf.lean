/-
  Contracts of the flight: next; states and pieces as calls in place; the panic of what goes too far.
-/
import Derived.Test.YtphcblofacfkaaaGreatNe
set_option linter.unusedVariables false
set_option linter.unusedSimpArgs false
set_option maxRecDepth 100000
set_option maxHeartbeats 4000000
section
namespace Go.Proofs.YtphcblofacfkaaaGreat
open Go.V
def rNextF : QRule := fun ds K => match ds with
  | [.eptr 13 g, .agg [.int .i64 b0, .int .i64 b1, .int .i64 b2, .int .i64 b3, .int .i64 b4, .int .i64 b5, .int .i64 b6, .int .i64 b7, .int .i64 b8, .int .i64 b9, .int .i64 b10, .int .i64 b11], .agg [.int .i64 s0, .int .i64 s1, .int .i64 s2, .int .i64 s3, .int .i64 s4, .int .i64 s5, .int .i64 s6, .int .i64 s7, .int .i64 s8, .int .i64 s9, .int .i64 s10, .int .i64 s11]] =>
    (FltIs g ∧ BodyOK (n12 b0 b1 b2 b3 b4 b5 b6 b7 b8 b9 b10 b11) ∧ StOK (n12 s0 s1 s2 s3 s4 s5 s6 s7 s8 s9 s10 s11)) ∧ ∀ a : Nat → Int, K (.ret (ax12 a))
  | _ => False
theorem n12_eta (b : Nat → Int) : ∀ i, i < 12 → n12 (b 0) (b 1) (b 2) (b 3) (b 4) (b 5) (b 6) (b 7) (b 8) (b 9) (b 10) (b 11) i = b i := fun i hi => by
  rcases lt12 hi with rfl | rfl | rfl | rfl | rfl | rfl | rfl | rfl | rfl | rfl | rfl | rfl <;> rfl
theorem body_eta {b : Nat → Int} (h : BodyOK b) : BodyOK (n12 (b 0) (b 1) (b 2) (b 3) (b 4) (b 5) (b 6) (b 7) (b 8) (b 9) (b 10) (b 11)) := body_congr h (n12_eta b)
theorem st_eta {s : Nat → Int} (h : StOK s) : StOK (n12 (s 0) (s 1) (s 2) (s 3) (s 4) (s 5) (s 6) (s 7) (s 8) (s 9) (s 10) (s 11)) := ⟨h.x, h.y, h.z, h.u, h.v, h.w⟩
theorem k_ax12 {K : Res → Prop} (hK : ∀ a : Nat → Int, K (.ret (ax12 a))) {a0 a1 a2 a3 a4 a5 a6 a7 a8 a9 a10 a11 : Int} :
    K (.ret (.agg [.int .i64 a0, .int .i64 a1, .int .i64 a2, .int .i64 a3, .int .i64 a4, .int .i64 a5, .int .i64 a6, .int .i64 a7, .int .i64 a8, .int .i64 a9, .int .i64 a10, .int .i64 a11])) := hK (n12 a0 a1 a2 a3 a4 a5 a6 a7 a8 a9 a10 a11)
noncomputable def Ltp : Libs := ⟨lt9, [(95, qC rForceF)], [], []⟩
theorem Ltp_ok : LibsOK Go.Proofs.Tryz.prog Ltp := ⟨lt9_ok, asGet_cons (csound_q fForce_ok) (fun g s h => by cases h), fun f r h => (by cases h), fun f r h => (by cases h)⟩
attribute [local irreducible] FltIs
theorem flNext_ok : QSound Go.Proofs.Tryz.prog 75 rNextF := by
  refine qsound_of Tryz.func75 (by kernel_rfl) rfl (ctxA Ltp_ok) ?_
  intro ds K h
  unfold rNextF at h
  split at h <;> first | exact h.elim | skip
  refine ⟨Nat.le_of_ble_eq_true rfl, ?_⟩
  rename_i g b0 b1 b2 b3 b4 b5 b6 b7 b8 b9 b10 b11 s0 s1 s2 s3 s4 s5 s6 s7 s8 s9 s10 s11
  obtain ⟨⟨hg, hB, hS⟩, hK⟩ := h
  refine ⟨[.eptr 13 g, ax12 (n12 b0 b1 b2 b3 b4 b5 b6 b7 b8 b9 b10 b11), ax12 (n12 s0 s1 s2 s3 s4 s5 s6 s7 s8 s9 s10 s11)], rfl, (fun _ _ => rfl), rfl, rfl, rfl, rfl, rfl, rfl, rfl, rfl, rfl, rfl, rfl, rfl, rfl, rfl, rfl, rfl, rfl, rfl, rfl, rfl, rfl, rfl, rfl, rfl, ?_⟩
  generalize n12 b0 b1 b2 b3 b4 b5 b6 b7 b8 b9 b10 b11 = b at *
  generalize n12 s0 s1 s2 s3 s4 s5 s6 s7 s8 s9 s10 s11 = s at *
  repeat' (first | ((with_reducible refine kok ?_); kernel_rfl) | ((with_reducible refine keq_mk ?_); kernel_rfl) | with_reducible rfl | ((conv => whnf); first | (with_reducible exact trivial) | ((with_reducible refine and_ff ?_ ?_); · exact rfl) | ((with_reducible refine and_tt ?_ ?_); · exact rfl) | (with_reducible refine And.intro ?_ ?_) | intro _ | (with_reducible refine fin2 hk ?_) | ((with_reducible refine eq_leaf ?_); exact rfl) | exact trivial))
  all_goals try exact hg
  all_goals try exact body_eta hB
  all_goals try exact st_eta hS
  all_goals try exact k_ax12 hK
  all_goals (
    rename_i a ha
    have a0 := ha 0 (by decide)
    have a1 := ha 1 (by decide)
    have a2 := ha 2 (by decide)
    have a3 := ha 3 (by decide)
    have a4 := ha 4 (by decide)
    have a5 := ha 5 (by decide)
    have hx := hS.x
    have hy := hS.y
    have hz := hS.z
    have hu := hS.u
    have hv := hS.v
    have hw := hS.w
    clear ha hK
    unfold btw at *
    try unfold plL
    try unfold plH
    omega)
end Go.Proofs.YtphcblofacfkaaaGreat
end
section
namespace Go.Proofs.YtphcblofacfkaaaGreat
open Go.V
def tooFarD : V.D := .iface 132 (.agg [])
noncomputable def Lst : Libs := ⟨lt9, [(47, qC rBodyF), (75, qC rNextF), (80, inl (cxOf tab lt9) Go.Proofs.Tryz.f80)], [], []⟩
theorem Lst_ok : LibsOK Go.Proofs.Tryz.prog Lst := ⟨lt9_ok, asGet_cons (csound_q fBody_ok) (asGet_cons (csound_q flNext_ok) (asGet_cons (csound_in Tryz.func80 (by kernel_rfl) rfl (ctx lt9_ok)) (fun g s h => by cases h))), fun f r h => (by cases h), fun f r h => (by cases h)⟩
noncomputable def Lup : Libs := ⟨lt9, [(46, inl (cxOf tab lt9) Go.Proofs.Tryz.f46)], [(73, inlI (cxA tab Lst) Go.Proofs.Tryz.f73 (codeOf Go.Proofs.Tryz.f73))], []⟩
theorem Lup_ok : LibsOK Go.Proofs.Tryz.prog Lup := ⟨lt9_ok, asGet_cons (csound_in Tryz.func46 (by kernel_rfl) rfl (ctx lt9_ok)) (fun g s h => by cases h), asGet_cons (isound_of Tryz.func73 (by kernel_rfl) rfl (ctxA Lst_ok)) (fun g s h => by cases h), fun f r h => (by cases h)⟩
def rUpF : QRule := fun ds K => match ds with
  | [.eptr 13 g, .int .i64 t] => (FltIs g ∧ 0 ≤ t ∧ t ≤ 3000) ∧ (∀ s : Nat → Int, StOK s → K (.ret (ax12 s))) ∧ K (.pan tooFarD)
  | _ => False
attribute [local irreducible] FltIs farB
theorem fUp_ok : QSound Go.Proofs.Tryz.prog 77 rUpF := by
  refine qsound_of Tryz.func77 (by kernel_rfl) rfl (ctxA Lup_ok) ?_
  intro ds K h
  unfold rUpF at h
  split at h <;> first | exact h.elim | skip
  refine ⟨Nat.le_of_ble_eq_true rfl, ?_⟩
  rename_i g tick
  obtain ⟨⟨hg, ht⟩, hK, hP⟩ := h
  refine ⟨[.eptr 13 g, .int .i64 tick], rfl, (fun _ _ => rfl), rfl, ?_⟩
  repeat' (first | ((with_reducible refine kok ?_); kernel_rfl) | ((with_reducible refine keq_mk ?_); kernel_rfl) | with_reducible rfl | ((conv => whnf); first | (with_reducible exact trivial) | ((with_reducible refine and_ff ?_ ?_); · exact rfl) | ((with_reducible refine and_tt ?_ ?_); · exact rfl) | (with_reducible refine And.intro ?_ ?_) | intro _ | (with_reducible refine fin2 hk ?_) | ((with_reducible refine eq_leaf ?_); exact rfl) | exact trivial))
  rename_i r0
  conv => whnf
  refine ⟨Nat × (Nat → Int) × (Nat → Int), fun q => [(0, .yld 5), (1, .ptr 3 0), (2, .ptr 2 0), (3, .ptr 4 0), (5, .int .i64 q.1)],
    fun q => [some (.row [.int .i64 tick]), some (.row (row12 q.2.1)), some (.row [.eptr 13 g]), some (.row (row12 q.2.2)), some (.row [.fn 47 [.eptr 13 g] []]), some (.lp r0 .ready)],
    fun q => tick.toNat - q.1, fun q => (q.1 : Int) ≤ tick, [], (0, fun _ => 0, fun _ => 0), fun _ => ⟨?_, ?_⟩, ?_, fun q hI => ?_⟩
  · conv => lhs; whnf
  · conv => lhs; whnf
  · repeat' (first | ((with_reducible refine kok ?_); kernel_rfl) | ((with_reducible refine keq_mk ?_); kernel_rfl) | with_reducible rfl | ((conv => whnf); first | (with_reducible exact trivial) | ((with_reducible refine and_ff ?_ ?_); · exact rfl) | ((with_reducible refine and_tt ?_ ?_); · exact rfl) | (with_reducible refine And.intro ?_ ?_) | intro _ | (with_reducible refine fin2 hk ?_) | ((with_reducible refine eq_leaf ?_); exact rfl) | exact trivial))
    exact ht.1
  obtain ⟨t, l, s⟩ := q
  have hI : (t : Int) ≤ tick := hI
  repeat' (first | ((with_reducible refine kok ?_); kernel_rfl) | ((with_reducible refine keq_mk ?_); kernel_rfl) | with_reducible rfl | ((conv => whnf); first | (with_reducible exact trivial) | ((with_reducible refine and_ff ?_ ?_); · exact rfl) | ((with_reducible refine and_tt ?_ ?_); · exact rfl) | (with_reducible refine And.intro ?_ ?_) | intro _ | (with_reducible refine fin2 hk ?_) | ((with_reducible refine eq_leaf ?_); exact rfl) | exact trivial))
  all_goals try exact hP
  all_goals try exact hK s (far_false (by assumption))
  all_goals try exact hg
  all_goals try exact body_eta (by assumption)
  all_goals try exact st_eta (far_false (by assumption))
  all_goals try ((first | with_reducible refine (?_ : (_ : Int) ≤ _) | with_reducible refine (?_ : (_ : Int) < _)); clear hK hP; simp only; omega)
  rename_i g1 b hb a
  have hlt : (t : Int) < tick := by
    have g1 := of_decide_eq_false g1
    simp only at g1
    omega
  clear hK hP
  conv => whnf
  refine ⟨(t + 1, s, a), ?_⟩
  repeat' (first | ((with_reducible refine kok ?_); kernel_rfl) | ((with_reducible refine keq_mk ?_); kernel_rfl) | with_reducible rfl | ((conv => whnf); first | (with_reducible exact trivial) | ((with_reducible refine and_ff ?_ ?_); · exact rfl) | ((with_reducible refine and_tt ?_ ?_); · exact rfl) | (with_reducible refine And.intro ?_ ?_) | intro _ | (with_reducible refine fin2 hk ?_) | ((with_reducible refine eq_leaf ?_); exact rfl) | exact trivial))
  all_goals (simp only; omega)
end Go.Proofs.YtphcblofacfkaaaGreat
end
section
namespace Go.Proofs.YtphcblofacfkaaaGreat
open Go.V
def fallRow (p : Int) (x : Nat → Int) (f fl : Int) : List V.D := [.int .i64 p, .int .i64 (x 0), .int .i64 (x 1), .int .i64 (x 2), .int .i64 (x 3), .int .i64 (x 4), .int .i64 (x 5), .int .i64 f, .int .i64 fl]
def rWatch : CRule := fun ds H K => match ds, H with
  | [.ptr 0 0, .int .i64 t, .agg [.int .i64 s0, .int .i64 s1, .int .i64 s2, .int .i64 s3, .int .i64 s4, .int .i64 s5, .int .i64 s6, .int .i64 s7, .int .i64 s8, .int .i64 s9, .int .i64 s10, .int .i64 s11]], [some (.row [.int .i64 p, .int .i64 x0, .int .i64 x1, .int .i64 x2, .int .i64 x3, .int .i64 x4, .int .i64 x5, .int .i64 f, .int .i64 fl])] =>
    ((0 ≤ t ∧ t ≤ 1000000) ∧ 0 ≤ f ∧ f ≤ 1000000) ∧ ∀ (b : Bool) (y : Nat → Int), K (.ret (.bool b)) [some (.row (fallRow p y f fl))]
  | _, _ => False
attribute [local irreducible] huL huH
theorem fWatch_ok : CSound Go.Proofs.Tryz.prog 49 rWatch := by
  refine csound_mk Tryz.func49 (by kernel_rfl) rfl (ctx lt9_ok) fun ds H K h => ?_
  unfold rWatch at h
  split at h <;> first | exact h.elim | skip
  rename_i t s0 s1 s2 s3 s4 s5 s6 s7 s8 s9 s10 s11 p x0 x1 x2 x3 x4 x5 f fl
  obtain ⟨⟨ht, hf⟩, hK⟩ := h
  repeat' (first | ((with_reducible refine kok ?_); kernel_rfl) | ((with_reducible refine keq_mk ?_); kernel_rfl) | with_reducible rfl | ((conv => whnf); first | (with_reducible exact trivial) | ((with_reducible refine and_ff ?_ ?_); · exact rfl) | ((with_reducible refine and_tt ?_ ?_); · exact rfl) | (with_reducible refine And.intro ?_ ?_) | intro _ | (with_reducible refine fin2 hk ?_) | ((with_reducible refine eq_leaf ?_); exact rfl) | exact trivial))
  all_goals try (clear hK; decide)
  all_goals try ((first | with_reducible refine (?_ : (_ : Int) ≤ _) | with_reducible refine (?_ : (_ : Int) < _)); clear hK; omega)
  all_goals (
    conv => whnf
    first
      | (refine ⟨.bool false, [some (.row (fallRow p (n6 x0 x1 x2 x3 x4 x5) f fl))], ?_⟩
         repeat' (first | ((with_reducible refine kok ?_); kernel_rfl) | ((with_reducible refine keq_mk ?_); kernel_rfl) | with_reducible rfl | ((conv => whnf); first | (with_reducible exact trivial) | ((with_reducible refine and_ff ?_ ?_); · exact rfl) | ((with_reducible refine and_tt ?_ ?_); · exact rfl) | (with_reducible refine And.intro ?_ ?_) | intro _ | (with_reducible refine fin2 hk ?_) | ((with_reducible refine eq_leaf ?_); exact rfl) | exact trivial))
         exact hK _ _)
      | (refine ⟨.bool (decide (s5 ≤ fl)), [some (.row (fallRow p (n6 (huL s0 s1 x0 x1) (huH s0 s1 x0 x1) (huL s2 s3 x2 x3) (huH s2 s3 x2 x3) x4 (f + t)) f fl))], ?_⟩
         repeat' (first | ((with_reducible refine kok ?_); kernel_rfl) | ((with_reducible refine keq_mk ?_); kernel_rfl) | with_reducible rfl | ((conv => whnf); first | (with_reducible exact trivial) | ((with_reducible refine and_ff ?_ ?_); · exact rfl) | ((with_reducible refine and_tt ?_ ?_); · exact rfl) | (with_reducible refine And.intro ?_ ?_) | intro _ | (with_reducible refine fin2 hk ?_) | ((with_reducible refine eq_leaf ?_); exact rfl) | exact trivial))
         exact hK _ _)
      | (refine ⟨.bool (decide (s5 ≤ fl)), [some (.row (fallRow p (n6 s0 s1 s2 s3 (f + t) (f + t)) f fl))], ?_⟩
         repeat' (first | ((with_reducible refine kok ?_); kernel_rfl) | ((with_reducible refine keq_mk ?_); kernel_rfl) | with_reducible rfl | ((conv => whnf); first | (with_reducible exact trivial) | ((with_reducible refine and_ff ?_ ?_); · exact rfl) | ((with_reducible refine and_tt ?_ ?_); · exact rfl) | (with_reducible refine And.intro ?_ ?_) | intro _ | (with_reducible refine fin2 hk ?_) | ((with_reducible refine eq_leaf ?_); exact rfl) | exact trivial))
         exact hK _ _))
end Go.Proofs.YtphcblofacfkaaaGreat
end
