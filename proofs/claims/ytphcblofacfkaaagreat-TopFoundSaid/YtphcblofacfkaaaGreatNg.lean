/-
  Contracts of the flight: impact.
-/
import Derived.Test.YtphcblofacfkaaaGreatNf
set_option linter.unusedVariables false
set_option linter.unusedSimpArgs false
set_option maxRecDepth 100000
set_option maxHeartbeats 4000000
section
namespace Go.Proofs.YtphcblofacfkaaaGreat
open Go.V
noncomputable def Lpc : Libs := ⟨lt9, [(46, inl (cxOf tab lt9) Go.Proofs.Tryz.f46), (77, qC rUpF)], [], []⟩
theorem Lpc_ok : LibsOK Go.Proofs.Tryz.prog Lpc := ⟨lt9_ok, asGet_cons (csound_in Tryz.func46 (by kernel_rfl) rfl (ctx lt9_ok)) (asGet_cons (csound_q fUp_ok) (fun g s h => by cases h)), fun f r h => (by cases h), fun f r h => (by cases h)⟩
noncomputable def Limp : Libs := ⟨lt9, [(46, inl (cxOf tab lt9) Go.Proofs.Tryz.f46), (48, inl (cxA tab Lpc) Go.Proofs.Tryz.f48), (49, frameC rWatch)], [(73, inlI (cxA tab Lst) Go.Proofs.Tryz.f73 (codeOf Go.Proofs.Tryz.f73))], []⟩
theorem Limp_ok : LibsOK Go.Proofs.Tryz.prog Limp := ⟨lt9_ok, asGet_cons (csound_in Tryz.func46 (by kernel_rfl) rfl (ctx lt9_ok)) (asGet_cons (csound_in Tryz.func48 (by kernel_rfl) rfl (ctxA Lpc_ok)) (asGet_cons (csound_frame fWatch_ok) (fun g s h => by cases h))), asGet_cons (isound_of Tryz.func73 (by kernel_rfl) rfl (ctxA Lst_ok)) (fun g s h => by cases h), fun f r h => (by cases h)⟩
def rImpactF : QRule := fun ds K => match ds with
  | [.eptr 13 g, .int .i64 i] => (FltIs g ∧ 0 ≤ i ∧ i ≤ 1000) ∧ (∀ (p : Int) (y : Nat → Int) (e : Int), K (.ret (.tup [.agg [.int .i64 p, .int .i64 (y 0), .int .i64 (y 1), .int .i64 (y 2), .int .i64 (y 3), .int .i64 (y 4), .int .i64 (y 5)], .int .i64 e]))) ∧ K (.pan tooFarD)
  | _ => False
structure PcIn (p : Nat → Int) : Prop where
  t : 1 ≤ p 0 ∧ p 0 ≤ 3000
  m : 1 ≤ p 1 ∧ p 1 ≤ p 2 ∧ p 2 ≤ 100000
  d : 0 ≤ p 3 ∧ p 3 ≤ p 4 ∧ p 4 ≤ 1000
  x : -1000000 ≤ p 5 ∧ p 5 ≤ p 6 ∧ p 6 ≤ 1000000
  y : -1000000 ≤ p 7 ∧ p 7 ≤ p 8 ∧ p 8 ≤ 1000000
  z : -1000000 ≤ p 9 ∧ p 9 ≤ p 10 ∧ p 10 ≤ 1000000
theorem pc_in {v : Veh} {i : Nat} (h : pcOK v i) : PcIn (v.pc i) := by
  obtain ⟨h1, h2, h3, h4⟩ := h
  rw [out_false] at h1
  have h5 := heavy_false h2
  have h6 := wide_false h3
  exact ⟨h1, h5.1, h5.2, h6.1, h6.2.1, h6.2.2⟩
def bodyP (p : Nat → Int) : Nat → Int := n12 0 0 (p 1) (p 2) (p 3) (p 4) 0 0 0 0 0 0
theorem bodyP_ok {p : Nat → Int} (h : PcIn p) : BodyOK (bodyP p) := body_mk ⟨Int.le_refl 0, Int.le_refl 0, by show (0 : Int) ≤ 20000000; decide⟩ h.m h.d z0_in z0_in z0_in
theorem flt_at {F : Flt} (h : FltOK F) : FltIs F.at := flt_is h fun _ _ => rfl
theorem lo_bd {x y m : Int} (h : -m ≤ x ∧ x ≤ y ∧ y ≤ m) : -m ≤ x ∧ x ≤ m := ⟨h.1, Int.le_trans h.2.1 h.2.2⟩
theorem hi_bd {x y m : Int} (h : -m ≤ x ∧ x ≤ y ∧ y ≤ m) : -m ≤ y ∧ y ≤ m := ⟨Int.le_trans h.1 h.2.1, h.2.2⟩
theorem add2_bd {a b : Int} (ha : -1000000 ≤ a ∧ a ≤ 1000000) (hb : -1000000 ≤ b ∧ b ≤ 1000000) : -9223372036854775808 ≤ a + b ∧ a + b ≤ 9223372036854775807 := by omega
attribute [local irreducible] FltIs farB
theorem fImpact_ok : QSound Go.Proofs.Tryz.prog 17 rImpactF := by
  refine qsound_of Tryz.func17 (by kernel_rfl) rfl (ctxA Limp_ok) ?_
  intro ds K h
  unfold rImpactF at h
  split at h <;> first | exact h.elim | skip
  refine ⟨Nat.le_of_ble_eq_true rfl, ?_⟩
  rename_i g i
  obtain ⟨⟨hg, hi⟩, hK, hP⟩ := h
  unfold FltIs at hg
  obtain ⟨F, hF, hg⟩ := hg
  refine ⟨[.eptr 13 F.at, .int .i64 i], rfl, hg, rfl, ?_⟩
  clear hg
  have hFI := flt_at hF
  have hpc : i < F.v.nq → PcIn (F.v.pc i.toNat) := fun h => pc_in (hF.chk.pc i.toNat (by omega))
  have hnq := hF.chk.nq
  repeat' (first | ((with_reducible refine kok ?_); kernel_rfl) | ((with_reducible refine keq_mk ?_); kernel_rfl) | with_reducible rfl | ((conv => whnf); first | (with_reducible exact trivial) | ((with_reducible refine and_ff ?_ ?_); · exact rfl) | ((with_reducible refine and_tt ?_ ?_); · exact rfl) | (with_reducible refine And.intro ?_ ?_) | intro _ | (with_reducible refine fin2 hk ?_) | ((with_reducible refine eq_leaf ?_); exact rfl) | exact trivial))
  all_goals try exact hFI
  all_goals try exact hP
  all_goals try ((first | with_reducible refine (?_ : (_ : Int) ≤ _) | with_reducible refine (?_ : (_ : Int) < _)); clear hK hP; first | omega | (simp only [taskOf_agg, ↓Bool.not_eq_true', ↓Bool.not_eq_false', ↓decT, ↓decF, out_true, out_false, isin_true, isin_false, Int.toNat_natCast, Int.ofNat_lt, Nat.zero_add, Nat.add_zero, Nat.reduceAdd] at *; have P := hpc (by omega); have := P.t; omega))
  all_goals try (
    (first | with_reducible refine (?_ : (_ : Int) ≤ _) | with_reducible refine (?_ : (_ : Int) < _))
    have P := hpc (of_decide_eq_true (by assumption : decide (i < (F.v.nq : Int)) = true))
    have h1 := StOK.u (by assumption)
    have h2 := StOK.v (by assumption)
    have h3 := StOK.w (by assumption)
    have h4 := P.x
    have h5 := P.y
    have h6 := P.z
    clear hpc hK hP
    first
      | exact (add2_bd (lo_bd h1) (lo_bd h4)).1
      | exact (add2_bd (lo_bd h1) (lo_bd h4)).2
      | exact (add2_bd (hi_bd h1) (hi_bd h4)).1
      | exact (add2_bd (hi_bd h1) (hi_bd h4)).2
      | exact (add2_bd (lo_bd h2) (lo_bd h5)).1
      | exact (add2_bd (lo_bd h2) (lo_bd h5)).2
      | exact (add2_bd (hi_bd h2) (hi_bd h5)).1
      | exact (add2_bd (hi_bd h2) (hi_bd h5)).2
      | exact (add2_bd (lo_bd h3) (lo_bd h6)).1
      | exact (add2_bd (lo_bd h3) (lo_bd h6)).2
      | exact (add2_bd (hi_bd h3) (hi_bd h6)).1
      | exact (add2_bd (hi_bd h3) (hi_bd h6)).2)
  · rename_i g1 s0 hs r0
    have hlt : i < F.v.nq := of_decide_eq_true g1
    have P := hpc hlt
    have pt := P.t
    clear hpc
    conv => whnf
    refine ⟨Nat × (Nat → Int) × (Nat → Int), fun q => [(0, .yld 16), (1, .ptr 14 0), (2, .ptr 13 0), (3, .ptr 15 0), (5, .int .i64 q.1)],
      fun q => [some (.row [.int .i64 0, .int .i64 0, .int .i64 0, .int .i64 0, .int .i64 0, .int .i64 0, .int .i64 0]), some (.row [.int .i64 0]), some (.row (fallRow i q.2.1 (F.v.pc i.toNat 0) (F.v.pc i.toNat 11))), some (.row [.ptr 2 0]), some (.row [.top]), some (.row [.top, .top, .top, .top, .top, .top, .top, .top, .top, .top, .top, .top]), some (.row [.top]), none, none, some (.row [.top, .top, .top, .top, .top, .top, .top, .top, .top, .top, .top, .top, .top]), some (.row [.top, .top, .top, .top, .top, .top, .top, .top, .top, .top, .top, .top]), none, some (.row (row12 (bodyP (F.v.pc i.toNat)))), some (.row [.eptr 13 F.at]), some (.row (row12 q.2.2)), some (.row [.fn 80 [] [.ptr 12 0]]), some (.lp r0 .ready)],
      fun q => 3000 - q.1, fun q => F.v.pc i.toNat 0 + (q.1 : Int) ≤ 3000, [], (0, fun _ => 0, n12 (s0 0) (s0 1) (s0 2) (s0 3) (s0 4) (s0 5) (plL (s0 6) (s0 7) (F.v.pc i.toNat 5) (F.v.pc i.toNat 6)) (plH (s0 6) (s0 7) (F.v.pc i.toNat 5) (F.v.pc i.toNat 6)) (plL (s0 8) (s0 9) (F.v.pc i.toNat 7) (F.v.pc i.toNat 8)) (plH (s0 8) (s0 9) (F.v.pc i.toNat 7) (F.v.pc i.toNat 8)) (plL (s0 10) (s0 11) (F.v.pc i.toNat 9) (F.v.pc i.toNat 10)) (plH (s0 10) (s0 11) (F.v.pc i.toNat 9) (F.v.pc i.toNat 10))), fun _ => ⟨?_, ?_⟩, ?_, fun q hI => ?_⟩
    · conv => lhs; whnf
    · conv => lhs; whnf
    · clear hK hP
      repeat' (first | ((with_reducible refine kok ?_); kernel_rfl) | ((with_reducible refine keq_mk ?_); kernel_rfl) | with_reducible rfl | ((conv => whnf); first | (with_reducible exact trivial) | ((with_reducible refine and_ff ?_ ?_); · exact rfl) | ((with_reducible refine and_tt ?_ ?_); · exact rfl) | (with_reducible refine And.intro ?_ ?_) | intro _ | (with_reducible refine fin2 hk ?_) | ((with_reducible refine eq_leaf ?_); exact rfl) | exact trivial))
      all_goals first
        | rfl
        | (simp only; omega)
        | skip
    obtain ⟨t, x, s⟩ := q
    have hI : F.v.pc i.toNat 0 + (t : Int) ≤ 3000 := hI
    repeat' (first | ((with_reducible refine kok ?_); kernel_rfl) | ((with_reducible refine keq_mk ?_); kernel_rfl) | with_reducible rfl | ((conv => whnf); first | (with_reducible exact trivial) | ((with_reducible refine and_ff ?_ ?_); · exact rfl) | ((with_reducible refine and_tt ?_ ?_); · exact rfl) | (with_reducible refine And.intro ?_ ?_) | intro _ | (with_reducible refine fin2 hk ?_) | ((with_reducible refine eq_leaf ?_); exact rfl) | exact trivial))
    all_goals try exact hP
    all_goals try exact hK _ (fun _ => 0) 9
    all_goals try exact hK _ _ _
    all_goals try exact hFI
    all_goals try exact body_eta (bodyP_ok P)
    all_goals try exact st_eta (far_false (by assumption))
    all_goals try ((first | with_reducible refine (?_ : (_ : Int) ≤ _) | with_reducible refine (?_ : (_ : Int) < _)); clear hK hP; first | omega | (simp only; omega))
    rename_i b y g2 g3  s1
    have hlt : F.v.pc i.toNat 0 + (t : Int) < 3000 := by
      have g3 := of_decide_eq_false g3
      simp only at g3
      omega
    clear hK hP
    conv => whnf
    refine ⟨(t + 1, y, s1), ?_⟩
    repeat' (first | ((with_reducible refine kok ?_); kernel_rfl) | ((with_reducible refine keq_mk ?_); kernel_rfl) | with_reducible rfl | ((conv => whnf); first | (with_reducible exact trivial) | ((with_reducible refine and_ff ?_ ?_); · exact rfl) | ((with_reducible refine and_tt ?_ ?_); · exact rfl) | (with_reducible refine And.intro ?_ ?_) | intro _ | (with_reducible refine fin2 hk ?_) | ((with_reducible refine eq_leaf ?_); exact rfl) | exact trivial))
    all_goals first
      | (simp only; omega)
      | omega
  · rename_i g1 r0
    conv => whnf
    refine ⟨Nat × (Nat → Int) × (Nat → Int), fun q => [(0, .yld 7), (1, .ptr 5 0), (2, .ptr 4 0), (3, .ptr 6 0), (5, .int .i64 q.1)],
      fun q => [some (.row [.int .i64 0, .int .i64 0, .int .i64 0, .int .i64 0, .int .i64 0, .int .i64 0, .int .i64 0]), some (.row [.int .i64 0]), some (.row (fallRow i q.2.1 0 0)), some (.row [.ptr 2 0]), some (.row [.eptr 13 F.at]), some (.row (row12 q.2.2)), some (.row [.fn 47 [.eptr 13 F.at] []]), some (.lp r0 .ready)],
      fun q => 3000 - q.1, fun q => (q.1 : Int) ≤ 3000, [], (0, fun _ => 0, fun _ => 0), fun _ => ⟨?_, ?_⟩, ?_, fun q hI => ?_⟩
    · conv => lhs; whnf
    · conv => lhs; whnf
    · clear hK hP
      repeat' (first | ((with_reducible refine kok ?_); kernel_rfl) | ((with_reducible refine keq_mk ?_); kernel_rfl) | with_reducible rfl | ((conv => whnf); first | (with_reducible exact trivial) | ((with_reducible refine and_ff ?_ ?_); · exact rfl) | ((with_reducible refine and_tt ?_ ?_); · exact rfl) | (with_reducible refine And.intro ?_ ?_) | intro _ | (with_reducible refine fin2 hk ?_) | ((with_reducible refine eq_leaf ?_); exact rfl) | exact trivial))
      all_goals first
        | rfl
        | (simp only; omega)
        | skip
    obtain ⟨t, x, s⟩ := q
    have hI : (t : Int) ≤ 3000 := hI
    repeat' (first | ((with_reducible refine kok ?_); kernel_rfl) | ((with_reducible refine keq_mk ?_); kernel_rfl) | with_reducible rfl | ((conv => whnf); first | (with_reducible exact trivial) | ((with_reducible refine and_ff ?_ ?_); · exact rfl) | ((with_reducible refine and_tt ?_ ?_); · exact rfl) | (with_reducible refine And.intro ?_ ?_) | intro _ | (with_reducible refine fin2 hk ?_) | ((with_reducible refine eq_leaf ?_); exact rfl) | exact trivial))
    all_goals try exact hP
    all_goals try exact hK _ (fun _ => 0) 9
    all_goals try exact hK _ _ _
    all_goals try exact hFI
    all_goals try ((with_reducible refine (?_ : (_ : Int) ≤ _)); clear hK hP; decide)
    all_goals try exact body_eta (by assumption)
    all_goals try exact st_eta (far_false (by assumption))
    all_goals try ((first | with_reducible refine (?_ : (_ : Int) ≤ _) | with_reducible refine (?_ : (_ : Int) < _)); clear hK hP; first | omega | (simp only; omega))
    rename_i b y g2 g3 c hc s1
    have hlt : 0 + (t : Int) < 3000 := by
      have g3 := of_decide_eq_false g3
      simp only at g3
      omega
    clear hK hP
    conv => whnf
    refine ⟨(t + 1, y, s1), ?_⟩
    repeat' (first | ((with_reducible refine kok ?_); kernel_rfl) | ((with_reducible refine keq_mk ?_); kernel_rfl) | with_reducible rfl | ((conv => whnf); first | (with_reducible exact trivial) | ((with_reducible refine and_ff ?_ ?_); · exact rfl) | ((with_reducible refine and_tt ?_ ?_); · exact rfl) | (with_reducible refine And.intro ?_ ?_) | intro _ | (with_reducible refine fin2 hk ?_) | ((with_reducible refine eq_leaf ?_); exact rfl) | exact trivial))
    all_goals first
      | (simp only; omega)
      | omega
end Go.Proofs.YtphcblofacfkaaaGreat
end
section
namespace Go.Proofs.YtphcblofacfkaaaGreat
open Go.V
noncomputable def LI1 : Libs := ⟨lt9, [(17, qC rImpactF)], [], []⟩
theorem LI1_ok : LibsOK Go.Proofs.Tryz.prog LI1 := ⟨lt9_ok, asGet_cons (csound_q fImpact_ok) (fun g s h => by cases h), fun f r h => (by cases h), fun f r h => (by cases h)⟩
noncomputable def LI2 : Libs := ⟨lt9, [(16, inl (cxA tab LI1) Go.Proofs.Tryz.f16)], [], [(45, inlD1 (cxOf tab lt9) Go.Proofs.Tryz.f45 (codeOf Go.Proofs.Tryz.f45))]⟩
theorem LI2_ok : LibsOK Go.Proofs.Tryz.prog LI2 := ⟨lt9_ok, asGet_cons (csound_in Tryz.func16 (by kernel_rfl) rfl (ctxA LI1_ok)) (fun g s h => by cases h), fun f r h => (by cases h), asGet_cons (dsound1_of Tryz.func45 (by kernel_rfl) rfl rfl (ctx lt9_ok)) (fun g s h => by cases h)⟩
noncomputable def LI3 : Libs := ⟨lt9, [(14, qC rBeginF), (15, inl (cxA tab LI2) Go.Proofs.Tryz.f15)], [], []⟩
theorem LI3_ok : LibsOK Go.Proofs.Tryz.prog LI3 := ⟨lt9_ok, asGet_cons (csound_q fBegin_ok) (asGet_cons (csound_in Tryz.func15 (by kernel_rfl) rfl (ctxA LI2_ok)) (fun g s h => by cases h)), fun f r h => (by cases h), fun f r h => (by cases h)⟩
def rImpacts : QRule := fun ds K => match ds with
  | [d, .agg [.int .i64 x, .int .i64 y, .int .i64 z], .rsl 6 n g] => (VehIs d ∧ (vehOf d).fits ∧ IM n 6 g) ∧ (∀ e : Int, e ≠ 0 → K (.ret (.tup [.nilS, .int .i64 e]))) ∧ ∀ (n : Nat) (f : Nat → Nat → V.D), IM n 7 f → n ≤ 1000 → K (.ret (.tup [.rsl 7 n f, .int .i64 0]))
  | _ => False
attribute [local irreducible] FltIs Els
theorem getD7 {p : Int} {y : Nat → Int} : ∀ j, j < 7 → ([.int .i64 p, .int .i64 (y 0), .int .i64 (y 1), .int .i64 (y 2), .int .i64 (y 3), .int .i64 (y 4), .int .i64 (y 5)] : List V.D).getD j .top = .int .i64 ((fun j => match j with | 0 => p | j + 1 => y j) j) := fun j hj => by
  have h : j = 0 ∨ j = 1 ∨ j = 2 ∨ j = 3 ∨ j = 4 ∨ j = 5 ∨ j = 6 := by omega
  rcases h with rfl | rfl | rfl | rfl | rfl | rfl | rfl <;> rfl
theorem fImpacts_ok : QSound Go.Proofs.Tryz.prog 4 rImpacts := by
  refine qsound_of Tryz.func4 (by kernel_rfl) rfl (ctxA LI3_ok) ?_
  intro ds K h
  unfold rImpacts at h
  split at h <;> first | exact h.elim | skip
  refine ⟨Nat.le_of_ble_eq_true rfl, ?_⟩
  rename_i d x y z n g
  obtain ⟨⟨ht, hf, hg⟩, hE, hK⟩ := h
  refine ⟨[(vehOf d).D, .agg [.int .i64 x, .int .i64 y, .int .i64 z], .rsl 6 n (imD (im g))], veh_imp ht ⟨rfl, rfl, rfl, rfl, hg, ?_⟩⟩
  clear ht hg
  generalize vehOf d = v at *
  generalize im g = b at *
  repeat' (first | ((with_reducible refine kok ?_); kernel_rfl) | ((with_reducible refine keq_mk ?_); kernel_rfl) | with_reducible rfl | ((conv => whnf); first | (with_reducible exact trivial) | ((with_reducible refine and_ff ?_ ?_); · exact rfl) | ((with_reducible refine and_tt ?_ ?_); · exact rfl) | (with_reducible refine And.intro ?_ ?_) | intro _ | (with_reducible refine fin2 hk ?_) | ((with_reducible refine eq_leaf ?_); exact rfl) | exact trivial))
  all_goals try (simp only [vehOf_agg] at *; first | exact hf.1 | exact hf.2 _ (by assumption))
  all_goals try exact hE _ (by assumption)
  all_goals try (exfalso; clear hE hK; simp only [taskOf_agg, ↓Bool.not_eq_true', ↓Bool.not_eq_false', ↓decT, ↓decF, out_true, out_false, isin_true, isin_false, Int.toNat_natCast, Int.ofNat_lt, Nat.zero_add, Nat.add_zero, Nat.reduceAdd, Decidable.not_not] at *; contradiction)
  all_goals try ((first | with_reducible refine (?_ : (_ : Int) ≤ _)); clear hE hK; have C := ChkOK.nq (by assumption); simp only [vehOf_agg] at C; omega)
  rename_i f hFI hC
  simp only [vehOf_agg] at hC
  have hnq := hC.nq
  conv => whnf
  refine ⟨Nat × (Nat → Nat → V.D), fun q => [(0, .ptr 0 0), (1, .ptr 3 0), (2, .ptr 2 0), (3, .int .i64 0), (10, .int .i64 (v.nq + 1)), (11, .int .i64 q.1)],
    fun q => [some (.row v.cells), some (.row [.int .i64 x, .int .i64 y, .int .i64 z]), some (.row [.own 5 q.1]), some (.row [.eptr 13 f]), some (.row [.int .i64 0]), some (.buf 59 7 q.1 q.2)], fun q => v.nq + 1 - q.1,
    fun q => q.1 ≤ v.nq + 1 ∧ Els q.1 7 (fun _ => True) q.2, [(59, 7)], (0, fun _ _ => .top), fun _ => ⟨rfl, rfl⟩, ?_, fun q hI => ?_⟩
  · clear hE hK
    repeat' (first | ((with_reducible refine kok ?_); kernel_rfl) | ((with_reducible refine keq_mk ?_); kernel_rfl) | with_reducible rfl | ((conv => whnf); first | (with_reducible exact trivial) | ((with_reducible refine and_ff ?_ ?_); · exact rfl) | ((with_reducible refine and_tt ?_ ?_); · exact rfl) | (with_reducible refine And.intro ?_ ?_) | intro _ | (with_reducible refine fin2 hk ?_) | ((with_reducible refine eq_leaf ?_); exact rfl) | exact trivial))
    all_goals first
      | exact Nat.zero_le _
      | exact Els.nil _ _ _
      | skip
  obtain ⟨i, p⟩ := q
  obtain ⟨hi, hP⟩ := hI
  have hi : i ≤ v.nq + 1 := hi
  have hP : Els i 7 (fun _ => True) p := hP
  repeat' (first | ((with_reducible refine kok ?_); kernel_rfl) | ((with_reducible refine keq_mk ?_); kernel_rfl) | with_reducible rfl | ((conv => whnf); first | (with_reducible exact trivial) | ((with_reducible refine and_ff ?_ ?_); · exact rfl) | ((with_reducible refine and_tt ?_ ?_); · exact rfl) | (with_reducible refine And.intro ?_ ?_) | intro _ | (with_reducible refine fin2 hk ?_) | ((with_reducible refine eq_leaf ?_); exact rfl) | exact trivial))
  all_goals try exact hFI
  all_goals try exact hE 3 (by decide)
  all_goals try exact hE _ (fun e => by have q := (by assumption : (!decide (_ = (0 : Int))) = true); rw [e] at q; exact absurd q (by decide))
  all_goals try exact hK _ _ hP.im (Nat.le_trans hi (by omega))
  all_goals try ((first | with_reducible refine (?_ : (_ : Int) ≤ _) | with_reducible refine (?_ : (_ : Nat) ≤ _)); clear hE hK; simp only; omega)
  all_goals try (exfalso; clear hE hK; simp only [taskOf_agg, ↓Bool.not_eq_true', ↓Bool.not_eq_false', ↓decT, ↓decF, out_true, out_false, isin_true, isin_false, Int.toNat_natCast, Int.ofNat_lt, Nat.zero_add, Nat.add_zero, Nat.reduceAdd, Decidable.not_not] at *; contradiction)
  rename_i g1 p0 y0 e0 g2
  have hlt : i < v.nq + 1 := by
    have g1 := of_decide_eq_true g1
    simp only at g1
    omega
  have P1 := hP.snoc (getD7 (p := p0) (y := y0)) (fun _ _ => trivial)
  clear hE hK
  conv => whnf
  refine ⟨(i + 1, snocD i 7 p [.int .i64 p0, .int .i64 (y0 0), .int .i64 (y0 1), .int .i64 (y0 2), .int .i64 (y0 3), .int .i64 (y0 4), .int .i64 (y0 5)]), ?_⟩
  repeat' (first | ((with_reducible refine kok ?_); kernel_rfl) | ((with_reducible refine keq_mk ?_); kernel_rfl) | with_reducible rfl | ((conv => whnf); first | (with_reducible exact trivial) | ((with_reducible refine and_ff ?_ ?_); · exact rfl) | ((with_reducible refine and_tt ?_ ?_); · exact rfl) | (with_reducible refine And.intro ?_ ?_) | intro _ | (with_reducible refine fin2 hk ?_) | ((with_reducible refine eq_leaf ?_); exact rfl) | exact trivial))
  all_goals first
    | exact P1
    | exact hlt
    | (simp only; omega)
end Go.Proofs.YtphcblofacfkaaaGreat
end
