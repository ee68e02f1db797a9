/-
  Contracts of the recovery: Search (the code's).
-/
import Derived.Test.YtphcblofacfkaaaGreatMq
set_option linter.unusedVariables false
set_option linter.unusedSimpArgs false
set_option maxRecDepth 100000
set_option maxHeartbeats 4000000
section
namespace Go.Proofs.YtphcblofacfkaaaGreat
open Go.V
def hK (t : RTask) : Nat → Value → Bool
  | 0 => fun _ => false
  | k + 1 => fun x => if bestS t (simS t k) < 0 then hK t k x else (hK t k x || veqV x (.int .i64 (bestS t (simS t k))))
def nK (t : RTask) : Nat → Nat
  | 0 => 0
  | k + 1 => if bestS t (simS t k) < 0 then nK t k else if hK t k (.int .i64 (bestS t (simS t k))) = true then nK t k else nK t k + 1
theorem hK_done (t : RTask) (i : Nat) : ∀ k, hereB (hK t k) (fun _ _ => 1) i = (simS t k).done i
  | 0 => rfl
  | k + 1 => by
    have ih := hK_done t i k
    unfold hereB at ih ⊢
    rw [decide_eq_true rfl, Bool.and_true] at ih ⊢
    have e : (simS t (k + 1)).done i = ((simS t k).done i || decide ((i : Int) = bestS t (simS t k))) := rfl
    rw [e, ← ih]
    show (if bestS t (simS t k) < 0 then hK t k (.int .i64 i) else (hK t k (.int .i64 i) || veqV (.int .i64 i) (.int .i64 (bestS t (simS t k))))) = _
    split
    · rw [decide_eq_false (by omega), Bool.or_false]
    · rfl
def lfS (t : RTask) : Nat → Int
  | 0 => 0
  | k + 1 => if bestS t (simS t k) < 0 then lfS t k else tripS t (simS t k).c (lfS t k) (bestS t (simS t k)) (visF t (simS t k).c (simS t k).u (bestS t (simS t k)))
structure LfOK (t : RTask) (k : Nat) : Prop where
  same : 0 ≤ (simS t k).c → lfS t k = (simS t k).f
  lo : 0 ≤ lfS t k
  hi : lfS t k ≤ 100000 + 200000 * k
theorem lfOK0 {t : RTask} : LfOK t 0 := ⟨fun h => rfl, Int.le_refl 0, by show (0 : Int) ≤ _; omega⟩
theorem trip_same {t : RTask} {c f f' vc vf : Int} (h : 0 ≤ c → f = f') : tripS t c f vc vf = tripS t c f' vc vf := by
  unfold tripS
  split
  · rfl
  · exact h (by omega)
theorem LfOK.next {t : RTask} {k : Nat} (h : LfOK t k) (g : Going t (k + 1)) : LfOK t (k + 1) := by
  have hf := g.ok.f
  have hu := g.ok.u
  by_cases hb : bestS t (simS t k) < 0
  · have e : lfS t (k + 1) = lfS t k := if_pos hb
    have ec : (simS t (k + 1)).c = -1 := if_pos hb
    exact ⟨fun q => by rw [ec] at q; exact absurd q (by decide), by rw [e]; exact h.lo, by rw [e]; have := h.hi; omega⟩
  · have e : lfS t (k + 1) = (simS t (k + 1)).f := by
      have e1 : lfS t (k + 1) = tripS t (simS t k).c (lfS t k) (bestS t (simS t k)) (visF t (simS t k).c (simS t k).u (bestS t (simS t k))) := if_neg hb
      have e2 : (simS t (k + 1)).f = tripS t (simS t k).c (simS t k).f (bestS t (simS t k)) (visF t (simS t k).c (simS t k).u (bestS t (simS t k))) := if_neg hb
      rw [e1, e2]
      exact trip_same h.same
    refine ⟨fun _ => e, by omega, by omega⟩
theorem wrong_f {t : RTask} {c u f f' vc vf vu : Int} (h : 0 ≤ c → f = f') : wrongS t c u f vc vf vu = wrongS t c u f' vc vf vu := by
  unfold wrongS
  rw [trip_same h]
theorem cand_f {t : RTask} {c u f f' : Int} {done : Nat → Bool} (h : 0 ≤ c → f = f') (i : Nat) : candB t c u f done i = candB t c u f' done i := by
  unfold candB
  rw [wrong_f h]
theorem best_f {t : RTask} {c u f f' : Int} {done : Nat → Bool} (h : 0 ≤ c → f = f') : ∀ n, bestF t c u f done n = bestF t c u f' done n
  | 0 => rfl
  | n + 1 => by
    unfold bestF
    rw [cand_f h, best_f h n]
theorem vis_in {t : RTask} (h : RtOK t) {k : Nat} {s : Sim} (hs : SimOK t k s) (hk : k ≤ 120) : (0 ≤ visF t s.c s.u (bestS t s) ∧ visF t s.c s.u (bestS t s) ≤ 500000000) ∧ 0 ≤ visU t s.c s.u (bestS t s) ∧ visU t s.c s.u (bestS t s) ≤ 500010000 := by
  have B := best_lt (t := t) (s := s)
  have fl := flC_in h (a := s.c) (b := bestS t s) hs.c.2 B.2
  have op := opC_in h (bestS t s)
  have hu := hs.u
  have hlk := h.look
  have htn := h.turn
  have e1 : visF t s.c s.u (bestS t s) = if bestS t s < 0 then s.u + flC t s.c (bestS t s) else max (s.u + flC t s.c (bestS t s)) (opC t (bestS t s)) := rfl
  have e2 : visU t s.c s.u (bestS t s) = if bestS t s < 0 then visF t s.c s.u (bestS t s) + t.turn else visF t s.c s.u (bestS t s) + t.look := rfl
  split at e1 <;> split at e2 <;> omega
def vE (t : RTask) (k j : Nat) : V.D := match j with
  | 0 => .int .i64 (nxC (simS t k).c (bestS t (simS t k)))
  | 1 => .int .i64 (nxF t (simS t k).c (simS t k).u (bestS t (simS t k)))
  | 2 => .int .i64 (nxU t (simS t k).c (simS t k).u (bestS t (simS t k)))
  | _ => .top
def v5 (t : RTask) : Nat → V.D
  | 0 => .ptr 5 0
  | k + 1 => .eptr 3 (vE t (k + 1))
theorem fn1_intro {H : HL} {K : Res → HL → Prop} {t : RTask} {k : Nat} {v0 v1 v2 w0 w1 w2 x0 x1 x2 : Int} {gV gL gB : Nat → Nat → V.D} {c u f : Int} {n : Nat} {h : Value → Bool} {g : Value → Nat → Int} (done : Nat → Bool)
    (hH : H = srH1 t k v0 v1 v2 w0 w1 w2 x0 x1 x2 gV gL gB c u f n h g) (ho : nxOK t c u f h g done) (hk : K (.ret (nxR t c u f done)) (srH1 t k v0 v1 v2 w0 w1 w2 x0 x1 x2 gV gL gB c u f n h g)) : rFNext [.ptr 4 0] H K :=
  .inr (.inl ⟨t, k, v0, v1, v2, w0, w1, w2, x0, x1, x2, gV, gL, gB, c, u, f, n, h, g, done, rfl, hH, ho, hk⟩)
theorem fn2_intro {H : HL} {K : Res → HL → Prop} {t : RTask} {k : Nat} {v0 v1 v2 w0 w1 w2 x0 x1 x2 : Int} {gV gL gB : Nat → Nat → V.D} {c u f : Int} {n : Nat} {h : Value → Bool} {g : Value → Nat → Int} (done : Nat → Bool)
    (hH : H = srH2 t k v0 v1 v2 w0 w1 w2 x0 x1 x2 gV gL gB c u f n h g) (ho : nxOK t c u f h g done) (hk : K (.ret (nxR t c u f done)) (srH2 t k v0 v1 v2 w0 w1 w2 x0 x1 x2 gV gL gB c u f n h g)) : rFNext [.ptr 4 0] H K :=
  .inr (.inr ⟨t, k, v0, v1, v2, w0, w1, w2, x0, x1, x2, gV, gL, gB, c, u, f, n, h, g, done, rfl, hH, ho, hk⟩)
theorem here_next {t : RTask} {k i : Nat} {b : Int} (hb : b = bestS t (simS t k)) (h0 : 0 ≤ b) : ((hK t k (.int .i64 i) || veqV (.int .i64 i) (.int .i64 b)) && decide ((bif veqV (.int .i64 i) (.int .i64 b) then (1 : Int) else (if hK t k (.int .i64 i) = true then 1 else 0)) = 1)) = (simS t (k + 1)).done i := by
  have e : (simS t (k + 1)).done i = ((simS t k).done i || decide ((i : Int) = bestS t (simS t k))) := rfl
  have ih := hK_done t i k
  unfold hereB at ih
  rw [decide_eq_true rfl, Bool.and_true] at ih
  rw [e, ← ih, ← hb]
  have ev : veqV (.int .i64 (i : Int)) (.int .i64 b) = decide ((i : Int) = b) := rfl
  rw [ev]
  cases hK t k (.int .i64 (i : Int)) <;> cases decide ((i : Int) = b) <;> rfl
noncomputable def Lsrch : Libs := ⟨lr37, [(32, inl (cxOf tab lr37) Go.Proofs.Tryz.f32), (33, rFNext), (34, inl (cxOf tab lr37) Go.Proofs.Tryz.f34)], [], []⟩
theorem Lsrch_ok : LibsOK Go.Proofs.Tryz.prog Lsrch := ⟨lr37_ok, asGet_cons (csound_in Tryz.func32 (by kernel_rfl) rfl (ctx lr37_ok)) (asGet_cons fNext_ok (asGet_cons (csound_in Tryz.func34 (by kernel_rfl) rfl (ctx lr37_ok)) (fun g s h => by cases h))), fun f r h => (by cases h), fun f r h => (by cases h)⟩
attribute [local irreducible] tripS manyS goneB openS checkR cellsL spX spY flOf cellM opC wrongS visF visU bestF
theorem rSearch_ok : PSound Go.Proofs.Tryz.prog 11 (mk rSearch) := by
  refine psound_mk Tryz.func11 (by kernel_rfl) rfl (ctxA Lsrch_ok) ?_
  (intro ds p d h; unfold rSearch at h; split at h <;> first | (cases h; done) | skip; cases h; refine ⟨Nat.le_of_ble_eq_true rfl, fun hp k hk => ?_⟩)
  rename_i d
  obtain ⟨ht, hf⟩ := hp
  refine ⟨[(rtOf d).D], rt_imp ht ?_⟩
  clear ht
  generalize rtOf d = t at *
  have hN0 : (checkR t).2.2 ≠ 0 → visitsN t = 0 ∧ leftsN t = 0 := fun h => ⟨if_neg h, if_neg h⟩
  have hN1 : (checkR t).2.2 = 0 → visitsN t = nVis t ∧ leftsN t = (leftsL t).length ∧ cellsN t = cellsM t := fun h => ⟨if_pos h, if_pos h, if_pos h⟩
  repeat' (first | ((with_reducible refine kok ?_); kernel_rfl) | ((with_reducible refine keq_mk ?_); kernel_rfl) | with_reducible rfl | ((conv => whnf); first | (with_reducible exact trivial) | ((with_reducible refine and_ff ?_ ?_); · exact rfl) | ((with_reducible refine and_tt ?_ ?_); · exact rfl) | (with_reducible refine And.intro ?_ ?_) | intro _ | (with_reducible refine fin2 hk ?_) | ((with_reducible refine eq_leaf ?_); exact rfl) | exact trivial))
  all_goals try exact hf _ (by assumption)
  all_goals (rename_i g1; simp only [rtOf_agg, taskOf_agg, ↓Bool.not_eq_true', ↓Bool.not_eq_false', ↓decT, ↓decF, out_true, out_false, isin_true, isin_false, Int.toNat_natCast, Int.ofNat_lt, Nat.zero_add, Nat.add_zero, Nat.reduceAdd, Decidable.not_not] at g1)
  · exact (hN0 g1).1.symm
  · exact (hN0 g1).2.symm
  have hok := rt_ok g1
  have hM : cellsM t ≤ 60 := cellsL_len hok
  obtain ⟨n1, n2, n3⟩ := hN1 g1
  clear hN0 hN1
  have hst := hok.start
  conv => whnf
  refine .inl ⟨t, -1, t.start, 0, 0, fun _ => false, fun _ _ => 0, fun _ => false, rfl, ?_, ⟨hok, by omega, by omega, by omega, fun _ _ => rfl⟩, ?_⟩
  · simp only [rtOf_agg, n3]; rfl
  conv => whnf
  have hB0 : bestF t (-1) t.start 0 (fun _ => false) (cellsM t) = bestS t (simS t 0) := rfl
  refine ⟨Nat, fun k => [(1, .ptr 0 0), (2, .ptr 1 0), (4, .ptr 4 0), (5, v5 t k), (6, .bool (!stopB t (simS t k)))],
    fun k => [some (.row t.cells), some (.row [.own 6 k, .own 7 0]), some (.row t.cells), some (.mp (boolM (nK t k) (hK t k) (fun _ _ => 1))), some (.row (flRow t (simS t k).c (simS t k).u (lfS t k) (.map 3))), some (.row [.int .i64 (nxC (simS t 0).c (bestS t (simS t 0))), .int .i64 (nxF t (simS t 0).c (simS t 0).u (bestS t (simS t 0))), .int .i64 (nxU t (simS t 0).c (simS t 0).u (bestS t (simS t 0)))]), some (.buf 80 3 k (imD (visN t))), some (.buf 82 2 0 (imD (leftM t [])))],
    fun k => muS t (simS t k), fun k => Going t k ∧ LfOK t k, [(80, 3), (82, 2)], 0, fun k => ⟨?_, ?_⟩, ?_, fun k hI => ?_⟩
  · cases k <;> (conv => lhs; whnf)
  · conv => lhs; whnf
  · clear hk
    repeat' (first | ((with_reducible refine kok ?_); kernel_rfl) | ((with_reducible refine keq_mk ?_); kernel_rfl) | with_reducible rfl | ((conv => whnf); first | (with_reducible exact trivial) | ((with_reducible refine and_ff ?_ ?_); · exact rfl) | ((with_reducible refine and_tt ?_ ?_); · exact rfl) | (with_reducible refine And.intro ?_ ?_) | intro _ | (with_reducible refine fin2 hk ?_) | ((with_reducible refine eq_leaf ?_); exact rfl) | exact trivial))
    all_goals first
      | (exact absurd (by assumption) (Nat.not_lt_zero _))
      | exact going0 hok
      | exact lfOK0
      | rfl
      | (rename_i q; exact absurd (show false = true from q) Bool.noConfusion)
  obtain ⟨hI, hL⟩ := hI
  have hI : Going t k := hI
  have hL : LfOK t k := hL
  have hk120 : k ≤ 120 := by have := hI.mu; omega
  have SO := hI.ok
  have hc := SO.c
  have hu := SO.u
  have hff := SO.f
  have l1 := hL.lo
  have l2 := hL.hi
  have B := best_lt (t := t) (s := simS t k)
  have V := vis_in hok SO hk120
  have NS : (!stopB t (simS t k)) = true → nxC (simS t k).c (bestS t (simS t k)) = bestS t (simS t k) ∧ nxF t (simS t k).c (simS t k).u (bestS t (simS t k)) = visF t (simS t k).c (simS t k).u (bestS t (simS t k)) ∧ nxU t (simS t k).c (simS t k).u (bestS t (simS t k)) = visU t (simS t k).c (simS t k).u (bestS t (simS t k)) := fun h => by
    have h1 : stopF (simS t k).c (bestS t (simS t k)) = false := (Bool.not_eq_true' _).mp h
    unfold nxC nxF nxU
    rw [h1]
    exact ⟨rfl, rfl, rfl⟩
  have GN : (!stopB t (simS t k)) = true → Going t (k + 1) ∧ muS t (stepS t (simS t k)) < muS t (simS t k) := fun h => ⟨hI.next hok ((Bool.not_eq_true' _).mp h), mu_step ((Bool.not_eq_true' _).mp h)⟩
  have EC : (!stopB t (simS t k)) = true → nxC (simS t k).c (bestS t (simS t k)) = (simS t (k + 1)).c ∧ nxU t (simS t k).c (simS t k).u (bestS t (simS t k)) = (simS t (k + 1)).u := fun h => by
    obtain ⟨N1, N2, N3⟩ := NS h
    rw [N1, N3]
    refine ⟨?_, rfl⟩
    show bestS t (simS t k) = if bestS t (simS t k) < 0 then -1 else bestS t (simS t k)
    split
    · exact best_neg (by assumption)
    · rfl
  cases k with
  | zero =>
    repeat' (first | ((with_reducible refine kok ?_); kernel_rfl) | ((with_reducible refine keq_mk ?_); kernel_rfl) | with_reducible rfl | ((conv => whnf); first | (with_reducible exact trivial) | ((with_reducible refine and_ff ?_ ?_); · exact rfl) | ((with_reducible refine and_tt ?_ ?_); · exact rfl) | (with_reducible refine And.intro ?_ ?_) | intro _ | (with_reducible refine fin2 hk ?_) | ((with_reducible refine eq_leaf ?_); exact rfl) | exact trivial))
    all_goals try exact hok
    all_goals try ((first | with_reducible refine (?_ : (_ : Int) ≤ _) | with_reducible refine (?_ : (_ : Int) < _)); obtain ⟨N1, N2, N3⟩ := NS (by assumption); clear hk NS GN EC; simp only [rtOf_agg, fv_T, fv_15, fv_16, fv_17, fw_T, fw_15, fw_16, fw_17, N1, N2, N3, taskOf_agg, ↓Bool.not_eq_true', ↓Bool.not_eq_false', ↓decT, ↓decF, out_true, out_false, isin_true, isin_false, Int.toNat_natCast, Int.ofNat_lt, Nat.zero_add, Nat.add_zero, Nat.reduceAdd] at *; omega)
    all_goals try (show (0 + 1) * 24 ≤ 140737488355328; omega)
    · rename_i g2 g3
      obtain ⟨N1, N2, N3⟩ := NS g2
      obtain ⟨G, mu⟩ := GN g2
      obtain ⟨E1, E2⟩ := EC g2
      have hb : ¬ bestS t (simS t 0) < 0 := by
        have q : 0 ≤ nxC (simS t 0).c (bestS t (simS t 0)) := of_decide_eq_true g3
        rw [N1] at q
        omega
      have L' := hL.next G
      have E3 : tripS t (simS t 0).c (lfS t 0) (nxC (simS t 0).c (bestS t (simS t 0))) (nxF t (simS t 0).c (simS t 0).u (bestS t (simS t 0))) = lfS t (0 + 1) := by rw [N1, N2]; exact (if_neg hb).symm
      have hfs : bestF t (simS t (0 + 1)).c (simS t (0 + 1)).u (lfS t (0 + 1)) (simS t (0 + 1)).done (cellsM t) = bestS t (simS t (0 + 1)) := best_f (fun h => L'.same h) _
      have EB : (simS t (0 + 1)).c = bestS t (simS t 0) := by rw [← E1, N1]
      have SO' := G.ok
      have hc' := SO'.c
      have hu' := SO'.u
      have l1' := L'.lo
      have l2' := L'.hi
      have b120 : 0 + 1 ≤ 120 := by have := G.mu; omega
      clear hk
      conv => whnf
      refine fn1_intro (simS t (0 + 1)).done (t := t) (k := 0 + 1) rfl ?_ ?_
      · show nxOK t (nxC (simS t 0).c (bestS t (simS t 0))) (nxU t (simS t 0).c (simS t 0).u (bestS t (simS t 0))) (tripS t (simS t 0).c (lfS t 0) (nxC (simS t 0).c (bestS t (simS t 0))) (nxF t (simS t 0).c (simS t 0).u (bestS t (simS t 0)))) _ _ _
        rw [E3]
        refine ⟨hok, by rw [E1]; exact hc', by rw [E2]; omega, by omega, fun i hi => ?_⟩
        exact here_next N1 (by rw [N1]; omega)
      · conv => whnf
        refine ⟨0 + 1, ?_⟩
        repeat' (first | ((with_reducible refine kok ?_); kernel_rfl) | ((with_reducible refine keq_mk ?_); kernel_rfl) | with_reducible rfl | ((conv => whnf); first | (with_reducible exact trivial) | ((with_reducible refine and_ff ?_ ?_); · exact rfl) | ((with_reducible refine and_tt ?_ ?_); · exact rfl) | (with_reducible refine And.intro ?_ ?_) | intro _ | (with_reducible refine fin2 hk ?_) | ((with_reducible refine eq_leaf ?_); exact rfl) | exact trivial))
        all_goals try simp only [fv_T, fv_15, fv_16, fv_17, fw_T, fw_15, fw_16, fw_17]
        · rename_i j hj
          rw [E3, E1, E2, hfs]
          have hj' : j = 0 ∨ j = 1 ∨ j = 2 := by omega
          rcases hj' with rfl | rfl | rfl <;> rfl
        · rw [E3, E1, E2, hfs]
          rfl
        · show (if hK t 0 (.int .i64 (nxC (simS t 0).c (bestS t (simS t 0)))) = true then nK t 0 else nK t 0 + 1) = nK t (0 + 1)
          rw [N1]
          exact (if_neg hb).symm
        · rename_i q hq
          show (hK t 0 q || veqV q (.int .i64 (nxC (simS t 0).c (bestS t (simS t 0))))) = hK t (0 + 1) q
          rw [N1]
          exact (if_neg hb).symm
        · rename_i q j hq hh
          have hh : hK t (0 + 1) q = true := hh
          have e : hK t (0 + 1) q = (hK t 0 q || veqV q (.int .i64 (bestS t (simS t 0)))) := if_neg hb
          show (bif veqV q (.int .i64 (nxC (simS t 0).c (bestS t (simS t 0)))) then (1 : Int) else if hK t 0 q = true then 1 else 0) = 1
          rw [e] at hh
          rw [N1]
          cases h4 : veqV q (.int .i64 (bestS t (simS t 0))) with
          | true => rfl
          | false =>
            rw [h4, Bool.or_false] at hh
            rw [hh]
            rfl
        · exact E1
        · exact E2
        · exact E3
        · rename_i i j hi hj
          exact vis_snoc (by rw [N1, N2, N3]; rfl) hi hj
        · exact G
        · exact L'
        · exact mu
    · rename_i g2 g3
      obtain ⟨N1, N2, N3⟩ := NS g2
      obtain ⟨G, mu⟩ := GN g2
      obtain ⟨E1, E2⟩ := EC g2
      have hb : bestS t (simS t 0) < 0 := by
        have q : ¬ 0 ≤ nxC (simS t 0).c (bestS t (simS t 0)) := of_decide_eq_false g3
        rw [N1] at q
        omega
      have L' := hL.next G
      have E3 : lfS t 0 = lfS t (0 + 1) := (if_pos hb).symm
      have hfs : bestF t (simS t (0 + 1)).c (simS t (0 + 1)).u (lfS t (0 + 1)) (simS t (0 + 1)).done (cellsM t) = bestS t (simS t (0 + 1)) := best_f (fun h => L'.same h) _
      have SO' := G.ok
      have hc' := SO'.c
      have hu' := SO'.u
      have l1' := L'.lo
      have l2' := L'.hi
      have b120 : 0 + 1 ≤ 120 := by have := G.mu; omega
      clear hk
      conv => whnf
      refine fn2_intro (simS t (0 + 1)).done (t := t) (k := 0 + 1) rfl ?_ ?_
      · show nxOK t (nxC (simS t 0).c (bestS t (simS t 0))) (nxU t (simS t 0).c (simS t 0).u (bestS t (simS t 0))) (lfS t 0) (hK t 0) (fun _ _ => 1) _
        rw [E3]
        refine ⟨hok, by rw [E1]; exact hc', by rw [E2]; omega, by omega, fun i hi => ?_⟩
        rw [hK_done]
        show _ = ((simS t 0).done i || decide ((i : Int) = bestS t (simS t 0)))
        rw [decide_eq_false (by omega), Bool.or_false]
      · conv => whnf
        refine ⟨0 + 1, ?_⟩
        repeat' (first | ((with_reducible refine kok ?_); kernel_rfl) | ((with_reducible refine keq_mk ?_); kernel_rfl) | with_reducible rfl | ((conv => whnf); first | (with_reducible exact trivial) | ((with_reducible refine and_ff ?_ ?_); · exact rfl) | ((with_reducible refine and_tt ?_ ?_); · exact rfl) | (with_reducible refine And.intro ?_ ?_) | intro _ | (with_reducible refine fin2 hk ?_) | ((with_reducible refine eq_leaf ?_); exact rfl) | exact trivial))
        all_goals try simp only [fv_T, fv_15, fv_16, fv_17, fw_T, fw_15, fw_16, fw_17]
        · rename_i j hj
          rw [E3, E1, E2, hfs]
          have hj' : j = 0 ∨ j = 1 ∨ j = 2 := by omega
          rcases hj' with rfl | rfl | rfl <;> rfl
        · rw [E3, E1, E2, hfs]
          rfl
        · exact (if_pos hb).symm
        · exact (if_pos hb).symm
        · exact E1
        · exact E2
        · exact E3
        · rename_i i j hi hj
          exact vis_snoc (by rw [N1, N2, N3]; rfl) hi hj
        · exact G
        · exact L'
        · exact mu
    rename_i g2
    have hn : stopB t (simS t 0) = true := (Bool.not_eq_false' _).mp g2
    have hnv := hI.stop hn
    have hle : leftsL t = leftTo (simS t 0).done (cellsM t) := by unfold leftsL endS; rw [hnv]
    have HD := fun i => hK_done t i 0
    unfold hereB at HD
    clear NS GN EC
    conv => whnf
    generalize nK t 0 = nn at *
    generalize hK t 0 = hh at *
    refine ⟨Nat, fun i => [(1, .ptr 0 0), (2, .ptr 1 0), (4, .ptr 4 0), (43, .rsl 5 (cellsM t) (imD (cellM t (cellsL t)))), (44, .int .i64 (cellsM t : Nat)), (45, .int .i64 i)],
      fun i => [some (.row t.cells), some (.row [.own 6 0, .own 7 (leftTo (simS t 0).done i).length]), some (.row t.cells), some (.mp (boolM nn hh (fun _ _ => 1))), some (.row (flRow t (simS t 0).c (simS t 0).u (lfS t 0) (.map 3))), some (.row [.top, .top, .top]), some (.buf 80 3 0 (imD (visN t))), some (.buf 82 2 (leftTo (simS t 0).done i).length (imD (leftM t (leftTo (simS t 0).done i))))],
      fun i => cellsM t - i, fun i => i ≤ cellsM t, [], 0, fun _ => ⟨?_, ?_⟩, ?_, fun i hi => ?_⟩
    · conv => lhs; whnf
    · conv => lhs; whnf
    · clear hk
      repeat' (first | ((with_reducible refine kok ?_); kernel_rfl) | ((with_reducible refine keq_mk ?_); kernel_rfl) | with_reducible rfl | ((conv => whnf); first | (with_reducible exact trivial) | ((with_reducible refine and_ff ?_ ?_); · exact rfl) | ((with_reducible refine and_tt ?_ ?_); · exact rfl) | (with_reducible refine And.intro ?_ ?_) | intro _ | (with_reducible refine fin2 hk ?_) | ((with_reducible refine eq_leaf ?_); exact rfl) | exact trivial))
      all_goals first | exact Nat.zero_le _ | rfl
    have hi : i ≤ cellsM t := hi
    have hln := leftTo_len (simS t 0).done i
    have hop : cellM t (cellsL t) i 4 = opC t i := by delta cellM opC; rfl
    have HDi := HD i
    repeat' (first | ((with_reducible refine kok ?_); kernel_rfl) | ((with_reducible refine keq_mk ?_); kernel_rfl) | with_reducible rfl | ((conv => whnf); first | (with_reducible exact trivial) | ((with_reducible refine and_ff ?_ ?_); · exact rfl) | ((with_reducible refine and_tt ?_ ?_); · exact rfl) | (with_reducible refine And.intro ?_ ?_) | intro _ | (with_reducible refine fin2 hk ?_) | ((with_reducible refine eq_leaf ?_); exact rfl) | exact trivial))
    all_goals try ((first | with_reducible refine (?_ : (_ : Int) ≤ _) | with_reducible refine (?_ : (_ : Int) < _)); clear hk; simp only [rtOf_agg, taskOf_agg, ↓Bool.not_eq_true', ↓Bool.not_eq_false', ↓decT, ↓decF, out_true, out_false, isin_true, isin_false, Int.toNat_natCast, Int.ofNat_lt, Nat.zero_add, Nat.add_zero, Nat.reduceAdd, id] at *; omega)
    all_goals try (show ((leftTo (simS t 0).done i).length + 1) * 16 ≤ 140737488355328; omega)
    · rename_i g3 g4 g5
      clear hk
      have q2 : (simS t 0).done i = false := HDi.symm.trans ((Bool.not_eq_true' _).mp g5)
      have q4 : opC t i < 0 := by rw [← hop]; exact of_decide_eq_true g4
      simp only [taskOf_agg, ↓Bool.not_eq_true', ↓Bool.not_eq_false', ↓decT, ↓decF, out_true, out_false, isin_true, isin_false, Int.toNat_natCast, Int.ofNat_lt, Nat.zero_add, Nat.add_zero, Nat.reduceAdd] at g3
      clear g4 g5
      have hl := left_more_len (d := (simS t 0).done) q2
      conv => whnf
      refine ⟨i + 1, ?_⟩
      repeat' (first | ((with_reducible refine kok ?_); kernel_rfl) | ((with_reducible refine keq_mk ?_); kernel_rfl) | with_reducible rfl | ((conv => whnf); first | (with_reducible exact trivial) | ((with_reducible refine and_ff ?_ ?_); · exact rfl) | ((with_reducible refine and_tt ?_ ?_); · exact rfl) | (with_reducible refine And.intro ?_ ?_) | intro _ | (with_reducible refine fin2 hk ?_) | ((with_reducible refine eq_leaf ?_); exact rfl) | exact trivial))
      all_goals first
        | exact hl.symm
        | (exact left_snoc q2 (by rw [if_pos q4]) (by rw [← hl]; assumption) (by assumption))
        | omega
        | (simp only; omega)
    · rename_i g3 g4 g5
      clear hk
      have q2 : (simS t 0).done i = true := HDi.symm.trans ((Bool.not_eq_false' _).mp g5)
      simp only [taskOf_agg, ↓Bool.not_eq_true', ↓Bool.not_eq_false', ↓decT, ↓decF, out_true, out_false, isin_true, isin_false, Int.toNat_natCast, Int.ofNat_lt, Nat.zero_add, Nat.add_zero, Nat.reduceAdd] at g3
      clear g4 g5
      have hl := left_done (d := (simS t 0).done) q2
      conv => whnf
      refine ⟨i + 1, ?_⟩
      repeat' (first | ((with_reducible refine kok ?_); kernel_rfl) | ((with_reducible refine keq_mk ?_); kernel_rfl) | with_reducible rfl | ((conv => whnf); first | (with_reducible exact trivial) | ((with_reducible refine and_ff ?_ ?_); · exact rfl) | ((with_reducible refine and_tt ?_ ?_); · exact rfl) | (with_reducible refine And.intro ?_ ?_) | intro _ | (with_reducible refine fin2 hk ?_) | ((with_reducible refine eq_leaf ?_); exact rfl) | exact trivial))
      all_goals first
        | (rw [hl]; done)
        | omega
        | (simp only; omega)
    · rename_i g3 g4 g5
      clear hk
      have q2 : (simS t 0).done i = false := HDi.symm.trans ((Bool.not_eq_true' _).mp g5)
      have q4 : ¬ opC t i < 0 := by rw [← hop]; exact of_decide_eq_false g4
      simp only [taskOf_agg, ↓Bool.not_eq_true', ↓Bool.not_eq_false', ↓decT, ↓decF, out_true, out_false, isin_true, isin_false, Int.toNat_natCast, Int.ofNat_lt, Nat.zero_add, Nat.add_zero, Nat.reduceAdd] at g3
      clear g4 g5
      have hl := left_more_len (d := (simS t 0).done) q2
      conv => whnf
      refine ⟨i + 1, ?_⟩
      repeat' (first | ((with_reducible refine kok ?_); kernel_rfl) | ((with_reducible refine keq_mk ?_); kernel_rfl) | with_reducible rfl | ((conv => whnf); first | (with_reducible exact trivial) | ((with_reducible refine and_ff ?_ ?_); · exact rfl) | ((with_reducible refine and_tt ?_ ?_); · exact rfl) | (with_reducible refine And.intro ?_ ?_) | intro _ | (with_reducible refine fin2 hk ?_) | ((with_reducible refine eq_leaf ?_); exact rfl) | exact trivial))
      all_goals first
        | exact hl.symm
        | (exact left_snoc q2 (by rw [if_neg q4]) (by rw [← hl]; assumption) (by assumption))
        | omega
        | (simp only; omega)
    · rename_i g3 g4 g5
      clear hk
      have q2 : (simS t 0).done i = true := HDi.symm.trans ((Bool.not_eq_false' _).mp g5)
      simp only [taskOf_agg, ↓Bool.not_eq_true', ↓Bool.not_eq_false', ↓decT, ↓decF, out_true, out_false, isin_true, isin_false, Int.toNat_natCast, Int.ofNat_lt, Nat.zero_add, Nat.add_zero, Nat.reduceAdd] at g3
      clear g4 g5
      have hl := left_done (d := (simS t 0).done) q2
      conv => whnf
      refine ⟨i + 1, ?_⟩
      repeat' (first | ((with_reducible refine kok ?_); kernel_rfl) | ((with_reducible refine keq_mk ?_); kernel_rfl) | with_reducible rfl | ((conv => whnf); first | (with_reducible exact trivial) | ((with_reducible refine and_ff ?_ ?_); · exact rfl) | ((with_reducible refine and_tt ?_ ?_); · exact rfl) | (with_reducible refine And.intro ?_ ?_) | intro _ | (with_reducible refine fin2 hk ?_) | ((with_reducible refine eq_leaf ?_); exact rfl) | exact trivial))
      all_goals first
        | (rw [hl]; done)
        | omega
        | (simp only; omega)
    all_goals (obtain rfl : i = cellsM t := by clear hk; simp only [taskOf_agg, ↓Bool.not_eq_true', ↓Bool.not_eq_false', ↓decT, ↓decF, out_true, out_false, isin_true, isin_false, Int.toNat_natCast, Int.ofNat_lt, Nat.zero_add, Nat.add_zero, Nat.reduceAdd] at *; omega)
    all_goals clear hk
    · rw [n1, hnv]
    · rw [n2, hle]
    · rw [hle]
    · exact g1.symm
  | succ k =>
    repeat' (first | ((with_reducible refine kok ?_); kernel_rfl) | ((with_reducible refine keq_mk ?_); kernel_rfl) | with_reducible rfl | ((conv => whnf); first | (with_reducible exact trivial) | ((with_reducible refine and_ff ?_ ?_); · exact rfl) | ((with_reducible refine and_tt ?_ ?_); · exact rfl) | (with_reducible refine And.intro ?_ ?_) | intro _ | (with_reducible refine fin2 hk ?_) | ((with_reducible refine eq_leaf ?_); exact rfl) | exact trivial))
    all_goals try exact hok
    all_goals try ((first | with_reducible refine (?_ : (_ : Int) ≤ _) | with_reducible refine (?_ : (_ : Int) < _)); obtain ⟨N1, N2, N3⟩ := NS (by assumption); clear hk NS GN EC; simp only [rtOf_agg, fv_T, fv_15, fv_16, fv_17, fw_T, fw_15, fw_16, fw_17, N1, N2, N3, taskOf_agg, ↓Bool.not_eq_true', ↓Bool.not_eq_false', ↓decT, ↓decF, out_true, out_false, isin_true, isin_false, Int.toNat_natCast, Int.ofNat_lt, Nat.zero_add, Nat.add_zero, Nat.reduceAdd] at *; omega)
    all_goals try (show ((k + 1) + 1) * 24 ≤ 140737488355328; omega)
    · rename_i g2 g3
      obtain ⟨N1, N2, N3⟩ := NS g2
      obtain ⟨G, mu⟩ := GN g2
      obtain ⟨E1, E2⟩ := EC g2
      have hb : ¬ bestS t (simS t (k + 1)) < 0 := by
        have q : 0 ≤ nxC (simS t (k + 1)).c (bestS t (simS t (k + 1))) := of_decide_eq_true g3
        rw [N1] at q
        omega
      have L' := hL.next G
      have E3 : tripS t (simS t (k + 1)).c (lfS t (k + 1)) (nxC (simS t (k + 1)).c (bestS t (simS t (k + 1)))) (nxF t (simS t (k + 1)).c (simS t (k + 1)).u (bestS t (simS t (k + 1)))) = lfS t ((k + 1) + 1) := by rw [N1, N2]; exact (if_neg hb).symm
      have hfs : bestF t (simS t ((k + 1) + 1)).c (simS t ((k + 1) + 1)).u (lfS t ((k + 1) + 1)) (simS t ((k + 1) + 1)).done (cellsM t) = bestS t (simS t ((k + 1) + 1)) := best_f (fun h => L'.same h) _
      have EB : (simS t ((k + 1) + 1)).c = bestS t (simS t (k + 1)) := by rw [← E1, N1]
      have SO' := G.ok
      have hc' := SO'.c
      have hu' := SO'.u
      have l1' := L'.lo
      have l2' := L'.hi
      have b120 : (k + 1) + 1 ≤ 120 := by have := G.mu; omega
      clear hk
      conv => whnf
      refine fn1_intro (simS t ((k + 1) + 1)).done (t := t) (k := (k + 1) + 1) rfl ?_ ?_
      · show nxOK t (nxC (simS t (k + 1)).c (bestS t (simS t (k + 1)))) (nxU t (simS t (k + 1)).c (simS t (k + 1)).u (bestS t (simS t (k + 1)))) (tripS t (simS t (k + 1)).c (lfS t (k + 1)) (nxC (simS t (k + 1)).c (bestS t (simS t (k + 1)))) (nxF t (simS t (k + 1)).c (simS t (k + 1)).u (bestS t (simS t (k + 1))))) _ _ _
        rw [E3]
        refine ⟨hok, by rw [E1]; exact hc', by rw [E2]; omega, by omega, fun i hi => ?_⟩
        exact here_next N1 (by rw [N1]; omega)
      · conv => whnf
        refine ⟨(k + 1) + 1, ?_⟩
        repeat' (first | ((with_reducible refine kok ?_); kernel_rfl) | ((with_reducible refine keq_mk ?_); kernel_rfl) | with_reducible rfl | ((conv => whnf); first | (with_reducible exact trivial) | ((with_reducible refine and_ff ?_ ?_); · exact rfl) | ((with_reducible refine and_tt ?_ ?_); · exact rfl) | (with_reducible refine And.intro ?_ ?_) | intro _ | (with_reducible refine fin2 hk ?_) | ((with_reducible refine eq_leaf ?_); exact rfl) | exact trivial))
        all_goals try simp only [fv_T, fv_15, fv_16, fv_17, fw_T, fw_15, fw_16, fw_17]
        · rename_i j hj
          rw [E3, E1, E2, hfs]
          have hj' : j = 0 ∨ j = 1 ∨ j = 2 := by omega
          rcases hj' with rfl | rfl | rfl <;> rfl
        · rw [E3, E1, E2, hfs]
          rfl
        · show (if hK t (k + 1) (.int .i64 (nxC (simS t (k + 1)).c (bestS t (simS t (k + 1))))) = true then nK t (k + 1) else nK t (k + 1) + 1) = nK t ((k + 1) + 1)
          rw [N1]
          exact (if_neg hb).symm
        · rename_i q hq
          show (hK t (k + 1) q || veqV q (.int .i64 (nxC (simS t (k + 1)).c (bestS t (simS t (k + 1)))))) = hK t ((k + 1) + 1) q
          rw [N1]
          exact (if_neg hb).symm
        · rename_i q j hq hh
          have hh : hK t ((k + 1) + 1) q = true := hh
          have e : hK t ((k + 1) + 1) q = (hK t (k + 1) q || veqV q (.int .i64 (bestS t (simS t (k + 1))))) := if_neg hb
          show (bif veqV q (.int .i64 (nxC (simS t (k + 1)).c (bestS t (simS t (k + 1))))) then (1 : Int) else if hK t (k + 1) q = true then 1 else 0) = 1
          rw [e] at hh
          rw [N1]
          cases h4 : veqV q (.int .i64 (bestS t (simS t (k + 1)))) with
          | true => rfl
          | false =>
            rw [h4, Bool.or_false] at hh
            rw [hh]
            rfl
        · exact E1
        · exact E2
        · exact E3
        · rename_i i j hi hj
          exact vis_snoc (by rw [N1, N2, N3]; rfl) hi hj
        · exact G
        · exact L'
        · exact mu
    · rename_i g2 g3
      obtain ⟨N1, N2, N3⟩ := NS g2
      obtain ⟨G, mu⟩ := GN g2
      obtain ⟨E1, E2⟩ := EC g2
      have hb : bestS t (simS t (k + 1)) < 0 := by
        have q : ¬ 0 ≤ nxC (simS t (k + 1)).c (bestS t (simS t (k + 1))) := of_decide_eq_false g3
        rw [N1] at q
        omega
      have L' := hL.next G
      have E3 : lfS t (k + 1) = lfS t ((k + 1) + 1) := (if_pos hb).symm
      have hfs : bestF t (simS t ((k + 1) + 1)).c (simS t ((k + 1) + 1)).u (lfS t ((k + 1) + 1)) (simS t ((k + 1) + 1)).done (cellsM t) = bestS t (simS t ((k + 1) + 1)) := best_f (fun h => L'.same h) _
      have SO' := G.ok
      have hc' := SO'.c
      have hu' := SO'.u
      have l1' := L'.lo
      have l2' := L'.hi
      have b120 : (k + 1) + 1 ≤ 120 := by have := G.mu; omega
      clear hk
      conv => whnf
      refine fn2_intro (simS t ((k + 1) + 1)).done (t := t) (k := (k + 1) + 1) rfl ?_ ?_
      · show nxOK t (nxC (simS t (k + 1)).c (bestS t (simS t (k + 1)))) (nxU t (simS t (k + 1)).c (simS t (k + 1)).u (bestS t (simS t (k + 1)))) (lfS t (k + 1)) (hK t (k + 1)) (fun _ _ => 1) _
        rw [E3]
        refine ⟨hok, by rw [E1]; exact hc', by rw [E2]; omega, by omega, fun i hi => ?_⟩
        rw [hK_done]
        show _ = ((simS t (k + 1)).done i || decide ((i : Int) = bestS t (simS t (k + 1))))
        rw [decide_eq_false (by omega), Bool.or_false]
      · conv => whnf
        refine ⟨(k + 1) + 1, ?_⟩
        repeat' (first | ((with_reducible refine kok ?_); kernel_rfl) | ((with_reducible refine keq_mk ?_); kernel_rfl) | with_reducible rfl | ((conv => whnf); first | (with_reducible exact trivial) | ((with_reducible refine and_ff ?_ ?_); · exact rfl) | ((with_reducible refine and_tt ?_ ?_); · exact rfl) | (with_reducible refine And.intro ?_ ?_) | intro _ | (with_reducible refine fin2 hk ?_) | ((with_reducible refine eq_leaf ?_); exact rfl) | exact trivial))
        all_goals try simp only [fv_T, fv_15, fv_16, fv_17, fw_T, fw_15, fw_16, fw_17]
        · rename_i j hj
          rw [E3, E1, E2, hfs]
          have hj' : j = 0 ∨ j = 1 ∨ j = 2 := by omega
          rcases hj' with rfl | rfl | rfl <;> rfl
        · rw [E3, E1, E2, hfs]
          rfl
        · exact (if_pos hb).symm
        · exact (if_pos hb).symm
        · exact E1
        · exact E2
        · exact E3
        · rename_i i j hi hj
          exact vis_snoc (by rw [N1, N2, N3]; rfl) hi hj
        · exact G
        · exact L'
        · exact mu
    rename_i g2
    have hn : stopB t (simS t (k + 1)) = true := (Bool.not_eq_false' _).mp g2
    have hnv := hI.stop hn
    have hle : leftsL t = leftTo (simS t (k + 1)).done (cellsM t) := by unfold leftsL endS; rw [hnv]
    have HD := fun i => hK_done t i (k + 1)
    unfold hereB at HD
    clear NS GN EC
    conv => whnf
    generalize nK t (k + 1) = nn at *
    generalize hK t (k + 1) = hh at *
    refine ⟨Nat, fun i => [(1, .ptr 0 0), (2, .ptr 1 0), (4, .ptr 4 0), (43, .rsl 5 (cellsM t) (imD (cellM t (cellsL t)))), (44, .int .i64 (cellsM t : Nat)), (45, .int .i64 i)],
      fun i => [some (.row t.cells), some (.row [.own 6 (k + 1), .own 7 (leftTo (simS t (k + 1)).done i).length]), some (.row t.cells), some (.mp (boolM nn hh (fun _ _ => 1))), some (.row (flRow t (simS t (k + 1)).c (simS t (k + 1)).u (lfS t (k + 1)) (.map 3))), some (.row [.top, .top, .top]), some (.buf 80 3 (k + 1) (imD (visN t))), some (.buf 82 2 (leftTo (simS t (k + 1)).done i).length (imD (leftM t (leftTo (simS t (k + 1)).done i))))],
      fun i => cellsM t - i, fun i => i ≤ cellsM t, [], 0, fun _ => ⟨?_, ?_⟩, ?_, fun i hi => ?_⟩
    · conv => lhs; whnf
    · conv => lhs; whnf
    · clear hk
      repeat' (first | ((with_reducible refine kok ?_); kernel_rfl) | ((with_reducible refine keq_mk ?_); kernel_rfl) | with_reducible rfl | ((conv => whnf); first | (with_reducible exact trivial) | ((with_reducible refine and_ff ?_ ?_); · exact rfl) | ((with_reducible refine and_tt ?_ ?_); · exact rfl) | (with_reducible refine And.intro ?_ ?_) | intro _ | (with_reducible refine fin2 hk ?_) | ((with_reducible refine eq_leaf ?_); exact rfl) | exact trivial))
      all_goals first | exact Nat.zero_le _ | rfl
    have hi : i ≤ cellsM t := hi
    have hln := leftTo_len (simS t (k + 1)).done i
    have hop : cellM t (cellsL t) i 4 = opC t i := by delta cellM opC; rfl
    have HDi := HD i
    repeat' (first | ((with_reducible refine kok ?_); kernel_rfl) | ((with_reducible refine keq_mk ?_); kernel_rfl) | with_reducible rfl | ((conv => whnf); first | (with_reducible exact trivial) | ((with_reducible refine and_ff ?_ ?_); · exact rfl) | ((with_reducible refine and_tt ?_ ?_); · exact rfl) | (with_reducible refine And.intro ?_ ?_) | intro _ | (with_reducible refine fin2 hk ?_) | ((with_reducible refine eq_leaf ?_); exact rfl) | exact trivial))
    all_goals try ((first | with_reducible refine (?_ : (_ : Int) ≤ _) | with_reducible refine (?_ : (_ : Int) < _)); clear hk; simp only [rtOf_agg, taskOf_agg, ↓Bool.not_eq_true', ↓Bool.not_eq_false', ↓decT, ↓decF, out_true, out_false, isin_true, isin_false, Int.toNat_natCast, Int.ofNat_lt, Nat.zero_add, Nat.add_zero, Nat.reduceAdd, id] at *; omega)
    all_goals try (show ((leftTo (simS t (k + 1)).done i).length + 1) * 16 ≤ 140737488355328; omega)
    · rename_i g3 g4 g5
      clear hk
      have q2 : (simS t (k + 1)).done i = false := HDi.symm.trans ((Bool.not_eq_true' _).mp g5)
      have q4 : opC t i < 0 := by rw [← hop]; exact of_decide_eq_true g4
      simp only [taskOf_agg, ↓Bool.not_eq_true', ↓Bool.not_eq_false', ↓decT, ↓decF, out_true, out_false, isin_true, isin_false, Int.toNat_natCast, Int.ofNat_lt, Nat.zero_add, Nat.add_zero, Nat.reduceAdd] at g3
      clear g4 g5
      have hl := left_more_len (d := (simS t (k + 1)).done) q2
      conv => whnf
      refine ⟨i + 1, ?_⟩
      repeat' (first | ((with_reducible refine kok ?_); kernel_rfl) | ((with_reducible refine keq_mk ?_); kernel_rfl) | with_reducible rfl | ((conv => whnf); first | (with_reducible exact trivial) | ((with_reducible refine and_ff ?_ ?_); · exact rfl) | ((with_reducible refine and_tt ?_ ?_); · exact rfl) | (with_reducible refine And.intro ?_ ?_) | intro _ | (with_reducible refine fin2 hk ?_) | ((with_reducible refine eq_leaf ?_); exact rfl) | exact trivial))
      all_goals first
        | exact hl.symm
        | (exact left_snoc q2 (by rw [if_pos q4]) (by rw [← hl]; assumption) (by assumption))
        | omega
        | (simp only; omega)
    · rename_i g3 g4 g5
      clear hk
      have q2 : (simS t (k + 1)).done i = true := HDi.symm.trans ((Bool.not_eq_false' _).mp g5)
      simp only [taskOf_agg, ↓Bool.not_eq_true', ↓Bool.not_eq_false', ↓decT, ↓decF, out_true, out_false, isin_true, isin_false, Int.toNat_natCast, Int.ofNat_lt, Nat.zero_add, Nat.add_zero, Nat.reduceAdd] at g3
      clear g4 g5
      have hl := left_done (d := (simS t (k + 1)).done) q2
      conv => whnf
      refine ⟨i + 1, ?_⟩
      repeat' (first | ((with_reducible refine kok ?_); kernel_rfl) | ((with_reducible refine keq_mk ?_); kernel_rfl) | with_reducible rfl | ((conv => whnf); first | (with_reducible exact trivial) | ((with_reducible refine and_ff ?_ ?_); · exact rfl) | ((with_reducible refine and_tt ?_ ?_); · exact rfl) | (with_reducible refine And.intro ?_ ?_) | intro _ | (with_reducible refine fin2 hk ?_) | ((with_reducible refine eq_leaf ?_); exact rfl) | exact trivial))
      all_goals first
        | (rw [hl]; done)
        | omega
        | (simp only; omega)
    · rename_i g3 g4 g5
      clear hk
      have q2 : (simS t (k + 1)).done i = false := HDi.symm.trans ((Bool.not_eq_true' _).mp g5)
      have q4 : ¬ opC t i < 0 := by rw [← hop]; exact of_decide_eq_false g4
      simp only [taskOf_agg, ↓Bool.not_eq_true', ↓Bool.not_eq_false', ↓decT, ↓decF, out_true, out_false, isin_true, isin_false, Int.toNat_natCast, Int.ofNat_lt, Nat.zero_add, Nat.add_zero, Nat.reduceAdd] at g3
      clear g4 g5
      have hl := left_more_len (d := (simS t (k + 1)).done) q2
      conv => whnf
      refine ⟨i + 1, ?_⟩
      repeat' (first | ((with_reducible refine kok ?_); kernel_rfl) | ((with_reducible refine keq_mk ?_); kernel_rfl) | with_reducible rfl | ((conv => whnf); first | (with_reducible exact trivial) | ((with_reducible refine and_ff ?_ ?_); · exact rfl) | ((with_reducible refine and_tt ?_ ?_); · exact rfl) | (with_reducible refine And.intro ?_ ?_) | intro _ | (with_reducible refine fin2 hk ?_) | ((with_reducible refine eq_leaf ?_); exact rfl) | exact trivial))
      all_goals first
        | exact hl.symm
        | (exact left_snoc q2 (by rw [if_neg q4]) (by rw [← hl]; assumption) (by assumption))
        | omega
        | (simp only; omega)
    · rename_i g3 g4 g5
      clear hk
      have q2 : (simS t (k + 1)).done i = true := HDi.symm.trans ((Bool.not_eq_false' _).mp g5)
      simp only [taskOf_agg, ↓Bool.not_eq_true', ↓Bool.not_eq_false', ↓decT, ↓decF, out_true, out_false, isin_true, isin_false, Int.toNat_natCast, Int.ofNat_lt, Nat.zero_add, Nat.add_zero, Nat.reduceAdd] at g3
      clear g4 g5
      have hl := left_done (d := (simS t (k + 1)).done) q2
      conv => whnf
      refine ⟨i + 1, ?_⟩
      repeat' (first | ((with_reducible refine kok ?_); kernel_rfl) | ((with_reducible refine keq_mk ?_); kernel_rfl) | with_reducible rfl | ((conv => whnf); first | (with_reducible exact trivial) | ((with_reducible refine and_ff ?_ ?_); · exact rfl) | ((with_reducible refine and_tt ?_ ?_); · exact rfl) | (with_reducible refine And.intro ?_ ?_) | intro _ | (with_reducible refine fin2 hk ?_) | ((with_reducible refine eq_leaf ?_); exact rfl) | exact trivial))
      all_goals first
        | (rw [hl]; done)
        | omega
        | (simp only; omega)
    all_goals (obtain rfl : i = cellsM t := by clear hk; simp only [taskOf_agg, ↓Bool.not_eq_true', ↓Bool.not_eq_false', ↓decT, ↓decF, out_true, out_false, isin_true, isin_false, Int.toNat_natCast, Int.ofNat_lt, Nat.zero_add, Nat.add_zero, Nat.reduceAdd] at *; omega)
    all_goals clear hk
    · rw [n1, hnv]
    · rw [n2, hle]
    · rw [hle]
    · exact g1.symm
end Go.Proofs.YtphcblofacfkaaaGreat
end
