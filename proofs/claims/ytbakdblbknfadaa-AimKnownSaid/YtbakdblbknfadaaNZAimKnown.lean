/-
  The law AimKnown is proved: the examples of the document. No condition.
-/
import Derived.Test.YtbakdblbknfadaaMq
import Derived.Test.YtbakdblbknfadaaMf
import Derived.Test.YtbakdblbknfadaaMn
section
set_option linter.unusedVariables false
set_option linter.unusedSimpArgs false
set_option maxRecDepth 100000
set_option maxHeartbeats 4000000
namespace Go.Proofs.Ytbakdblbknfadaa
open Go.V
def bcH (t : ATask) (g1 g2 : Nat → Nat → V.D) : HL := [some (.row t.cells), some (.buf 29 4 3 g1), some (.buf 3 1 3 g2)]
def rBestC : CRule := fun ds H K => ∃ (t : ATask) (n : Nat) (a : Nat → Nat → Int) (g1 g2 : Nat → Nat → V.D), ds = [t.D, .rsl 6 n (imD a)] ∧ H = bcH t g1 g2 ∧ (t.fits ∧ askE t n a = 0 ∧ 0 ≤ bestTo (weighS t n a) t.ns) ∧
  K (.ret (.tup [.agg [.int .i64 (bB t n a), .int .i64 (bM t n a), .own 6 t.ns], .int .i64 0])) (bcH t g1 g2 ++ [some (.row t.cells), some (.row [.int .i64 (bB t n a), .int .i64 (bM t n a), .own 6 t.ns]), some (.row t.cells), some (.buf 106 2 t.ns (imD (whyM (weighS t n a) (bB t n a) (bM t n a))))])
theorem csound_or {P : Program} {f : Nat} {c c' : CRule} (h : CSound P f c) (h' : CSound P f c') : CSound P f (fun ds H K => c ds H K ∨ c' ds H K) :=
  ⟨h.enters, fun ds H K hk S w μ vs hr hRL => hk.elim (fun g => h.calls ds H K g S w μ vs hr hRL) (fun g => h'.calls ds H K g S w μ vs hr hRL)⟩
attribute [local irreducible] weighS chkA checkBands lowB ScOK askE imp missS alwB sdB farB bestTo whyM ScIs soB mkB
theorem aBestC_ok : CSound Go.Proofs.Try.prog 21 rBestC := by
  refine csound_mono (csound_in Try.func21 (by kernel_rfl) rfl (ctxA Llook2_ok)) fun ds H K h => ?_
  obtain ⟨t, n, a, g1, g2, rfl, rfl, ⟨hf, e0, hb0⟩, hk⟩ := h
  have ho := ask_ok e0
  have hsc := weighS_ok ho.1 ho.2.1
  have hbi := best_in (weighS t n a) t.ns
  have hns := ho.1.ns
  have hbp : ¬ bestTo (weighS t n a) t.ns < 0 := by omega
  have hbC : bestC (weighS t n a) = bB t n a := by unfold bestC bB; rw [weighS_t, if_neg hbp]
  have hbB : 0 ≤ bB t n a ∧ bB t n a < t.ns := by unfold bB; omega
  have c1 := ho.2.2.2.1
  have c2 := ho.2.2.2.2
  have c3 := ho.2.2.1
  repeat' (first | ((with_reducible refine kok ?_); kernel_rfl) | ((with_reducible refine keq_mk ?_); kernel_rfl) | with_reducible rfl | ((conv => whnf); first | (with_reducible exact trivial) | ((with_reducible refine and_ff ?_ ?_); · exact rfl) | ((with_reducible refine and_tt ?_ ?_); · exact rfl) | (with_reducible refine And.intro ?_ ?_) | intro _ | (with_reducible refine fin2 hk ?_) | ((with_reducible refine eq_leaf ?_); exact rfl) | exact trivial))
  all_goals try (clear hk; first | exact hf.1 | exact hf.2 | exact ho.1 | exact ho.2.1 | exact hsc | exact sc_self _)
  all_goals try (
    exfalso
    clear hk hsc hf ho
    simp only [atOf_agg, im_imD, taskOf_agg, ↓Bool.not_eq_true', ↓Bool.not_eq_false', ↓decT, ↓decF, out_true, out_false, isin_true, isin_false, Int.toNat_natCast, Int.ofNat_lt, Nat.zero_add, Nat.add_zero, Nat.reduceAdd, id, scT_e, weighS_t] at *
    first
      | exact absurd c1 (by assumption)
      | exact absurd c2 (by assumption)
      | exact absurd (c3.symm.trans (by assumption)) (by decide)
      | omega)
  all_goals try (clear hk; (first | with_reducible refine (?_ : (_ : Nat) ≤ _)); first | exact ho.2.1.len.1 | exact ho.2.1.len.2)
  all_goals try (clear hk; (first | with_reducible refine (?_ : (_ : Int) ≤ _) | with_reducible refine (?_ : (_ : Int) < _)); simp only [atOf_agg, im_imD, taskOf_agg, ↓Bool.not_eq_true', ↓Bool.not_eq_false', ↓decT, ↓decF, out_true, out_false, isin_true, isin_false, Int.toNat_natCast, Int.ofNat_lt, Nat.zero_add, Nat.add_zero, Nat.reduceAdd, id, scT_e, weighS_t, hbC]; omega)
  conv => whnf
  refine ⟨Nat, fun i => [(2, .ptr 3 0), (4, .ptr 4 0), (5, .int .i64 0), (6, .eptr 15 (weighS t n a).e), (7, .int .i64 (bB t n a)), (41, .int .i64 t.ns), (42, .int .i64 i)],
    fun i => [some (.row t.cells), some (.buf 29 4 3 g1), some (.buf 3 1 3 g2), some (.row t.cells), some (.row [.int .i64 (bB t n a), .int .i64 (bM t n a), .own 6 i]), some (.row t.cells), some (.buf 106 2 i (imD (whyM (weighS t n a) (bB t n a) (bM t n a))))],
    fun i => t.ns - i, fun i => i ≤ t.ns, [(106, 2)], 0, fun _ => ⟨?_, ?_⟩, ?_, fun i hi => ?_⟩
  · conv => lhs; whnf
  · conv => lhs; whnf
  · clear hk
    repeat' (first | ((with_reducible refine kok ?_); kernel_rfl) | ((with_reducible refine keq_mk ?_); kernel_rfl) | with_reducible rfl | ((conv => whnf); first | (with_reducible exact trivial) | ((with_reducible refine and_ff ?_ ?_); · exact rfl) | ((with_reducible refine and_tt ?_ ?_); · exact rfl) | (with_reducible refine And.intro ?_ ?_) | intro _ | (with_reducible refine fin2 hk ?_) | ((with_reducible refine eq_leaf ?_); exact rfl) | exact trivial))
    all_goals first
      | exact Nat.zero_le _
      | (exact absurd (by assumption) (Nat.not_lt_zero _))
      | rfl
      | (simp only [atOf_agg, im_imD, taskOf_agg, ↓Bool.not_eq_true', ↓Bool.not_eq_false', ↓decT, ↓decF, out_true, out_false, isin_true, isin_false, Int.toNat_natCast, Int.ofNat_lt, Nat.zero_add, Nat.add_zero, Nat.reduceAdd, id, scT_e, weighS_t, hbC]; done)
      | (simp only [atOf_agg, im_imD, taskOf_agg, ↓Bool.not_eq_true', ↓Bool.not_eq_false', ↓decT, ↓decF, out_true, out_false, isin_true, isin_false, Int.toNat_natCast, Int.ofNat_lt, Nat.zero_add, Nat.add_zero, Nat.reduceAdd, id, scT_e, weighS_t, hbC]; rfl)
  have hi : i ≤ t.ns := hi
  conv => whnf
  refine ⟨fun g1 => ?_, fun g1 => ?_⟩
  rotate_left
  · have e : i = t.ns := by have := of_decide_eq_false g1; omega
    subst e
    repeat' (first | ((with_reducible refine kok ?_); kernel_rfl) | ((with_reducible refine keq_mk ?_); kernel_rfl) | with_reducible rfl | ((conv => whnf); first | (with_reducible exact trivial) | ((with_reducible refine and_ff ?_ ?_); · exact rfl) | ((with_reducible refine and_tt ?_ ?_); · exact rfl) | (with_reducible refine And.intro ?_ ?_) | intro _ | (with_reducible refine fin2 hk ?_) | ((with_reducible refine eq_leaf ?_); exact rfl) | exact trivial))
    conv => whnf
    exact hk
  have hlt : i < t.ns := by have := of_decide_eq_true g1; omega
  have hmi := miss_in hsc (i := (bB t n a).toNat) (by unfold bB; rw [weighS_t]; omega)
  repeat' (first | ((with_reducible refine kok ?_); kernel_rfl) | ((with_reducible refine keq_mk ?_); kernel_rfl) | with_reducible rfl | ((conv => whnf); first | (with_reducible exact trivial) | ((with_reducible refine and_ff ?_ ?_); · exact rfl) | ((with_reducible refine and_tt ?_ ?_); · exact rfl) | (with_reducible refine And.intro ?_ ?_) | intro _ | (with_reducible refine fin2 hk ?_) | ((with_reducible refine eq_leaf ?_); exact rfl) | exact trivial))
  all_goals try exact sc_self _
  all_goals try exact hsc
  all_goals try exact Int.ofNat_lt.2 hlt
  all_goals try (clear hk; (first | with_reducible refine (?_ : (_ : Int) ≤ _) | with_reducible refine (?_ : (_ : Int) < _)); omega)
  all_goals try exact hmi.1
  all_goals try exact hmi.2
  all_goals try (clear hk; show (i + 1) * 16 ≤ 140737488355328; omega)
  all_goals try (clear hk; show 4 ≤ 1099511627776; decide)
  all_goals try (clear hk; show (i : Int) < ((weighS t n a).t.ns : Int); rw [weighS_t]; exact Int.ofNat_lt.2 hlt)
  all_goals try (
    clear hk
    rename_i q0 q1 q2 q3
    obtain rfl : q1 = 0 := by omega
    have q4 : q0 = 0 ∨ q0 = 1 ∨ q0 = 2 ∨ q0 = 3 := by omega
    rcases q4 with rfl | rfl | rfl | rfl <;> rfl)
  all_goals (
    clear hk
    rename_i q1 q2
    conv => whnf
    refine ⟨i + 1, ?_⟩
    repeat' (first | ((with_reducible refine kok ?_); kernel_rfl) | ((with_reducible refine keq_mk ?_); kernel_rfl) | with_reducible rfl | ((conv => whnf); first | (with_reducible exact trivial) | ((with_reducible refine and_ff ?_ ?_); · exact rfl) | ((with_reducible refine and_tt ?_ ?_); · exact rfl) | (with_reducible refine And.intro ?_ ?_) | intro _ | (with_reducible refine fin2 hk ?_) | ((with_reducible refine eq_leaf ?_); exact rfl) | exact trivial)))
  all_goals try exact hlt
  all_goals try (simp only; omega)
  · exact snoc2 (whyM_own (of_decide_eq_true q2)).1 (whyM_own (of_decide_eq_true q2)).2 (by assumption) (by assumption)
  · have F := whyM_far (m := bM t n a) (of_decide_eq_false q2) (q1 : alwB (weighS t n a) i = true)
    exact snoc2 F.1 (F.2.trans (ff4 rfl rfl rfl rfl)) (by assumption) (by assumption)
  · exact snoc2 (whyM_own (of_decide_eq_true q2)).1 (whyM_own (of_decide_eq_true q2)).2 (by assumption) (by assumption)
  · have F := whyM_out (m := bM t n a) (of_decide_eq_false q2) (q1 : alwB (weighS t n a) i = false)
    exact snoc2 F.1 (F.2.trans (ff4 rfl rfl rfl rfl)) (by assumption) (by assumption)
end Go.Proofs.Ytbakdblbknfadaa
end
section
set_option linter.unusedVariables false
set_option linter.unusedSimpArgs false
set_option maxRecDepth 100000
set_option maxHeartbeats 4000000
namespace Go.Proofs.Ytbakdblbknfadaa
open Go.V
def rSameK : List V.D → Option (Prop × V.D) := fun ds => match ds with
  | [.rsl 4 n g, .rsl 4 m h] => some (RDs n g ∧ n ≤ 1099511627776 ∧ n = m ∧ ∀ i, i < n → (h i 0 = g i 0 ∧ h i 1 = g i 1 ∧ h i 2 = g i 2) ∧ (h i 3 = .tt ∧ bmA g i = true ∨ h i 3 = .ff ∧ bmA g i = false), .tt)
  | _ => none
theorem qSameK_ok : PSound Go.Proofs.Try.prog 25 (mk rSameK) := by
  refine psound_mk Try.func25 (by kernel_rfl) rfl (ctx la35_ok) ?_
  (intro ds p d h; unfold rSameK at h; split at h <;> first | (cases h; done) | skip; cases h; refine ⟨Nat.le_of_ble_eq_true rfl, fun hp k hk => ?_⟩)
  rename_i n g m h
  obtain ⟨h1, h2, rfl, h3⟩ := hp
  refine ⟨[.rsl 4 n (rdD (im g) (bmA g)), .rsl 4 n h], rfl, h1, rfl, (fun _ _ _ _ => rfl), ?_⟩
  have h3 : ∀ i, i < n → (h i 0 = .int .i64 (im g i 0) ∧ h i 1 = .int .i64 (im g i 1) ∧ h i 2 = .int .i64 (im g i 2)) ∧ (h i 3 = .tt ∧ bmA g i = true ∨ h i 3 = .ff ∧ bmA g i = false) := fun i hi => by
    obtain ⟨⟨a0, a1, a2⟩, a3⟩ := h3 i hi
    exact ⟨⟨a0.trans (h1 i 0 hi (by decide)), a1.trans (h1 i 1 hi (by decide)), a2.trans (h1 i 2 hi (by decide))⟩, a3⟩
  clear h1
  generalize im g = a at *
  generalize bmA g = b at *
  repeat' (first | ((with_reducible refine kok ?_); kernel_rfl) | ((with_reducible refine keq_mk ?_); kernel_rfl) | with_reducible rfl | ((conv => whnf); first | (with_reducible exact trivial) | ((with_reducible refine and_ff ?_ ?_); · exact rfl) | ((with_reducible refine and_tt ?_ ?_); · exact rfl) | (with_reducible refine And.intro ?_ ?_) | intro _ | (with_reducible refine fin2 hk ?_) | ((with_reducible refine eq_leaf ?_); exact rfl) | exact trivial))
  all_goals try (exfalso; clear hk; simp only [taskOf_agg, ↓Bool.not_eq_true', ↓Bool.not_eq_false', ↓decT, ↓decF, out_true, out_false, isin_true, isin_false, Int.toNat_natCast, Int.ofNat_lt, Nat.zero_add, Nat.add_zero, Nat.reduceAdd] at *; first | omega | contradiction | (simp_all; done))
  conv => whnf
  refine ⟨Nat, fun i => [(0, .rsl 4 n (rdD a b)), (1, .rsl 4 n h), (5, .int .i64 i)], fun _ => [], fun i => n - i, fun i => i ≤ n, [], 0, fun _ => ⟨rfl, rfl⟩, ?_, fun i hi => ?_⟩
  · clear hk
    repeat' (first | ((with_reducible refine kok ?_); kernel_rfl) | ((with_reducible refine keq_mk ?_); kernel_rfl) | with_reducible rfl | ((conv => whnf); first | (with_reducible exact trivial) | ((with_reducible refine and_ff ?_ ?_); · exact rfl) | ((with_reducible refine and_tt ?_ ?_); · exact rfl) | (with_reducible refine And.intro ?_ ?_) | intro _ | (with_reducible refine fin2 hk ?_) | ((with_reducible refine eq_leaf ?_); exact rfl) | exact trivial))
    all_goals first | exact Nat.zero_le _ | skip
  have hi : i ≤ n := hi
  conv => whnf
  refine ⟨fun g1 => ?_, fun g1 => ?_⟩
  rotate_left
  · repeat' (first | ((with_reducible refine kok ?_); kernel_rfl) | ((with_reducible refine keq_mk ?_); kernel_rfl) | with_reducible rfl | ((conv => whnf); first | (with_reducible exact trivial) | ((with_reducible refine and_ff ?_ ?_); · exact rfl) | ((with_reducible refine and_tt ?_ ?_); · exact rfl) | (with_reducible refine And.intro ?_ ?_) | intro _ | (with_reducible refine fin2 hk ?_) | ((with_reducible refine eq_leaf ?_); exact rfl) | exact trivial))
  have hlt : i < n := by have := of_decide_eq_true g1; omega
  obtain ⟨⟨a0, a1, a2⟩, a3⟩ := h3 i hlt
  repeat' (first | ((with_reducible refine kok ?_); kernel_rfl) | ((with_reducible refine keq_mk ?_); kernel_rfl) | with_reducible rfl | ((conv => whnf); first | (with_reducible exact trivial) | ((with_reducible refine and_ff ?_ ?_); · exact rfl) | ((with_reducible refine and_tt ?_ ?_); · exact rfl) | (with_reducible refine And.intro ?_ ?_) | intro _ | (with_reducible refine fin2 hk ?_) | ((with_reducible refine eq_leaf ?_); exact rfl) | exact trivial))
  all_goals try ((first | with_reducible refine (?_ : (_ : Int) ≤ _) | with_reducible refine (?_ : (_ : Int) < _)); clear hk; omega)
  conv => whnf
  simp only [Int.toNat_natCast, Nat.zero_add, Nat.add_zero, a0]
  conv => whnf
  simp only [a1]
  conv => whnf
  simp only [a2]
  conv => whnf
  rcases a3 with ⟨a3, b3⟩ | ⟨a3, b3⟩
  · simp only [a3]
    repeat' (first | ((with_reducible refine kok ?_); kernel_rfl) | ((with_reducible refine keq_mk ?_); kernel_rfl) | with_reducible rfl | ((conv => whnf); first | (with_reducible exact trivial) | ((with_reducible refine and_ff ?_ ?_); · exact rfl) | ((with_reducible refine and_tt ?_ ?_); · exact rfl) | (with_reducible refine And.intro ?_ ?_) | intro _ | (with_reducible refine fin2 hk ?_) | ((with_reducible refine eq_leaf ?_); exact rfl) | exact trivial))
    all_goals try ((first | with_reducible refine (?_ : (_ : Int) ≤ _) | with_reducible refine (?_ : (_ : Int) < _)); clear hk; omega)
    all_goals try (exfalso; clear hk; rename_i z; simp [b3] at z; done)
    all_goals (
      clear hk
      conv => whnf
      refine ⟨i + 1, ?_⟩
      repeat' (first | ((with_reducible refine kok ?_); kernel_rfl) | ((with_reducible refine keq_mk ?_); kernel_rfl) | with_reducible rfl | ((conv => whnf); first | (with_reducible exact trivial) | ((with_reducible refine and_ff ?_ ?_); · exact rfl) | ((with_reducible refine and_tt ?_ ?_); · exact rfl) | (with_reducible refine And.intro ?_ ?_) | intro _ | (with_reducible refine fin2 hk ?_) | ((with_reducible refine eq_leaf ?_); exact rfl) | exact trivial)))
    all_goals first | exact hlt | (simp only; omega)
  · simp only [a3]
    repeat' (first | ((with_reducible refine kok ?_); kernel_rfl) | ((with_reducible refine keq_mk ?_); kernel_rfl) | with_reducible rfl | ((conv => whnf); first | (with_reducible exact trivial) | ((with_reducible refine and_ff ?_ ?_); · exact rfl) | ((with_reducible refine and_tt ?_ ?_); · exact rfl) | (with_reducible refine And.intro ?_ ?_) | intro _ | (with_reducible refine fin2 hk ?_) | ((with_reducible refine eq_leaf ?_); exact rfl) | exact trivial))
    all_goals try ((first | with_reducible refine (?_ : (_ : Int) ≤ _) | with_reducible refine (?_ : (_ : Int) < _)); clear hk; omega)
    all_goals try (exfalso; clear hk; rename_i z; simp [b3] at z; done)
    all_goals (
      clear hk
      conv => whnf
      refine ⟨i + 1, ?_⟩
      repeat' (first | ((with_reducible refine kok ?_); kernel_rfl) | ((with_reducible refine keq_mk ?_); kernel_rfl) | with_reducible rfl | ((conv => whnf); first | (with_reducible exact trivial) | ((with_reducible refine and_ff ?_ ?_); · exact rfl) | ((with_reducible refine and_tt ?_ ?_); · exact rfl) | (with_reducible refine And.intro ?_ ?_) | intro _ | (with_reducible refine fin2 hk ?_) | ((with_reducible refine eq_leaf ?_); exact rfl) | exact trivial)))
    all_goals first | exact hlt | (simp only; omega)
end Go.Proofs.Ytbakdblbknfadaa
end
section
set_option linter.unusedVariables false
set_option linter.unusedSimpArgs false
set_option maxRecDepth 100000
set_option maxHeartbeats 4000000
namespace Go.Proofs.Ytbakdblbknfadaa
open Go.V
noncomputable def la39 : Lib := (25, mk rSameK) :: la36
theorem la39_ok : LibOK Go.Proofs.Try.prog la39 := .cons qSameK_ok la36_ok
noncomputable def Lkn : Libs := ⟨la39, [(21, fun ds H K => rBestC ds H K ∨ lockC (mk (rTL bestT)) ds H K), (24, lockC (mk rRoundsT))], [], []⟩
theorem Lkn_ok : LibsOK Go.Proofs.Try.prog Lkn := ⟨la39_ok, asGet_cons (csound_or aBestC_ok (csound_lock aBestT_ok)) (asGet_cons (csound_lock aRounds_ok) (fun _ _ h => by cases h)), (fun _ _ h => by cases h), fun _ _ h => by cases h⟩
def kImp : Nat → Nat → Int := tabI [[10830, 22084, -5570, 5295], [7245, 19126, -5855, 5443], [9830, 21084, -5570, 5295]]
def kMis : Nat → Nat → Int := tabI [[100], [100], [85]]
theorem kn_all {i : Nat} (h : i < 3) : askI exA 2 winA (i : Int) = 0 ∧ missS (weighS exA 2 winA) i = kMis i 0 ∧ imp (weighS exA 2 winA) i 0 = kImp i 0 ∧ imp (weighS exA 2 winA) i 1 = kImp i 1 ∧ imp (weighS exA 2 winA) i 2 = kImp i 2 ∧ imp (weighS exA 2 winA) i 3 = kImp i 3 := by
  have z : i = 0 ∨ i = 1 ∨ i = 2 := by omega
  rcases z with rfl | rfl | rfl <;> decide +kernel
attribute [local irreducible] exA exT weighS chkA checkS bandsT bandA lowB ScOK imp missS alwB bestTo rndE noB scR keepR canR stR nextR setR misR setTo anyBelow checkBands askE askI bE bB bM whyM alwN accE winA sameB chB alwTo kImp kMis
theorem lawAKnown_ok : PSound Go.Proofs.Try.prog 17 (mk (rConst .tt)) := by
  refine psound_mk Try.func17 (by kernel_rfl) rfl (ctxA Lkn_ok) ?_
  (intro ds p d h; unfold rConst at h; split at h <;> first | (cases h; done) | skip; cases h; refine ⟨Nat.le_of_ble_eq_true rfl, fun hp k hk => ?_⟩)
  refine ⟨[], ?_⟩
  repeat' (first | ((with_reducible refine kok ?_); kernel_rfl) | ((with_reducible refine keq_mk ?_); kernel_rfl) | with_reducible rfl | ((conv => whnf); first | (with_reducible exact trivial) | ((with_reducible refine and_ff ?_ ?_); · exact rfl) | ((with_reducible refine and_tt ?_ ?_); · exact rfl) | (with_reducible refine And.intro ?_ ?_) | intro _ | (with_reducible refine fin2 hk ?_) | ((with_reducible refine eq_leaf ?_); exact rfl) | exact trivial))
  conv => whnf
  refine ⟨Nat, fun i => [(1, .ptr 0 0), (2, .rsl 6 2 (imD winA)), (3, .own 1 3), (4, .own 2 3), (5, .int .i64 i)], fun _ => [some (.row exA.cells), some (.buf 29 4 3 (imD kImp)), some (.buf 3 1 3 (imD kMis))],
    fun i => 3 - i, fun i => i ≤ 3, [], 0, fun _ => ⟨rfl, rfl⟩, ?_, fun i hi => ?_⟩
  · clear hk
    repeat' (first | ((with_reducible refine kok ?_); kernel_rfl) | ((with_reducible refine keq_mk ?_); kernel_rfl) | with_reducible rfl | ((conv => whnf); first | (with_reducible exact trivial) | ((with_reducible refine and_ff ?_ ?_); · exact rfl) | ((with_reducible refine and_tt ?_ ?_); · exact rfl) | (with_reducible refine And.intro ?_ ?_) | intro _ | (with_reducible refine fin2 hk ?_) | ((with_reducible refine eq_leaf ?_); exact rfl) | exact trivial))
    all_goals first
      | exact Nat.zero_le _
      | (rename_i i j hi hj
         have z : i = 0 ∨ i = 1 ∨ i = 2 := by omega
         have z2 : j = 0 ∨ j = 1 ∨ j = 2 ∨ j = 3 := by omega
         rcases z with rfl | rfl | rfl <;> rcases z2 with rfl | rfl | rfl | rfl <;> (delta imD kImp; rfl))
      | (rename_i i j hi hj
         have z : i = 0 ∨ i = 1 ∨ i = 2 := by omega
         obtain rfl : j = 0 := by omega
         rcases z with rfl | rfl | rfl <;> (delta imD kMis; rfl))
      | skip
  have hi : i ≤ 3 := hi
  conv => whnf
  refine ⟨fun g1 => ?_, fun g1 => ?_⟩
  · have hlt : i < 3 := by have := of_decide_eq_true g1; omega
    repeat' (first | ((with_reducible refine kok ?_); kernel_rfl) | ((with_reducible refine keq_mk ?_); kernel_rfl) | with_reducible rfl | ((conv => whnf); first | (with_reducible exact trivial) | ((with_reducible refine and_ff ?_ ?_); · exact rfl) | ((with_reducible refine and_tt ?_ ?_); · exact rfl) | (with_reducible refine And.intro ?_ ?_) | intro _ | (with_reducible refine fin2 hk ?_) | ((with_reducible refine eq_leaf ?_); exact rfl) | exact trivial))
    all_goals try first | exact exA_fits.1 | exact exA_fits.2
    all_goals try ((first | with_reducible refine (?_ : (_ : Int) ≤ _) | with_reducible refine (?_ : (_ : Int) < _) | with_reducible refine (?_ : (_ : Nat) < _)); clear hk; first | omega | (show i < 3; omega))
    all_goals try (
      (with_reducible refine (?_ : impA _ _ _ _))
      exfalso
      clear hk
      have q : i = 0 ∨ i = 1 ∨ i = 2 := by omega
      rename_i z
      rcases q with rfl | rfl | rfl <;> exact absurd z (by decide +kernel))
    all_goals (
      clear hk
      conv => whnf
      refine ⟨i + 1, ?_⟩
      repeat' (first | ((with_reducible refine kok ?_); kernel_rfl) | ((with_reducible refine keq_mk ?_); kernel_rfl) | with_reducible rfl | ((conv => whnf); first | (with_reducible exact trivial) | ((with_reducible refine and_ff ?_ ?_); · exact rfl) | ((with_reducible refine and_tt ?_ ?_); · exact rfl) | (with_reducible refine And.intro ?_ ?_) | intro _ | (with_reducible refine fin2 hk ?_) | ((with_reducible refine eq_leaf ?_); exact rfl) | exact trivial)))
    all_goals first | exact hlt | (simp only; omega)
  clear g1 hi
  repeat' (first | ((with_reducible refine kok ?_); kernel_rfl) | ((with_reducible refine keq_mk ?_); kernel_rfl) | with_reducible rfl | ((conv => whnf); first | (with_reducible exact trivial) | ((with_reducible refine and_ff ?_ ?_); · exact rfl) | ((with_reducible refine and_tt ?_ ?_); · exact rfl) | (with_reducible refine And.intro ?_ ?_) | intro _ | (with_reducible refine fin2 hk ?_) | ((with_reducible refine eq_leaf ?_); exact rfl) | exact trivial))
  all_goals try first | exact exA_fits.1 | exact exA_fits.2
  conv => whnf
  refine .inl ⟨exA, 2, winA, imD kImp, imD kMis, ?_⟩
  repeat' (first | ((with_reducible refine kok ?_); kernel_rfl) | ((with_reducible refine keq_mk ?_); kernel_rfl) | with_reducible rfl | ((conv => whnf); first | (with_reducible exact trivial) | ((with_reducible refine and_ff ?_ ?_); · exact rfl) | ((with_reducible refine and_tt ?_ ?_); · exact rfl) | (with_reducible refine And.intro ?_ ?_) | intro _ | (with_reducible refine fin2 hk ?_) | ((with_reducible refine eq_leaf ?_); exact rfl) | exact trivial))
  all_goals try first | exact exA_fits.1 | exact exA_fits.2
  all_goals try (clear hk; (first | with_reducible refine (?_ : (_ : Int) ≤ _) | with_reducible refine (?_ : (_ : Int) < _) | with_reducible refine (?_ : (_ : Nat) < _) | with_reducible refine (?_ : (_ : Nat) ≤ _)); decide +kernel)
  all_goals try exact exA_ask
  all_goals try (
    rename_i i j hi hj
    have z : i = 0 ∨ i = 1 ∨ i = 2 := by omega
    have z2 : j = 0 ∨ j = 1 := by omega
    rcases z with rfl | rfl | rfl <;> rcases z2 with rfl | rfl <;> rfl)
  all_goals try (
    (with_reducible refine (?_ : impA _ _ _ _))
    exfalso
    clear hk
    rename_i z
    exact absurd z (by decide +kernel))
  all_goals try (
    rename_i i j hi hj
    have hi : i < 3 := Nat.lt_of_lt_of_eq hi (by decide +kernel)
    have z : i = 0 ∨ i = 1 ∨ i = 2 := by omega
    have z2 : j = 0 ∨ j = 1 := by omega
    rcases z with rfl | rfl | rfl <;> rcases z2 with rfl | rfl <;> first | rfl | kernel_rfl)
  all_goals try (
    (with_reducible refine (?_ : impA _ _ _ _))
    exfalso
    clear hk
    rename_i z
    rw [Bool.not_eq_true'] at z
    refine Bool.eq_false_iff.1 z (sameB_iff.2 ⟨by decide +kernel, fun x _ hx j hj => ?_⟩)
    have hx : x < 3 := Nat.lt_of_lt_of_eq hx (by decide +kernel)
    have z : x = 0 ∨ x = 1 ∨ x = 2 := by omega
    have z2 : j = 0 := by omega
    subst z2
    rcases z with rfl | rfl | rfl <;> decide +kernel)
  all_goals try (
    (with_reducible refine (?_ : impA _ _ _ _))
    exfalso
    clear hk
    rename_i z
    rw [Bool.not_eq_true'] at z
    refine Bool.eq_false_iff.1 z (chB_iff.2 ⟨by decide +kernel, by decide +kernel, by decide +kernel, fun x _ hx j hj => ?_⟩)
    have hx : x < 3 := Nat.lt_of_lt_of_eq hx (by decide +kernel)
    have z : x = 0 ∨ x = 1 ∨ x = 2 := by omega
    have z2 : j = 0 ∨ j = 1 := by omega
    rcases z with rfl | rfl | rfl <;> rcases z2 with rfl | rfl <;> decide +kernel)
  · rename_i i j hi hj
    have z : i = 0 ∨ i = 1 ∨ i = 2 := by omega
    obtain rfl : j = 0 := by omega
    rcases z with rfl | rfl | rfl <;> rfl
  conv => whnf
  refine .inr ?_
  repeat' (first | ((with_reducible refine kok ?_); kernel_rfl) | ((with_reducible refine keq_mk ?_); kernel_rfl) | with_reducible rfl | ((conv => whnf); first | (with_reducible exact trivial) | ((with_reducible refine and_ff ?_ ?_); · exact rfl) | ((with_reducible refine and_tt ?_ ?_); · exact rfl) | (with_reducible refine And.intro ?_ ?_) | intro _ | (with_reducible refine fin2 hk ?_) | ((with_reducible refine eq_leaf ?_); exact rfl) | exact trivial))
  all_goals try first | exact exA_fits.1 | exact exA_fits.2
  all_goals try (clear hk; (first | with_reducible refine (?_ : (_ : Int) ≤ _) | with_reducible refine (?_ : (_ : Int) < _) | with_reducible refine (?_ : (_ : Nat) < _) | with_reducible refine (?_ : (_ : Nat) ≤ _)); decide +kernel)
  all_goals try (
    (with_reducible refine (?_ : impA _ _ _ _))
    exfalso
    clear hk
    rename_i z
    exact absurd z (by decide +kernel))
  conv => whnf
  refine .inr ?_
  repeat' (first | ((with_reducible refine kok ?_); kernel_rfl) | ((with_reducible refine keq_mk ?_); kernel_rfl) | with_reducible rfl | ((conv => whnf); first | (with_reducible exact trivial) | ((with_reducible refine and_ff ?_ ?_); · exact rfl) | ((with_reducible refine and_tt ?_ ?_); · exact rfl) | (with_reducible refine And.intro ?_ ?_) | intro _ | (with_reducible refine fin2 hk ?_) | ((with_reducible refine eq_leaf ?_); exact rfl) | exact trivial))
  all_goals try first | exact exA_fits.1 | exact exA_fits.2
  all_goals try (clear hk; (first | with_reducible refine (?_ : (_ : Int) ≤ _) | with_reducible refine (?_ : (_ : Int) < _) | with_reducible refine (?_ : (_ : Nat) < _) | with_reducible refine (?_ : (_ : Nat) ≤ _)); decide +kernel)
  all_goals try (
    (with_reducible refine (?_ : impA _ _ _ _))
    exfalso
    clear hk
    rename_i z
    exact absurd z (by decide +kernel))
  all_goals try exact ex_fits _ (by assumption)
  all_goals try (
    clear hk
    rename_i i j hi hj
    have z : i = 0 ∨ i = 1 ∨ i = 2 := by omega
    have z2 : j = 0 ∨ j = 1 := by omega
    rcases z with rfl | rfl | rfl <;> rcases z2 with rfl | rfl <;> rfl)
  all_goals try (
    clear hk
    rename_i i j hi hj
    have z : i = 0 ∨ i = 1 ∨ i = 2 ∨ i = 3 := by omega
    have z2 : j = 0 := by omega
    subst z2
    rcases z with rfl | rfl | rfl | rfl <;> rfl)
  all_goals try (
    (with_reducible refine (?_ : impA _ _ _ _))
    exfalso
    clear hk
    rename_i z
    rw [Bool.not_eq_true'] at z
    refine Bool.eq_false_iff.1 z (chB_iff.2 ⟨by decide +kernel, by decide +kernel, by decide +kernel, fun x _ hx j hj => ?_⟩)
    have hx : x < 3 := Nat.lt_of_lt_of_eq hx (by decide +kernel)
    have z : x = 0 ∨ x = 1 ∨ x = 2 := by omega
    have z2 : j = 0 ∨ j = 1 := by omega
    rcases z with rfl | rfl | rfl <;> rcases z2 with rfl | rfl <;> decide +kernel)
  all_goals clear hk
  all_goals try (
    rename_i i j hi hj
    obtain rfl : i = 0 := by omega
    obtain rfl : j = 0 := by omega
    rfl)
  all_goals try decide +kernel
  all_goals try (
    rename_i i hi
    have hi : i < 4 := Nat.lt_of_lt_of_eq hi (by decide +kernel)
    have z : i = 0 ∨ i = 1 ∨ i = 2 ∨ i = 3 := by omega
    rcases z with rfl | rfl | rfl | rfl <;> first
      | exact congrArg (V.D.int .i64) (by decide +kernel)
      | exact .inl ⟨rfl, by decide +kernel⟩
      | exact .inr ⟨rfl, by decide +kernel⟩)
  all_goals try (
    rename_i i hi
    have hi : i < 1 := Nat.lt_of_lt_of_eq hi (by decide +kernel)
    obtain rfl : i = 0 := by omega
    first
      | exact congrArg (V.D.int .i64) (by decide +kernel)
      | exact .inl ⟨rfl, by decide +kernel⟩
      | exact .inr ⟨rfl, by decide +kernel⟩)
  skip
end Go.Proofs.Ytbakdblbknfadaa
end
section
set_option linter.unusedVariables false
set_option linter.unusedSimpArgs false
set_option maxRecDepth 100000
namespace Go.Proofs.Ytbakdblbknfadaa
open Go.V

theorem aimKnown_lifted (os : Os) (started : os.Started) (H : Type) (enc : TypeId × Value → H) :
    ReturnsInHanded {} Try.checked os 17 .any (Rows.aimKnownSpec.pre6 enc Go.Proofs.Try.prog Try.f17 Rows.aimKnownRow.domain false) (Rows.aimKnownSpec.post enc Go.Proofs.Try.prog Try.f17 false Rows.aimKnownRow.fresh Rows.aimKnownRow.handsOn Rows.aimKnownRow.again) := by
  refine returnsInHanded_of_change (C := Try.checked) own started (by kernel_rfl) Try.func17
    (ChangeSpec.witness6 (enc := enc) (C := Try.checked) false ⟨#[], #[], []⟩ 8 (by kernel_rfl) (by kernel_rfl) (by kernel_rfl) (by kernel_rfl)) ?_
  intro W base args ds gs before hok hW _ _
  refine law_contract (l := []) (tb := 4) laid_ok lawAKnown_ok (by kernel_rfl) (by kernel_rfl) rfl tbool (fun ds h => ?_) rfl (fun ds hd => ?_) W base args ds gs before hok hW
  · match ds, h with
    | [], _ => exact ⟨_, _, rfl, trivial, .inl rfl⟩
  · match ds, hd with
    | [], _ => exact ⟨rfl, rfl, rfl⟩
theorem aimKnown_holds : Rows.AimKnownSaid :=
  OpenClaim.holds_of_wide 17 Try.f17 rfl rfl rfl rfl rfl rfl rfl ⟨rfl, rfl, rfl, rfl, rfl⟩ rfl rfl rfl rfl rfl (by kernel_rfl) Try.func17 (by kernel_rfl)
    (of_decide_eq_true (by kernel_rfl)) (by unfold Func.isWrapper; first | (rw [if_pos (by decide +kernel)]; kernel_rfl) | (rw [if_neg (by decide +kernel)]; exact ⟨rfl, rfl⟩))
    (fun os started H enc _ => aimKnown_lifted os started H enc)
#print axioms aimKnown_holds
end Go.Proofs.Ytbakdblbknfadaa
end
