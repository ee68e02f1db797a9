/-
  Contracts of aiming: Allowed; the first mark; the corners with a miss that is great enough.
-/
import Derived.Test.YtbakdblbknfadaaMk
section
set_option linter.unusedVariables false
set_option linter.unusedSimpArgs false
set_option maxRecDepth 100000
set_option maxHeartbeats 4000000
namespace Go.Proofs.Ytbakdblbknfadaa
open Go.V
attribute [local irreducible] weighS chkA checkBands lowB ScOK askE imp missS alwB
theorem aAllowT_ok : PSound Go.Proofs.Try.prog 26 (mk (rTL allowT)) := by
  refine psound_mk Try.func26 (by kernel_rfl) rfl (ctxA Llook_ok) ?_
  (intro ds p d h; unfold rTL at h; split at h <;> first | (cases h; done) | skip; cases h; refine ⟨Nat.le_of_ble_eq_true rfl, fun hp k hk => ?_⟩)
  rename_i d n g
  obtain ⟨ht, hg⟩ := hp
  have hf := at_fits ht
  refine ⟨[(atOf d).D, .rsl 6 n (imD (im g))], at_imp ht ⟨rfl, hg, ?_⟩⟩
  clear ht hg
  generalize atOf d = t at *
  generalize im g = a at *
  have A1 := @ask_1 t n a
  have A2 := @ask_2 t n a
  have A3 := @ask_3 t n a
  have A4 := @ask_4 t n a
  unfold allowT alwN at hk
  generalize askE t n a = e at *
  repeat' (first | ((with_reducible refine kok ?_); kernel_rfl) | ((with_reducible refine keq_mk ?_); kernel_rfl) | with_reducible rfl | ((conv => whnf); first | (with_reducible exact trivial) | ((with_reducible refine and_ff ?_ ?_); · exact rfl) | ((with_reducible refine and_tt ?_ ?_); · exact rfl) | (with_reducible refine And.intro ?_ ?_) | intro _ | (with_reducible refine fin2 hk ?_) | ((with_reducible refine eq_leaf ?_); exact rfl) | exact trivial))
  all_goals clear hk
  all_goals try (exfalso; simp only [atOf_agg, im_imD, taskOf_agg, ↓Bool.not_eq_true', ↓Bool.not_eq_false', ↓decT, ↓decF, out_true, out_false, isin_true, isin_false, Int.toNat_natCast, Int.ofNat_lt, Nat.zero_add, Nat.add_zero, Nat.reduceAdd] at *; contradiction)
  all_goals try simp only [atOf_agg, im_imD, taskOf_agg, ↓Bool.not_eq_true', ↓Bool.not_eq_false', ↓decT, ↓decF, out_true, out_false, isin_true, isin_false, Int.toNat_natCast, Int.ofNat_lt, Nat.zero_add, Nat.add_zero, Nat.reduceAdd] at *
  all_goals try (simp only [id, scT_e, weighS_t] at *)
  all_goals try (first | exact hf.1 | exact hf.2 | exact am_ok (by assumption) | exact bands_ok (by assumption) | exact (bands_ok (by assumption)).len.1 | exact (bands_ok (by assumption)).len.2 | exact (A1 (by assumption)).symm | exact (A2 (by assumption) (by assumption)).symm | exact (A3 (by assumption) (by assumption) (by assumption)).symm | exact (A4 (by assumption) (by assumption) (by assumption)).symm | (rw [A4 (by assumption) (by assumption) (by assumption)]; assumption) | (rw [A4 (by assumption) (by assumption) (by assumption), ifz_0]; done) | (rw [A4 (by assumption) (by assumption) (by assumption), ifn_0]; done) | ((first | rw [ifz_ne (by rw [A1 (by assumption)]; assumption)] | rw [ifn_ne (by rw [A1 (by assumption)]; assumption)]); done) | ((first | rw [ifz_ne (by rw [A2 (by assumption) (by assumption)]; assumption)] | rw [ifn_ne (by rw [A2 (by assumption) (by assumption)]; assumption)]); done) | ((first | rw [ifz_ne (by rw [A3 (by assumption) (by assumption) (by assumption)]; decide)] | rw [ifn_ne (by rw [A3 (by assumption) (by assumption) (by assumption)]; decide)]); done))
  exact weighS_ok (am_ok (by assumption)) (bands_ok (by assumption))
theorem qAllowT_ok : PSound Go.Proofs.Try.prog 34 (mk (rTL allowT)) := by
  refine psound_mk Try.func34 (by kernel_rfl) rfl (ctx la16_ok) ?_
  (intro ds p d h; unfold rTL at h; split at h <;> first | (cases h; done) | skip; cases h; refine ⟨Nat.le_of_ble_eq_true rfl, fun hp k hk => ?_⟩)
  rename_i d n g
  obtain ⟨ht, hg⟩ := hp
  have hf := at_fits ht
  refine ⟨[(atOf d).D, .rsl 6 n (imD (im g))], at_imp ht ⟨rfl, hg, ?_⟩⟩
  generalize atOf d = t at *
  generalize im g = a at *
  unfold allowT alwN at hk
  repeat' (first | ((with_reducible refine kok ?_); kernel_rfl) | ((with_reducible refine keq_mk ?_); kernel_rfl) | with_reducible rfl | ((conv => whnf); first | (with_reducible exact trivial) | ((with_reducible refine and_ff ?_ ?_); · exact rfl) | ((with_reducible refine and_tt ?_ ?_); · exact rfl) | (with_reducible refine And.intro ?_ ?_) | intro _ | (with_reducible refine fin2 hk ?_) | ((with_reducible refine eq_leaf ?_); exact rfl) | exact trivial))
  · exact hf.1
  · exact hf.2
  · clear hk
    simp only [atOf_agg, im_imD, taskOf_agg, ↓Bool.not_eq_true', ↓Bool.not_eq_false', ↓decT, ↓decF, out_true, out_false, isin_true, isin_false, Int.toNat_natCast, Int.ofNat_lt, Nat.zero_add, Nat.add_zero, Nat.reduceAdd] at *
    (first | rfl | exact hf.1 | exact hf.2 | exact (ask_ok (by assumption)).1 | exact (ask_ok (by assumption)).2.1 | exact weighS_ok (ask_ok (by assumption)).1 (ask_ok (by assumption)).2.1 | exact (ask_ok (by assumption)).2.1.len.1 | exact (ask_ok (by assumption)).2.1.len.2 | (rw [ifz_ne (by assumption)]; done) | (rw [ifn_ne (by assumption)]; done) | (rw [show askE t n a = 0 from by assumption, ifz_0]; done) | (rw [show askE t n a = 0 from by assumption, ifn_0]; done) | assumption | exact (by assumption : askE t n a = 0).symm | exact (askI_e (by assumption)).symm | exact (askI_4 (by assumption) (by omega)).symm | exact (askI_0 (by assumption) (by omega)).symm | (rw [ifz_ne (by rw [askI_e (by assumption)]; assumption)]; done) | (rw [ifz_ne (by rw [askI_4 (by assumption) (by omega)]; decide)]; done) | (rw [askI_0 (by assumption) (by omega), ifz_0]; done))
  rename_i g1
  have e0 : askE t n a = 0 := by simpa only [atOf_agg, im_imD, taskOf_agg, ↓Bool.not_eq_true', ↓Bool.not_eq_false', ↓decT, ↓decF, out_true, out_false, isin_true, isin_false, Int.toNat_natCast, Int.ofNat_lt, Nat.zero_add, Nat.add_zero, Nat.reduceAdd] using g1
  have ho := ask_ok e0
  have hns := ho.1.ns
  rw [e0] at hk
  conv => whnf
  refine ⟨Nat, fun i => [(2, .ptr 0 0), (1, .rsl 6 n (imD a)), (7, .own 1 (alwTo (weighS t n a) i).length), (8, .int .i64 i)], fun i => [some (.row t.cells), some (.buf 3 1 (alwTo (weighS t n a) i).length (imD (listM (alwTo (weighS t n a) i))))],
    fun i => t.ns - i, fun i => i ≤ t.ns, [(3, 1)], 0, fun _ => ⟨?_, ?_⟩, ?_, fun i hi => ?_⟩
  · conv => lhs; whnf
  · conv => lhs; whnf
  · clear hk
    repeat' (first | ((with_reducible refine kok ?_); kernel_rfl) | ((with_reducible refine keq_mk ?_); kernel_rfl) | with_reducible rfl | ((conv => whnf); first | (with_reducible exact trivial) | ((with_reducible refine and_ff ?_ ?_); · exact rfl) | ((with_reducible refine and_tt ?_ ?_); · exact rfl) | (with_reducible refine And.intro ?_ ?_) | intro _ | (with_reducible refine fin2 hk ?_) | ((with_reducible refine eq_leaf ?_); exact rfl) | exact trivial))
    all_goals first
      | exact Nat.zero_le _
      | (exact absurd (by assumption) (Nat.not_lt_zero _))
      | rfl
  have hi : i ≤ t.ns := hi
  have hl := alwTo_len (weighS t n a) i
  conv => whnf
  refine ⟨fun g1 => ?_, fun g1 => ?_⟩
  rotate_left
  · repeat' (first | ((with_reducible refine kok ?_); kernel_rfl) | ((with_reducible refine keq_mk ?_); kernel_rfl) | with_reducible rfl | ((conv => whnf); first | (with_reducible exact trivial) | ((with_reducible refine and_ff ?_ ?_); · exact rfl) | ((with_reducible refine and_tt ?_ ?_); · exact rfl) | (with_reducible refine And.intro ?_ ?_) | intro _ | (with_reducible refine fin2 hk ?_) | ((with_reducible refine eq_leaf ?_); exact rfl) | exact trivial))
    all_goals (
      have e : i = t.ns := by have := of_decide_eq_false g1; omega
      rw [e]
      try rfl)
  have hlt : i < t.ns := by have := of_decide_eq_true g1; omega
  repeat' (first | ((with_reducible refine kok ?_); kernel_rfl) | ((with_reducible refine keq_mk ?_); kernel_rfl) | with_reducible rfl | ((conv => whnf); first | (with_reducible exact trivial) | ((with_reducible refine and_ff ?_ ?_); · exact rfl) | ((with_reducible refine and_tt ?_ ?_); · exact rfl) | (with_reducible refine And.intro ?_ ?_) | intro _ | (with_reducible refine fin2 hk ?_) | ((with_reducible refine eq_leaf ?_); exact rfl) | exact trivial))
  all_goals try exact hf.1
  all_goals try exact hf.2
  all_goals try exact ho.1
  all_goals try exact ho.2.1
  all_goals try exact ho.2.1.len.1
  all_goals try (simp only [atOf_agg, im_imD]; first | exact ho.1 | exact ho.2.1)
  all_goals try exact Int.ofNat_lt.2 hlt
  all_goals try (clear hk; (first | with_reducible refine (?_ : (_ : Int) ≤ _) | with_reducible refine (?_ : (_ : Int) < _)); first | omega | (simp only [taskOf_agg, ↓Bool.not_eq_true', ↓Bool.not_eq_false', ↓decT, ↓decF, out_true, out_false, isin_true, isin_false, Int.toNat_natCast, Int.ofNat_lt, Nat.zero_add, Nat.add_zero, Nat.reduceAdd]; omega))
  all_goals try (show ((alwTo (weighS t n a) i).length + 1) * 8 ≤ 140737488355328; omega)
  · rename_i g2
    have q : alwB (weighS t n a) i = true := by simpa only [atOf_agg, im_imD, taskOf_agg, ↓Bool.not_eq_true', ↓Bool.not_eq_false', ↓decT, ↓decF, out_true, out_false, isin_true, isin_false, Int.toNat_natCast, Int.ofNat_lt, Nat.zero_add, Nat.add_zero, Nat.reduceAdd] using g2
    clear hk
    conv => whnf
    refine ⟨i + 1, ?_⟩
    repeat' (first | ((with_reducible refine kok ?_); kernel_rfl) | ((with_reducible refine keq_mk ?_); kernel_rfl) | with_reducible rfl | ((conv => whnf); first | (with_reducible exact trivial) | ((with_reducible refine and_ff ?_ ?_); · exact rfl) | ((with_reducible refine and_tt ?_ ?_); · exact rfl) | (with_reducible refine And.intro ?_ ?_) | intro _ | (with_reducible refine fin2 hk ?_) | ((with_reducible refine eq_leaf ?_); exact rfl) | exact trivial))
    all_goals first
      | exact (alw_len q).symm
      | (rw [alw_yes q]; exact list_snoc rfl (by rw [← alw_len q]; assumption) (by assumption))
      | exact hlt
      | (simp only; omega)
  · rename_i g2
    have q : alwB (weighS t n a) i = false := by simpa only [atOf_agg, im_imD, taskOf_agg, ↓Bool.not_eq_true', ↓Bool.not_eq_false', ↓decT, ↓decF, out_true, out_false, isin_true, isin_false, Int.toNat_natCast, Int.ofNat_lt, Nat.zero_add, Nat.add_zero, Nat.reduceAdd] using g2
    clear hk
    conv => whnf
    refine ⟨i + 1, ?_⟩
    repeat' (first | ((with_reducible refine kok ?_); kernel_rfl) | ((with_reducible refine keq_mk ?_); kernel_rfl) | with_reducible rfl | ((conv => whnf); first | (with_reducible exact trivial) | ((with_reducible refine and_ff ?_ ?_); · exact rfl) | ((with_reducible refine and_tt ?_ ?_); · exact rfl) | (with_reducible refine And.intro ?_ ?_) | intro _ | (with_reducible refine fin2 hk ?_) | ((with_reducible refine eq_leaf ?_); exact rfl) | exact trivial))
    all_goals first
      | (rw [alw_no q]; done)
      | exact hlt
      | (simp only; omega)
def toBl (d : V.D) : Bool := match d with
  | .bool b => b
  | .tt => true
  | _ => false
def blD (b : Nat → Bool) (i j : Nat) : V.D := .bool (b i)
def BlM (n : Nat) (g : Nat → Nat → V.D) : Prop := ∀ i j, i < n → j < 1 → g i j = blD (fun i => toBl (g i 0)) i j
def rIdx : List V.D → Option (Prop × V.D) := fun ds => match ds with
  | [.rsl 1 n g, .tt] => some (BlM n g ∧ n ≤ 1099511627776, .int .i64 (firstFrom (fun i => toBl (g i 0)) 0 n))
  | _ => none
theorem aIndex_ok : PSound Go.Proofs.Try.prog 60 (mk rIdx) := by
  refine psound_mk Try.func60 (by kernel_rfl) rfl (ctx la16_ok) ?_
  (intro ds p d h; unfold rIdx at h; split at h <;> first | (cases h; done) | skip; cases h; refine ⟨Nat.le_of_ble_eq_true rfl, fun hp k hk => ?_⟩)
  rename_i n g
  obtain ⟨h1, h2⟩ := hp
  refine ⟨[.rsl 1 n (blD fun i => toBl (g i 0)), .tt], rfl, h1, ?_⟩
  clear h1
  generalize (fun i => toBl (g i 0)) = b at *
  generalize hS : firstFrom b 0 n = c at *
  repeat' (first | ((with_reducible refine kok ?_); kernel_rfl) | ((with_reducible refine keq_mk ?_); kernel_rfl) | with_reducible rfl | ((conv => whnf); first | (with_reducible exact trivial) | ((with_reducible refine and_ff ?_ ?_); · exact rfl) | ((with_reducible refine and_tt ?_ ?_); · exact rfl) | (with_reducible refine And.intro ?_ ?_) | intro _ | (with_reducible refine fin2 hk ?_) | ((with_reducible refine eq_leaf ?_); exact rfl) | exact trivial))
  conv => whnf
  refine ⟨Nat, fun i => [(0, .rsl 1 n (blD b)), (1, .tt), (7, .int .i64 n), (8, .int .i64 i)], fun _ => [], fun i => n - i, fun i => i ≤ n ∧ c = firstFrom b i (n - i), [], 0, fun _ => ⟨rfl, rfl⟩, ?_, fun i hI => ?_⟩
  · clear hk
    repeat' (first | ((with_reducible refine kok ?_); kernel_rfl) | ((with_reducible refine keq_mk ?_); kernel_rfl) | with_reducible rfl | ((conv => whnf); first | (with_reducible exact trivial) | ((with_reducible refine and_ff ?_ ?_); · exact rfl) | ((with_reducible refine and_tt ?_ ?_); · exact rfl) | (with_reducible refine And.intro ?_ ?_) | intro _ | (with_reducible refine fin2 hk ?_) | ((with_reducible refine eq_leaf ?_); exact rfl) | exact trivial))
    all_goals first | exact Nat.zero_le _ | exact hS.symm | rfl
  obtain ⟨hi, hc⟩ := hI
  have hi : i ≤ n := hi
  clear hS
  conv => whnf
  refine ⟨fun g1 => ?_, fun g1 => ?_⟩
  rotate_left
  · rw [firstFrom_end (by have := of_decide_eq_false g1; omega)] at hc
    subst hc
    repeat' (first | ((with_reducible refine kok ?_); kernel_rfl) | ((with_reducible refine keq_mk ?_); kernel_rfl) | with_reducible rfl | ((conv => whnf); first | (with_reducible exact trivial) | ((with_reducible refine and_ff ?_ ?_); · exact rfl) | ((with_reducible refine and_tt ?_ ?_); · exact rfl) | (with_reducible refine And.intro ?_ ?_) | intro _ | (with_reducible refine fin2 hk ?_) | ((with_reducible refine eq_leaf ?_); exact rfl) | exact trivial))
  have hlt : i < n := by have := of_decide_eq_true g1; omega
  repeat' (first | ((with_reducible refine kok ?_); kernel_rfl) | ((with_reducible refine keq_mk ?_); kernel_rfl) | with_reducible rfl | ((conv => whnf); first | (with_reducible exact trivial) | ((with_reducible refine and_ff ?_ ?_); · exact rfl) | ((with_reducible refine and_tt ?_ ?_); · exact rfl) | (with_reducible refine And.intro ?_ ?_) | intro _ | (with_reducible refine fin2 hk ?_) | ((with_reducible refine eq_leaf ?_); exact rfl) | exact trivial))
  all_goals try (clear hk; (first | with_reducible refine (?_ : (_ : Int) ≤ _) | with_reducible refine (?_ : (_ : Int) < _)); first | omega | (simp only [taskOf_agg, ↓Bool.not_eq_true', ↓Bool.not_eq_false', ↓decT, ↓decF, out_true, out_false, isin_true, isin_false, Int.toNat_natCast, Int.ofNat_lt, Nat.zero_add, Nat.add_zero, Nat.reduceAdd]; omega))
  · rename_i g2
    have q : b i = true := by first | exact g2 | simpa using g2
    rw [firstFrom_step hlt, if_pos q] at hc
    subst hc
    repeat' (first | ((with_reducible refine kok ?_); kernel_rfl) | ((with_reducible refine keq_mk ?_); kernel_rfl) | with_reducible rfl | ((conv => whnf); first | (with_reducible exact trivial) | ((with_reducible refine and_ff ?_ ?_); · exact rfl) | ((with_reducible refine and_tt ?_ ?_); · exact rfl) | (with_reducible refine And.intro ?_ ?_) | intro _ | (with_reducible refine fin2 hk ?_) | ((with_reducible refine eq_leaf ?_); exact rfl) | exact trivial))
  · rename_i g2
    have q : b i = false := by first | exact g2 | simpa using g2
    rw [firstFrom_step hlt, if_neg (by rw [q]; exact Bool.noConfusion)] at hc
    clear hk
    conv => whnf
    refine ⟨i + 1, ?_⟩
    repeat' (first | ((with_reducible refine kok ?_); kernel_rfl) | ((with_reducible refine keq_mk ?_); kernel_rfl) | with_reducible rfl | ((conv => whnf); first | (with_reducible exact trivial) | ((with_reducible refine and_ff ?_ ?_); · exact rfl) | ((with_reducible refine and_tt ?_ ?_); · exact rfl) | (with_reducible refine And.intro ?_ ?_) | intro _ | (with_reducible refine fin2 hk ?_) | ((with_reducible refine eq_leaf ?_); exact rfl) | exact trivial))
    all_goals first | exact hlt | exact hc | (simp only; omega)
end Go.Proofs.Ytbakdblbknfadaa
end
section
set_option linter.unusedVariables false
set_option linter.unusedSimpArgs false
set_option maxRecDepth 100000
set_option maxHeartbeats 4000000
namespace Go.Proofs.Ytbakdblbknfadaa
open Go.V
noncomputable def la17 : Lib := (60, mk rIdx) :: la16
theorem la17_ok : LibOK Go.Proofs.Try.prog la17 := .cons aIndex_ok la16_ok
def farB (s : Scn) (i : Nat) (st m : Int) (k : Int) : Bool := decide ((if (i : Int) < st then m + 1 else m) ≤ crn s i k)
theorem far_lt {s : Scn} {i : Nat} {st m : Int} (h : (i : Int) < st) (k : Int) : decide (m + 1 ≤ crn s i k) = farB s i st m k := by unfold farB; rw [if_pos h]
theorem far_ge {s : Scn} {i : Nat} {st m : Int} (h : ¬ (i : Int) < st) (k : Int) : decide (m ≤ crn s i k) = farB s i st m k := by unfold farB; rw [if_neg h]
def farTo (s : Scn) (i : Nat) (st m : Int) (k j : Nat) : Bool := if j < k then farB s i st m j else false
def rBeaten : List V.D → Option (Prop × V.D) := fun ds => match ds with
  | [.eptr 15 e, .int .i64 i, .int .i64 st, .int .i64 m] => some (ScIs e ∧ ScOK (scT e) ∧ (0 ≤ i ∧ i < (scT e).t.ns) ∧ 0 ≤ m ∧ m ≤ 20000000400000002, .agg [.bool (farB (scT e) i.toNat st m 0), .bool (farB (scT e) i.toNat st m 1), .bool (farB (scT e) i.toNat st m 2), .bool (farB (scT e) i.toNat st m 3)])
  | _ => none
attribute [local irreducible] imp ScOK sdB sqM crn farB missS alwB
theorem aBeaten_ok : PSound Go.Proofs.Try.prog 59 (mk rBeaten) := by
  refine psound_mk Try.func59 (by kernel_rfl) rfl (ctx la17_ok) ?_
  (intro ds p d h; unfold rBeaten at h; split at h <;> first | (cases h; done) | skip; cases h; refine ⟨Nat.le_of_ble_eq_true rfl, fun hp k hk => ?_⟩)
  rename_i e i st m
  obtain ⟨he, hs, hi, hm⟩ := hp
  refine ⟨[.eptr 15 (scT e).e, .int .i64 i, .int .i64 st, .int .i64 m], rfl, sc_imp he, rfl, rfl, rfl, ?_⟩
  clear he
  generalize scT e = s at *
  obtain ⟨i', rfl⟩ : ∃ j : Nat, i = (j : Int) := ⟨i.toNat, by omega⟩
  have F1 := fun h k => @far_lt s i' st m h k
  have F2 := fun h k => @far_ge s i' st m h k
  repeat' (first | ((with_reducible refine kok ?_); kernel_rfl) | ((with_reducible refine keq_mk ?_); kernel_rfl) | with_reducible rfl | ((conv => whnf); first | (with_reducible exact trivial) | ((with_reducible refine and_ff ?_ ?_); · exact rfl) | ((with_reducible refine and_tt ?_ ?_); · exact rfl) | (with_reducible refine And.intro ?_ ?_) | intro _ | (with_reducible refine fin2 hk ?_) | ((with_reducible refine eq_leaf ?_); exact rfl) | exact trivial))
  all_goals try exact hs
  all_goals try exact hi.1
  all_goals try exact hi.2
  all_goals try (clear hk; (first | with_reducible refine (?_ : (_ : Int) ≤ _) | with_reducible refine (?_ : (_ : Int) < _)); omega)
  · rename_i g1
    have F := F1 (of_decide_eq_true g1)
    conv => whnf
    refine ⟨Nat, fun k => [(0, .eptr 15 s.e), (3, .int .i64 (m + 1)), (8, .ptr 0 0), (18, .agg [.int .i64 (crn s i' 0), .int .i64 (crn s i' 1), .int .i64 (crn s i' 2), .int .i64 (crn s i' 3)]), (19, .int .i64 k)],
      fun k => [some (.row [.bool (farTo s i' st m k 0), .bool (farTo s i' st m k 1), .bool (farTo s i' st m k 2), .bool (farTo s i' st m k 3)])],
      fun k => 4 - k, fun k => k ≤ 4, [], 0, fun _ => ⟨rfl, rfl⟩, ?_, fun k hk' => ?_⟩
    · clear hk
      repeat' (first | ((with_reducible refine kok ?_); kernel_rfl) | ((with_reducible refine keq_mk ?_); kernel_rfl) | with_reducible rfl | ((conv => whnf); first | (with_reducible exact trivial) | ((with_reducible refine and_ff ?_ ?_); · exact rfl) | ((with_reducible refine and_tt ?_ ?_); · exact rfl) | (with_reducible refine And.intro ?_ ?_) | intro _ | (with_reducible refine fin2 hk ?_) | ((with_reducible refine eq_leaf ?_); exact rfl) | exact trivial))
      all_goals first | exact Nat.zero_le _ | rfl
    have hk' : k ≤ 4 := hk'
    have e : k = 0 ∨ k = 1 ∨ k = 2 ∨ k = 3 ∨ k = 4 := by omega
    clear hk'
    rcases e with rfl | rfl | rfl | rfl | rfl
    · repeat' (first | ((with_reducible refine kok ?_); kernel_rfl) | ((with_reducible refine keq_mk ?_); kernel_rfl) | with_reducible rfl | ((conv => whnf); first | (with_reducible exact trivial) | ((with_reducible refine and_ff ?_ ?_); · exact rfl) | ((with_reducible refine and_tt ?_ ?_); · exact rfl) | (with_reducible refine And.intro ?_ ?_) | intro _ | (with_reducible refine fin2 hk ?_) | ((with_reducible refine eq_leaf ?_); exact rfl) | exact trivial))
      all_goals try ((first | with_reducible refine (?_ : (_ : Int) ≤ _) | with_reducible refine (?_ : (_ : Int) < _)); clear hk; first | omega | decide)
      clear hk
      conv => whnf
      refine ⟨1, ?_⟩
      repeat' (first | ((with_reducible refine kok ?_); kernel_rfl) | ((with_reducible refine keq_mk ?_); kernel_rfl) | with_reducible rfl | ((conv => whnf); first | (with_reducible exact trivial) | ((with_reducible refine and_ff ?_ ?_); · exact rfl) | ((with_reducible refine and_tt ?_ ?_); · exact rfl) | (with_reducible refine And.intro ?_ ?_) | intro _ | (with_reducible refine fin2 hk ?_) | ((with_reducible refine eq_leaf ?_); exact rfl) | exact trivial))
      all_goals first | (with_reducible rfl) | exact F _ | rfl | (simp only; omega)
    · repeat' (first | ((with_reducible refine kok ?_); kernel_rfl) | ((with_reducible refine keq_mk ?_); kernel_rfl) | with_reducible rfl | ((conv => whnf); first | (with_reducible exact trivial) | ((with_reducible refine and_ff ?_ ?_); · exact rfl) | ((with_reducible refine and_tt ?_ ?_); · exact rfl) | (with_reducible refine And.intro ?_ ?_) | intro _ | (with_reducible refine fin2 hk ?_) | ((with_reducible refine eq_leaf ?_); exact rfl) | exact trivial))
      all_goals try ((first | with_reducible refine (?_ : (_ : Int) ≤ _) | with_reducible refine (?_ : (_ : Int) < _)); clear hk; first | omega | decide)
      clear hk
      conv => whnf
      refine ⟨2, ?_⟩
      repeat' (first | ((with_reducible refine kok ?_); kernel_rfl) | ((with_reducible refine keq_mk ?_); kernel_rfl) | with_reducible rfl | ((conv => whnf); first | (with_reducible exact trivial) | ((with_reducible refine and_ff ?_ ?_); · exact rfl) | ((with_reducible refine and_tt ?_ ?_); · exact rfl) | (with_reducible refine And.intro ?_ ?_) | intro _ | (with_reducible refine fin2 hk ?_) | ((with_reducible refine eq_leaf ?_); exact rfl) | exact trivial))
      all_goals first | (with_reducible rfl) | exact F _ | rfl | (simp only; omega)
    · repeat' (first | ((with_reducible refine kok ?_); kernel_rfl) | ((with_reducible refine keq_mk ?_); kernel_rfl) | with_reducible rfl | ((conv => whnf); first | (with_reducible exact trivial) | ((with_reducible refine and_ff ?_ ?_); · exact rfl) | ((with_reducible refine and_tt ?_ ?_); · exact rfl) | (with_reducible refine And.intro ?_ ?_) | intro _ | (with_reducible refine fin2 hk ?_) | ((with_reducible refine eq_leaf ?_); exact rfl) | exact trivial))
      all_goals try ((first | with_reducible refine (?_ : (_ : Int) ≤ _) | with_reducible refine (?_ : (_ : Int) < _)); clear hk; first | omega | decide)
      clear hk
      conv => whnf
      refine ⟨3, ?_⟩
      repeat' (first | ((with_reducible refine kok ?_); kernel_rfl) | ((with_reducible refine keq_mk ?_); kernel_rfl) | with_reducible rfl | ((conv => whnf); first | (with_reducible exact trivial) | ((with_reducible refine and_ff ?_ ?_); · exact rfl) | ((with_reducible refine and_tt ?_ ?_); · exact rfl) | (with_reducible refine And.intro ?_ ?_) | intro _ | (with_reducible refine fin2 hk ?_) | ((with_reducible refine eq_leaf ?_); exact rfl) | exact trivial))
      all_goals first | (with_reducible rfl) | exact F _ | rfl | (simp only; omega)
    · repeat' (first | ((with_reducible refine kok ?_); kernel_rfl) | ((with_reducible refine keq_mk ?_); kernel_rfl) | with_reducible rfl | ((conv => whnf); first | (with_reducible exact trivial) | ((with_reducible refine and_ff ?_ ?_); · exact rfl) | ((with_reducible refine and_tt ?_ ?_); · exact rfl) | (with_reducible refine And.intro ?_ ?_) | intro _ | (with_reducible refine fin2 hk ?_) | ((with_reducible refine eq_leaf ?_); exact rfl) | exact trivial))
      all_goals try ((first | with_reducible refine (?_ : (_ : Int) ≤ _) | with_reducible refine (?_ : (_ : Int) < _)); clear hk; first | omega | decide)
      clear hk
      conv => whnf
      refine ⟨4, ?_⟩
      repeat' (first | ((with_reducible refine kok ?_); kernel_rfl) | ((with_reducible refine keq_mk ?_); kernel_rfl) | with_reducible rfl | ((conv => whnf); first | (with_reducible exact trivial) | ((with_reducible refine and_ff ?_ ?_); · exact rfl) | ((with_reducible refine and_tt ?_ ?_); · exact rfl) | (with_reducible refine And.intro ?_ ?_) | intro _ | (with_reducible refine fin2 hk ?_) | ((with_reducible refine eq_leaf ?_); exact rfl) | exact trivial))
      all_goals first | (with_reducible rfl) | exact F _ | rfl | (simp only; omega)
    · repeat' (first | ((with_reducible refine kok ?_); kernel_rfl) | ((with_reducible refine keq_mk ?_); kernel_rfl) | with_reducible rfl | ((conv => whnf); first | (with_reducible exact trivial) | ((with_reducible refine and_ff ?_ ?_); · exact rfl) | ((with_reducible refine and_tt ?_ ?_); · exact rfl) | (with_reducible refine And.intro ?_ ?_) | intro _ | (with_reducible refine fin2 hk ?_) | ((with_reducible refine eq_leaf ?_); exact rfl) | exact trivial))
  · rename_i g1
    have F := F2 (of_decide_eq_false g1)
    conv => whnf
    refine ⟨Nat, fun k => [(0, .eptr 15 s.e), (3, .int .i64 m), (8, .ptr 0 0), (18, .agg [.int .i64 (crn s i' 0), .int .i64 (crn s i' 1), .int .i64 (crn s i' 2), .int .i64 (crn s i' 3)]), (19, .int .i64 k)],
      fun k => [some (.row [.bool (farTo s i' st m k 0), .bool (farTo s i' st m k 1), .bool (farTo s i' st m k 2), .bool (farTo s i' st m k 3)])],
      fun k => 4 - k, fun k => k ≤ 4, [], 0, fun _ => ⟨rfl, rfl⟩, ?_, fun k hk' => ?_⟩
    · clear hk
      repeat' (first | ((with_reducible refine kok ?_); kernel_rfl) | ((with_reducible refine keq_mk ?_); kernel_rfl) | with_reducible rfl | ((conv => whnf); first | (with_reducible exact trivial) | ((with_reducible refine and_ff ?_ ?_); · exact rfl) | ((with_reducible refine and_tt ?_ ?_); · exact rfl) | (with_reducible refine And.intro ?_ ?_) | intro _ | (with_reducible refine fin2 hk ?_) | ((with_reducible refine eq_leaf ?_); exact rfl) | exact trivial))
      all_goals first | exact Nat.zero_le _ | rfl
    have hk' : k ≤ 4 := hk'
    have e : k = 0 ∨ k = 1 ∨ k = 2 ∨ k = 3 ∨ k = 4 := by omega
    clear hk'
    rcases e with rfl | rfl | rfl | rfl | rfl
    · repeat' (first | ((with_reducible refine kok ?_); kernel_rfl) | ((with_reducible refine keq_mk ?_); kernel_rfl) | with_reducible rfl | ((conv => whnf); first | (with_reducible exact trivial) | ((with_reducible refine and_ff ?_ ?_); · exact rfl) | ((with_reducible refine and_tt ?_ ?_); · exact rfl) | (with_reducible refine And.intro ?_ ?_) | intro _ | (with_reducible refine fin2 hk ?_) | ((with_reducible refine eq_leaf ?_); exact rfl) | exact trivial))
      all_goals try ((first | with_reducible refine (?_ : (_ : Int) ≤ _) | with_reducible refine (?_ : (_ : Int) < _)); clear hk; first | omega | decide)
      clear hk
      conv => whnf
      refine ⟨1, ?_⟩
      repeat' (first | ((with_reducible refine kok ?_); kernel_rfl) | ((with_reducible refine keq_mk ?_); kernel_rfl) | with_reducible rfl | ((conv => whnf); first | (with_reducible exact trivial) | ((with_reducible refine and_ff ?_ ?_); · exact rfl) | ((with_reducible refine and_tt ?_ ?_); · exact rfl) | (with_reducible refine And.intro ?_ ?_) | intro _ | (with_reducible refine fin2 hk ?_) | ((with_reducible refine eq_leaf ?_); exact rfl) | exact trivial))
      all_goals first | (with_reducible rfl) | exact F _ | rfl | (simp only; omega)
    · repeat' (first | ((with_reducible refine kok ?_); kernel_rfl) | ((with_reducible refine keq_mk ?_); kernel_rfl) | with_reducible rfl | ((conv => whnf); first | (with_reducible exact trivial) | ((with_reducible refine and_ff ?_ ?_); · exact rfl) | ((with_reducible refine and_tt ?_ ?_); · exact rfl) | (with_reducible refine And.intro ?_ ?_) | intro _ | (with_reducible refine fin2 hk ?_) | ((with_reducible refine eq_leaf ?_); exact rfl) | exact trivial))
      all_goals try ((first | with_reducible refine (?_ : (_ : Int) ≤ _) | with_reducible refine (?_ : (_ : Int) < _)); clear hk; first | omega | decide)
      clear hk
      conv => whnf
      refine ⟨2, ?_⟩
      repeat' (first | ((with_reducible refine kok ?_); kernel_rfl) | ((with_reducible refine keq_mk ?_); kernel_rfl) | with_reducible rfl | ((conv => whnf); first | (with_reducible exact trivial) | ((with_reducible refine and_ff ?_ ?_); · exact rfl) | ((with_reducible refine and_tt ?_ ?_); · exact rfl) | (with_reducible refine And.intro ?_ ?_) | intro _ | (with_reducible refine fin2 hk ?_) | ((with_reducible refine eq_leaf ?_); exact rfl) | exact trivial))
      all_goals first | (with_reducible rfl) | exact F _ | rfl | (simp only; omega)
    · repeat' (first | ((with_reducible refine kok ?_); kernel_rfl) | ((with_reducible refine keq_mk ?_); kernel_rfl) | with_reducible rfl | ((conv => whnf); first | (with_reducible exact trivial) | ((with_reducible refine and_ff ?_ ?_); · exact rfl) | ((with_reducible refine and_tt ?_ ?_); · exact rfl) | (with_reducible refine And.intro ?_ ?_) | intro _ | (with_reducible refine fin2 hk ?_) | ((with_reducible refine eq_leaf ?_); exact rfl) | exact trivial))
      all_goals try ((first | with_reducible refine (?_ : (_ : Int) ≤ _) | with_reducible refine (?_ : (_ : Int) < _)); clear hk; first | omega | decide)
      clear hk
      conv => whnf
      refine ⟨3, ?_⟩
      repeat' (first | ((with_reducible refine kok ?_); kernel_rfl) | ((with_reducible refine keq_mk ?_); kernel_rfl) | with_reducible rfl | ((conv => whnf); first | (with_reducible exact trivial) | ((with_reducible refine and_ff ?_ ?_); · exact rfl) | ((with_reducible refine and_tt ?_ ?_); · exact rfl) | (with_reducible refine And.intro ?_ ?_) | intro _ | (with_reducible refine fin2 hk ?_) | ((with_reducible refine eq_leaf ?_); exact rfl) | exact trivial))
      all_goals first | (with_reducible rfl) | exact F _ | rfl | (simp only; omega)
    · repeat' (first | ((with_reducible refine kok ?_); kernel_rfl) | ((with_reducible refine keq_mk ?_); kernel_rfl) | with_reducible rfl | ((conv => whnf); first | (with_reducible exact trivial) | ((with_reducible refine and_ff ?_ ?_); · exact rfl) | ((with_reducible refine and_tt ?_ ?_); · exact rfl) | (with_reducible refine And.intro ?_ ?_) | intro _ | (with_reducible refine fin2 hk ?_) | ((with_reducible refine eq_leaf ?_); exact rfl) | exact trivial))
      all_goals try ((first | with_reducible refine (?_ : (_ : Int) ≤ _) | with_reducible refine (?_ : (_ : Int) < _)); clear hk; first | omega | decide)
      clear hk
      conv => whnf
      refine ⟨4, ?_⟩
      repeat' (first | ((with_reducible refine kok ?_); kernel_rfl) | ((with_reducible refine keq_mk ?_); kernel_rfl) | with_reducible rfl | ((conv => whnf); first | (with_reducible exact trivial) | ((with_reducible refine and_ff ?_ ?_); · exact rfl) | ((with_reducible refine and_tt ?_ ?_); · exact rfl) | (with_reducible refine And.intro ?_ ?_) | intro _ | (with_reducible refine fin2 hk ?_) | ((with_reducible refine eq_leaf ?_); exact rfl) | exact trivial))
      all_goals first | (with_reducible rfl) | exact F _ | rfl | (simp only; omega)
    · repeat' (first | ((with_reducible refine kok ?_); kernel_rfl) | ((with_reducible refine keq_mk ?_); kernel_rfl) | with_reducible rfl | ((conv => whnf); first | (with_reducible exact trivial) | ((with_reducible refine and_ff ?_ ?_); · exact rfl) | ((with_reducible refine and_tt ?_ ?_); · exact rfl) | (with_reducible refine And.intro ?_ ?_) | intro _ | (with_reducible refine fin2 hk ?_) | ((with_reducible refine eq_leaf ?_); exact rfl) | exact trivial))
def leastTo (s : Scn) (a : Nat → Nat → Int) : Nat → Int
  | 0 => 0
  | k + 1 => if k = 0 then a k 0 else if missS s (a k 0).toNat < missS s (leastTo s a k).toNat then a k 0 else leastTo s a k
def lmiss (s : Scn) (a : Nat → Nat → Int) (k : Nat) : Int := if k = 0 then 0 else missS s (leastTo s a k).toNat
theorem least_in (s : Scn) (a : Nat → Nat → Int) {n : Nat} {c : Int} (h : ∀ i, i < n → 0 ≤ a i 0 ∧ a i 0 < c) : ∀ k, 0 < k → k ≤ n → 0 ≤ leastTo s a k ∧ leastTo s a k < c := by
  intro k
  induction k with
  | zero => intro h0; omega
  | succ k ih =>
    intro _ hk
    simp only [leastTo]
    split
    · exact h k (by omega)
    · split
      · exact h k (by omega)
      · exact ih (by omega) (by omega)
def rLeastI : List V.D → Option (Prop × V.D) := fun ds => match ds with
  | [.rsl 1 n g, .fn 56 [.eptr 15 e] []] => some (IM n 1 g ∧ n ≤ 1099511627776 ∧ ScIs e ∧ ScOK (scT e) ∧ (∀ i, i < n → 0 ≤ im g i 0 ∧ im g i 0 < (scT e).t.ns), .tup [.int .i64 (leastTo (scT e) (im g) n), .bool (decide (0 < n))])
  | _ => none
attribute [local irreducible] ScIs
theorem aLeastI_ok : PSound Go.Proofs.Try.prog 85 (mk rLeastI) := by
  refine psound_mk Try.func85 (by kernel_rfl) rfl (ctx la17_ok) ?_
  (intro ds p d h; unfold rLeastI at h; split at h <;> first | (cases h; done) | skip; cases h; refine ⟨Nat.le_of_ble_eq_true rfl, fun hp k hk => ?_⟩)
  rename_i n g e
  obtain ⟨hg, hn, he, hs, hr⟩ := hp
  refine ⟨[.rsl 1 n (imD (im g)), .fn 56 [.eptr 15 e] []], rfl, hg, ?_⟩
  clear hg
  generalize im g = a at *
  repeat' (first | ((with_reducible refine kok ?_); kernel_rfl) | ((with_reducible refine keq_mk ?_); kernel_rfl) | with_reducible rfl | ((conv => whnf); first | (with_reducible exact trivial) | ((with_reducible refine and_ff ?_ ?_); · exact rfl) | ((with_reducible refine and_tt ?_ ?_); · exact rfl) | (with_reducible refine And.intro ?_ ?_) | intro _ | (with_reducible refine fin2 hk ?_) | ((with_reducible refine eq_leaf ?_); exact rfl) | exact trivial))
  conv => whnf
  refine ⟨Nat, fun i => [(0, .rsl 1 n (imD a)), (1, .fn 56 [.eptr 15 e] []), (4, .int .i64 (leastTo (scT e) a i)), (5, .bool (decide (0 < i))), (6, .int .i64 (lmiss (scT e) a i)), (10, .rsl 1 n (imD a)), (11, .int .i64 n), (12, .int .i64 i)], fun _ => [], fun i => n - i, fun i => i ≤ n, [], 0, fun _ => ⟨rfl, rfl⟩, ?_, fun i hi => ?_⟩
  · clear hk
    repeat' (first | ((with_reducible refine kok ?_); kernel_rfl) | ((with_reducible refine keq_mk ?_); kernel_rfl) | with_reducible rfl | ((conv => whnf); first | (with_reducible exact trivial) | ((with_reducible refine and_ff ?_ ?_); · exact rfl) | ((with_reducible refine and_tt ?_ ?_); · exact rfl) | (with_reducible refine And.intro ?_ ?_) | intro _ | (with_reducible refine fin2 hk ?_) | ((with_reducible refine eq_leaf ?_); exact rfl) | exact trivial))
    all_goals first | exact Nat.zero_le _ | rfl
  have hi : i ≤ n := hi
  conv => whnf
  refine ⟨fun g1 => ?_, fun g1 => ?_⟩
  rotate_left
  · have e : i = n := by have := of_decide_eq_false g1; omega
    subst e
    repeat' (first | ((with_reducible refine kok ?_); kernel_rfl) | ((with_reducible refine keq_mk ?_); kernel_rfl) | with_reducible rfl | ((conv => whnf); first | (with_reducible exact trivial) | ((with_reducible refine and_ff ?_ ?_); · exact rfl) | ((with_reducible refine and_tt ?_ ?_); · exact rfl) | (with_reducible refine And.intro ?_ ?_) | intro _ | (with_reducible refine fin2 hk ?_) | ((with_reducible refine eq_leaf ?_); exact rfl) | exact trivial))
  have hlt : i < n := by have := of_decide_eq_true g1; omega
  have hr1 := hr i hlt
  repeat' (first | ((with_reducible refine kok ?_); kernel_rfl) | ((with_reducible refine keq_mk ?_); kernel_rfl) | with_reducible rfl | ((conv => whnf); first | (with_reducible exact trivial) | ((with_reducible refine and_ff ?_ ?_); · exact rfl) | ((with_reducible refine and_tt ?_ ?_); · exact rfl) | (with_reducible refine And.intro ?_ ?_) | intro _ | (with_reducible refine fin2 hk ?_) | ((with_reducible refine eq_leaf ?_); exact rfl) | exact trivial))
  all_goals try exact he
  all_goals try exact hs
  all_goals try (clear hk; (first | with_reducible refine (?_ : (_ : Int) ≤ _) | with_reducible refine (?_ : (_ : Int) < _)); omega)
  all_goals try exact hr1.1
  all_goals try exact hr1.2
  · rename_i g2
    have h0 : i = 0 := by have : decide (0 < i) = false := by simpa using g2
                          have := of_decide_eq_false this
                          omega
    clear hk
    subst h0
    conv => whnf
    refine ⟨1, ?_⟩
    repeat' (first | ((with_reducible refine kok ?_); kernel_rfl) | ((with_reducible refine keq_mk ?_); kernel_rfl) | with_reducible rfl | ((conv => whnf); first | (with_reducible exact trivial) | ((with_reducible refine and_ff ?_ ?_); · exact rfl) | ((with_reducible refine and_tt ?_ ?_); · exact rfl) | (with_reducible refine And.intro ?_ ?_) | intro _ | (with_reducible refine fin2 hk ?_) | ((with_reducible refine eq_leaf ?_); exact rfl) | exact trivial))
    all_goals first | rfl | exact hlt | (simp only; omega)
  · rename_i g2 g3
    have h0 : 0 < i := by have : decide (0 < i) = true := by simpa using g2
                          exact of_decide_eq_true this
    clear hk
    have h1 : missS (scT e) (a i 0).toNat < lmiss (scT e) a i := of_decide_eq_true g3
    have h2 : leastTo (scT e) a (i + 1) = a i 0 := by
      unfold lmiss at h1
      rw [if_neg (by omega)] at h1
      simp only [leastTo]
      rw [if_neg (by omega), if_pos h1]
    have h3 : lmiss (scT e) a (i + 1) = missS (scT e) (a i 0).toNat := by
      unfold lmiss
      rw [if_neg (by omega), h2]
    conv => whnf
    refine ⟨i + 1, ?_⟩
    repeat' (first | ((with_reducible refine kok ?_); kernel_rfl) | ((with_reducible refine keq_mk ?_); kernel_rfl) | with_reducible rfl | ((conv => whnf); first | (with_reducible exact trivial) | ((with_reducible refine and_ff ?_ ?_); · exact rfl) | ((with_reducible refine and_tt ?_ ?_); · exact rfl) | (with_reducible refine And.intro ?_ ?_) | intro _ | (with_reducible refine fin2 hk ?_) | ((with_reducible refine eq_leaf ?_); exact rfl) | exact trivial))
    all_goals first | exact h2.symm | exact h3.symm | exact hlt | (simp only; omega) | (exact (decide_eq_true (Nat.succ_pos i)).symm)
  · rename_i g2 g3
    have h0 : 0 < i := by have : decide (0 < i) = true := by simpa using g2
                          exact of_decide_eq_true this
    clear hk
    have h1 : ¬ missS (scT e) (a i 0).toNat < lmiss (scT e) a i := of_decide_eq_false g3
    have h2 : leastTo (scT e) a (i + 1) = leastTo (scT e) a i := by
      unfold lmiss at h1
      rw [if_neg (by omega)] at h1
      simp only [leastTo]
      rw [if_neg (by omega), if_neg h1]
    have h3 : lmiss (scT e) a (i + 1) = lmiss (scT e) a i := by
      unfold lmiss
      rw [if_neg (by omega), if_neg (by omega), h2]
    conv => whnf
    refine ⟨i + 1, ?_⟩
    repeat' (first | ((with_reducible refine kok ?_); kernel_rfl) | ((with_reducible refine keq_mk ?_); kernel_rfl) | with_reducible rfl | ((conv => whnf); first | (with_reducible exact trivial) | ((with_reducible refine and_ff ?_ ?_); · exact rfl) | ((with_reducible refine and_tt ?_ ?_); · exact rfl) | (with_reducible refine And.intro ?_ ?_) | intro _ | (with_reducible refine fin2 hk ?_) | ((with_reducible refine eq_leaf ?_); exact rfl) | exact trivial))
    all_goals first | exact h2.symm | exact h3.symm | exact hlt | (simp only; omega) | (show decide _ = decide _; rw [decide_eq_true h0, decide_eq_true (Nat.succ_pos i)])
/-- The best setting, by the document's loop; -1: none. -/
def bestTo (s : Scn) : Nat → Int
  | 0 => -1
  | k + 1 => if alwB s k = true then (if bestTo s k < 0 then (k : Int) else if missS s k < missS s (bestTo s k).toNat then (k : Int) else bestTo s k) else bestTo s k
theorem best_in (s : Scn) : ∀ k, -1 ≤ bestTo s k ∧ bestTo s k < k
  | 0 => ⟨Int.le_refl _, by simp only [bestTo]; omega⟩
  | k + 1 => by
    have := best_in s k
    simp only [bestTo]
    repeat' split
    all_goals omega
theorem leastTo_ext (s : Scn) {a b : Nat → Nat → Int} : ∀ n, (∀ i, i < n → a i 0 = b i 0) → leastTo s a n = leastTo s b n
  | 0, _ => rfl
  | n + 1, h => by simp only [leastTo, h n (Nat.lt_succ_self n), leastTo_ext s n (fun i hi => h i (Nat.lt_succ_of_lt hi))]
theorem listM_app (l : List Nat) (k : Nat) {i : Nat} (h : i < l.length) : listM (l ++ [k]) i 0 = listM l i 0 := by
  unfold listM
  rw [List.getD_eq_getElem?_getD, List.getD_eq_getElem?_getD, List.getElem?_append_left h]
theorem listM_last (l : List Nat) (k : Nat) : listM (l ++ [k]) l.length 0 = k := by
  unfold listM
  simp [List.getD_eq_getElem?_getD]
theorem least_best (s : Scn) : ∀ k, ((alwTo s k).length = 0 ↔ bestTo s k < 0) ∧ (bestTo s k < 0 ∨ leastTo s (listM (alwTo s k)) (alwTo s k).length = bestTo s k)
  | 0 => ⟨⟨fun _ => by simp only [bestTo]; omega, fun _ => rfl⟩, .inl (by simp only [bestTo]; omega)⟩
  | k + 1 => by
    have ih := least_best s k
    by_cases h : alwB s k = true
    · have hb : bestTo s (k + 1) = (if bestTo s k < 0 then (k : Int) else if missS s k < missS s (bestTo s k).toNat then (k : Int) else bestTo s k) := by simp only [bestTo]; rw [if_pos h]
      have hl := alw_len h
      have e1 : leastTo s (listM (alwTo s (k + 1))) (alwTo s k).length = leastTo s (listM (alwTo s k)) (alwTo s k).length := leastTo_ext s _ (fun i hi => by rw [alw_yes h]; exact listM_app _ _ hi)
      have e2 : listM (alwTo s (k + 1)) (alwTo s k).length 0 = k := by rw [alw_yes h]; exact listM_last _ _
      have hp : 0 ≤ bestTo s (k + 1) := by rw [hb]; repeat' split; all_goals omega
      refine ⟨by omega, .inr ?_⟩
      rw [hl]
      simp only [leastTo]
      rw [e1, e2, hb]
      by_cases h0 : (alwTo s k).length = 0
      · rw [if_pos h0, if_pos (ih.1.1 h0)]
      · have h1 : ¬ bestTo s k < 0 := fun q => h0 (ih.1.2 q)
        have h2 := ih.2.resolve_left h1
        rw [if_neg h0, if_neg h1, h2, Int.toNat_natCast]
    · have h' : alwB s k = false := by simpa using h
      rw [alw_no h']
      have hb : bestTo s (k + 1) = bestTo s k := by simp only [bestTo]; rw [if_neg h]
      rw [hb]
      exact ih
theorem alw_in (s : Scn) : ∀ k i, i < (alwTo s k).length → 0 ≤ listM (alwTo s k) i 0 ∧ listM (alwTo s k) i 0 < k
  | 0, i, h => absurd h (Nat.not_lt_zero _)
  | k + 1, i, h => by
    have ih := alw_in s k
    by_cases q : alwB s k = true
    · rw [alw_yes q] at h ⊢
      rw [List.length_append] at h
      by_cases hi : i < (alwTo s k).length
      · rw [listM_app _ _ hi]
        have := ih i hi
        omega
      · have : i = (alwTo s k).length := by simp at h; omega
        rw [this, listM_last]
        omega
    · rw [alw_no (by simpa using q)] at h ⊢
      have := ih i h
      omega
def bestC (s : Scn) : Int := if bestTo s s.t.ns < 0 then 0 else bestTo s s.t.ns
def rBestS : List V.D → Option (Prop × V.D) := fun ds => match ds with
  | [.eptr 15 e] => some (ScIs e ∧ ScOK (scT e), .tup [.int .i64 (bestC (scT e)), .bool (decide (0 ≤ bestTo (scT e) (scT e).t.ns))])
  | _ => none
noncomputable def la18 : Lib := (59, mk rBeaten) :: (85, mk rLeastI) :: la17
theorem la18_ok : LibOK Go.Proofs.Try.prog la18 := .cons aBeaten_ok (.cons aLeastI_ok la17_ok)
theorem aBest_ok : PSound Go.Proofs.Try.prog 55 (mk rBestS) := by
  refine psound_mk Try.func55 (by kernel_rfl) rfl (ctx la18_ok) ?_
  (intro ds p d h; unfold rBestS at h; split at h <;> first | (cases h; done) | skip; cases h; refine ⟨Nat.le_of_ble_eq_true rfl, fun hp k hk => ?_⟩)
  rename_i e
  obtain ⟨he, hs⟩ := hp
  refine ⟨[.eptr 15 e], rfl, ?_⟩
  have hl := alwTo_len (scT e) (scT e).t.ns
  have hns := hs.am.ns
  have hb := least_best (scT e) (scT e).t.ns
  have ha := alw_in (scT e) (scT e).t.ns
  repeat' (first | ((with_reducible refine kok ?_); kernel_rfl) | ((with_reducible refine keq_mk ?_); kernel_rfl) | with_reducible rfl | ((conv => whnf); first | (with_reducible exact trivial) | ((with_reducible refine and_ff ?_ ?_); · exact rfl) | ((with_reducible refine and_tt ?_ ?_); · exact rfl) | (with_reducible refine And.intro ?_ ?_) | intro _ | (with_reducible refine fin2 hk ?_) | ((with_reducible refine eq_leaf ?_); exact rfl) | exact trivial))
  all_goals try exact he
  all_goals try exact hs
  all_goals try exact (ha _ (by assumption)).1
  all_goals try exact (ha _ (by assumption)).2
  all_goals clear hk
  · omega
  · show leastTo (scT e) (listM (alwTo (scT e) (scT e).t.ns)) _ = _
    unfold bestC
    by_cases q : bestTo (scT e) (scT e).t.ns < 0
    · rw [if_pos q, hb.1.2 q]
      rfl
    · rw [if_neg q]
      exact hb.2.resolve_left q
  · rw [decide_eq_decide]
    have := hb.1
    omega
noncomputable def la19 : Lib := (55, mk rBestS) :: la18
theorem la19_ok : LibOK Go.Proofs.Try.prog la19 := .cons aBest_ok la18_ok
def rBestQ : List V.D → Option (Prop × V.D) := fun ds => match ds with
  | [d, .rsl 6 n g] => some (AtIs d ∧ AmOK (atOf d) ∧ IM n 6 g ∧ BandsOK n (im g), .int .i64 (bestTo (weighS (atOf d) n (im g)) (atOf d).ns))
  | _ => none
attribute [local irreducible] weighS
theorem qBest_ok : PSound Go.Proofs.Try.prog 62 (mk rBestQ) := by
  refine psound_mk Try.func62 (by kernel_rfl) rfl (ctx la19_ok) ?_
  (intro ds p d h; unfold rBestQ at h; split at h <;> first | (cases h; done) | skip; cases h; refine ⟨Nat.le_of_ble_eq_true rfl, fun hp k hk => ?_⟩)
  rename_i d n g
  obtain ⟨ht, ho, hg, hb⟩ := hp
  have hf := at_fits ht
  refine ⟨[(atOf d).D, .rsl 6 n (imD (im g))], at_imp ht ⟨rfl, hg, ?_⟩⟩
  clear ht hg
  generalize atOf d = t at *
  generalize im g = a at *
  have hns := ho.ns
  repeat' (first | ((with_reducible refine kok ?_); kernel_rfl) | ((with_reducible refine keq_mk ?_); kernel_rfl) | with_reducible rfl | ((conv => whnf); first | (with_reducible exact trivial) | ((with_reducible refine and_ff ?_ ?_); · exact rfl) | ((with_reducible refine and_tt ?_ ?_); · exact rfl) | (with_reducible refine And.intro ?_ ?_) | intro _ | (with_reducible refine fin2 hk ?_) | ((with_reducible refine eq_leaf ?_); exact rfl) | exact trivial))
  all_goals try exact hf.1
  all_goals try exact hf.2
  conv => whnf
  refine ⟨Nat, fun i => [(2, .ptr 0 0), (1, .rsl 6 n (imD a)), (5, .int .i64 (bestTo (weighS t n a) i)), (6, .int .i64 i)], fun i => [some (.row t.cells)],
    fun i => t.ns - i, fun i => i ≤ t.ns, [], 0, fun _ => ⟨rfl, rfl⟩, ?_, fun i hi => ?_⟩
  · clear hk
    repeat' (first | ((with_reducible refine kok ?_); kernel_rfl) | ((with_reducible refine keq_mk ?_); kernel_rfl) | with_reducible rfl | ((conv => whnf); first | (with_reducible exact trivial) | ((with_reducible refine and_ff ?_ ?_); · exact rfl) | ((with_reducible refine and_tt ?_ ?_); · exact rfl) | (with_reducible refine And.intro ?_ ?_) | intro _ | (with_reducible refine fin2 hk ?_) | ((with_reducible refine eq_leaf ?_); exact rfl) | exact trivial))
    all_goals first
      | exact Nat.zero_le _
      | rfl
  have hi : i ≤ t.ns := hi
  have hbi := best_in (weighS t n a) i
  conv => whnf
  refine ⟨fun g1 => ?_, fun g1 => ?_⟩
  rotate_left
  · have e : i = t.ns := by have := of_decide_eq_false g1; omega
    subst e
    repeat' (first | ((with_reducible refine kok ?_); kernel_rfl) | ((with_reducible refine keq_mk ?_); kernel_rfl) | with_reducible rfl | ((conv => whnf); first | (with_reducible exact trivial) | ((with_reducible refine and_ff ?_ ?_); · exact rfl) | ((with_reducible refine and_tt ?_ ?_); · exact rfl) | (with_reducible refine And.intro ?_ ?_) | intro _ | (with_reducible refine fin2 hk ?_) | ((with_reducible refine eq_leaf ?_); exact rfl) | exact trivial))
  have hlt : i < t.ns := by have := of_decide_eq_true g1; omega
  repeat' (first | ((with_reducible refine kok ?_); kernel_rfl) | ((with_reducible refine keq_mk ?_); kernel_rfl) | with_reducible rfl | ((conv => whnf); first | (with_reducible exact trivial) | ((with_reducible refine and_ff ?_ ?_); · exact rfl) | ((with_reducible refine and_tt ?_ ?_); · exact rfl) | (with_reducible refine And.intro ?_ ?_) | intro _ | (with_reducible refine fin2 hk ?_) | ((with_reducible refine eq_leaf ?_); exact rfl) | exact trivial))
  all_goals try exact hf.1
  all_goals try exact hf.2
  all_goals try (clear hk; simp only [atOf_agg, im_imD]; first | exact ho | exact hb)
  all_goals try (clear hk; (first | with_reducible refine (?_ : (_ : Int) ≤ _) | with_reducible refine (?_ : (_ : Int) < _)); simp only [atOf_agg, im_imD, taskOf_agg, ↓Bool.not_eq_true', ↓Bool.not_eq_false', ↓decT, ↓decF, out_true, out_false, isin_true, isin_false, Int.toNat_natCast, Int.ofNat_lt, Nat.zero_add, Nat.add_zero, Nat.reduceAdd] at *; omega)
  all_goals clear hk
  all_goals simp only [atOf_agg, im_imD, Int.toNat_natCast] at *
  · rename_i g2 g3
    have h3 : bestTo (weighS t n a) i < 0 := of_decide_eq_true g3
    have h2 : bestTo (weighS t n a) (i + 1) = i := by simp only [bestTo]; rw [if_pos g2, if_pos h3]
    conv => whnf
    refine ⟨i + 1, ?_⟩
    repeat' (first | ((with_reducible refine kok ?_); kernel_rfl) | ((with_reducible refine keq_mk ?_); kernel_rfl) | with_reducible rfl | ((conv => whnf); first | (with_reducible exact trivial) | ((with_reducible refine and_ff ?_ ?_); · exact rfl) | ((with_reducible refine and_tt ?_ ?_); · exact rfl) | (with_reducible refine And.intro ?_ ?_) | intro _ | (with_reducible refine fin2 hk ?_) | ((with_reducible refine eq_leaf ?_); exact rfl) | exact trivial))
    all_goals first | exact h2.symm | exact hlt | (simp only; omega)
  · rename_i g2 g3 g4
    have h3 : ¬ bestTo (weighS t n a) i < 0 := of_decide_eq_false g3
    have h4 : missS (weighS t n a) i < missS (weighS t n a) (bestTo (weighS t n a) i).toNat := of_decide_eq_true g4
    have h2 : bestTo (weighS t n a) (i + 1) = i := by simp only [bestTo]; rw [if_pos g2, if_neg h3, if_pos h4]
    conv => whnf
    refine ⟨i + 1, ?_⟩
    repeat' (first | ((with_reducible refine kok ?_); kernel_rfl) | ((with_reducible refine keq_mk ?_); kernel_rfl) | with_reducible rfl | ((conv => whnf); first | (with_reducible exact trivial) | ((with_reducible refine and_ff ?_ ?_); · exact rfl) | ((with_reducible refine and_tt ?_ ?_); · exact rfl) | (with_reducible refine And.intro ?_ ?_) | intro _ | (with_reducible refine fin2 hk ?_) | ((with_reducible refine eq_leaf ?_); exact rfl) | exact trivial))
    all_goals first | exact h2.symm | exact hlt | (simp only; omega)
  · rename_i g2 g3 g4
    have h3 : ¬ bestTo (weighS t n a) i < 0 := of_decide_eq_false g3
    have h4 : ¬ missS (weighS t n a) i < missS (weighS t n a) (bestTo (weighS t n a) i).toNat := of_decide_eq_false g4
    have h2 : bestTo (weighS t n a) (i + 1) = bestTo (weighS t n a) i := by simp only [bestTo]; rw [if_pos g2, if_neg h3, if_neg h4]
    conv => whnf
    refine ⟨i + 1, ?_⟩
    repeat' (first | ((with_reducible refine kok ?_); kernel_rfl) | ((with_reducible refine keq_mk ?_); kernel_rfl) | with_reducible rfl | ((conv => whnf); first | (with_reducible exact trivial) | ((with_reducible refine and_ff ?_ ?_); · exact rfl) | ((with_reducible refine and_tt ?_ ?_); · exact rfl) | (with_reducible refine And.intro ?_ ?_) | intro _ | (with_reducible refine fin2 hk ?_) | ((with_reducible refine eq_leaf ?_); exact rfl) | exact trivial))
    all_goals first | exact h2.symm | exact hlt | (simp only; omega)
  · rename_i g2
    have h2 : bestTo (weighS t n a) (i + 1) = bestTo (weighS t n a) i := by simp only [bestTo]; rw [if_neg (by rw [g2]; exact Bool.noConfusion)]
    conv => whnf
    refine ⟨i + 1, ?_⟩
    repeat' (first | ((with_reducible refine kok ?_); kernel_rfl) | ((with_reducible refine keq_mk ?_); kernel_rfl) | with_reducible rfl | ((conv => whnf); first | (with_reducible exact trivial) | ((with_reducible refine and_ff ?_ ?_); · exact rfl) | ((with_reducible refine and_tt ?_ ?_); · exact rfl) | (with_reducible refine And.intro ?_ ?_) | intro _ | (with_reducible refine fin2 hk ?_) | ((with_reducible refine eq_leaf ?_); exact rfl) | exact trivial))
    all_goals first | exact h2.symm | exact hlt | (simp only; omega)
end Go.Proofs.Ytbakdblbknfadaa
end
section
set_option linter.unusedVariables false
set_option linter.unusedSimpArgs false
set_option maxRecDepth 100000
set_option maxHeartbeats 4000000
namespace Go.Proofs.Ytbakdblbknfadaa
open Go.V
noncomputable def la20 : Lib := (62, mk rBestQ) :: la19
theorem la20_ok : LibOK Go.Proofs.Try.prog la20 := .cons qBest_ok la19_ok
def soB (s : Scn) (i : Nat) (kd at' st m : Int) : Bool :=
  if (i : Int) = st ∨ kd = 0 then decide ((i : Int) = st ∧ kd = 0 ∧ at' = 0)
  else if 0 ≤ at' ∧ at' ≤ 3 then (if kd = 1 then sdB s i at' else decide (kd = 2 ∧ (m < crn s i at' ∨ crn s i at' = m ∧ st < (i : Int))))
  else false
def rSo : List V.D → Option (Prop × V.D) := fun ds => match ds with
  | [d, .rsl 6 n g, .int .i64 i, .agg [.int .i64 kd, .int .i64 q], .int .i64 st, .int .i64 m] => some (AtIs d ∧ AmOK (atOf d) ∧ IM n 6 g ∧ BandsOK n (im g) ∧ 0 ≤ i ∧ i < (atOf d).ns, .bool (soB (weighS (atOf d) n (im g)) i.toNat kd q st m))
  | _ => none
attribute [local irreducible] weighS imp ScOK sqM missS alwB
theorem qSo_ok : PSound Go.Proofs.Try.prog 65 (mk rSo) := by
  refine psound_mk Try.func65 (by kernel_rfl) rfl (ctx la20_ok) ?_
  (intro ds p d h; unfold rSo at h; split at h <;> first | (cases h; done) | skip; cases h; refine ⟨Nat.le_of_ble_eq_true rfl, fun hp k hk => ?_⟩)
  rename_i d n g i kd q st m
  obtain ⟨ht, hok, hg, hb, hi⟩ := hp
  have hf := at_fits ht
  refine ⟨[(atOf d).D, .rsl 6 n (imD (im g)), .int .i64 i, .agg [.int .i64 kd, .int .i64 q], .int .i64 st, .int .i64 m], at_imp ht ⟨rfl, hg, rfl, rfl, rfl, rfl, rfl, ?_⟩⟩
  clear ht hg
  generalize atOf d = t at *
  generalize im g = a at *
  have I := imp_in (weighS_ok hok hb) (i := i.toNat) (by rw [weighS_t]; omega)
  obtain ⟨i', rfl⟩ : ∃ j : Nat, i = (j : Int) := ⟨i.toNat, by omega⟩
  rw [Int.toNat_natCast] at *
  have E : soB (weighS t n a) i' kd q st m = (if (i' : Int) = st ∨ kd = 0 then decide ((i' : Int) = st ∧ kd = 0 ∧ q = 0)
    else if 0 ≤ q ∧ q ≤ 3 then (if kd = 1 then lvB t (imp (weighS t n a) i' 0) (imp (weighS t n a) i' 1) (imp (weighS t n a) i' 2) (imp (weighS t n a) i' 3) q else decide (kd = 2 ∧ (m < cornV t (imp (weighS t n a) i' 0) (imp (weighS t n a) i' 1) (imp (weighS t n a) i' 2) (imp (weighS t n a) i' 3) q ∨ cornV t (imp (weighS t n a) i' 0) (imp (weighS t n a) i' 1) (imp (weighS t n a) i' 2) (imp (weighS t n a) i' 3) q = m ∧ st < (i' : Int))))
    else false) := by
    unfold soB sdB crn
    rw [weighS_t]
  have IQ : isin q 0 3 = decide (0 ≤ q ∧ q ≤ 3) := by unfold isin; simp
  generalize soB (weighS t n a) i' kd q st m = c at *
  repeat' (first | ((with_reducible refine kok ?_); kernel_rfl) | ((with_reducible refine keq_mk ?_); kernel_rfl) | with_reducible rfl | ((conv => whnf); first | (with_reducible exact trivial) | ((with_reducible refine and_ff ?_ ?_); · exact rfl) | ((with_reducible refine and_tt ?_ ?_); · exact rfl) | (with_reducible refine And.intro ?_ ?_) | intro _ | (with_reducible refine fin2 hk ?_) | ((with_reducible refine eq_leaf ?_); exact rfl) | exact trivial))
  all_goals clear hk
  all_goals try first
    | exact hf.1
    | exact hf.2
    | exact hok
    | exact hb
    | omega
    | exact I.1.1.1
    | exact I.1.1.2
    | exact I.1.2.1
    | exact I.1.2.2
    | exact I.2.1.1
    | exact I.2.1.2
    | exact I.2.2.1
    | exact I.2.2.2
    | exact hi.2
  all_goals try (rename_i g1 g2 g3 g4; rw [IQ] at g3; have := of_decide_eq_true (Bool.not_eq_false'.1 g3); omega)
  all_goals try (rw [E]; clear E I; simp only [atOf_agg, im_imD, taskOf_agg, ↓Bool.not_eq_true', ↓Bool.not_eq_false', ↓decT, ↓decF, out_true, out_false, isin_true, isin_false, Int.toNat_natCast, Int.ofNat_lt, Nat.zero_add, Nat.add_zero, Nat.reduceAdd] at *; rw [IQ] at *; simp_all; done)
  · rename_i g1 g2 g3
    rw [IQ] at g3
    have h1 := of_decide_eq_false g1
    have h2 := of_decide_eq_false g2
    have h3 : ¬ (0 ≤ q ∧ q ≤ 3) := by simpa only [Bool.not_eq_true', decide_eq_false_iff_not] using g3
    rw [E, if_neg (by omega), if_neg h3]
  all_goals try (rename_i g1 g2 g3 g4; rw [IQ] at g3; have h3 : 0 ≤ q ∧ q ≤ 3 := by simpa only [Bool.not_eq_false', decide_eq_true_eq] using g3
                 first | exact h3.1 | exact h3.2)
  all_goals try (rw [E]; clear E I; simp only [IQ, atOf_agg, im_imD, taskOf_agg, ↓Bool.not_eq_true', ↓Bool.not_eq_false', ↓decT, ↓decF, out_true, out_false, isin_true, isin_false, Int.toNat_natCast, Int.ofNat_lt, Nat.zero_add, Nat.add_zero, Nat.reduceAdd] at *; simp_all; done)
theorem best_le (s : Scn) : ∀ k i, i < k → alwB s i = true → 0 ≤ bestTo s k ∧ missS s (bestTo s k).toNat ≤ missS s i ∧ ((i : Int) < bestTo s k → missS s (bestTo s k).toNat < missS s i)
  | 0, i, h, _ => absurd h (Nat.not_lt_zero _)
  | k + 1, i, h, ha => by
    have hr := best_in s k
    by_cases q : alwB s k = true
    · have hb : bestTo s (k + 1) = (if bestTo s k < 0 then (k : Int) else if missS s k < missS s (bestTo s k).toNat then (k : Int) else bestTo s k) := by simp only [bestTo]; rw [if_pos q]
      by_cases hi : i = k
      · subst hi
        rw [hb]
        by_cases h1 : bestTo s i < 0
        · rw [if_pos h1, Int.toNat_natCast]
          omega
        · rw [if_neg h1]
          by_cases h2 : missS s i < missS s (bestTo s i).toNat
          · rw [if_pos h2, Int.toNat_natCast]
            omega
          · rw [if_neg h2]
            omega
      · have ih := best_le s k i (by omega) ha
        rw [hb, if_neg (by omega)]
        by_cases h2 : missS s k < missS s (bestTo s k).toNat
        · rw [if_pos h2, Int.toNat_natCast]
          omega
        · rw [if_neg h2]
          exact ih
    · have hb : bestTo s (k + 1) = bestTo s k := by simp only [bestTo]; rw [if_neg q]
      rw [hb]
      exact best_le s k i (by rcases Nat.lt_succ_iff_lt_or_eq.1 h with r | r; exact r; rw [r] at ha; exact absurd ha q) ha
theorem best_alw (s : Scn) : ∀ k, 0 ≤ bestTo s k → alwB s (bestTo s k).toNat = true
  | 0, h => absurd h (by simp only [bestTo]; omega)
  | k + 1, h => by
    by_cases q : alwB s k = true
    · have hb : bestTo s (k + 1) = (if bestTo s k < 0 then (k : Int) else if missS s k < missS s (bestTo s k).toNat then (k : Int) else bestTo s k) := by simp only [bestTo]; rw [if_pos q]
      rw [hb] at h ⊢
      by_cases h1 : bestTo s k < 0
      · rw [if_pos h1, Int.toNat_natCast]; exact q
      · rw [if_neg h1] at h ⊢
        by_cases h2 : missS s k < missS s (bestTo s k).toNat
        · rw [if_pos h2, Int.toNat_natCast]; exact q
        · rw [if_neg h2]; exact best_alw s k (by omega)
    · have hb : bestTo s (k + 1) = bestTo s k := by simp only [bestTo]; rw [if_neg q]
      rw [hb] at h ⊢
      exact best_alw s k h
/-- The marks of a setting beside the best one, and what is told of it. -/
def mkB (s : Scn) (i : Nat) (b m : Int) (k : Nat) : Bool := if alwB s i = true then farB s i b m k else sdB s i k
def whyK (s : Scn) (i : Nat) (b : Int) : Int := if (i : Int) = b then 0 else if alwB s i = true then 2 else 1
def whyA (s : Scn) (i : Nat) (b m : Int) : Int := if (i : Int) = b then 0 else firstFrom (mkB s i b m) 0 4
def whyM (s : Scn) (b m : Int) (i j : Nat) : Int := match j with
  | 0 => whyK s i b
  | _ => whyA s i b m
theorem so_mk {s : Scn} {i : Nat} {b m : Int} (h : ¬ (i : Int) = b) {k : Nat} (hk : k ≤ 3) : soB s i (whyK s i b) k b m = mkB s i b m k := by
  by_cases q : alwB s i = true
  · have e1 : whyK s i b = 2 := by unfold whyK; rw [if_neg h, if_pos q]
    have e2 : mkB s i b m k = farB s i b m k := by unfold mkB; rw [if_pos q]
    rw [e1, e2]
    unfold soB farB
    rw [if_neg (by omega), if_pos (by omega), if_neg (by decide), decide_eq_decide]
    by_cases hl : (i : Int) < b
    · rw [if_pos hl]
      exact ⟨fun hh => by have := hh.2; omega, fun hh => ⟨rfl, by omega⟩⟩
    · rw [if_neg hl]
      exact ⟨fun hh => by have := hh.2; omega, fun hh => ⟨rfl, by omega⟩⟩
  · have e1 : whyK s i b = 1 := by unfold whyK; rw [if_neg h, if_neg q]
    have e2 : mkB s i b m k = sdB s i k := by unfold mkB; rw [if_neg q]
    rw [e1, e2]
    unfold soB
    rw [if_neg (by omega), if_pos (by omega), if_pos rfl]
theorem mk_some {s : Scn} {i : Nat} {b m : Int} (h : ¬ (i : Int) = b) (hm : alwB s i = true → m ≤ missS s i ∧ ((i : Int) < b → m < missS s i)) :
    ∃ k, k ≤ 3 ∧ mkB s i b m k = true := by
  by_cases q : alwB s i = true
  · have e : ∀ k, mkB s i b m k = farB s i b m k := fun k => by unfold mkB; rw [if_pos q]
    simp only [e]
    have := hm q
    have hx : missS s i = max (max (max (crn s i 0) (crn s i 1)) (crn s i 2)) (crn s i 3) := by delta missS; rfl
    have : (if (i : Int) < b then m + 1 else m) ≤ missS s i := by
      by_cases hl : (i : Int) < b
      · rw [if_pos hl]; omega
      · rw [if_neg hl]; omega
    by_cases h0 : (if (i : Int) < b then m + 1 else m) ≤ crn s i 0
    · exact ⟨0, by omega, decide_eq_true h0⟩
    by_cases h1 : (if (i : Int) < b then m + 1 else m) ≤ crn s i 1
    · exact ⟨1, by omega, decide_eq_true h1⟩
    by_cases h2 : (if (i : Int) < b then m + 1 else m) ≤ crn s i 2
    · exact ⟨2, by omega, decide_eq_true h2⟩
    exact ⟨3, by omega, decide_eq_true (by show _ ≤ crn s i 3; omega)⟩
  · have e : ∀ k, mkB s i b m k = sdB s i k := fun k => by unfold mkB; rw [if_neg q]
    simp only [e]
    have : alwB s i = (!sdB s i 0 && (!sdB s i 1 && (!sdB s i 2 && !sdB s i 3))) := by delta alwB; rfl
    by_cases h0 : sdB s i 0 = true
    · exact ⟨0, by omega, h0⟩
    by_cases h1 : sdB s i 1 = true
    · exact ⟨1, by omega, h1⟩
    by_cases h2 : sdB s i 2 = true
    · exact ⟨2, by omega, h2⟩
    refine ⟨3, by omega, ?_⟩
    show sdB s i 3 = true
    simp_all
end Go.Proofs.Ytbakdblbknfadaa
end
