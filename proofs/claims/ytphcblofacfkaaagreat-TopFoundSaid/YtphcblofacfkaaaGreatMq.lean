/-
  Contracts of the recovery: the helicopter's next visit.
-/
import Derived.Test.YtphcblofacfkaaaGreatMp
set_option linter.unusedVariables false
set_option linter.unusedSimpArgs false
set_option maxRecDepth 100000
set_option maxHeartbeats 4000000
section
namespace Go.Proofs.YtphcblofacfkaaaGreat
open Go.V
def boolM (n : Nat) (h : Value → Bool) (g : Value → Nat → Int) : Mp := ⟨.int .i64, .bool, n, h, g⟩
def hereB (h : Value → Bool) (g : Value → Nat → Int) (i : Nat) : Bool := h (.int .i64 i) && decide (g (.int .i64 i) 0 = 1)
def srH0 (t : RTask) (c u f : Int) (n : Nat) (h : Value → Bool) (g : Value → Nat → Int) : HL := [some (.row t.cells), some (.row [.nilS, .nilS]), some (.row t.cells), some (.mp (boolM n h g)), some (.row (flRow t c u f (.map 3)))]
def srH1 (t : RTask) (k : Nat) (v0 v1 v2 w0 w1 w2 x0 x1 x2 : Int) (gV gL gB : Nat → Nat → V.D) (c u f : Int) (n : Nat) (h : Value → Bool) (g : Value → Nat → Int) : HL := [some (.row t.cells), some (.row [.own 6 k, .own 7 0]), some (.row t.cells), some (.mp (boolM n h g)), some (.row (flRow t c u f (.map 3))), some (.row [.int .i64 v0, .int .i64 v1, .int .i64 v2]), some (.buf 80 3 k gV), some (.buf 82 2 0 gL), some (.row [.int .i64 w0, .int .i64 w1, .int .i64 w2]), none, none, none, some (.buf 80 3 1 gB), some (.row [.int .i64 x0, .int .i64 x1, .int .i64 x2])]
def srH2 (t : RTask) (k : Nat) (v0 v1 v2 w0 w1 w2 x0 x1 x2 : Int) (gV gL gB : Nat → Nat → V.D) (c u f : Int) (n : Nat) (h : Value → Bool) (g : Value → Nat → Int) : HL := [some (.row t.cells), some (.row [.own 6 k, .own 7 0]), some (.row t.cells), some (.mp (boolM n h g)), some (.row (flRow t c u f (.map 3))), some (.row [.int .i64 v0, .int .i64 v1, .int .i64 v2]), some (.buf 80 3 k gV), some (.buf 82 2 0 gL), some (.row [.int .i64 w0, .int .i64 w1, .int .i64 w2]), none, none, some (.buf 80 3 1 gB), some (.row [.int .i64 x0, .int .i64 x1, .int .i64 x2])]
def stopF (c b : Int) : Bool := decide (c < 0) && decide (b < 0)
def nxC (c b : Int) : Int := if stopF c b = true then 0 else b
def nxF (t : RTask) (c u b : Int) : Int := if stopF c b = true then 0 else visF t c u b
def nxU (t : RTask) (c u b : Int) : Int := if stopF c b = true then 0 else visU t c u b
def nxOK (t : RTask) (c u f : Int) (h : Value → Bool) (g : Value → Nat → Int) (done : Nat → Bool) : Prop := RtOK t ∧ (-1 ≤ c ∧ c < (cellsM t : Int)) ∧ (0 ≤ u ∧ u ≤ 90000000) ∧ (0 ≤ f ∧ f ≤ 90000000) ∧ ∀ i, i < cellsM t → hereB h g i = done i
def nxR (t : RTask) (c u f : Int) (done : Nat → Bool) : V.D := .tup [.agg [.int .i64 (nxC c (bestF t c u f done (cellsM t))), .int .i64 (nxF t c u (bestF t c u f done (cellsM t))), .int .i64 (nxU t c u (bestF t c u f done (cellsM t)))], .bool (!stopF c (bestF t c u f done (cellsM t)))]
def rFNext0 : CRule := fun ds H K => ∃ (t : RTask) (c u f : Int) (n : Nat) (h : Value → Bool) (g : Value → Nat → Int) (done : Nat → Bool), ds = [.ptr 4 0] ∧ H = srH0 t c u f n h g ∧ nxOK t c u f h g done ∧ K (.ret (nxR t c u f done)) (srH0 t c u f n h g)
def rFNext1 : CRule := fun ds H K => ∃ (t : RTask) (k : Nat) (v0 v1 v2 w0 w1 w2 x0 x1 x2 : Int) (gV gL gB : Nat → Nat → V.D) (c u f : Int) (n : Nat) (h : Value → Bool) (g : Value → Nat → Int) (done : Nat → Bool), ds = [.ptr 4 0] ∧ H = srH1 t k v0 v1 v2 w0 w1 w2 x0 x1 x2 gV gL gB c u f n h g ∧ nxOK t c u f h g done ∧ K (.ret (nxR t c u f done)) (srH1 t k v0 v1 v2 w0 w1 w2 x0 x1 x2 gV gL gB c u f n h g)
def rFNext2 : CRule := fun ds H K => ∃ (t : RTask) (k : Nat) (v0 v1 v2 w0 w1 w2 x0 x1 x2 : Int) (gV gL gB : Nat → Nat → V.D) (c u f : Int) (n : Nat) (h : Value → Bool) (g : Value → Nat → Int) (done : Nat → Bool), ds = [.ptr 4 0] ∧ H = srH2 t k v0 v1 v2 w0 w1 w2 x0 x1 x2 gV gL gB c u f n h g ∧ nxOK t c u f h g done ∧ K (.ret (nxR t c u f done)) (srH2 t k v0 v1 v2 w0 w1 w2 x0 x1 x2 gV gL gB c u f n h g)
theorem least_best (t : RTask) (c u f : Int) (done : Nat → Bool) (n : Nat) :
    (leastI (visM t c u (candTo t c u f done n)) (candTo t c u f done n).length < 0 → bestF t c u f done n = -1) ∧
    (¬ leastI (visM t c u (candTo t c u f done n)) (candTo t c u f done n).length < 0 → leastR (visM t c u (candTo t c u f done n)) (leastI (visM t c u (candTo t c u f done n)) (candTo t c u f done n).length) 0 = bestF t c u f done n ∧
      leastR (visM t c u (candTo t c u f done n)) (leastI (visM t c u (candTo t c u f done n)) (candTo t c u f done n).length) 1 = visF t c u (bestF t c u f done n) ∧
      leastR (visM t c u (candTo t c u f done n)) (leastI (visM t c u (candTo t c u f done n)) (candTo t c u f done n).length) 2 = visU t c u (bestF t c u f done n) ∧ 0 ≤ bestF t c u f done n) := by
  have h := best_least t c u f done n
  refine ⟨fun h0 => by rw [h, if_pos h0], fun h0 => ?_⟩
  rw [if_neg h0] at h
  unfold leastR
  rw [if_neg h0, if_neg h0, if_neg h0, h]
  exact ⟨rfl, rfl, rfl, by omega⟩
theorem fv_T (H : HL) (t : RTask) (c u f : Int) (m : Nat) : flT (fun j => hide H (List.getD [.int .i64 t.xl, .int .i64 t.xh, .int .i64 t.yl, .int .i64 t.yh, .int .i64 t.size, .rsl 5 t.nf (imD t.fx), .rsl 6 t.no (smD t.nm t.oa), .int .i64 t.bx, .int .i64 t.bz, .int .i64 t.start, .int .i64 t.speed, .int .i64 t.fuel, .int .i64 t.look, .int .i64 t.turn, .rsl 5 (cellsM t) (imD (cellM t (cellsL t))), .int .i64 c, .int .i64 u, .int .i64 f, .map m] (0 + j) .top)) = t := rfl
theorem fv_15 (H : HL) (t : RTask) (c u f : Int) (m : Nat) : toI (hide H (List.getD [.int .i64 t.xl, .int .i64 t.xh, .int .i64 t.yl, .int .i64 t.yh, .int .i64 t.size, .rsl 5 t.nf (imD t.fx), .rsl 6 t.no (smD t.nm t.oa), .int .i64 t.bx, .int .i64 t.bz, .int .i64 t.start, .int .i64 t.speed, .int .i64 t.fuel, .int .i64 t.look, .int .i64 t.turn, .rsl 5 (cellsM t) (imD (cellM t (cellsL t))), .int .i64 c, .int .i64 u, .int .i64 f, .map m] (0 + 15) .top)) = c := rfl
theorem fv_16 (H : HL) (t : RTask) (c u f : Int) (m : Nat) : toI (hide H (List.getD [.int .i64 t.xl, .int .i64 t.xh, .int .i64 t.yl, .int .i64 t.yh, .int .i64 t.size, .rsl 5 t.nf (imD t.fx), .rsl 6 t.no (smD t.nm t.oa), .int .i64 t.bx, .int .i64 t.bz, .int .i64 t.start, .int .i64 t.speed, .int .i64 t.fuel, .int .i64 t.look, .int .i64 t.turn, .rsl 5 (cellsM t) (imD (cellM t (cellsL t))), .int .i64 c, .int .i64 u, .int .i64 f, .map m] (0 + 16) .top)) = u := rfl
theorem fv_17 (H : HL) (t : RTask) (c u f : Int) (m : Nat) : toI (hide H (List.getD [.int .i64 t.xl, .int .i64 t.xh, .int .i64 t.yl, .int .i64 t.yh, .int .i64 t.size, .rsl 5 t.nf (imD t.fx), .rsl 6 t.no (smD t.nm t.oa), .int .i64 t.bx, .int .i64 t.bz, .int .i64 t.start, .int .i64 t.speed, .int .i64 t.fuel, .int .i64 t.look, .int .i64 t.turn, .rsl 5 (cellsM t) (imD (cellM t (cellsL t))), .int .i64 c, .int .i64 u, .int .i64 f, .map m] (0 + 17) .top)) = f := rfl
theorem fw_T (H : HL) (t : RTask) (c u f : Int) (m : Nat) : flT (fun j => hide H (List.getD [.int .i64 t.xl, .int .i64 t.xh, .int .i64 t.yl, .int .i64 t.yh, .int .i64 t.size, .rsl 5 t.nf (imD t.fx), .rsl 6 t.no (smD t.nm t.oa), .int .i64 t.bx, .int .i64 t.bz, .int .i64 t.start, .int .i64 t.speed, .int .i64 t.fuel, .int .i64 t.look, .int .i64 t.turn, .rsl 5 (cellsM t) (imD (cellM t (cellsL t))), .int .i64 c, .int .i64 u, .int .i64 f, .map m] j .top)) = t := rfl
theorem fw_15 (H : HL) (t : RTask) (c u f : Int) (m : Nat) : toI (hide H (List.getD [.int .i64 t.xl, .int .i64 t.xh, .int .i64 t.yl, .int .i64 t.yh, .int .i64 t.size, .rsl 5 t.nf (imD t.fx), .rsl 6 t.no (smD t.nm t.oa), .int .i64 t.bx, .int .i64 t.bz, .int .i64 t.start, .int .i64 t.speed, .int .i64 t.fuel, .int .i64 t.look, .int .i64 t.turn, .rsl 5 (cellsM t) (imD (cellM t (cellsL t))), .int .i64 c, .int .i64 u, .int .i64 f, .map m] 15 .top)) = c := rfl
theorem fw_16 (H : HL) (t : RTask) (c u f : Int) (m : Nat) : toI (hide H (List.getD [.int .i64 t.xl, .int .i64 t.xh, .int .i64 t.yl, .int .i64 t.yh, .int .i64 t.size, .rsl 5 t.nf (imD t.fx), .rsl 6 t.no (smD t.nm t.oa), .int .i64 t.bx, .int .i64 t.bz, .int .i64 t.start, .int .i64 t.speed, .int .i64 t.fuel, .int .i64 t.look, .int .i64 t.turn, .rsl 5 (cellsM t) (imD (cellM t (cellsL t))), .int .i64 c, .int .i64 u, .int .i64 f, .map m] 16 .top)) = u := rfl
theorem fw_17 (H : HL) (t : RTask) (c u f : Int) (m : Nat) : toI (hide H (List.getD [.int .i64 t.xl, .int .i64 t.xh, .int .i64 t.yl, .int .i64 t.yh, .int .i64 t.size, .rsl 5 t.nf (imD t.fx), .rsl 6 t.no (smD t.nm t.oa), .int .i64 t.bx, .int .i64 t.bz, .int .i64 t.start, .int .i64 t.speed, .int .i64 t.fuel, .int .i64 t.look, .int .i64 t.turn, .rsl 5 (cellsM t) (imD (cellM t (cellsL t))), .int .i64 c, .int .i64 u, .int .i64 f, .map m] 17 .top)) = f := rfl
attribute [local irreducible] manyS goneB openS checkR cellsL spX spY flOf cellM opC wrongS visF visU bestF
theorem fNext0 {ds : List V.D} {H : HL} {K : Res → HL → Prop} (h : rFNext0 ds H K) : tidy (inl (cxOf tab lr37) Go.Proofs.Tryz.f33) ds H K := by
  obtain ⟨t, c, u, f, n, h, g, done, rfl, rfl, ⟨hok, hc, hu, hf, hd⟩, hk⟩ := h
  repeat' (first | ((with_reducible refine kok ?_); kernel_rfl) | ((with_reducible refine keq_mk ?_); kernel_rfl) | with_reducible rfl | ((conv => whnf); first | (with_reducible exact trivial) | ((with_reducible refine and_ff ?_ ?_); · exact rfl) | ((with_reducible refine and_tt ?_ ?_); · exact rfl) | (with_reducible refine And.intro ?_ ?_) | intro _ | (with_reducible refine fin2 hk ?_) | ((with_reducible refine eq_leaf ?_); exact rfl) | exact trivial))
  conv => whnf
  have hM : cellsM t ≤ 60 := cellsL_len hok
  refine ⟨Nat, fun i => [(0, .ptr 4 0), (2, .ptr 5 0), (4, .own 6 (candTo t c u f done i).length), (13, .rsl 5 (cellsM t) (imD (cellM t (cellsL t)))), (14, .int .i64 (cellsM t : Nat)), (15, .int .i64 i)],
    fun i => srH0 t c u f n h g ++ [some (.row [.int .i64 0, .int .i64 0, .int .i64 0]), some (.buf 80 3 (candTo t c u f done i).length (imD (visM t c u (candTo t c u f done i))))],
    fun i => cellsM t - i, fun i => i ≤ cellsM t, [(80, 3)], 0, fun _ => ⟨?_, ?_⟩, ?_, fun i hi => ?_⟩
  · conv => lhs; whnf
  · conv => lhs; whnf
  · clear hk
    repeat' (first | ((with_reducible refine kok ?_); kernel_rfl) | ((with_reducible refine keq_mk ?_); kernel_rfl) | with_reducible rfl | ((conv => whnf); first | (with_reducible exact trivial) | ((with_reducible refine and_ff ?_ ?_); · exact rfl) | ((with_reducible refine and_tt ?_ ?_); · exact rfl) | (with_reducible refine And.intro ?_ ?_) | intro _ | (with_reducible refine fin2 hk ?_) | ((with_reducible refine eq_leaf ?_); exact rfl) | exact trivial))
    all_goals first | exact Nat.zero_le _ | (exact absurd (by assumption) (Nat.not_lt_zero _)) | rfl
  have hi : i ≤ cellsM t := hi
  have hlk := hok.look
  have htn := hok.turn
  have hfu := hok.fuel
  have FC := fun hh => flC_in hok (a := c) (b := (i : Int)) hc.2 hh
  have OP := opC_in hok i
  have hop : cellM t (cellsL t) i 4 = opC t i := by delta cellM opC; rfl
  have CT := @candB_true t c u f done i
  have hln := candTo_len t c u f done i
  have hdi := hd i
  have hu5 : 0 ≤ u ∧ u ≤ 500000000 := by omega
  have hf5 : 0 ≤ f ∧ f ≤ 500000000 := by omega
  repeat' (first | ((with_reducible refine kok ?_); kernel_rfl) | ((with_reducible refine keq_mk ?_); kernel_rfl) | with_reducible rfl | ((conv => whnf); first | (with_reducible exact trivial) | ((with_reducible refine and_ff ?_ ?_); · exact rfl) | ((with_reducible refine and_tt ?_ ?_); · exact rfl) | (with_reducible refine And.intro ?_ ?_) | intro _ | (with_reducible refine fin2 hk ?_) | ((with_reducible refine eq_leaf ?_); exact rfl) | exact trivial))
  all_goals try exact hok
  all_goals try (show ((candTo t c u f done i).length + 1) * 24 ≤ 140737488355328; omega)
  all_goals try ((first | with_reducible refine (?_ : (_ : Int) ≤ _) | with_reducible refine (?_ : (_ : Int) < _)); clear hk CT; simp only [rtOf_agg, fv_T, fv_15, fv_16, fv_17, fw_T, fw_15, fw_16, fw_17, taskOf_agg, ↓Bool.not_eq_true', ↓Bool.not_eq_false', ↓decT, ↓decF, out_true, out_false, isin_true, isin_false, Int.toNat_natCast, Int.ofNat_lt, Nat.zero_add, Nat.add_zero, Nat.reduceAdd] at *; omega)
  · rename_i g1 g2 g3 g4
    have q1 : i < cellsM t := Int.ofNat_lt.1 (of_decide_eq_true g1)
    have q2 : done i = false := (hdi q1).symm.trans ((Bool.not_eq_true' _).mp g2)
    have q3 : 0 ≤ opC t i := by rw [← hop]; exact of_decide_eq_true g3
    have q4 : wrongS t c u f i (visF t c u i) (visU t c u i) = 0 := of_decide_eq_true g4
    have E : candB t c u f done i = true := by rw [CT]; exact ⟨q2, q3, q4⟩
    have hl := cand_kept_len E
    clear hk CT g2 g3 g4
    conv => whnf
    refine ⟨i + 1, ?_⟩
    repeat' (first | ((with_reducible refine kok ?_); kernel_rfl) | ((with_reducible refine keq_mk ?_); kernel_rfl) | with_reducible rfl | ((conv => whnf); first | (with_reducible exact trivial) | ((with_reducible refine and_ff ?_ ?_); · exact rfl) | ((with_reducible refine and_tt ?_ ?_); · exact rfl) | (with_reducible refine And.intro ?_ ?_) | intro _ | (with_reducible refine fin2 hk ?_) | ((with_reducible refine eq_leaf ?_); exact rfl) | exact trivial))
    all_goals first
      | exact hl.symm
      | exact cand_snoc E rfl (by rw [← hl]; assumption) (by assumption)
      | (simp only [taskOf_agg, ↓Bool.not_eq_true', ↓Bool.not_eq_false', ↓decT, ↓decF, out_true, out_false, isin_true, isin_false, Int.toNat_natCast, Int.ofNat_lt, Nat.zero_add, Nat.add_zero, Nat.reduceAdd] at *; omega)
  · rename_i g1 g2 g3 g4
    have q4 : ¬ wrongS t c u f i (visF t c u i) (visU t c u i) = 0 := of_decide_eq_false g4
    have E : candB t c u f done i = false := by rw [← Bool.not_eq_true, CT]; exact fun q => q4 q.2.2
    have hl := cand_gone E
    clear hk CT g2 g3 g4
    conv => whnf
    refine ⟨i + 1, ?_⟩
    repeat' (first | ((with_reducible refine kok ?_); kernel_rfl) | ((with_reducible refine keq_mk ?_); kernel_rfl) | with_reducible rfl | ((conv => whnf); first | (with_reducible exact trivial) | ((with_reducible refine and_ff ?_ ?_); · exact rfl) | ((with_reducible refine and_tt ?_ ?_); · exact rfl) | (with_reducible refine And.intro ?_ ?_) | intro _ | (with_reducible refine fin2 hk ?_) | ((with_reducible refine eq_leaf ?_); exact rfl) | exact trivial))
    all_goals first
      | (rw [hl]; done)
      | (simp only [taskOf_agg, ↓Bool.not_eq_true', ↓Bool.not_eq_false', ↓decT, ↓decF, out_true, out_false, isin_true, isin_false, Int.toNat_natCast, Int.ofNat_lt, Nat.zero_add, Nat.add_zero, Nat.reduceAdd] at *; omega)
  · rename_i g1 g2 g3
    have q3 : ¬ 0 ≤ opC t i := by rw [← hop]; exact of_decide_eq_false g3
    have E : candB t c u f done i = false := by rw [← Bool.not_eq_true, CT]; exact fun q => q3 q.2.1
    have hl := cand_gone E
    clear hk CT g2 g3
    conv => whnf
    refine ⟨i + 1, ?_⟩
    repeat' (first | ((with_reducible refine kok ?_); kernel_rfl) | ((with_reducible refine keq_mk ?_); kernel_rfl) | with_reducible rfl | ((conv => whnf); first | (with_reducible exact trivial) | ((with_reducible refine and_ff ?_ ?_); · exact rfl) | ((with_reducible refine and_tt ?_ ?_); · exact rfl) | (with_reducible refine And.intro ?_ ?_) | intro _ | (with_reducible refine fin2 hk ?_) | ((with_reducible refine eq_leaf ?_); exact rfl) | exact trivial))
    all_goals first
      | (rw [hl]; done)
      | (simp only [taskOf_agg, ↓Bool.not_eq_true', ↓Bool.not_eq_false', ↓decT, ↓decF, out_true, out_false, isin_true, isin_false, Int.toNat_natCast, Int.ofNat_lt, Nat.zero_add, Nat.add_zero, Nat.reduceAdd] at *; omega)
  · rename_i g1 g2
    have q1 : i < cellsM t := Int.ofNat_lt.1 (of_decide_eq_true g1)
    have q2 : done i = true := (hdi q1).symm.trans ((Bool.not_eq_false' _).mp g2)
    have E : candB t c u f done i = false := by rw [← Bool.not_eq_true, CT]; intro q; rw [q2] at q; exact absurd q.1 (by decide)
    have hl := cand_gone E
    clear hk CT g2
    conv => whnf
    refine ⟨i + 1, ?_⟩
    repeat' (first | ((with_reducible refine kok ?_); kernel_rfl) | ((with_reducible refine keq_mk ?_); kernel_rfl) | with_reducible rfl | ((conv => whnf); first | (with_reducible exact trivial) | ((with_reducible refine and_ff ?_ ?_); · exact rfl) | ((with_reducible refine and_tt ?_ ?_); · exact rfl) | (with_reducible refine And.intro ?_ ?_) | intro _ | (with_reducible refine fin2 hk ?_) | ((with_reducible refine eq_leaf ?_); exact rfl) | exact trivial))
    all_goals first
      | (rw [hl]; done)
      | (simp only [taskOf_agg, ↓Bool.not_eq_true', ↓Bool.not_eq_false', ↓decT, ↓decF, out_true, out_false, isin_true, isin_false, Int.toNat_natCast, Int.ofNat_lt, Nat.zero_add, Nat.add_zero, Nat.reduceAdd] at *; omega)
  · omega
  · rename_i g1 g2 g3
    obtain rfl : i = cellsM t := by clear hk CT; simp only [taskOf_agg, ↓Bool.not_eq_true', ↓Bool.not_eq_false', ↓decT, ↓decF, out_true, out_false, isin_true, isin_false, Int.toNat_natCast, Int.ofNat_lt, Nat.zero_add, Nat.add_zero, Nat.reduceAdd] at *; omega
    obtain ⟨B1, B2⟩ := least_best t c u f done (cellsM t)
    clear CT hop hln hdi FC OP B2
    simp only [im_imD, taskOf_agg, ↓Bool.not_eq_true', ↓Bool.not_eq_false', ↓decT, ↓decF, out_true, out_false, isin_true, isin_false, Int.toNat_natCast, Int.ofNat_lt, Nat.zero_add, Nat.add_zero, Nat.reduceAdd] at g2 g3
    have B1 := B1 (by omega)
    have hst : stopF c (bestF t c u f done (cellsM t)) = false := by unfold stopF; rw [decide_eq_false (by omega)]; rfl
    rw [B1] at hst
    conv => whnf
    refine ⟨nxR t c u f done, srH0 t c u f n h g, ?_⟩
    repeat' (first | ((with_reducible refine kok ?_); kernel_rfl) | ((with_reducible refine keq_mk ?_); kernel_rfl) | with_reducible rfl | ((conv => whnf); first | (with_reducible exact trivial) | ((with_reducible refine and_ff ?_ ?_); · exact rfl) | ((with_reducible refine and_tt ?_ ?_); · exact rfl) | (with_reducible refine And.intro ?_ ?_) | intro _ | (with_reducible refine fin2 hk ?_) | ((with_reducible refine eq_leaf ?_); exact rfl) | exact trivial))
    all_goals first
      | exact hk
      | (simp only [fv_T, fv_15, fv_16, fw_T, fw_15, fw_16, nxC, nxF, nxU, hst, B1, Bool.false_eq_true, if_false, Bool.not_false, Nat.zero_add]; done)
  · rename_i g1 g2 g3
    obtain rfl : i = cellsM t := by clear hk CT; simp only [taskOf_agg, ↓Bool.not_eq_true', ↓Bool.not_eq_false', ↓decT, ↓decF, out_true, out_false, isin_true, isin_false, Int.toNat_natCast, Int.ofNat_lt, Nat.zero_add, Nat.add_zero, Nat.reduceAdd] at *; omega
    obtain ⟨B1, B2⟩ := least_best t c u f done (cellsM t)
    clear CT hop hln hdi FC OP B2
    simp only [im_imD, taskOf_agg, ↓Bool.not_eq_true', ↓Bool.not_eq_false', ↓decT, ↓decF, out_true, out_false, isin_true, isin_false, Int.toNat_natCast, Int.ofNat_lt, Nat.zero_add, Nat.add_zero, Nat.reduceAdd] at g2 g3
    have B0 := B1 (by omega)
    have hL : leastI (visM t c u (candTo t c u f done (cellsM t))) (candTo t c u f done (cellsM t)).length < 0 := by omega
    have hst : stopF c (bestF t c u f done (cellsM t)) = true := by unfold stopF; rw [B0, decide_eq_true (by omega)]; rfl
    conv => whnf
    refine ⟨nxR t c u f done, srH0 t c u f n h g, ?_⟩
    repeat' (first | ((with_reducible refine kok ?_); kernel_rfl) | ((with_reducible refine keq_mk ?_); kernel_rfl) | with_reducible rfl | ((conv => whnf); first | (with_reducible exact trivial) | ((with_reducible refine and_ff ?_ ?_); · exact rfl) | ((with_reducible refine and_tt ?_ ?_); · exact rfl) | (with_reducible refine And.intro ?_ ?_) | intro _ | (with_reducible refine fin2 hk ?_) | ((with_reducible refine eq_leaf ?_); exact rfl) | exact trivial))
    all_goals first
      | exact hk
      | (rw [im_imD]; unfold leastR nxC; rw [if_pos hL, if_pos hst])
      | (rw [im_imD]; unfold leastR nxF; rw [if_pos hL, if_pos hst])
      | (rw [im_imD]; unfold leastR nxU; rw [if_pos hL, if_pos hst])
      | (simp only [hst, im_imD]; exact decide_eq_false (by omega))
  · rename_i g1 g2
    obtain rfl : i = cellsM t := by clear hk CT; simp only [taskOf_agg, ↓Bool.not_eq_true', ↓Bool.not_eq_false', ↓decT, ↓decF, out_true, out_false, isin_true, isin_false, Int.toNat_natCast, Int.ofNat_lt, Nat.zero_add, Nat.add_zero, Nat.reduceAdd] at *; omega
    obtain ⟨B1, B2⟩ := least_best t c u f done (cellsM t)
    clear CT hop hln hdi FC OP B1
    simp only [im_imD, taskOf_agg, ↓Bool.not_eq_true', ↓Bool.not_eq_false', ↓decT, ↓decF, out_true, out_false, isin_true, isin_false, Int.toNat_natCast, Int.ofNat_lt, Nat.zero_add, Nat.add_zero, Nat.reduceAdd] at g2
    obtain ⟨b1, b2, b3, b4⟩ := B2 (by omega)
    have hst : stopF c (bestF t c u f done (cellsM t)) = false := by unfold stopF; rw [decide_eq_false (show ¬ bestF t c u f done (cellsM t) < 0 by omega), Bool.and_false]
    conv => whnf
    refine ⟨nxR t c u f done, srH0 t c u f n h g, ?_⟩
    repeat' (first | ((with_reducible refine kok ?_); kernel_rfl) | ((with_reducible refine keq_mk ?_); kernel_rfl) | with_reducible rfl | ((conv => whnf); first | (with_reducible exact trivial) | ((with_reducible refine and_ff ?_ ?_); · exact rfl) | ((with_reducible refine and_tt ?_ ?_); · exact rfl) | (with_reducible refine And.intro ?_ ?_) | intro _ | (with_reducible refine fin2 hk ?_) | ((with_reducible refine eq_leaf ?_); exact rfl) | exact trivial))
    all_goals first
      | exact hk
      | (simp only [nxC, nxF, nxU, hst, Bool.false_eq_true, if_false, im_imD, b1, b2, b3]; done)
      | (simp only [hst, im_imD]; exact decide_eq_true (by omega))
theorem fNext1 {ds : List V.D} {H : HL} {K : Res → HL → Prop} (h : rFNext1 ds H K) : tidy (inl (cxOf tab lr37) Go.Proofs.Tryz.f33) ds H K := by
  obtain ⟨t, k, v0, v1, v2, w0, w1, w2, x0, x1, x2, gV, gL, gB, c, u, f, n, h, g, done, rfl, rfl, ⟨hok, hc, hu, hf, hd⟩, hk⟩ := h
  repeat' (first | ((with_reducible refine kok ?_); kernel_rfl) | ((with_reducible refine keq_mk ?_); kernel_rfl) | with_reducible rfl | ((conv => whnf); first | (with_reducible exact trivial) | ((with_reducible refine and_ff ?_ ?_); · exact rfl) | ((with_reducible refine and_tt ?_ ?_); · exact rfl) | (with_reducible refine And.intro ?_ ?_) | intro _ | (with_reducible refine fin2 hk ?_) | ((with_reducible refine eq_leaf ?_); exact rfl) | exact trivial))
  conv => whnf
  have hM : cellsM t ≤ 60 := cellsL_len hok
  refine ⟨Nat, fun i => [(0, .ptr 4 0), (2, .ptr 14 0), (4, .own 15 (candTo t c u f done i).length), (13, .rsl 5 (cellsM t) (imD (cellM t (cellsL t)))), (14, .int .i64 (cellsM t : Nat)), (15, .int .i64 i)],
    fun i => srH1 t k v0 v1 v2 w0 w1 w2 x0 x1 x2 gV gL gB c u f n h g ++ [some (.row [.int .i64 0, .int .i64 0, .int .i64 0]), some (.buf 80 3 (candTo t c u f done i).length (imD (visM t c u (candTo t c u f done i))))],
    fun i => cellsM t - i, fun i => i ≤ cellsM t, [(80, 3)], 0, fun _ => ⟨?_, ?_⟩, ?_, fun i hi => ?_⟩
  · conv => lhs; whnf
  · conv => lhs; whnf
  · clear hk
    repeat' (first | ((with_reducible refine kok ?_); kernel_rfl) | ((with_reducible refine keq_mk ?_); kernel_rfl) | with_reducible rfl | ((conv => whnf); first | (with_reducible exact trivial) | ((with_reducible refine and_ff ?_ ?_); · exact rfl) | ((with_reducible refine and_tt ?_ ?_); · exact rfl) | (with_reducible refine And.intro ?_ ?_) | intro _ | (with_reducible refine fin2 hk ?_) | ((with_reducible refine eq_leaf ?_); exact rfl) | exact trivial))
    all_goals first | exact Nat.zero_le _ | (exact absurd (by assumption) (Nat.not_lt_zero _)) | rfl
  have hi : i ≤ cellsM t := hi
  have hlk := hok.look
  have htn := hok.turn
  have hfu := hok.fuel
  have FC := fun hh => flC_in hok (a := c) (b := (i : Int)) hc.2 hh
  have OP := opC_in hok i
  have hop : cellM t (cellsL t) i 4 = opC t i := by delta cellM opC; rfl
  have CT := @candB_true t c u f done i
  have hln := candTo_len t c u f done i
  have hdi := hd i
  have hu5 : 0 ≤ u ∧ u ≤ 500000000 := by omega
  have hf5 : 0 ≤ f ∧ f ≤ 500000000 := by omega
  repeat' (first | ((with_reducible refine kok ?_); kernel_rfl) | ((with_reducible refine keq_mk ?_); kernel_rfl) | with_reducible rfl | ((conv => whnf); first | (with_reducible exact trivial) | ((with_reducible refine and_ff ?_ ?_); · exact rfl) | ((with_reducible refine and_tt ?_ ?_); · exact rfl) | (with_reducible refine And.intro ?_ ?_) | intro _ | (with_reducible refine fin2 hk ?_) | ((with_reducible refine eq_leaf ?_); exact rfl) | exact trivial))
  all_goals try exact hok
  all_goals try (show ((candTo t c u f done i).length + 1) * 24 ≤ 140737488355328; omega)
  all_goals try ((first | with_reducible refine (?_ : (_ : Int) ≤ _) | with_reducible refine (?_ : (_ : Int) < _)); clear hk CT; simp only [rtOf_agg, fv_T, fv_15, fv_16, fv_17, fw_T, fw_15, fw_16, fw_17, taskOf_agg, ↓Bool.not_eq_true', ↓Bool.not_eq_false', ↓decT, ↓decF, out_true, out_false, isin_true, isin_false, Int.toNat_natCast, Int.ofNat_lt, Nat.zero_add, Nat.add_zero, Nat.reduceAdd] at *; omega)
  · rename_i g1 g2 g3 g4
    have q1 : i < cellsM t := Int.ofNat_lt.1 (of_decide_eq_true g1)
    have q2 : done i = false := (hdi q1).symm.trans ((Bool.not_eq_true' _).mp g2)
    have q3 : 0 ≤ opC t i := by rw [← hop]; exact of_decide_eq_true g3
    have q4 : wrongS t c u f i (visF t c u i) (visU t c u i) = 0 := of_decide_eq_true g4
    have E : candB t c u f done i = true := by rw [CT]; exact ⟨q2, q3, q4⟩
    have hl := cand_kept_len E
    clear hk CT g2 g3 g4
    conv => whnf
    refine ⟨i + 1, ?_⟩
    repeat' (first | ((with_reducible refine kok ?_); kernel_rfl) | ((with_reducible refine keq_mk ?_); kernel_rfl) | with_reducible rfl | ((conv => whnf); first | (with_reducible exact trivial) | ((with_reducible refine and_ff ?_ ?_); · exact rfl) | ((with_reducible refine and_tt ?_ ?_); · exact rfl) | (with_reducible refine And.intro ?_ ?_) | intro _ | (with_reducible refine fin2 hk ?_) | ((with_reducible refine eq_leaf ?_); exact rfl) | exact trivial))
    all_goals first
      | exact hl.symm
      | exact cand_snoc E rfl (by rw [← hl]; assumption) (by assumption)
      | (simp only [taskOf_agg, ↓Bool.not_eq_true', ↓Bool.not_eq_false', ↓decT, ↓decF, out_true, out_false, isin_true, isin_false, Int.toNat_natCast, Int.ofNat_lt, Nat.zero_add, Nat.add_zero, Nat.reduceAdd] at *; omega)
  · rename_i g1 g2 g3 g4
    have q4 : ¬ wrongS t c u f i (visF t c u i) (visU t c u i) = 0 := of_decide_eq_false g4
    have E : candB t c u f done i = false := by rw [← Bool.not_eq_true, CT]; exact fun q => q4 q.2.2
    have hl := cand_gone E
    clear hk CT g2 g3 g4
    conv => whnf
    refine ⟨i + 1, ?_⟩
    repeat' (first | ((with_reducible refine kok ?_); kernel_rfl) | ((with_reducible refine keq_mk ?_); kernel_rfl) | with_reducible rfl | ((conv => whnf); first | (with_reducible exact trivial) | ((with_reducible refine and_ff ?_ ?_); · exact rfl) | ((with_reducible refine and_tt ?_ ?_); · exact rfl) | (with_reducible refine And.intro ?_ ?_) | intro _ | (with_reducible refine fin2 hk ?_) | ((with_reducible refine eq_leaf ?_); exact rfl) | exact trivial))
    all_goals first
      | (rw [hl]; done)
      | (simp only [taskOf_agg, ↓Bool.not_eq_true', ↓Bool.not_eq_false', ↓decT, ↓decF, out_true, out_false, isin_true, isin_false, Int.toNat_natCast, Int.ofNat_lt, Nat.zero_add, Nat.add_zero, Nat.reduceAdd] at *; omega)
  · rename_i g1 g2 g3
    have q3 : ¬ 0 ≤ opC t i := by rw [← hop]; exact of_decide_eq_false g3
    have E : candB t c u f done i = false := by rw [← Bool.not_eq_true, CT]; exact fun q => q3 q.2.1
    have hl := cand_gone E
    clear hk CT g2 g3
    conv => whnf
    refine ⟨i + 1, ?_⟩
    repeat' (first | ((with_reducible refine kok ?_); kernel_rfl) | ((with_reducible refine keq_mk ?_); kernel_rfl) | with_reducible rfl | ((conv => whnf); first | (with_reducible exact trivial) | ((with_reducible refine and_ff ?_ ?_); · exact rfl) | ((with_reducible refine and_tt ?_ ?_); · exact rfl) | (with_reducible refine And.intro ?_ ?_) | intro _ | (with_reducible refine fin2 hk ?_) | ((with_reducible refine eq_leaf ?_); exact rfl) | exact trivial))
    all_goals first
      | (rw [hl]; done)
      | (simp only [taskOf_agg, ↓Bool.not_eq_true', ↓Bool.not_eq_false', ↓decT, ↓decF, out_true, out_false, isin_true, isin_false, Int.toNat_natCast, Int.ofNat_lt, Nat.zero_add, Nat.add_zero, Nat.reduceAdd] at *; omega)
  · rename_i g1 g2
    have q1 : i < cellsM t := Int.ofNat_lt.1 (of_decide_eq_true g1)
    have q2 : done i = true := (hdi q1).symm.trans ((Bool.not_eq_false' _).mp g2)
    have E : candB t c u f done i = false := by rw [← Bool.not_eq_true, CT]; intro q; rw [q2] at q; exact absurd q.1 (by decide)
    have hl := cand_gone E
    clear hk CT g2
    conv => whnf
    refine ⟨i + 1, ?_⟩
    repeat' (first | ((with_reducible refine kok ?_); kernel_rfl) | ((with_reducible refine keq_mk ?_); kernel_rfl) | with_reducible rfl | ((conv => whnf); first | (with_reducible exact trivial) | ((with_reducible refine and_ff ?_ ?_); · exact rfl) | ((with_reducible refine and_tt ?_ ?_); · exact rfl) | (with_reducible refine And.intro ?_ ?_) | intro _ | (with_reducible refine fin2 hk ?_) | ((with_reducible refine eq_leaf ?_); exact rfl) | exact trivial))
    all_goals first
      | (rw [hl]; done)
      | (simp only [taskOf_agg, ↓Bool.not_eq_true', ↓Bool.not_eq_false', ↓decT, ↓decF, out_true, out_false, isin_true, isin_false, Int.toNat_natCast, Int.ofNat_lt, Nat.zero_add, Nat.add_zero, Nat.reduceAdd] at *; omega)
  · omega
  · rename_i g1 g2 g3
    obtain rfl : i = cellsM t := by clear hk CT; simp only [taskOf_agg, ↓Bool.not_eq_true', ↓Bool.not_eq_false', ↓decT, ↓decF, out_true, out_false, isin_true, isin_false, Int.toNat_natCast, Int.ofNat_lt, Nat.zero_add, Nat.add_zero, Nat.reduceAdd] at *; omega
    obtain ⟨B1, B2⟩ := least_best t c u f done (cellsM t)
    clear CT hop hln hdi FC OP B2
    simp only [im_imD, taskOf_agg, ↓Bool.not_eq_true', ↓Bool.not_eq_false', ↓decT, ↓decF, out_true, out_false, isin_true, isin_false, Int.toNat_natCast, Int.ofNat_lt, Nat.zero_add, Nat.add_zero, Nat.reduceAdd] at g2 g3
    have B1 := B1 (by omega)
    have hst : stopF c (bestF t c u f done (cellsM t)) = false := by unfold stopF; rw [decide_eq_false (by omega)]; rfl
    rw [B1] at hst
    conv => whnf
    refine ⟨nxR t c u f done, srH1 t k v0 v1 v2 w0 w1 w2 x0 x1 x2 gV gL gB c u f n h g, ?_⟩
    repeat' (first | ((with_reducible refine kok ?_); kernel_rfl) | ((with_reducible refine keq_mk ?_); kernel_rfl) | with_reducible rfl | ((conv => whnf); first | (with_reducible exact trivial) | ((with_reducible refine and_ff ?_ ?_); · exact rfl) | ((with_reducible refine and_tt ?_ ?_); · exact rfl) | (with_reducible refine And.intro ?_ ?_) | intro _ | (with_reducible refine fin2 hk ?_) | ((with_reducible refine eq_leaf ?_); exact rfl) | exact trivial))
    all_goals first
      | exact hk
      | (simp only [fv_T, fv_15, fv_16, fw_T, fw_15, fw_16, nxC, nxF, nxU, hst, B1, Bool.false_eq_true, if_false, Bool.not_false, Nat.zero_add]; done)
  · rename_i g1 g2 g3
    obtain rfl : i = cellsM t := by clear hk CT; simp only [taskOf_agg, ↓Bool.not_eq_true', ↓Bool.not_eq_false', ↓decT, ↓decF, out_true, out_false, isin_true, isin_false, Int.toNat_natCast, Int.ofNat_lt, Nat.zero_add, Nat.add_zero, Nat.reduceAdd] at *; omega
    obtain ⟨B1, B2⟩ := least_best t c u f done (cellsM t)
    clear CT hop hln hdi FC OP B2
    simp only [im_imD, taskOf_agg, ↓Bool.not_eq_true', ↓Bool.not_eq_false', ↓decT, ↓decF, out_true, out_false, isin_true, isin_false, Int.toNat_natCast, Int.ofNat_lt, Nat.zero_add, Nat.add_zero, Nat.reduceAdd] at g2 g3
    have B0 := B1 (by omega)
    have hL : leastI (visM t c u (candTo t c u f done (cellsM t))) (candTo t c u f done (cellsM t)).length < 0 := by omega
    have hst : stopF c (bestF t c u f done (cellsM t)) = true := by unfold stopF; rw [B0, decide_eq_true (by omega)]; rfl
    conv => whnf
    refine ⟨nxR t c u f done, srH1 t k v0 v1 v2 w0 w1 w2 x0 x1 x2 gV gL gB c u f n h g, ?_⟩
    repeat' (first | ((with_reducible refine kok ?_); kernel_rfl) | ((with_reducible refine keq_mk ?_); kernel_rfl) | with_reducible rfl | ((conv => whnf); first | (with_reducible exact trivial) | ((with_reducible refine and_ff ?_ ?_); · exact rfl) | ((with_reducible refine and_tt ?_ ?_); · exact rfl) | (with_reducible refine And.intro ?_ ?_) | intro _ | (with_reducible refine fin2 hk ?_) | ((with_reducible refine eq_leaf ?_); exact rfl) | exact trivial))
    all_goals first
      | exact hk
      | (rw [im_imD]; unfold leastR nxC; rw [if_pos hL, if_pos hst])
      | (rw [im_imD]; unfold leastR nxF; rw [if_pos hL, if_pos hst])
      | (rw [im_imD]; unfold leastR nxU; rw [if_pos hL, if_pos hst])
      | (simp only [hst, im_imD]; exact decide_eq_false (by omega))
  · rename_i g1 g2
    obtain rfl : i = cellsM t := by clear hk CT; simp only [taskOf_agg, ↓Bool.not_eq_true', ↓Bool.not_eq_false', ↓decT, ↓decF, out_true, out_false, isin_true, isin_false, Int.toNat_natCast, Int.ofNat_lt, Nat.zero_add, Nat.add_zero, Nat.reduceAdd] at *; omega
    obtain ⟨B1, B2⟩ := least_best t c u f done (cellsM t)
    clear CT hop hln hdi FC OP B1
    simp only [im_imD, taskOf_agg, ↓Bool.not_eq_true', ↓Bool.not_eq_false', ↓decT, ↓decF, out_true, out_false, isin_true, isin_false, Int.toNat_natCast, Int.ofNat_lt, Nat.zero_add, Nat.add_zero, Nat.reduceAdd] at g2
    obtain ⟨b1, b2, b3, b4⟩ := B2 (by omega)
    have hst : stopF c (bestF t c u f done (cellsM t)) = false := by unfold stopF; rw [decide_eq_false (show ¬ bestF t c u f done (cellsM t) < 0 by omega), Bool.and_false]
    conv => whnf
    refine ⟨nxR t c u f done, srH1 t k v0 v1 v2 w0 w1 w2 x0 x1 x2 gV gL gB c u f n h g, ?_⟩
    repeat' (first | ((with_reducible refine kok ?_); kernel_rfl) | ((with_reducible refine keq_mk ?_); kernel_rfl) | with_reducible rfl | ((conv => whnf); first | (with_reducible exact trivial) | ((with_reducible refine and_ff ?_ ?_); · exact rfl) | ((with_reducible refine and_tt ?_ ?_); · exact rfl) | (with_reducible refine And.intro ?_ ?_) | intro _ | (with_reducible refine fin2 hk ?_) | ((with_reducible refine eq_leaf ?_); exact rfl) | exact trivial))
    all_goals first
      | exact hk
      | (simp only [nxC, nxF, nxU, hst, Bool.false_eq_true, if_false, im_imD, b1, b2, b3]; done)
      | (simp only [hst, im_imD]; exact decide_eq_true (by omega))
theorem fNext2 {ds : List V.D} {H : HL} {K : Res → HL → Prop} (h : rFNext2 ds H K) : tidy (inl (cxOf tab lr37) Go.Proofs.Tryz.f33) ds H K := by
  obtain ⟨t, k, v0, v1, v2, w0, w1, w2, x0, x1, x2, gV, gL, gB, c, u, f, n, h, g, done, rfl, rfl, ⟨hok, hc, hu, hf, hd⟩, hk⟩ := h
  repeat' (first | ((with_reducible refine kok ?_); kernel_rfl) | ((with_reducible refine keq_mk ?_); kernel_rfl) | with_reducible rfl | ((conv => whnf); first | (with_reducible exact trivial) | ((with_reducible refine and_ff ?_ ?_); · exact rfl) | ((with_reducible refine and_tt ?_ ?_); · exact rfl) | (with_reducible refine And.intro ?_ ?_) | intro _ | (with_reducible refine fin2 hk ?_) | ((with_reducible refine eq_leaf ?_); exact rfl) | exact trivial))
  conv => whnf
  have hM : cellsM t ≤ 60 := cellsL_len hok
  refine ⟨Nat, fun i => [(0, .ptr 4 0), (2, .ptr 13 0), (4, .own 14 (candTo t c u f done i).length), (13, .rsl 5 (cellsM t) (imD (cellM t (cellsL t)))), (14, .int .i64 (cellsM t : Nat)), (15, .int .i64 i)],
    fun i => srH2 t k v0 v1 v2 w0 w1 w2 x0 x1 x2 gV gL gB c u f n h g ++ [some (.row [.int .i64 0, .int .i64 0, .int .i64 0]), some (.buf 80 3 (candTo t c u f done i).length (imD (visM t c u (candTo t c u f done i))))],
    fun i => cellsM t - i, fun i => i ≤ cellsM t, [(80, 3)], 0, fun _ => ⟨?_, ?_⟩, ?_, fun i hi => ?_⟩
  · conv => lhs; whnf
  · conv => lhs; whnf
  · clear hk
    repeat' (first | ((with_reducible refine kok ?_); kernel_rfl) | ((with_reducible refine keq_mk ?_); kernel_rfl) | with_reducible rfl | ((conv => whnf); first | (with_reducible exact trivial) | ((with_reducible refine and_ff ?_ ?_); · exact rfl) | ((with_reducible refine and_tt ?_ ?_); · exact rfl) | (with_reducible refine And.intro ?_ ?_) | intro _ | (with_reducible refine fin2 hk ?_) | ((with_reducible refine eq_leaf ?_); exact rfl) | exact trivial))
    all_goals first | exact Nat.zero_le _ | (exact absurd (by assumption) (Nat.not_lt_zero _)) | rfl
  have hi : i ≤ cellsM t := hi
  have hlk := hok.look
  have htn := hok.turn
  have hfu := hok.fuel
  have FC := fun hh => flC_in hok (a := c) (b := (i : Int)) hc.2 hh
  have OP := opC_in hok i
  have hop : cellM t (cellsL t) i 4 = opC t i := by delta cellM opC; rfl
  have CT := @candB_true t c u f done i
  have hln := candTo_len t c u f done i
  have hdi := hd i
  have hu5 : 0 ≤ u ∧ u ≤ 500000000 := by omega
  have hf5 : 0 ≤ f ∧ f ≤ 500000000 := by omega
  repeat' (first | ((with_reducible refine kok ?_); kernel_rfl) | ((with_reducible refine keq_mk ?_); kernel_rfl) | with_reducible rfl | ((conv => whnf); first | (with_reducible exact trivial) | ((with_reducible refine and_ff ?_ ?_); · exact rfl) | ((with_reducible refine and_tt ?_ ?_); · exact rfl) | (with_reducible refine And.intro ?_ ?_) | intro _ | (with_reducible refine fin2 hk ?_) | ((with_reducible refine eq_leaf ?_); exact rfl) | exact trivial))
  all_goals try exact hok
  all_goals try (show ((candTo t c u f done i).length + 1) * 24 ≤ 140737488355328; omega)
  all_goals try ((first | with_reducible refine (?_ : (_ : Int) ≤ _) | with_reducible refine (?_ : (_ : Int) < _)); clear hk CT; simp only [rtOf_agg, fv_T, fv_15, fv_16, fv_17, fw_T, fw_15, fw_16, fw_17, taskOf_agg, ↓Bool.not_eq_true', ↓Bool.not_eq_false', ↓decT, ↓decF, out_true, out_false, isin_true, isin_false, Int.toNat_natCast, Int.ofNat_lt, Nat.zero_add, Nat.add_zero, Nat.reduceAdd] at *; omega)
  · rename_i g1 g2 g3 g4
    have q1 : i < cellsM t := Int.ofNat_lt.1 (of_decide_eq_true g1)
    have q2 : done i = false := (hdi q1).symm.trans ((Bool.not_eq_true' _).mp g2)
    have q3 : 0 ≤ opC t i := by rw [← hop]; exact of_decide_eq_true g3
    have q4 : wrongS t c u f i (visF t c u i) (visU t c u i) = 0 := of_decide_eq_true g4
    have E : candB t c u f done i = true := by rw [CT]; exact ⟨q2, q3, q4⟩
    have hl := cand_kept_len E
    clear hk CT g2 g3 g4
    conv => whnf
    refine ⟨i + 1, ?_⟩
    repeat' (first | ((with_reducible refine kok ?_); kernel_rfl) | ((with_reducible refine keq_mk ?_); kernel_rfl) | with_reducible rfl | ((conv => whnf); first | (with_reducible exact trivial) | ((with_reducible refine and_ff ?_ ?_); · exact rfl) | ((with_reducible refine and_tt ?_ ?_); · exact rfl) | (with_reducible refine And.intro ?_ ?_) | intro _ | (with_reducible refine fin2 hk ?_) | ((with_reducible refine eq_leaf ?_); exact rfl) | exact trivial))
    all_goals first
      | exact hl.symm
      | exact cand_snoc E rfl (by rw [← hl]; assumption) (by assumption)
      | (simp only [taskOf_agg, ↓Bool.not_eq_true', ↓Bool.not_eq_false', ↓decT, ↓decF, out_true, out_false, isin_true, isin_false, Int.toNat_natCast, Int.ofNat_lt, Nat.zero_add, Nat.add_zero, Nat.reduceAdd] at *; omega)
  · rename_i g1 g2 g3 g4
    have q4 : ¬ wrongS t c u f i (visF t c u i) (visU t c u i) = 0 := of_decide_eq_false g4
    have E : candB t c u f done i = false := by rw [← Bool.not_eq_true, CT]; exact fun q => q4 q.2.2
    have hl := cand_gone E
    clear hk CT g2 g3 g4
    conv => whnf
    refine ⟨i + 1, ?_⟩
    repeat' (first | ((with_reducible refine kok ?_); kernel_rfl) | ((with_reducible refine keq_mk ?_); kernel_rfl) | with_reducible rfl | ((conv => whnf); first | (with_reducible exact trivial) | ((with_reducible refine and_ff ?_ ?_); · exact rfl) | ((with_reducible refine and_tt ?_ ?_); · exact rfl) | (with_reducible refine And.intro ?_ ?_) | intro _ | (with_reducible refine fin2 hk ?_) | ((with_reducible refine eq_leaf ?_); exact rfl) | exact trivial))
    all_goals first
      | (rw [hl]; done)
      | (simp only [taskOf_agg, ↓Bool.not_eq_true', ↓Bool.not_eq_false', ↓decT, ↓decF, out_true, out_false, isin_true, isin_false, Int.toNat_natCast, Int.ofNat_lt, Nat.zero_add, Nat.add_zero, Nat.reduceAdd] at *; omega)
  · rename_i g1 g2 g3
    have q3 : ¬ 0 ≤ opC t i := by rw [← hop]; exact of_decide_eq_false g3
    have E : candB t c u f done i = false := by rw [← Bool.not_eq_true, CT]; exact fun q => q3 q.2.1
    have hl := cand_gone E
    clear hk CT g2 g3
    conv => whnf
    refine ⟨i + 1, ?_⟩
    repeat' (first | ((with_reducible refine kok ?_); kernel_rfl) | ((with_reducible refine keq_mk ?_); kernel_rfl) | with_reducible rfl | ((conv => whnf); first | (with_reducible exact trivial) | ((with_reducible refine and_ff ?_ ?_); · exact rfl) | ((with_reducible refine and_tt ?_ ?_); · exact rfl) | (with_reducible refine And.intro ?_ ?_) | intro _ | (with_reducible refine fin2 hk ?_) | ((with_reducible refine eq_leaf ?_); exact rfl) | exact trivial))
    all_goals first
      | (rw [hl]; done)
      | (simp only [taskOf_agg, ↓Bool.not_eq_true', ↓Bool.not_eq_false', ↓decT, ↓decF, out_true, out_false, isin_true, isin_false, Int.toNat_natCast, Int.ofNat_lt, Nat.zero_add, Nat.add_zero, Nat.reduceAdd] at *; omega)
  · rename_i g1 g2
    have q1 : i < cellsM t := Int.ofNat_lt.1 (of_decide_eq_true g1)
    have q2 : done i = true := (hdi q1).symm.trans ((Bool.not_eq_false' _).mp g2)
    have E : candB t c u f done i = false := by rw [← Bool.not_eq_true, CT]; intro q; rw [q2] at q; exact absurd q.1 (by decide)
    have hl := cand_gone E
    clear hk CT g2
    conv => whnf
    refine ⟨i + 1, ?_⟩
    repeat' (first | ((with_reducible refine kok ?_); kernel_rfl) | ((with_reducible refine keq_mk ?_); kernel_rfl) | with_reducible rfl | ((conv => whnf); first | (with_reducible exact trivial) | ((with_reducible refine and_ff ?_ ?_); · exact rfl) | ((with_reducible refine and_tt ?_ ?_); · exact rfl) | (with_reducible refine And.intro ?_ ?_) | intro _ | (with_reducible refine fin2 hk ?_) | ((with_reducible refine eq_leaf ?_); exact rfl) | exact trivial))
    all_goals first
      | (rw [hl]; done)
      | (simp only [taskOf_agg, ↓Bool.not_eq_true', ↓Bool.not_eq_false', ↓decT, ↓decF, out_true, out_false, isin_true, isin_false, Int.toNat_natCast, Int.ofNat_lt, Nat.zero_add, Nat.add_zero, Nat.reduceAdd] at *; omega)
  · omega
  · rename_i g1 g2 g3
    obtain rfl : i = cellsM t := by clear hk CT; simp only [taskOf_agg, ↓Bool.not_eq_true', ↓Bool.not_eq_false', ↓decT, ↓decF, out_true, out_false, isin_true, isin_false, Int.toNat_natCast, Int.ofNat_lt, Nat.zero_add, Nat.add_zero, Nat.reduceAdd] at *; omega
    obtain ⟨B1, B2⟩ := least_best t c u f done (cellsM t)
    clear CT hop hln hdi FC OP B2
    simp only [im_imD, taskOf_agg, ↓Bool.not_eq_true', ↓Bool.not_eq_false', ↓decT, ↓decF, out_true, out_false, isin_true, isin_false, Int.toNat_natCast, Int.ofNat_lt, Nat.zero_add, Nat.add_zero, Nat.reduceAdd] at g2 g3
    have B1 := B1 (by omega)
    have hst : stopF c (bestF t c u f done (cellsM t)) = false := by unfold stopF; rw [decide_eq_false (by omega)]; rfl
    rw [B1] at hst
    conv => whnf
    refine ⟨nxR t c u f done, srH2 t k v0 v1 v2 w0 w1 w2 x0 x1 x2 gV gL gB c u f n h g, ?_⟩
    repeat' (first | ((with_reducible refine kok ?_); kernel_rfl) | ((with_reducible refine keq_mk ?_); kernel_rfl) | with_reducible rfl | ((conv => whnf); first | (with_reducible exact trivial) | ((with_reducible refine and_ff ?_ ?_); · exact rfl) | ((with_reducible refine and_tt ?_ ?_); · exact rfl) | (with_reducible refine And.intro ?_ ?_) | intro _ | (with_reducible refine fin2 hk ?_) | ((with_reducible refine eq_leaf ?_); exact rfl) | exact trivial))
    all_goals first
      | exact hk
      | (simp only [fv_T, fv_15, fv_16, fw_T, fw_15, fw_16, nxC, nxF, nxU, hst, B1, Bool.false_eq_true, if_false, Bool.not_false, Nat.zero_add]; done)
  · rename_i g1 g2 g3
    obtain rfl : i = cellsM t := by clear hk CT; simp only [taskOf_agg, ↓Bool.not_eq_true', ↓Bool.not_eq_false', ↓decT, ↓decF, out_true, out_false, isin_true, isin_false, Int.toNat_natCast, Int.ofNat_lt, Nat.zero_add, Nat.add_zero, Nat.reduceAdd] at *; omega
    obtain ⟨B1, B2⟩ := least_best t c u f done (cellsM t)
    clear CT hop hln hdi FC OP B2
    simp only [im_imD, taskOf_agg, ↓Bool.not_eq_true', ↓Bool.not_eq_false', ↓decT, ↓decF, out_true, out_false, isin_true, isin_false, Int.toNat_natCast, Int.ofNat_lt, Nat.zero_add, Nat.add_zero, Nat.reduceAdd] at g2 g3
    have B0 := B1 (by omega)
    have hL : leastI (visM t c u (candTo t c u f done (cellsM t))) (candTo t c u f done (cellsM t)).length < 0 := by omega
    have hst : stopF c (bestF t c u f done (cellsM t)) = true := by unfold stopF; rw [B0, decide_eq_true (by omega)]; rfl
    conv => whnf
    refine ⟨nxR t c u f done, srH2 t k v0 v1 v2 w0 w1 w2 x0 x1 x2 gV gL gB c u f n h g, ?_⟩
    repeat' (first | ((with_reducible refine kok ?_); kernel_rfl) | ((with_reducible refine keq_mk ?_); kernel_rfl) | with_reducible rfl | ((conv => whnf); first | (with_reducible exact trivial) | ((with_reducible refine and_ff ?_ ?_); · exact rfl) | ((with_reducible refine and_tt ?_ ?_); · exact rfl) | (with_reducible refine And.intro ?_ ?_) | intro _ | (with_reducible refine fin2 hk ?_) | ((with_reducible refine eq_leaf ?_); exact rfl) | exact trivial))
    all_goals first
      | exact hk
      | (rw [im_imD]; unfold leastR nxC; rw [if_pos hL, if_pos hst])
      | (rw [im_imD]; unfold leastR nxF; rw [if_pos hL, if_pos hst])
      | (rw [im_imD]; unfold leastR nxU; rw [if_pos hL, if_pos hst])
      | (simp only [hst, im_imD]; exact decide_eq_false (by omega))
  · rename_i g1 g2
    obtain rfl : i = cellsM t := by clear hk CT; simp only [taskOf_agg, ↓Bool.not_eq_true', ↓Bool.not_eq_false', ↓decT, ↓decF, out_true, out_false, isin_true, isin_false, Int.toNat_natCast, Int.ofNat_lt, Nat.zero_add, Nat.add_zero, Nat.reduceAdd] at *; omega
    obtain ⟨B1, B2⟩ := least_best t c u f done (cellsM t)
    clear CT hop hln hdi FC OP B1
    simp only [im_imD, taskOf_agg, ↓Bool.not_eq_true', ↓Bool.not_eq_false', ↓decT, ↓decF, out_true, out_false, isin_true, isin_false, Int.toNat_natCast, Int.ofNat_lt, Nat.zero_add, Nat.add_zero, Nat.reduceAdd] at g2
    obtain ⟨b1, b2, b3, b4⟩ := B2 (by omega)
    have hst : stopF c (bestF t c u f done (cellsM t)) = false := by unfold stopF; rw [decide_eq_false (show ¬ bestF t c u f done (cellsM t) < 0 by omega), Bool.and_false]
    conv => whnf
    refine ⟨nxR t c u f done, srH2 t k v0 v1 v2 w0 w1 w2 x0 x1 x2 gV gL gB c u f n h g, ?_⟩
    repeat' (first | ((with_reducible refine kok ?_); kernel_rfl) | ((with_reducible refine keq_mk ?_); kernel_rfl) | with_reducible rfl | ((conv => whnf); first | (with_reducible exact trivial) | ((with_reducible refine and_ff ?_ ?_); · exact rfl) | ((with_reducible refine and_tt ?_ ?_); · exact rfl) | (with_reducible refine And.intro ?_ ?_) | intro _ | (with_reducible refine fin2 hk ?_) | ((with_reducible refine eq_leaf ?_); exact rfl) | exact trivial))
    all_goals first
      | exact hk
      | (simp only [nxC, nxF, nxU, hst, Bool.false_eq_true, if_false, im_imD, b1, b2, b3]; done)
      | (simp only [hst, im_imD]; exact decide_eq_true (by omega))
def rFNext : CRule := fun ds H K => rFNext0 ds H K ∨ rFNext1 ds H K ∨ rFNext2 ds H K
theorem fNext_ok : CSound Go.Proofs.Tryz.prog 33 rFNext :=
  csound_mk Tryz.func33 (by kernel_rfl) rfl (ctx lr37_ok) fun ds H K h => h.elim fNext0 fun h => h.elim fNext1 fNext2
end Go.Proofs.YtphcblofacfkaaaGreat
end
