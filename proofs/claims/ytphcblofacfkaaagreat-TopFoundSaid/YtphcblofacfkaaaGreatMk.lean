/-
  Contracts of the recovery: Check (the document's).
-/
import Derived.Test.YtphcblofacfkaaaGreatMj
set_option linter.unusedVariables false
set_option linter.unusedSimpArgs false
set_option maxRecDepth 100000
set_option maxHeartbeats 4000000
section
namespace Go.Proofs.YtphcblofacfkaaaGreat
open Go.V
def gridB (t : RTask) : Bool := areaB t.xl t.xh t.yl t.yh && isin t.size 1 100000000
def baseB (t : RTask) : Bool := isin t.bx (-100000000) 100000000 && isin t.bz (-100000000) 100000000 && isin t.start 0 100000 && isin t.speed 1 1000000 && isin t.fuel 1 100000 && isin t.look 1 6000 && isin t.turn 0 6000
def gridN (t : RTask) : Int := manyS t.xl t.xh t.size * manyS t.yl t.yh t.size
def chk4R (t : RTask) : Int × Int × Int := if baseB t = true then (0, 0, 0) else (4, 0, 7)
def chk3R (t : RTask) : Int × Int × Int := if 6 < t.no then (3, 0, 3) else pickE 3 (fe (ownE t) 0 t.no) (chk4R t)
def chk2R (t : RTask) : Int × Int × Int := if 6 < t.nf then (2, 0, 3) else pickE 2 (fe (fixErr t) 0 t.nf) (chk3R t)
def checkR (t : RTask) : Int × Int × Int := if gridB t = false then (1, 0, 7) else if 60 < gridN t then (1, 0, 3) else chk2R t
theorem areaB_true (a b c d : Int) : (areaB a b c d = true) = ((-100000000 ≤ a ∧ a ≤ b ∧ b ≤ 100000000) ∧ -100000000 ≤ c ∧ c ≤ d ∧ d ≤ 100000000) := by
  simp only [areaB, Bool.and_eq_true, side_true]
theorem gridB_true (t : RTask) : (gridB t = true) = (areaB t.xl t.xh t.yl t.yh = true ∧ 1 ≤ t.size ∧ t.size ≤ 100000000) := by
  simp only [gridB, Bool.and_eq_true, isin_true]
theorem baseB_true (t : RTask) : (baseB t = true) = ((-100000000 ≤ t.bx ∧ t.bx ≤ 100000000) ∧ (-100000000 ≤ t.bz ∧ t.bz ≤ 100000000) ∧ (0 ≤ t.start ∧ t.start ≤ 100000) ∧ (1 ≤ t.speed ∧ t.speed ≤ 1000000) ∧ (1 ≤ t.fuel ∧ t.fuel ≤ 100000) ∧ (1 ≤ t.look ∧ t.look ≤ 6000) ∧ 0 ≤ t.turn ∧ t.turn ≤ 6000) := by
  simp only [baseB, Bool.and_eq_true, isin_true, and_assoc]
theorem chk_grid {t : RTask} (h : ¬ (areaB t.xl t.xh t.yl t.yh = true ∧ 1 ≤ t.size ∧ t.size ≤ 100000000)) : checkR t = (1, 0, 7) := by
  rw [← gridB_true] at h
  simp [checkR, h]
theorem chk_many {t : RTask} (h : areaB t.xl t.xh t.yl t.yh = true ∧ 1 ≤ t.size ∧ t.size ≤ 100000000) (h2 : 60 < gridN t) : checkR t = (1, 0, 3) := by
  rw [← gridB_true] at h
  simp [checkR, h, h2]
theorem chk_nf {t : RTask} (h : areaB t.xl t.xh t.yl t.yh = true ∧ 1 ≤ t.size ∧ t.size ≤ 100000000) (h2 : ¬ 60 < gridN t) (h3 : 6 < t.nf) : checkR t = (2, 0, 3) := by
  rw [← gridB_true] at h
  simp [checkR, chk2R, h, h2, h3]
theorem chk_2 {t : RTask} (h : areaB t.xl t.xh t.yl t.yh = true ∧ 1 ≤ t.size ∧ t.size ≤ 100000000) (h2 : ¬ 60 < gridN t) (h3 : ¬ 6 < t.nf) : checkR t = pickE 2 (fe (fixErr t) 0 (t.nf - 0)) (chk3R t) := by
  rw [← gridB_true] at h
  simp [checkR, chk2R, h, h2, h3]
theorem chk_no {t : RTask} (h : 6 < t.no) : chk3R t = (3, 0, 3) := if_pos h
theorem chk_3 {t : RTask} (h : ¬ 6 < t.no) : chk3R t = pickE 3 (fe (ownE t) 0 (t.no - 0)) (chk4R t) := if_neg h
theorem chk_base {t : RTask} (h : ¬ ((-100000000 ≤ t.bx ∧ t.bx ≤ 100000000) ∧ (-100000000 ≤ t.bz ∧ t.bz ≤ 100000000) ∧ (0 ≤ t.start ∧ t.start ≤ 100000) ∧ (1 ≤ t.speed ∧ t.speed ≤ 1000000) ∧ (1 ≤ t.fuel ∧ t.fuel ≤ 100000) ∧ (1 ≤ t.look ∧ t.look ≤ 6000) ∧ 0 ≤ t.turn ∧ t.turn ≤ 6000)) : chk4R t = (4, 0, 7) := by
  rw [← baseB_true] at h
  exact if_neg h
theorem chk_all {t : RTask} (h : ((-100000000 ≤ t.bx ∧ t.bx ≤ 100000000) ∧ (-100000000 ≤ t.bz ∧ t.bz ≤ 100000000) ∧ (0 ≤ t.start ∧ t.start ≤ 100000) ∧ (1 ≤ t.speed ∧ t.speed ≤ 1000000) ∧ (1 ≤ t.fuel ∧ t.fuel ≤ 100000) ∧ (1 ≤ t.look ∧ t.look ≤ 6000) ∧ 0 ≤ t.turn ∧ t.turn ≤ 6000)) : chk4R t = (0, 0, 0) := by
  rw [← baseB_true] at h
  exact if_pos h
theorem gridN_in {t : RTask} (h : areaB t.xl t.xh t.yl t.yh = true ∧ 1 ≤ t.size ∧ t.size ≤ 100000000) : 1 ≤ manyS t.xl t.xh t.size ∧ 1 ≤ manyS t.yl t.yh t.size ∧ 0 ≤ gridN t ∧ gridN t ≤ 40000000400000001 := by
  rw [areaB_true] at h
  have h1 := manyS_in h.1.1.1 h.1.1.2.1 h.1.1.2.2 h.2.1
  have h2 := manyS_in h.1.2.1 h.1.2.2.1 h.1.2.2.2 h.2.1
  have h3 : manyS t.xl t.xh t.size ≤ 200000001 := by unfold manyS; omega
  have h4 : 1 ≤ manyS t.xl t.xh t.size := by unfold manyS; omega
  have h5 : manyS t.yl t.yh t.size ≤ 200000001 := by unfold manyS; omega
  have h6 : 1 ≤ manyS t.yl t.yh t.size := by unfold manyS; omega
  have h7 := mul_in (x := manyS t.xl t.xh t.size) (y := manyS t.yl t.yh t.size) (A := 200000001) (B := 200000001) ⟨by omega, h3⟩ ⟨by omega, h5⟩ (by decide)
  have h8 : 0 ≤ manyS t.xl t.xh t.size * manyS t.yl t.yh t.size := Int.mul_nonneg (by omega) (by omega)
  unfold gridN
  omega
def rCheckR : List V.D → Option (Prop × V.D) := fun ds => match ds with
  | [d] => some (RtIs d ∧ (rtOf d).fits, .tup [.int .i64 (checkR (rtOf d)).1, .int .i64 (checkR (rtOf d)).2.1, .int .i64 (checkR (rtOf d)).2.2])
  | _ => none
noncomputable def lr7 : Lib := lr6
theorem lr7_ok : LibOK Go.Proofs.Tryz.prog lr7 := lr6_ok
attribute [local irreducible] areaB manyS ownE fixE checkR gridN chk3R chk4R
end Go.Proofs.YtphcblofacfkaaaGreat
end
section
namespace Go.Proofs.YtphcblofacfkaaaGreat
open Go.V
theorem areaB_false (a b c d : Int) : (areaB a b c d = false) = ¬ ((-100000000 ≤ a ∧ a ≤ b ∧ b ≤ 100000000) ∧ -100000000 ≤ c ∧ c ≤ d ∧ d ≤ 100000000) := by
  rw [← areaB_true]; simp
attribute [local irreducible] areaB manyS ownE fixE checkR gridN chk3R chk4R nameS
def ownIs (nm : Nat → ByteArray) (s : ByteArray) (k : Nat) : Bool := decide (nm k = s)
def nameD (s : ByteArray) (e : Nat → V.D) (j : Nat) : V.D := match j with
  | 0 => .str s
  | j + 1 => e (j + 1)
def rChk1 : List V.D → Option (Prop × V.D) := fun ds => match ds with
  | [.agg [.str s, .int .i64 a, .int .i64 b, .int .i64 c, .int .i64 d, .int .i64 f], .eptr 6 e] => some (e 0 = .str (toS (e 0)), .bool (decide (s = toS (e 0))))
  | _ => none
theorem chk1_ok : PSound Go.Proofs.Tryz.prog 88 (mk rChk1) := by
  refine psound_mk Tryz.func88 (by kernel_rfl) rfl (ctx (.nil _)) ?_
  (intro ds p d h; unfold rChk1 at h; split at h <;> first | (cases h; done) | skip; cases h; refine ⟨Nat.le_of_ble_eq_true rfl, fun hp k hk => ?_⟩)
  rename_i s a b c d f e
  generalize toS (e 0) = n at *
  refine ⟨[.agg [.str s, .int .i64 a, .int .i64 b, .int .i64 c, .int .i64 d, .int .i64 f], .eptr 6 (nameD n e)], rfl, rfl, rfl, rfl, rfl, rfl, rfl, fun j hj => ?_, ?_⟩
  · cases j with
    | zero => exact hp
    | succ j => rfl
  clear hp
  repeat' (first | ((with_reducible refine kok ?_); kernel_rfl) | ((with_reducible refine keq_mk ?_); kernel_rfl) | with_reducible rfl | ((conv => whnf); first | (with_reducible exact trivial) | ((with_reducible refine and_ff ?_ ?_); · exact rfl) | ((with_reducible refine and_tt ?_ ?_); · exact rfl) | (with_reducible refine And.intro ?_ ?_) | intro _ | (with_reducible refine fin2 hk ?_) | ((with_reducible refine eq_leaf ?_); exact rfl) | exact trivial))
noncomputable def lr8 : Lib := (88, mk rChk1) :: lr7
theorem lr8_ok : LibOK Go.Proofs.Tryz.prog lr8 := .cons chk1_ok lr7_ok
def rIdxOwn : List V.D → Option (Prop × V.D) := fun ds => match ds with
  | [.rsl 6 n g, .fn 88 [] [.eptr 6 e]] => some (SM n 6 g ∧ n ≤ 1099511627776 ∧ e 0 = .str (toS (e 0)), .int .i64 (firstFrom (ownIs (nmOf g) (toS (e 0))) 0 n))
  | _ => none
theorem idxOwn_ok : PSound Go.Proofs.Tryz.prog 102 (mk rIdxOwn) := by
  refine psound_mk Tryz.func102 (by kernel_rfl) rfl (ctx lr8_ok) ?_
  (intro ds p d h; unfold rIdxOwn at h; split at h <;> first | (cases h; done) | skip; cases h; refine ⟨Nat.le_of_ble_eq_true rfl, fun hp k hk => ?_⟩)
  rename_i n g e
  obtain ⟨h1, h2, h3⟩ := hp
  have h4 : toS (e 0) = toS (e 0) := rfl
  generalize hH : toS (e 0) = h at *
  clear h4
  refine ⟨[.rsl 6 n (smD (nmOf g) (imS g)), .fn 88 [] [.eptr 6 e]], rfl, h1, ?_⟩
  clear h1
  generalize nmOf g = nm at *
  generalize imS g = a at *
  generalize hS : firstFrom (ownIs nm h) 0 n = c at *
  repeat' (first | ((with_reducible refine kok ?_); kernel_rfl) | ((with_reducible refine keq_mk ?_); kernel_rfl) | with_reducible rfl | ((conv => whnf); first | (with_reducible exact trivial) | ((with_reducible refine and_ff ?_ ?_); · exact rfl) | ((with_reducible refine and_tt ?_ ?_); · exact rfl) | (with_reducible refine And.intro ?_ ?_) | intro _ | (with_reducible refine fin2 hk ?_) | ((with_reducible refine eq_leaf ?_); exact rfl) | exact trivial))
  refine ⟨Nat, fun i => [(0, .rsl 6 n (smD nm a)), (1, .fn 88 [] [.eptr 6 e]), (7, .int .i64 n), (8, .int .i64 i)], fun _ => [], fun i => n - i, fun i => i ≤ n ∧ c = firstFrom (ownIs nm h) i (n - i), [], 0, fun _ => ⟨rfl, rfl⟩, ?_, fun i hI => ?_⟩
  · clear hk
    repeat' (first | ((with_reducible refine kok ?_); kernel_rfl) | ((with_reducible refine keq_mk ?_); kernel_rfl) | with_reducible rfl | ((conv => whnf); first | (with_reducible exact trivial) | ((with_reducible refine and_ff ?_ ?_); · exact rfl) | ((with_reducible refine and_tt ?_ ?_); · exact rfl) | (with_reducible refine And.intro ?_ ?_) | intro _ | (with_reducible refine fin2 hk ?_) | ((with_reducible refine eq_leaf ?_); exact rfl) | exact trivial))
    · omega
    · exact hS.symm
  obtain ⟨hi, hc⟩ := hI
  clear hS
  repeat' (first | ((with_reducible refine kok ?_); kernel_rfl) | ((with_reducible refine keq_mk ?_); kernel_rfl) | with_reducible rfl | ((conv => whnf); first | (with_reducible exact trivial) | ((with_reducible refine and_ff ?_ ?_); · exact rfl) | ((with_reducible refine and_tt ?_ ?_); · exact rfl) | (with_reducible refine And.intro ?_ ?_) | intro _ | (with_reducible refine fin2 hk ?_) | ((with_reducible refine eq_leaf ?_); exact rfl) | exact trivial))
  all_goals try ((first | with_reducible refine (?_ : (_ : Int) ≤ _) | with_reducible refine (?_ : (_ : Int) < _)); clear hk hc h3 hH; simp only [taskOf_agg, ↓Bool.not_eq_true', ↓Bool.not_eq_false', ↓decT, ↓decF, out_true, out_false, isin_true, isin_false, Int.toNat_natCast, Int.ofNat_lt, Nat.zero_add, Nat.add_zero, Nat.reduceAdd] at *; omega)
  · exact h3.trans (congrArg _ hH.symm)
  · rename_i g1 g2
    clear hk
    simp only [taskOf_agg, ↓Bool.not_eq_true', ↓Bool.not_eq_false', ↓decT, ↓decF, out_true, out_false, isin_true, isin_false, Int.toNat_natCast, Int.ofNat_lt, Nat.zero_add, Nat.add_zero, Nat.reduceAdd] at g1 g2
    rw [hH] at g2
    rw [firstFrom_step g1, if_pos (by rw [ownIs]; exact decide_eq_true g2)] at hc
    exact hc.symm
  · rename_i g1 g2
    clear hk
    simp only [taskOf_agg, ↓Bool.not_eq_true', ↓Bool.not_eq_false', ↓decT, ↓decF, out_true, out_false, isin_true, isin_false, Int.toNat_natCast, Int.ofNat_lt, Nat.zero_add, Nat.add_zero, Nat.reduceAdd] at g1 g2
    rw [hH] at g2
    rw [firstFrom_step g1, if_neg (by rw [ownIs, decide_eq_false g2]; exact Bool.noConfusion)] at hc
    refine ⟨i + 1, ?_⟩
    repeat' (first | ((with_reducible refine kok ?_); kernel_rfl) | ((with_reducible refine keq_mk ?_); kernel_rfl) | with_reducible rfl | ((conv => whnf); first | (with_reducible exact trivial) | ((with_reducible refine and_ff ?_ ?_); · exact rfl) | ((with_reducible refine and_tt ?_ ?_); · exact rfl) | (with_reducible refine And.intro ?_ ?_) | intro _ | (with_reducible refine fin2 hk ?_) | ((with_reducible refine eq_leaf ?_); exact rfl) | exact trivial))
    · exact g1
    · exact hc
    · simp only; omega
  · rename_i g1
    clear hk
    simp only [taskOf_agg, ↓Bool.not_eq_true', ↓Bool.not_eq_false', ↓decT, ↓decF, out_true, out_false, isin_true, isin_false, Int.toNat_natCast, Int.ofNat_lt, Nat.zero_add, Nat.add_zero, Nat.reduceAdd] at g1
    rw [firstFrom_end (by omega)] at hc
    exact hc.symm
noncomputable def lr9 : Lib := (102, mk rIdxOwn) :: lr8
theorem lr9_ok : LibOK Go.Proofs.Tryz.prog lr9 := .cons idxOwn_ok lr8_ok
def rAnyOwn : List V.D → Option (Prop × V.D) := fun ds => match ds with
  | [.rsl 6 n g, .fn 88 [] [.eptr 6 e]] => some (SM n 6 g ∧ n ≤ 1099511627776 ∧ e 0 = .str (toS (e 0)), .bool (anyBelow (ownIs (nmOf g) (toS (e 0))) n))
  | _ => none
theorem anyOwn_ok : PSound Go.Proofs.Tryz.prog 87 (mk rAnyOwn) := by
  refine psound_mk Tryz.func87 (by kernel_rfl) rfl (ctx lr9_ok) ?_
  (intro ds p d h; unfold rAnyOwn at h; split at h <;> first | (cases h; done) | skip; cases h; refine ⟨Nat.le_of_ble_eq_true rfl, fun hp k hk => ?_⟩)
  rename_i n g e
  obtain ⟨h1, h2, h3⟩ := hp
  refine ⟨[.rsl 6 n (smD (nmOf g) (imS g)), .fn 88 [] [.eptr 6 e]], rfl, h1, ?_⟩
  clear h1
  generalize nmOf g = nm at *
  generalize imS g = a at *
  repeat' (first | ((with_reducible refine kok ?_); kernel_rfl) | ((with_reducible refine keq_mk ?_); kernel_rfl) | with_reducible rfl | ((conv => whnf); first | (with_reducible exact trivial) | ((with_reducible refine and_ff ?_ ?_); · exact rfl) | ((with_reducible refine and_tt ?_ ?_); · exact rfl) | (with_reducible refine And.intro ?_ ?_) | intro _ | (with_reducible refine fin2 hk ?_) | ((with_reducible refine eq_leaf ?_); exact rfl) | exact trivial))
  · exact h2
  · exact h3
  · clear hk
    exact firstFrom_any _ _
noncomputable def lr10 : Lib := (87, mk rAnyOwn) :: lr9
theorem lr10_ok : LibOK Go.Proofs.Tryz.prog lr10 := .cons anyOwn_ok lr9_ok
theorem hide_str (H : HL) (s : ByteArray) : hide H (.str s) = .str s := rfl
theorem toS_str (s : ByteArray) : toS (.str s) = s := rfl
theorem nmOf_smD (nm : Nat → ByteArray) (a : Nat → Nat → Int) : nmOf (smD nm a) = nm := rfl
theorem ownIs_same (t : RTask) (k : Nat) : ownIs t.nm (t.nm k) = sameOwn t k := rfl
theorem rCheck_ok : PSound Go.Proofs.Tryz.prog 57 (mk rCheckR) := by
  refine psound_mk Tryz.func57 (by kernel_rfl) rfl (ctx lr10_ok) ?_
  (intro ds p d h; unfold rCheckR at h; split at h <;> first | (cases h; done) | skip; cases h; refine ⟨Nat.le_of_ble_eq_true rfl, fun hp k hk => ?_⟩)
  rename_i d
  obtain ⟨ht, hf⟩ := hp
  refine ⟨[(rtOf d).D], rt_imp ht ?_⟩
  clear ht
  generalize rtOf d = t at *
  have G := gridN_in (t := t)
  have M : manyS t.xl t.xh t.size * manyS t.yl t.yh t.size = gridN t := by delta gridN; rfl
  have L := areaB_true t.xl t.xh t.yl t.yh
  generalize hS : checkR t = c at *
  repeat' (first | ((with_reducible refine kok ?_); kernel_rfl) | ((with_reducible refine keq_mk ?_); kernel_rfl) | with_reducible rfl | ((conv => whnf); first | (with_reducible exact trivial) | ((with_reducible refine and_ff ?_ ?_); · exact rfl) | ((with_reducible refine and_tt ?_ ?_); · exact rfl) | (with_reducible refine And.intro ?_ ?_) | intro _ | (with_reducible refine fin2 hk ?_) | ((with_reducible refine eq_leaf ?_); exact rfl) | exact trivial))
  all_goals try ((first | with_reducible refine (?_ : (_ : Int) ≤ _) | with_reducible refine (?_ : (_ : Int) < _)); clear hk hS; simp only [rtOf_agg, taskOf_agg, ↓Bool.not_eq_true', ↓Bool.not_eq_false', ↓decT, ↓decF, out_true, out_false, isin_true, isin_false, Int.toNat_natCast, Int.ofNat_lt, Nat.zero_add, Nat.add_zero, Nat.reduceAdd, M] at *; have A : areaB t.xl t.xh t.yl t.yh = true := (by assumption); have g := G ⟨A, by omega⟩; rw [L] at A; omega)
  all_goals try ((with_reducible refine (?_ : (_ : Int) = _)); clear hk; rw [← hS]; simp only [rtOf_agg, taskOf_agg, ↓Bool.not_eq_true', ↓Bool.not_eq_false', ↓decT, ↓decF, out_true, out_false, isin_true, isin_false, Int.toNat_natCast, Int.ofNat_lt, Nat.zero_add, Nat.add_zero, Nat.reduceAdd, M] at *; first
    | (rw [chk_grid (fun q => by omega)] <;> rfl)
    | (rw [chk_grid (fun q => absurd q.1 (by rw [show areaB t.xl t.xh t.yl t.yh = false by assumption]; decide))] <;> rfl)
    | (rw [chk_many ⟨by assumption, by omega⟩ (by assumption)] <;> rfl)
    | (rw [chk_nf ⟨by assumption, by omega⟩ (by assumption) (by omega)] <;> rfl))
  rename_i q1 q2 q3 q4
  simp only [rtOf_agg, taskOf_agg, ↓Bool.not_eq_true', ↓Bool.not_eq_false', ↓decT, ↓decF, out_true, out_false, isin_true, isin_false, Int.toNat_natCast, Int.ofNat_lt, Nat.zero_add, Nat.add_zero, Nat.reduceAdd, M] at q1 q2 q3 q4
  have hnf : t.nf ≤ 6 := by omega
  have hS' := (chk_2 ⟨q1, q2⟩ q3 (by omega)).symm.trans hS
  clear hS
  conv => whnf
  refine ⟨Nat, fun k => [(1, .ptr 0 0), (39, .rsl 5 t.nf (imD t.fx)), (40, .int .i64 t.nf), (41, .int .i64 k)], fun k => [some (.row t.cells)],
    fun k => t.nf - k, fun k => k ≤ t.nf ∧ c = pickE 2 (fe (fixErr t) k (t.nf - k)) (chk3R t), [], 0, fun _ => ⟨rfl, rfl⟩, ?_, fun k hI => ?_⟩
  · repeat' (first | ((with_reducible refine kok ?_); kernel_rfl) | ((with_reducible refine keq_mk ?_); kernel_rfl) | with_reducible rfl | ((conv => whnf); first | (with_reducible exact trivial) | ((with_reducible refine and_ff ?_ ?_); · exact rfl) | ((with_reducible refine and_tt ?_ ?_); · exact rfl) | (with_reducible refine And.intro ?_ ?_) | intro _ | (with_reducible refine fin2 hk ?_) | ((with_reducible refine eq_leaf ?_); exact rfl) | exact trivial))
    · exact Nat.zero_le _
    · exact hS'.symm
  clear hS'
  obtain ⟨hi, hc⟩ := hI
  have hi : k ≤ t.nf := hi
  have hc : c = pickE 2 (fe (fixErr t) k (t.nf - k)) (chk3R t) := hc
  repeat' (first | ((with_reducible refine kok ?_); kernel_rfl) | ((with_reducible refine keq_mk ?_); kernel_rfl) | with_reducible rfl | ((conv => whnf); first | (with_reducible exact trivial) | ((with_reducible refine and_ff ?_ ?_); · exact rfl) | ((with_reducible refine and_tt ?_ ?_); · exact rfl) | (with_reducible refine And.intro ?_ ?_) | intro _ | (with_reducible refine fin2 hk ?_) | ((with_reducible refine eq_leaf ?_); exact rfl) | exact trivial))
  all_goals try ((first | with_reducible refine (?_ : (_ : Int) ≤ _) | with_reducible refine (?_ : (_ : Int) < _)); clear hk; simp only [rtOf_agg, taskOf_agg, ↓Bool.not_eq_true', ↓Bool.not_eq_false', ↓decT, ↓decF, out_true, out_false, isin_true, isin_false, Int.toNat_natCast, Int.ofNat_lt, Nat.zero_add, Nat.add_zero, Nat.reduceAdd] at *; omega)
  all_goals try ((with_reducible refine (?_ : (_ : Int) = _)); clear hk; simp only [rtOf_agg, taskOf_agg, ↓Bool.not_eq_true', ↓Bool.not_eq_false', ↓decT, ↓decF, out_true, out_false, isin_true, isin_false, Int.toNat_natCast, Int.ofNat_lt, Nat.zero_add, Nat.add_zero, Nat.reduceAdd, areaB_true, areaB_false] at *; first
    | (have e : fixErr t k = 7 := (by unfold fixErr; rw [fixE_iff, fixB_true]; omega); rw [hc, pick_bad (by omega) (by rw [e]; decide)] <;> first | rfl | exact e.symm)
    | (have e : fixErr t k = 2 := (by unfold fixErr; rw [fixE_iff, fixB_true]; omega); rw [hc, pick_bad (by omega) (by rw [e]; decide)] <;> first | rfl | exact e.symm)
    | (rw [hc, pick_end (by omega), chk_no (by omega)] <;> rfl))
  · have e : k < t.nf ∧ fixErr t k = 0 := (by clear hk; simp only [rtOf_agg, taskOf_agg, ↓Bool.not_eq_true', ↓Bool.not_eq_false', ↓decT, ↓decF, out_true, out_false, isin_true, isin_false, Int.toNat_natCast, Int.ofNat_lt, Nat.zero_add, Nat.add_zero, Nat.reduceAdd, areaB_true, areaB_false] at *; refine ⟨by omega, ?_⟩; unfold fixErr; rw [fixE_iff, fixB_true]; omega)
    have hb := hc.trans (pick_next e.1 e.2)
    conv => whnf
    clear hc hk
    refine ⟨k + 1, ?_⟩
    repeat' (first | ((with_reducible refine kok ?_); kernel_rfl) | ((with_reducible refine keq_mk ?_); kernel_rfl) | with_reducible rfl | ((conv => whnf); first | (with_reducible exact trivial) | ((with_reducible refine and_ff ?_ ?_); · exact rfl) | ((with_reducible refine and_tt ?_ ?_); · exact rfl) | (with_reducible refine And.intro ?_ ?_) | intro _ | (with_reducible refine fin2 hk ?_) | ((with_reducible refine eq_leaf ?_); exact rfl) | exact trivial))
    · exact e.1
    · exact hb
    · simp only; omega
  · have e : k < t.nf ∧ fixErr t k = 0 := (by clear hk; simp only [rtOf_agg, taskOf_agg, ↓Bool.not_eq_true', ↓Bool.not_eq_false', ↓decT, ↓decF, out_true, out_false, isin_true, isin_false, Int.toNat_natCast, Int.ofNat_lt, Nat.zero_add, Nat.add_zero, Nat.reduceAdd, areaB_true, areaB_false] at *; refine ⟨by omega, ?_⟩; unfold fixErr; rw [fixE_iff, fixB_true]; omega)
    have hb := hc.trans (pick_next e.1 e.2)
    conv => whnf
    clear hc hk
    refine ⟨k + 1, ?_⟩
    repeat' (first | ((with_reducible refine kok ?_); kernel_rfl) | ((with_reducible refine keq_mk ?_); kernel_rfl) | with_reducible rfl | ((conv => whnf); first | (with_reducible exact trivial) | ((with_reducible refine and_ff ?_ ?_); · exact rfl) | ((with_reducible refine and_tt ?_ ?_); · exact rfl) | (with_reducible refine And.intro ?_ ?_) | intro _ | (with_reducible refine fin2 hk ?_) | ((with_reducible refine eq_leaf ?_); exact rfl) | exact trivial))
    · exact e.1
    · exact hb
    · simp only; omega
  rename_i g1 g2
  simp only [rtOf_agg, taskOf_agg, ↓Bool.not_eq_true', ↓Bool.not_eq_false', ↓decT, ↓decF, out_true, out_false, isin_true, isin_false, Int.toNat_natCast, Int.ofNat_lt, Nat.zero_add, Nat.add_zero, Nat.reduceAdd] at g1 g2
  have hno : t.no ≤ 6 := by omega
  have hc' := (hc.trans (pick_end (by omega))).trans (chk_3 (by omega))
  clear hc hi
  conv => whnf
  refine ⟨Nat, fun k => [(1, .ptr 0 0), (86, .rsl 6 t.no (smD t.nm t.oa)), (87, .int .i64 t.no), (88, .int .i64 k)], fun k => [some (.row t.cells)],
    fun k => t.no - k, fun k => k ≤ t.no ∧ c = pickE 3 (fe (ownE t) k (t.no - k)) (chk4R t), [], 0, fun _ => ⟨rfl, rfl⟩, ?_, fun k hI => ?_⟩
  · repeat' (first | ((with_reducible refine kok ?_); kernel_rfl) | ((with_reducible refine keq_mk ?_); kernel_rfl) | with_reducible rfl | ((conv => whnf); first | (with_reducible exact trivial) | ((with_reducible refine and_ff ?_ ?_); · exact rfl) | ((with_reducible refine and_tt ?_ ?_); · exact rfl) | (with_reducible refine And.intro ?_ ?_) | intro _ | (with_reducible refine fin2 hk ?_) | ((with_reducible refine eq_leaf ?_); exact rfl) | exact trivial))
    · exact Nat.zero_le _
    · exact hc'
  clear hc'
  obtain ⟨hi, hc⟩ := hI
  have hi : k ≤ t.no := hi
  have hc : c = pickE 3 (fe (ownE t) k (t.no - k)) (chk4R t) := hc
  have hfk : k < t.no → (t.nm k).size ≤ 9223372036854775807 := hf k
  repeat' (first | ((with_reducible refine kok ?_); kernel_rfl) | ((with_reducible refine keq_mk ?_); kernel_rfl) | with_reducible rfl | ((conv => whnf); first | (with_reducible exact trivial) | ((with_reducible refine and_ff ?_ ?_); · exact rfl) | ((with_reducible refine and_tt ?_ ?_); · exact rfl) | (with_reducible refine And.intro ?_ ?_) | intro _ | (with_reducible refine fin2 hk ?_) | ((with_reducible refine eq_leaf ?_); exact rfl) | exact trivial))
  all_goals try ((with_reducible refine (?_ : (_ : V.D) = _)); first | rfl | (simp only [Int.toNat_zero, Nat.zero_add]; rfl))
  all_goals try exact hf _ (by assumption)
  all_goals try ((first | with_reducible refine (?_ : (_ : Int) ≤ _) | with_reducible refine (?_ : (_ : Int) < _) | with_reducible refine (?_ : (_ : Nat) ≤ _)); clear hk; simp only [rtOf_agg, taskOf_agg, ↓Bool.not_eq_true', ↓Bool.not_eq_false', ↓decT, ↓decF, out_true, out_false, isin_true, isin_false, Int.toNat_natCast, Int.ofNat_lt, Nat.zero_add, Nat.add_zero, Nat.reduceAdd, Int.toNat_zero, Nat.sub_zero, List.getD_cons_zero, hide_str, toS_str, nmOf_smD, ownIs_same] at *; omega)
  all_goals try ((with_reducible refine (?_ : (_ : Int) = _)); clear hk; simp only [rtOf_agg, taskOf_agg, ↓Bool.not_eq_true', ↓Bool.not_eq_false', ↓decT, ↓decF, out_true, out_false, isin_true, isin_false, Int.toNat_natCast, Int.ofNat_lt, Nat.zero_add, Nat.add_zero, Nat.reduceAdd, Int.toNat_zero, Nat.sub_zero, List.getD_cons_zero, hide_str, toS_str, nmOf_smD, ownIs_same] at *; first
    | (have e := own_6 (t := t) (i := k) (by assumption); rw [hc, pick_bad (by assumption) (by rw [e]; decide)] <;> first | rfl | exact e.symm)
    | (have e := own_5 (t := t) (i := k) (by assumption) (by assumption); rw [hc, pick_bad (by assumption) (by rw [e]; decide)] <;> first | rfl | exact e.symm)
    | (have e := own_7 (t := t) (i := k) (by assumption) (by assumption) (fun q => by omega); rw [hc, pick_bad (by assumption) (by rw [e]; decide)] <;> first | rfl | exact e.symm)
    | (have e := own_7 (t := t) (i := k) (by assumption) (by assumption) (fun q => absurd q.1 (by rw [show areaB (t.oa k 0) (t.oa k 1) (t.oa k 2) (t.oa k 3) = false by assumption]; decide)); rw [hc, pick_bad (by assumption) (by rw [e]; decide)] <;> first | rfl | exact e.symm)
    | (simp only [areaB_true, areaB_false] at *; rw [hc, pick_end (by omega), chk_base (by omega)] <;> rfl)
    | (simp only [areaB_true, areaB_false] at *; rw [hc, pick_end (by omega), chk_all (by omega)] <;> rfl))
  · have e : k < t.no ∧ ownE t k = 0 := (by clear hk; simp only [rtOf_agg, taskOf_agg, ↓Bool.not_eq_true', ↓Bool.not_eq_false', ↓decT, ↓decF, out_true, out_false, isin_true, isin_false, Int.toNat_natCast, Int.ofNat_lt, Nat.zero_add, Nat.add_zero, Nat.reduceAdd, Int.toNat_zero, Nat.sub_zero, List.getD_cons_zero, hide_str, toS_str, nmOf_smD, ownIs_same] at *; exact ⟨by assumption, own_0 (by assumption) (by assumption) ⟨by assumption, by omega⟩⟩)
    have hb := hc.trans (pick_next e.1 e.2)
    conv => whnf
    clear hc hk
    refine ⟨k + 1, ?_⟩
    repeat' (first | ((with_reducible refine kok ?_); kernel_rfl) | ((with_reducible refine keq_mk ?_); kernel_rfl) | with_reducible rfl | ((conv => whnf); first | (with_reducible exact trivial) | ((with_reducible refine and_ff ?_ ?_); · exact rfl) | ((with_reducible refine and_tt ?_ ?_); · exact rfl) | (with_reducible refine And.intro ?_ ?_) | intro _ | (with_reducible refine fin2 hk ?_) | ((with_reducible refine eq_leaf ?_); exact rfl) | exact trivial))
    · exact e.1
    · exact hb
    · simp only; omega
end Go.Proofs.YtphcblofacfkaaaGreat
end
section
namespace Go.Proofs.YtphcblofacfkaaaGreat
open Go.V
def fwd (a b c d x y : Int) : Int := c * (x - a) + d * (y - b)
def asd (a b c d x y : Int) : Int := c * (y - b) - d * (x - a)
def brgB (a b c d e x y k : Int) : Bool := if k = 0 then decide (0 ≤ fwd a b c d x y) else if k = 1 then decide (1000 * asd a b c d x y ≤ e * fwd a b c d x y) else decide (0 - 1000 * asd a b c d x y ≤ e * fwd a b c d x y)
def spot (x : Int) : Prop := -100000000 ≤ x ∧ x ≤ 100000000
theorem bear_in {a b c d e x y : Int} (h : fixB a b c d e = true) (hx : spot x) (hy : spot y) :
    (-200000000000 ≤ c * (x - a) ∧ c * (x - a) ≤ 200000000000) ∧ (-200000000000 ≤ d * (y - b) ∧ d * (y - b) ≤ 200000000000) ∧ (-200000000000 ≤ c * (y - b) ∧ c * (y - b) ≤ 200000000000) ∧ (-200000000000 ≤ d * (x - a) ∧ d * (x - a) ≤ 200000000000) ∧
    (-800000000000000 ≤ e * fwd a b c d x y ∧ e * fwd a b c d x y ≤ 800000000000000) := by
  rw [fixB_true] at h
  unfold spot at hx hy
  have M : ∀ {p q : Int}, -1000 ≤ p ∧ p ≤ 1000 → -200000000 ≤ q ∧ q ≤ 200000000 → -200000000000 ≤ p * q ∧ p * q ≤ 200000000000 := fun {p q} hp hq => by
    rcases Int.le_total 0 q with g | g
    · have := mul_in (x := p) (y := q) (A := 1000) (B := 200000000) hp ⟨g, hq.2⟩ (by decide)
      omega
    · have := mul_in (x := p) (y := 0 - q) (A := 1000) (B := 200000000) hp ⟨by omega, by omega⟩ (by decide)
      rw [Int.mul_sub, Int.mul_zero] at this
      omega
  have h1 := M (p := c) (q := x - a) (by omega) (by omega)
  have h2 := M (p := d) (q := y - b) (by omega) (by omega)
  refine ⟨h1, h2, M (by omega) (by omega), M (by omega) (by omega), ?_⟩
  have h3 : -400000000000 ≤ fwd a b c d x y ∧ fwd a b c d x y ≤ 400000000000 := by unfold fwd; omega
  have := mul_in (x := fwd a b c d x y) (y := e) (A := 400000000000) (B := 2000) (by omega) (by omega) (by decide)
  rw [Int.mul_comm e]
  omega
attribute [local irreducible] fixB
def someB (a b c d e xl xh yl yh k : Int) : Bool := brgB a b c d e xl yl k || brgB a b c d e xh yl k || brgB a b c d e xl yh k || brgB a b c d e xh yh k
def ruledB (a b c d e xl xh yl yh : Int) : Bool := !(someB a b c d e xl xh yl yh 0 && someB a b c d e xl xh yl yh 1 && someB a b c d e xl xh yl yh 2)
def rRuled : List D → Option (Prop × D) := fun ds => match ds with
  | [.agg [.int .i64 a, .int .i64 b, .int .i64 c, .int .i64 d, .int .i64 e], .agg [.int .i64 xl, .int .i64 xh, .int .i64 yl, .int .i64 yh]] => some (fixB a b c d e = true ∧ (spot xl ∧ spot xh) ∧ spot yl ∧ spot yh, .bool (ruledB a b c d e xl xh yl yh))
  | _ => none
noncomputable def lr11 : Lib := (57, mk rCheckR) :: lr10
theorem lr11_ok : LibOK Go.Proofs.Tryz.prog lr11 := .cons rCheck_ok lr10_ok
attribute [local irreducible] brgB checkR
theorem ruled_true {a b c d e xl xh yl yh : Int} {k : Nat} (hk : k < 3) (h : ¬ someB a b c d e xl xh yl yh k = true) : ruledB a b c d e xl xh yl yh = true := by
  have hk' : k = 0 ∨ k = 1 ∨ k = 2 := by omega
  unfold ruledB
  rcases hk' with rfl | rfl | rfl
  · simp [show someB a b c d e xl xh yl yh 0 = false by simpa using h]
  · simp [show someB a b c d e xl xh yl yh 1 = false by simpa using h]
  · simp [show someB a b c d e xl xh yl yh 2 = false by simpa using h]
theorem ruled_false {a b c d e xl xh yl yh : Int} (h : ∀ j : Nat, j < 3 → someB a b c d e xl xh yl yh j = true) : ruledB a b c d e xl xh yl yh = false := by
  have h0 := h 0 (by omega)
  have h1 := h 1 (by omega)
  have h2 := h 2 (by omega)
  simp only [Int.natCast_zero, Int.natCast_one, show ((2 : Nat) : Int) = 2 from rfl] at h0 h1 h2
  simp [ruledB, h0, h1, h2]
end Go.Proofs.YtphcblofacfkaaaGreat
end
