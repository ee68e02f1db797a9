/-
  The law RecoverMore is proved: with a further fix there is no further cell, and with more fuel no cell is left that was not, for any task, fix and fuel. No condition.
-/
import Derived.Test.YtcnecjkcmjgakaaMt
import Derived.Test.YtcnecjkcmjgakaaMf
import Derived.Test.YtcnecjkcmjgakaaMs
section
set_option linter.unusedVariables false
set_option linter.unusedSimpArgs false
namespace Go.Proofs.Ytcnecjkcmjgakaa
open Go.V
theorem leftTo_sub {d d' : Nat → Bool} : ∀ {n}, (∀ i, i < n → d i = true → d' i = true) → (leftTo d' n).Sublist (leftTo d n)
  | 0, _ => List.Sublist.refl _
  | n + 1, h => by
    have ih := leftTo_sub (n := n) fun i hi => h i (by omega)
    cases e : d n with
    | true => rw [left_done e, left_done (h n (by omega) e)]; exact ih
    | false =>
      rw [left_more e]
      cases e' : d' n with
      | true => rw [left_done e']; exact ih.trans (List.sublist_append_left _ _)
      | false => rw [left_more e']; exact List.Sublist.append ih (List.Sublist.refl _)
theorem cellsTo_sub {t u : RTask} : ∀ {n}, (∀ g, goneB t g = true → goneB u g = true) → (cellsTo u n).Sublist (cellsTo t n)
  | 0, _ => List.Sublist.refl _
  | n + 1, h => by
    have ih := cellsTo_sub (n := n) h
    unfold cellsTo
    by_cases e : goneB t n = true
    · rw [if_pos e, if_pos (h n e)]; exact ih
    · rw [if_neg e]
      by_cases e' : goneB u n = true
      · rw [if_pos e']; exact ih.trans (List.sublist_append_left _ _)
      · rw [if_neg e']; exact List.Sublist.append ih (List.Sublist.refl _)
/-- A step of the search for a list's next in another. -/
theorem sub_skip {α : Type} {a b : α} {l m : List α} (h : (a :: l).Sublist (b :: m)) (hn : a ≠ b) : (a :: l).Sublist m := by
  cases h with
  | cons _ h => exact h
  | cons_cons _ h => exact absurd rfl hn
theorem sub_take {α : Type} {a b : α} {l m : List α} (h : (a :: l).Sublist (b :: m)) : l.Sublist m := by
  cases h with
  | cons _ h => exact (List.sublist_cons_self a l).trans h
  | cons_cons _ h => exact h
theorem drop_cons {l : List Nat} {i : Nat} (h : i < l.length) : l.drop i = l.getD i 0 :: l.drop (i + 1) := by
  rw [List.drop_eq_getElem_cons h, List.getD_eq_getElem?_getD, List.getElem?_eq_getElem h, Option.getD_some]
/-- How far the search is. -/
def SubAt (m l : List Nat) (i k : Nat) : Prop := (m.drop i).Sublist (l.drop k)
theorem subAt_lt {m l : List Nat} {i k : Nat} (h : SubAt m l i k) (hi : i < m.length) : k < l.length := by
  unfold SubAt at h
  have := h.length_le
  rw [List.length_drop, List.length_drop] at this
  omega
theorem subAt_skip {m l : List Nat} {i k : Nat} (h : SubAt m l i k) (hi : i < m.length) (hn : m.getD i 0 ≠ l.getD k 0) : SubAt m l i (k + 1) := by
  have hk := subAt_lt h hi
  unfold SubAt at *
  rw [drop_cons hi, drop_cons hk] at h
  rw [drop_cons hi]
  exact sub_skip h hn
theorem subAt_take {m l : List Nat} {i k : Nat} (h : SubAt m l i k) (hi : i < m.length) : SubAt m l (i + 1) (k + 1) := by
  have hk := subAt_lt h hi
  unfold SubAt at *
  rw [drop_cons hi, drop_cons hk] at h
  exact sub_take h
/-- A task with a further fix. -/
def fixA (t : RTask) (x : Nat → Int) : RTask := { t with nf := t.nf + 1, fx := fun i j => if i < t.nf then t.fx i j else x j }
theorem fixA_sub (t : RTask) (x : Nat → Int) : SubAt (cellsL (fixA t x)) (cellsL t) 0 0 := by
  refine cellsTo_sub (t := t) (u := fixA t x) fun g h => ?_
  unfold goneB at *
  rw [anyBelow_iff] at h ⊢
  obtain ⟨i, hi, e⟩ := h
  refine ⟨i, Nat.lt_succ_of_lt hi, ?_⟩
  have e4 : ∀ j, (fixA t x).fx i j = t.fx i j := fun j => if_pos hi
  have e5 : outB (fixA t x).fx (cxl t g) (cxh t g) (cyl t g) (cyh t g) i = outB t.fx (cxl t g) (cxh t g) (cyl t g) (cyh t g) i := by
    unfold outB
    simp only [e4]
  exact e5.trans e
/-- A task with other fuel. -/
def fuelA (t : RTask) (n : Int) : RTask := { t with fuel := n }
theorem fuelA_to (t : RTask) (n : Int) : ∀ m, cellsTo (fuelA t n) m = cellsTo t m
  | 0 => rfl
  | m + 1 => by
    unfold cellsTo
    rw [fuelA_to t n m, show goneB (fuelA t n) m = goneB t m from rfl]
theorem fuelA_cells (t : RTask) (n : Int) : cellsL (fuelA t n) = cellsL t := by
  unfold cellsL
  rw [fuelA_to, show wideN (fuelA t n) = wideN t from rfl, show tallN (fuelA t n) = tallN t from rfl]
theorem fuelA_M (t : RTask) (n : Int) : cellsM (fuelA t n) = cellsM t := congrArg List.length (fuelA_cells t n)
theorem fuelA_op (t : RTask) (n c : Int) : opC (fuelA t n) c = opC t c := by
  have e : cellG (fuelA t n) c = cellG t c := by unfold cellG; rw [fuelA_cells]
  unfold opC
  rw [e]; rfl
theorem fuelA_fl (t : RTask) (n a b : Int) : flC (fuelA t n) a b = flC t a b := by
  have e : ∀ c, cellG (fuelA t n) c = cellG t c := fun c => by unfold cellG; rw [fuelA_cells]
  have ex : ∀ c, spX (fuelA t n) c = spX t c := fun c => by unfold spX; rw [e]; rfl
  have ey : ∀ c, spY (fuelA t n) c = spY t c := fun c => by unfold spY; rw [e]; rfl
  unfold flC
  rw [ex, ey, ex, ey]; rfl
theorem fuelA_near {t : RTask} {n : Int} (h : t.fuel ≤ n) {i : Int} (hn : near t i) : near (fuelA t n) i := by
  unfold near at *
  rw [fuelA_op, fuelA_fl]
  exact ⟨hn.1, Int.le_trans hn.2 h⟩
theorem fuelA_sub {t : RTask} {n : Int} (h1 : RtOK t) (h2 : RtOK (fuelA t n)) (h : t.fuel ≤ n) : SubAt (leftsL (fuelA t n)) (leftsL t) 0 0 := by
  have hM := fuelA_M t n
  show (leftTo (endS (fuelA t n)).done (cellsM (fuelA t n))).Sublist (leftTo (endS t).done (cellsM t))
  rw [hM]
  refine leftTo_sub fun i hi hd => ?_
  rw [done_near h1 hi] at hd
  rw [done_near h2 (by rw [hM]; exact hi)]
  exact decide_eq_true (fuelA_near h (of_decide_eq_true hd))
end Go.Proofs.Ytcnecjkcmjgakaa
end
section
set_option linter.unusedVariables false
set_option linter.unusedSimpArgs false
namespace Go.Proofs.Ytcnecjkcmjgakaa
open Go.V
theorem fix_sub {t : RTask} {n : Nat} {f : Nat → Nat → Int} (hn : t.nf ≤ n) (hf : ∀ i j, i < t.nf → f i j = t.fx i j) : SubAt (cellsL { t with nf := n, fx := f }) (cellsL t) 0 0 := by
  refine cellsTo_sub (t := t) (u := { t with nf := n, fx := f }) fun g h => ?_
  unfold goneB at *
  rw [anyBelow_iff] at h ⊢
  obtain ⟨i, hi, e⟩ := h
  refine ⟨i, Nat.lt_of_lt_of_le hi hn, ?_⟩
  have e5 : outB f (cxl t g) (cxh t g) (cyl t g) (cyh t g) i = outB t.fx (cxl t g) (cxh t g) (cyl t g) (cyh t g) i := by
    unfold outB
    rw [hf i 0 hi, hf i 1 hi, hf i 2 hi, hf i 3 hi, hf i 4 hi]
  exact e5.trans e
theorem fix_cell {t : RTask} {n : Nat} {f : Nat → Nat → Int} (l : List Nat) (i j : Nat) : cellM { t with nf := n, fx := f } l i j = cellM t l i j := rfl
theorem fuelA_check {t : RTask} {n : Int} (h : (checkR t).2.2 = 0) (h1 : 1 ≤ n ∧ n ≤ 100000) : (checkR (fuelA t n)).2.2 = 0 := by
  have hok := rt_ok h
  have hb : baseB t = true := by rw [baseB_true]; exact ⟨hok.bx, hok.bz, hok.start, hok.speed, hok.fuel, hok.look, hok.turn⟩
  have hb' : baseB (fuelA t n) = true := by rw [baseB_true]; exact ⟨hok.bx, hok.bz, hok.start, hok.speed, h1, hok.look, hok.turn⟩
  have e4 : chk4R (fuelA t n) = chk4R t := by unfold chk4R; rw [hb, hb']
  have e : checkR (fuelA t n) = checkR t := by
    unfold checkR chk2R chk3R
    rw [e4]
    rfl
  rw [e]; exact h
end Go.Proofs.Ytcnecjkcmjgakaa
end
section
set_option linter.unusedVariables false
set_option linter.unusedSimpArgs false
set_option maxRecDepth 100000
set_option maxHeartbeats 4000000
namespace Go.Proofs.Ytcnecjkcmjgakaa
open Go.V
def rLMore : List V.D → Option (Prop × V.D) := fun ds => match ds with
  | [d, .agg [.int .i64 a, .int .i64 b, .int .i64 c, .int .i64 e, .int .i64 f, .int .u16 g]] => some ((RtIs d ∧ (rtOf d).fits) ∧ 0 ≤ g ∧ g ≤ 65535, .tt)
  | _ => none
theorem lefts60 {t : RTask} (h : RtOK t) : (leftsL t).length ≤ 60 := Nat.le_trans (leftTo_len (endS t).done (cellsM t)) (cellsL_len h)
attribute [local irreducible] checkR cellsN cellM cellsL leftsN leftsL leftM visitsN
/-- Fixes, and one more. -/
def addG (n : Nat) (fx : Nat → Nat → Int) (l : List V.D) (i j : Nat) : V.D := if i < 0 + n then (fun i j => if i < 0 then (fun i j => ([] : List V.D).getD (i * 5 + j) V.D.top) i j else imD fx (i - 0) j) i j else (fun i j => l.getD (i * 5 + j) V.D.top) (i - (0 + n)) j
theorem addG_lt {n : Nat} {fx : Nat → Nat → Int} {l : List V.D} {i : Nat} (h : i < n) (j : Nat) : addG n fx l i j = .int .i64 (fx i j) := by
  unfold addG
  rw [if_pos (by omega)]
  rfl
theorem addG_last {n : Nat} {fx : Nat → Nat → Int} {l : List V.D} {i : Nat} (h : i = n) (j : Nat) : addG n fx l i j = l.getD j .top := by
  unfold addG
  rw [if_neg (by omega), show i - (0 + n) = 0 by omega]
  show l.getD (0 * 5 + j) V.D.top = _
  rw [Nat.zero_mul, Nat.zero_add]
theorem addG_im (n : Nat) (fx : Nat → Nat → Int) (a b c e f : Int) : IM (0 + n + 1) 5 (addG n fx [.int .i64 a, .int .i64 b, .int .i64 c, .int .i64 e, .int .i64 f]) := by
  intro i j hi hj
  show _ = V.D.int .i64 (toI (addG n fx [.int .i64 a, .int .i64 b, .int .i64 c, .int .i64 e, .int .i64 f] i j))
  by_cases q : i < n
  · rw [addG_lt q]; rfl
  · rw [addG_last (by omega)]
    match j, hj with
    | 0, _ | 1, _ | 2, _ | 3, _ | 4, _ => rfl
noncomputable def Lmore : Libs := ⟨lr42, [(27, lockC (mk rCells))], [], []⟩
theorem Lmore_ok : LibsOK Go.Proofs.Try.prog Lmore := ⟨lr42_ok, asGet_cons (csound_lock rCells_ok) (fun _ _ h => by cases h), (fun _ _ h => by cases h), fun _ _ h => by cases h⟩
theorem lawMore_ok : PSound Go.Proofs.Try.prog 8 (mk rLMore) := by
  refine psound_mk Try.func8 (by kernel_rfl) rfl (ctxA Lmore_ok) ?_
  (intro ds p d h; unfold rLMore at h; split at h <;> first | (cases h; done) | skip; cases h; refine ⟨Nat.le_of_ble_eq_true rfl, fun hp k hk => ?_⟩)
  rename_i d a b c e f g
  obtain ⟨⟨ht, hf⟩, hg⟩ := hp
  refine ⟨[(rtOf d).D, .agg [.int .i64 a, .int .i64 b, .int .i64 c, .int .i64 e, .int .i64 f, .int .u16 g]], rt_imp ht ⟨rfl, rfl, rfl, rfl, rfl, rfl, ?_⟩⟩
  clear ht
  generalize rtOf d = t at *
  repeat' (first | ((with_reducible refine kok ?_); kernel_rfl) | ((with_reducible refine keq_mk ?_); kernel_rfl) | with_reducible rfl | ((conv => whnf); first | (with_reducible exact trivial) | ((with_reducible refine and_ff ?_ ?_); · exact rfl) | ((with_reducible refine and_tt ?_ ?_); · exact rfl) | (with_reducible refine And.intro ?_ ?_) | intro _ | (with_reducible refine fin2 hk ?_) | ((with_reducible refine eq_leaf ?_); exact rfl) | exact trivial))
  all_goals try exact hf _ (by assumption)
  · rename_i g1 g2
    exact absurd rfl (of_decide_eq_false g2)
  · rename_i g1 g2 g3
    exact absurd rfl (of_decide_eq_false g3)
  · rename_i g1 g2
    clear hk
    simp only [rtOf_agg, taskOf_agg, ↓Bool.not_eq_true', ↓Bool.not_eq_false', ↓decT, ↓decF, out_true, out_false, isin_true, isin_false, Int.toNat_natCast, Int.ofNat_lt, Nat.zero_add, Nat.add_zero, Nat.reduceAdd, Decidable.not_not] at g1
    have := (rt_ok g1).nf
    omega
  · rename_i g1 g2
    clear hk
    simp only [rtOf_agg, taskOf_agg, ↓Bool.not_eq_true', ↓Bool.not_eq_false', ↓decT, ↓decF, out_true, out_false, isin_true, isin_false, Int.toNat_natCast, Int.ofNat_lt, Nat.zero_add, Nat.add_zero, Nat.reduceAdd, Decidable.not_not] at g1
    have := (rt_ok g1).nf
    omega
  · rename_i g1 g2 i j hi hj
    clear hk
    exact addG_im t.nf t.fx a b c e f i j hi hj
  rename_i g1 g2
  simp only [rtOf_agg, taskOf_agg, ↓Bool.not_eq_true', ↓Bool.not_eq_false', ↓decT, ↓decF, out_true, out_false, isin_true, isin_false, Int.toNat_natCast, Int.ofNat_lt, Nat.zero_add, Nat.add_zero, Nat.reduceAdd, Decidable.not_not] at g1
  clear g2
  have hok := rt_ok g1
  generalize hu : rtOf (V.D.agg [V.D.int .i64 t.xl, V.D.int .i64 t.xh, V.D.int .i64 t.yl, V.D.int .i64 t.yh, V.D.int .i64 t.size, V.D.rsl 5 (0 + t.nf + 1) _, V.D.rsl 6 t.no (smD t.nm t.oa), V.D.int .i64 t.bx, V.D.int .i64 t.bz, V.D.int .i64 t.start, V.D.int .i64 t.speed, V.D.int .i64 t.fuel, V.D.int .i64 t.look, V.D.int .i64 t.turn]) = u
  have hS : SubAt (cellsL u) (cellsL t) 0 0 := by
    rw [← hu]
    exact fix_sub (n := 0 + t.nf + 1) (by omega) fun i j hi => congrArg toI (addG_lt hi j)
  have hC : ∀ l i j, cellM u l i j = cellM t l i j := fun l i j => by
    rw [← hu]
    exact fix_cell (n := 0 + t.nf + 1) l i j
  clear hu
  repeat' (first | ((with_reducible refine kok ?_); kernel_rfl) | ((with_reducible refine keq_mk ?_); kernel_rfl) | with_reducible rfl | ((conv => whnf); first | (with_reducible exact trivial) | ((with_reducible refine and_ff ?_ ?_); · exact rfl) | ((with_reducible refine and_tt ?_ ?_); · exact rfl) | (with_reducible refine And.intro ?_ ?_) | intro _ | (with_reducible refine fin2 hk ?_) | ((with_reducible refine eq_leaf ?_); exact rfl) | exact trivial))
  conv => whnf
  have hnt : cellsN t = (cellsL t).length := by delta cellsN; exact if_pos g1
  have hnu : (checkR u).2.2 = 0 → cellsN u = (cellsL u).length := fun h => by delta cellsN; exact if_pos h
  have hnu' : (checkR u).2.2 ≠ 0 → cellsN u = 0 := fun h => by delta cellsN; exact if_neg h
  refine ⟨Nat × Nat, fun p => [(2, .ptr 0 0), (3, .ptr 1 0), (5, .rsl 5 (cellsN t) (imD (cellM t (cellsL t)))), (6, .int .i64 (checkR u).2.2), (7, .ptr 2 0), (9, .ptr 3 0), (10, .rsl 5 (cellsN u) (imD (cellM u (cellsL u)))), (11, .int .i64 p.2), (12, .int .i64 p.1)],
    fun p => [some (.row t.cells), some (.row [.int .i64 a, .int .i64 b, .int .i64 c, .int .i64 e, .int .i64 f, .int .u16 g]), some (.row [.rsl 3 (visitsN t) (imD (visN t)), .rsl 2 (leftsN t) (imD (leftM t (leftsL t)))]), some (.row [.top, .top, .top, .top, .top, .top, .top, .top, .top, .top, .top, .top, .top, .top]), some .dead, none, some (.buf 73 5 1 fun i j => [V.D.int .i64 a, V.D.int .i64 b, V.D.int .i64 c, V.D.int .i64 e, V.D.int .i64 f].getD (i * 5 + j) V.D.top), none, none],
    fun p => cellsN u - p.1, fun p => (p.1 ≤ cellsN u ∧ p.2 ≤ cellsN t) ∧ ((checkR u).2.2 = 0 → SubAt (cellsL u) (cellsL t) p.1 p.2), [], (0, 0), fun _ => ⟨rfl, rfl⟩, ?_, fun p hI => ?_⟩
  · clear hk
    repeat' (first | ((with_reducible refine kok ?_); kernel_rfl) | ((with_reducible refine keq_mk ?_); kernel_rfl) | with_reducible rfl | ((conv => whnf); first | (with_reducible exact trivial) | ((with_reducible refine and_ff ?_ ?_); · exact rfl) | ((with_reducible refine and_tt ?_ ?_); · exact rfl) | (with_reducible refine And.intro ?_ ?_) | intro _ | (with_reducible refine fin2 hk ?_) | ((with_reducible refine eq_leaf ?_); exact rfl) | exact trivial))
    all_goals first
      | exact Nat.zero_le _
      | exact hS
      | skip
  obtain ⟨i, k⟩ := p
  obtain ⟨⟨hi, hkk⟩, hI⟩ := hI
  have hi : i ≤ cellsN u := hi
  have hkk : k ≤ cellsN t := hkk
  have hI : (checkR u).2.2 = 0 → SubAt (cellsL u) (cellsL t) i k := hI
  conv => whnf
  refine ⟨fun g2 => ?_, fun g2 => ?_⟩
  · have hlt : i < cellsN u := by have := of_decide_eq_true g2; exact Int.ofNat_lt.1 this
    have hu0 : (checkR u).2.2 = 0 := Classical.byContradiction fun h => by rw [hnu' h] at hlt; omega
    have hI := hI hu0
    have hlu := hnu hu0
    rw [hu0]
    repeat' (first | ((with_reducible refine kok ?_); kernel_rfl) | ((with_reducible refine keq_mk ?_); kernel_rfl) | with_reducible rfl | ((conv => whnf); first | (with_reducible exact trivial) | ((with_reducible refine and_ff ?_ ?_); · exact rfl) | ((with_reducible refine and_tt ?_ ?_); · exact rfl) | (with_reducible refine And.intro ?_ ?_) | intro _ | (with_reducible refine fin2 hk ?_) | ((with_reducible refine eq_leaf ?_); exact rfl) | exact trivial))
    conv => whnf
    refine ⟨Nat, fun k => [(2, .ptr 0 0), (3, .ptr 1 0), (5, .rsl 5 (cellsN t) (imD (cellM t (cellsL t)))), (6, .int .i64 0), (7, .ptr 2 0), (9, .ptr 3 0), (10, .rsl 5 (cellsN u) (imD (cellM u (cellsL u)))), (11, .int .i64 k), (12, .int .i64 i)],
      fun k => [some (.row t.cells), some (.row [.int .i64 a, .int .i64 b, .int .i64 c, .int .i64 e, .int .i64 f, .int .u16 g]), some (.row [.rsl 3 (visitsN t) (imD (visN t)), .rsl 2 (leftsN t) (imD (leftM t (leftsL t)))]), some (.row [.top, .top, .top, .top, .top, .top, .top, .top, .top, .top, .top, .top, .top, .top]), some .dead, none, some (.buf 73 5 1 fun i j => [V.D.int .i64 a, V.D.int .i64 b, V.D.int .i64 c, V.D.int .i64 e, V.D.int .i64 f].getD (i * 5 + j) V.D.top), none, none],
      fun k => cellsN t - k, fun k => k ≤ cellsN t ∧ SubAt (cellsL u) (cellsL t) i k, [], k, fun _ => ⟨rfl, rfl⟩, ?_, fun k hK => ?_⟩
    · clear hk
      repeat' (first | ((with_reducible refine kok ?_); kernel_rfl) | ((with_reducible refine keq_mk ?_); kernel_rfl) | with_reducible rfl | ((conv => whnf); first | (with_reducible exact trivial) | ((with_reducible refine and_ff ?_ ?_); · exact rfl) | ((with_reducible refine and_tt ?_ ?_); · exact rfl) | (with_reducible refine And.intro ?_ ?_) | intro _ | (with_reducible refine fin2 hk ?_) | ((with_reducible refine eq_leaf ?_); exact rfl) | exact trivial))
      all_goals first
        | exact hkk
        | exact hI
        | skip
    clear hI hkk
    obtain ⟨hkk, hI⟩ := hK
    have hkk : k ≤ cellsN t := hkk
    have hkl := subAt_lt hI (by omega)
    have hkt : k < cellsN t := by omega
    have hM1 := cellsL_len hok
    have hM2 := cellsL_len (rt_ok hu0)
    repeat' (first | ((with_reducible refine kok ?_); kernel_rfl) | ((with_reducible refine keq_mk ?_); kernel_rfl) | with_reducible rfl | ((conv => whnf); first | (with_reducible exact trivial) | ((with_reducible refine and_ff ?_ ?_); · exact rfl) | ((with_reducible refine and_tt ?_ ?_); · exact rfl) | (with_reducible refine And.intro ?_ ?_) | intro _ | (with_reducible refine fin2 hk ?_) | ((with_reducible refine eq_leaf ?_); exact rfl) | exact trivial))
    all_goals try (exfalso; clear hk; simp only [taskOf_agg, ↓Bool.not_eq_true', ↓Bool.not_eq_false', ↓decT, ↓decF, out_true, out_false, isin_true, isin_false, Int.toNat_natCast, Int.ofNat_lt, Nat.zero_add, Nat.add_zero, Nat.reduceAdd] at *; omega)
    all_goals try (clear hk; (first | with_reducible refine (?_ : (_ : Int) ≤ _) | with_reducible refine (?_ : (_ : Int) < _)); simp only [taskOf_agg, ↓Bool.not_eq_true', ↓Bool.not_eq_false', ↓decT, ↓decF, out_true, out_false, isin_true, isin_false, Int.toNat_natCast, Int.ofNat_lt, Nat.zero_add, Nat.add_zero, Nat.reduceAdd] at *; omega)
    · rename_i g3 g4
      have hne : (cellsL u).getD i 0 ≠ (cellsL t).getD k 0 := fun q => by
        have e : ∀ j, cellM t (cellsL t) (k : Int).toNat j = cellM u (cellsL u) (i : Int).toNat j := fun j => by
          rw [hC]
          delta cellM
          simp only [Int.toNat_natCast]
          rw [q]
        simp only [e, decide_true, Bool.and_true, Bool.not_true, Bool.false_eq_true] at g4
      clear hk
      conv => whnf
      refine ⟨k + 1, ?_⟩
      repeat' (first | ((with_reducible refine kok ?_); kernel_rfl) | ((with_reducible refine keq_mk ?_); kernel_rfl) | with_reducible rfl | ((conv => whnf); first | (with_reducible exact trivial) | ((with_reducible refine and_ff ?_ ?_); · exact rfl) | ((with_reducible refine and_tt ?_ ?_); · exact rfl) | (with_reducible refine And.intro ?_ ?_) | intro _ | (with_reducible refine fin2 hk ?_) | ((with_reducible refine eq_leaf ?_); exact rfl) | exact trivial))
      · show k + 1 ≤ _
        omega
      · exact subAt_skip hI (by omega) hne
      · show _ - (k + 1) < _ - k
        omega
    · clear hk
      conv => whnf
      refine ⟨(i + 1, k + 1), ?_⟩
      repeat' (first | ((with_reducible refine kok ?_); kernel_rfl) | ((with_reducible refine keq_mk ?_); kernel_rfl) | with_reducible rfl | ((conv => whnf); first | (with_reducible exact trivial) | ((with_reducible refine and_ff ?_ ?_); · exact rfl) | ((with_reducible refine and_tt ?_ ?_); · exact rfl) | (with_reducible refine And.intro ?_ ?_) | intro _ | (with_reducible refine fin2 hk ?_) | ((with_reducible refine eq_leaf ?_); exact rfl) | exact trivial))
      all_goals first
        | exact hu0.symm
        | exact subAt_take hI (by omega)
        | (show _ + 1 ≤ _; omega)
        | (show _ - (i + 1) < _ - i; omega)
        | skip
  · have hfu := hok.fuel
    have hq : (checkR (fuelA t (min 100000 (t.fuel + g)))).2.2 = 0 := fuelA_check g1 (by omega)
    repeat' (first | ((with_reducible refine kok ?_); kernel_rfl) | ((with_reducible refine keq_mk ?_); kernel_rfl) | with_reducible rfl | ((conv => whnf); first | (with_reducible exact trivial) | ((with_reducible refine and_ff ?_ ?_); · exact rfl) | ((with_reducible refine and_tt ?_ ?_); · exact rfl) | (with_reducible refine And.intro ?_ ?_) | intro _ | (with_reducible refine fin2 hk ?_) | ((with_reducible refine eq_leaf ?_); exact rfl) | exact trivial))
    all_goals try exact hf _ (by assumption)
    all_goals try (clear hk; (first | with_reducible refine (?_ : (_ : Int) ≤ _) | with_reducible refine (?_ : (_ : Int) < _)); omega)
    · exfalso
      rename_i g3
      have g3 : (!decide ((checkR (fuelA t (min 100000 (t.fuel + g)))).2.2 = 0)) = true := g3
      rw [hq] at g3
      cases g3
    have hS2 : SubAt (leftsL (fuelA t (min 100000 (t.fuel + g)))) (leftsL t) 0 0 := fuelA_sub hok (rt_ok hq) (by omega)
    have hop : ∀ x, opC (fuelA t (min 100000 (t.fuel + g))) x = opC t x := fun x => fuelA_op t _ x
    obtain ⟨v, hv⟩ : ∃ v, v = fuelA t (min 100000 (t.fuel + g)) := ⟨_, rfl⟩
    rw [← hv] at hq hS2 hop
    have hvl : leftsN v = (leftsL v).length := by delta leftsN; exact if_pos hq
    have htl : leftsN t = (leftsL t).length := by delta leftsN; exact if_pos g1
    have M1 : (leftsL t).length ≤ 60 := lefts60 hok
    have M2 : (leftsL v).length ≤ 60 := lefts60 (rt_ok hq)
    conv => whnf
    refine ⟨Nat × Nat, fun p => [(2, .ptr 0 0), (3, .ptr 1 0), (7, .ptr 2 0), (9, .ptr 3 0), (13, .ptr 9 0), (11, .int .i64 p.2), (14, .int .i64 p.1)],
      fun p => [some (.row [.top, .top, .top, .top, .top, .top, .top, .top, .top, .top, .top, .top, .top, .top]), some (.row [.int .i64 a, .int .i64 b, .int .i64 c, .int .i64 e, .int .i64 f, .int .u16 g]), some (.row [.rsl 3 (visitsN t) (imD (visN t)), .rsl 2 (leftsN t) (imD (leftM t (leftsL t)))]), some (.row [.top, .top, .top, .top, .top, .top, .top, .top, .top, .top, .top, .top, .top, .top]), some .dead, none, some (.buf 73 5 1 fun i j => [V.D.int .i64 a, V.D.int .i64 b, V.D.int .i64 c, V.D.int .i64 e, V.D.int .i64 f].getD (i * 5 + j) V.D.top), none, none, some (.row [.rsl 3 (visitsN v) (imD (visN v)), .rsl 2 (leftsN v) (imD (leftM v (leftsL v)))])],
      fun p => leftsN v - p.1, fun p => (p.1 ≤ leftsN v ∧ p.2 ≤ leftsN t) ∧ SubAt (leftsL v) (leftsL t) p.1 p.2, [], (0, 0), fun _ => ⟨rfl, rfl⟩, ?_, fun p hP => ?_⟩
    · clear hk
      rw [hv] at hS2 ⊢
      repeat' (first | ((with_reducible refine kok ?_); kernel_rfl) | ((with_reducible refine keq_mk ?_); kernel_rfl) | with_reducible rfl | ((conv => whnf); first | (with_reducible exact trivial) | ((with_reducible refine and_ff ?_ ?_); · exact rfl) | ((with_reducible refine and_tt ?_ ?_); · exact rfl) | (with_reducible refine And.intro ?_ ?_) | intro _ | (with_reducible refine fin2 hk ?_) | ((with_reducible refine eq_leaf ?_); exact rfl) | exact trivial))
      all_goals first
        | exact Nat.zero_le _
        | exact hS2
        | skip
    clear hv hI hi hkk g2 hS hnt hnu hnu'
    obtain ⟨i, k⟩ := p
    obtain ⟨⟨hi, hkk⟩, hI⟩ := hP
    have hi : i ≤ leftsN v := hi
    have hkk : k ≤ leftsN t := hkk
    have hI : SubAt (leftsL v) (leftsL t) i k := hI
    conv => whnf
    refine ⟨fun g2 => ?_, fun g2 => ?_⟩
    · have hlt : i < leftsN v := by have := of_decide_eq_true g2; exact Int.ofNat_lt.1 this
      repeat' (first | ((with_reducible refine kok ?_); kernel_rfl) | ((with_reducible refine keq_mk ?_); kernel_rfl) | with_reducible rfl | ((conv => whnf); first | (with_reducible exact trivial) | ((with_reducible refine and_ff ?_ ?_); · exact rfl) | ((with_reducible refine and_tt ?_ ?_); · exact rfl) | (with_reducible refine And.intro ?_ ?_) | intro _ | (with_reducible refine fin2 hk ?_) | ((with_reducible refine eq_leaf ?_); exact rfl) | exact trivial))
      conv => whnf
      refine ⟨Nat, fun k => [(2, .ptr 0 0), (3, .ptr 1 0), (7, .ptr 2 0), (9, .ptr 3 0), (13, .ptr 9 0), (11, .int .i64 k), (14, .int .i64 i)],
        fun k => [some (.row [.top, .top, .top, .top, .top, .top, .top, .top, .top, .top, .top, .top, .top, .top]), some (.row [.int .i64 a, .int .i64 b, .int .i64 c, .int .i64 e, .int .i64 f, .int .u16 g]), some (.row [.rsl 3 (visitsN t) (imD (visN t)), .rsl 2 (leftsN t) (imD (leftM t (leftsL t)))]), some (.row [.top, .top, .top, .top, .top, .top, .top, .top, .top, .top, .top, .top, .top, .top]), some .dead, none, some (.buf 73 5 1 fun i j => [V.D.int .i64 a, V.D.int .i64 b, V.D.int .i64 c, V.D.int .i64 e, V.D.int .i64 f].getD (i * 5 + j) V.D.top), none, none, some (.row [.rsl 3 (visitsN v) (imD (visN v)), .rsl 2 (leftsN v) (imD (leftM v (leftsL v)))])],
        fun k => leftsN t - k, fun k => k ≤ leftsN t ∧ SubAt (leftsL v) (leftsL t) i k, [], k, fun _ => ⟨rfl, rfl⟩, ?_, fun k hK => ?_⟩
      · clear hk
        repeat' (first | ((with_reducible refine kok ?_); kernel_rfl) | ((with_reducible refine keq_mk ?_); kernel_rfl) | with_reducible rfl | ((conv => whnf); first | (with_reducible exact trivial) | ((with_reducible refine and_ff ?_ ?_); · exact rfl) | ((with_reducible refine and_tt ?_ ?_); · exact rfl) | (with_reducible refine And.intro ?_ ?_) | intro _ | (with_reducible refine fin2 hk ?_) | ((with_reducible refine eq_leaf ?_); exact rfl) | exact trivial))
        all_goals first
          | exact hkk
          | exact hI
          | skip
      clear hI hkk
      obtain ⟨hkk, hI⟩ := hK
      have hkk : k ≤ leftsN t := hkk
      have hkl := subAt_lt hI (by omega)
      have hkt : k < leftsN t := by omega
      repeat' (first | ((with_reducible refine kok ?_); kernel_rfl) | ((with_reducible refine keq_mk ?_); kernel_rfl) | with_reducible rfl | ((conv => whnf); first | (with_reducible exact trivial) | ((with_reducible refine and_ff ?_ ?_); · exact rfl) | ((with_reducible refine and_tt ?_ ?_); · exact rfl) | (with_reducible refine And.intro ?_ ?_) | intro _ | (with_reducible refine fin2 hk ?_) | ((with_reducible refine eq_leaf ?_); exact rfl) | exact trivial))
      all_goals try (exfalso; clear hk; simp only [taskOf_agg, ↓Bool.not_eq_true', ↓Bool.not_eq_false', ↓decT, ↓decF, out_true, out_false, isin_true, isin_false, Int.toNat_natCast, Int.ofNat_lt, Nat.zero_add, Nat.add_zero, Nat.reduceAdd] at *; omega)
      all_goals try (clear hk; (first | with_reducible refine (?_ : (_ : Int) ≤ _) | with_reducible refine (?_ : (_ : Int) < _)); simp only [taskOf_agg, ↓Bool.not_eq_true', ↓Bool.not_eq_false', ↓decT, ↓decF, out_true, out_false, isin_true, isin_false, Int.toNat_natCast, Int.ofNat_lt, Nat.zero_add, Nat.add_zero, Nat.reduceAdd] at *; omega)
      · rename_i g3 g4
        have hne : (leftsL v).getD i 0 ≠ (leftsL t).getD k 0 := fun q => by
          have e0 : leftM t (leftsL t) (k : Int).toNat 0 = leftM v (leftsL v) (i : Int).toNat 0 := by
            delta leftM
            show (((leftsL t).getD k 0 : Nat) : Int) = ((leftsL v).getD i 0 : Nat)
            rw [q]
          have e1 : leftM t (leftsL t) (k : Int).toNat 1 = leftM v (leftsL v) (i : Int).toNat 1 := by
            delta leftM
            show (if opC t ((leftsL t).getD k 0 : Nat) < 0 then (1 : Int) else 2) = if opC v ((leftsL v).getD i 0 : Nat) < 0 then 1 else 2
            rw [q, hop]
          simp only [e0, e1, decide_true, Bool.and_true, Bool.not_true, Bool.false_eq_true] at g4
        clear hk
        conv => whnf
        refine ⟨k + 1, ?_⟩
        repeat' (first | ((with_reducible refine kok ?_); kernel_rfl) | ((with_reducible refine keq_mk ?_); kernel_rfl) | with_reducible rfl | ((conv => whnf); first | (with_reducible exact trivial) | ((with_reducible refine and_ff ?_ ?_); · exact rfl) | ((with_reducible refine and_tt ?_ ?_); · exact rfl) | (with_reducible refine And.intro ?_ ?_) | intro _ | (with_reducible refine fin2 hk ?_) | ((with_reducible refine eq_leaf ?_); exact rfl) | exact trivial))
        · show k + 1 ≤ _
          omega
        · exact subAt_skip hI (by omega) hne
        · show _ - (k + 1) < _ - k
          omega
      · clear hk
        conv => whnf
        refine ⟨(i + 1, k + 1), ?_⟩
        repeat' (first | ((with_reducible refine kok ?_); kernel_rfl) | ((with_reducible refine keq_mk ?_); kernel_rfl) | with_reducible rfl | ((conv => whnf); first | (with_reducible exact trivial) | ((with_reducible refine and_ff ?_ ?_); · exact rfl) | ((with_reducible refine and_tt ?_ ?_); · exact rfl) | (with_reducible refine And.intro ?_ ?_) | intro _ | (with_reducible refine fin2 hk ?_) | ((with_reducible refine eq_leaf ?_); exact rfl) | exact trivial))
        all_goals first
          | exact subAt_take hI (by omega)
          | (show _ + 1 ≤ _; omega)
          | (show _ - (i + 1) < _ - i; omega)
          | skip
    · repeat' (first | ((with_reducible refine kok ?_); kernel_rfl) | ((with_reducible refine keq_mk ?_); kernel_rfl) | with_reducible rfl | ((conv => whnf); first | (with_reducible exact trivial) | ((with_reducible refine and_ff ?_ ?_); · exact rfl) | ((with_reducible refine and_tt ?_ ?_); · exact rfl) | (with_reducible refine And.intro ?_ ?_) | intro _ | (with_reducible refine fin2 hk ?_) | ((with_reducible refine eq_leaf ?_); exact rfl) | exact trivial))
end Go.Proofs.Ytcnecjkcmjgakaa
end
section
set_option linter.unusedVariables false
set_option linter.unusedSimpArgs false
set_option maxRecDepth 100000
namespace Go.Proofs.Ytcnecjkcmjgakaa
open Go.V

theorem recoverMore_lifted (os : Os) (started : os.Started) (H : Type) (enc : TypeId × Value → H) :
    ReturnsInHanded {} Try.checked os 8 .any (Rows.recoverMoreSpec.pre6 enc Go.Proofs.Try.prog Try.f8 Rows.recoverMoreRow.domain false) (Rows.recoverMoreSpec.post enc Go.Proofs.Try.prog Try.f8 false Rows.recoverMoreRow.fresh Rows.recoverMoreRow.handsOn Rows.recoverMoreRow.again) := by
  refine returnsInHanded_of_change (C := Try.checked) own started (by kernel_rfl) Try.func8
    (ChangeSpec.witness6 (enc := enc) (C := Try.checked) false ⟨#[], #[.agg #[.int .i64 0, .int .i64 0, .int .i64 0, .int .i64 0, .int .i64 0, .slice none 0 0, .slice none 0 0, .int .i64 0, .int .i64 0, .int .i64 0, .int .i64 0, .int .i64 0, .int .i64 0, .int .i64 0], .agg #[.int .i64 0, .int .i64 0, .int .i64 0, .int .i64 0, .int .i64 0, .int .u16 0]], []⟩ 8 (by kernel_rfl) (by kernel_rfl) (by kernel_rfl) (by kernel_rfl)) ?_
  intro W base args ds gs before hok hW _ _
  refine law_contract (l := [rtK, .agg [.int .i64, .int .i64, .int .i64, .int .i64, .int .i64, .int .u16]]) (tb := 4) laid_ok lawMore_ok (by kernel_rfl) (by kernel_rfl) rfl tbool (fun ds h => ?_) rfl (fun ds hd => ?_) W base args ds gs before hok hW
  · obtain ⟨d, e, rfl, h1, h2⟩ := isAL2 h
    obtain ⟨ds, rfl, hl, h2⟩ := h2
    match ds, hl with
    | [d0, d1, d2, d3, d4, d5], _ =>
      obtain ⟨n0, rfl, _⟩ := h2 0 _ _ rfl rfl
      obtain ⟨n1, rfl, _⟩ := h2 1 _ _ rfl rfl
      obtain ⟨n2, rfl, _⟩ := h2 2 _ _ rfl rfl
      obtain ⟨n3, rfl, _⟩ := h2 3 _ _ rfl rfl
      obtain ⟨n4, rfl, _⟩ := h2 4 _ _ rfl rfl
      obtain ⟨n5, rfl, a5, b5⟩ := h2 5 _ _ rfl rfl
      exact ⟨_, _, rfl, ⟨rt_of_kinds h1, a5, b5⟩, .inl rfl⟩
  · match ds, hd with
    | [a, b], _ => exact ⟨rfl, rfl, rfl⟩
theorem recoverMore_holds : Rows.RecoverMoreSaid :=
  OpenClaim.holds_of_wide 8 Try.f8 rfl rfl rfl rfl rfl rfl rfl ⟨rfl, rfl, rfl, rfl, rfl⟩ rfl rfl rfl rfl rfl (by kernel_rfl) Try.func8 (by kernel_rfl)
    (of_decide_eq_true (by kernel_rfl)) (by unfold Func.isWrapper; first | (rw [if_pos (by decide +kernel)]; kernel_rfl) | (rw [if_neg (by decide +kernel)]; exact ⟨rfl, rfl⟩))
    (fun os started H enc _ => recoverMore_lifted os started H enc)
#print axioms recoverMore_holds
end Go.Proofs.Ytcnecjkcmjgakaa
end
