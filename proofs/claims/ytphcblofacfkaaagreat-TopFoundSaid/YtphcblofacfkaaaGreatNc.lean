/-
  Contracts of the flight: what Check tells of a vehicle.
-/
import Derived.Test.YtphcblofacfkaaaGreatNb
import Derived.Test.YtphcblofacfkaaaGreatMi
import Derived.Test.YtphcblofacfkaaaGreatMf
set_option linter.unusedVariables false
set_option linter.unusedSimpArgs false
set_option maxRecDepth 100000
set_option maxHeartbeats 4000000
section
namespace Go.Proofs.YtphcblofacfkaaaGreat
open Go.V
structure Veh where
  nm : ByteArray
  g0 : Int
  g1 : Int
  na : Nat
  air : Nat → Nat → Int
  np : Nat
  ph : Nat → Nat → Int
  nq : Nat
  pn : Nat → ByteArray
  pc : Nat → Nat → Int
def Veh.cells (v : Veh) : List V.D := [.str v.nm, .int .i64 v.g0, .int .i64 v.g1, .rsl 2 v.na (imD v.air), .rsl 13 v.np (imD v.ph), .rsl 13 v.nq (smD v.pn v.pc)]
def Veh.D (v : Veh) : V.D := .agg v.cells
def vehOf (d : V.D) : Veh := match d with
  | .agg [.str s, .int _ g0, .int _ g1, .rsl _ na a, .rsl _ np p, .rsl _ nq q] => ⟨s, g0, g1, na, im a, np, im p, nq, nmOf q, imS q⟩
  | _ => ⟨⟨#[]⟩, 0, 0, 0, fun _ _ => 0, 0, fun _ _ => 0, 0, fun _ => ⟨#[]⟩, fun _ _ => 0⟩
def VehIs (d : V.D) : Prop := match d with
  | .agg [.str _, .int .i64 _, .int .i64 _, .rsl 2 na a, .rsl 13 np p, .rsl 13 nq q] => IM na 2 a ∧ IM np 13 p ∧ SM nq 13 q
  | _ => False
theorem veh_imp {d : V.D} {k : Prop} (h : VehIs d) (hk : k) : impB noGh d (vehOf d).D k := by
  unfold VehIs at h
  split at h
  · exact ⟨rfl, rfl, rfl, rfl, h.1, rfl, h.2.1, rfl, h.2.2, hk⟩
  · exact h.elim
def Veh.fits (v : Veh) : Prop := v.nm.size ≤ 9223372036854775807 ∧ ∀ i, i < v.nq → (v.pn i).size ≤ 9223372036854775807
def airOK (v : Veh) (i : Nat) : Prop := (i = 0 → v.air i 0 = 0) ∧ (0 < i → v.air (i - 1) 0 < v.air i 0) ∧ v.air i 0 ≤ 2000000000 ∧ out (v.air i 1) 0 1000 = false
def phOK (v : Veh) (i : Nat) : Prop := out (v.ph i 0) 1 3000 = false ∧ beyondB (v.ph i 1) (v.ph i 2) 0 2000000 = false ∧ heavyB (v.ph i 3) (v.ph i 4) (v.ph i 5) (v.ph i 6) = false ∧ wideB (n6 (v.ph i 7) (v.ph i 8) (v.ph i 9) (v.ph i 10) (v.ph i 11) (v.ph i 12)) 2000 = false
def pcOK (v : Veh) (i : Nat) : Prop := out (v.pc i 0) 1 3000 = false ∧ heavyB (v.pc i 1) (v.pc i 2) (v.pc i 3) (v.pc i 4) = false ∧ wideB (n6 (v.pc i 5) (v.pc i 6) (v.pc i 7) (v.pc i 8) (v.pc i 9) (v.pc i 10)) 1000000 = false ∧ out (v.pc i 11) 0 2000000000 = false
structure ChkOK (v : Veh) : Prop where
  g : beyondB v.g0 v.g1 0 200 = false
  na : v.na ≤ 20
  air : ∀ i, i < v.na → airOK v i
  np : 1 ≤ v.np ∧ v.np ≤ 12
  ph : ∀ i, i < v.np → phOK v i
  nq : v.nq ≤ 6
  pc : ∀ i, i < v.nq → pcOK v i
def rPc1P : List V.D → Option (Prop × V.D) := fun ds => match ds with
  | [.agg [.str s, .int .i64 a0, .int .i64 a1, .int .i64 a2, .int .i64 a3, .int .i64 a4, .int .i64 a5, .int .i64 a6, .int .i64 a7, .int .i64 a8, .int .i64 a9, .int .i64 a10, .int .i64 a11], .eptr 13 e] => some (e 0 = .str (toS (e 0)), .bool (decide (s = toS (e 0))))
  | _ => none
def nameF (s : ByteArray) (e : Nat → V.D) (j : Nat) : V.D := match j with
  | 0 => .str s
  | j + 1 => e (j + 1)
theorem fPc1_ok : PSound Go.Proofs.Tryz.prog 72 (mk rPc1P) := by
  refine psound_mk Tryz.func72 (by kernel_rfl) rfl (ctx (.nil _)) ?_
  (intro ds p d h; unfold rPc1P at h; split at h <;> first | (cases h; done) | skip; cases h; refine ⟨Nat.le_of_ble_eq_true rfl, fun hp k hk => ?_⟩)
  rename_i s a0 a1 a2 a3 a4 a5 a6 a7 a8 a9 a10 a11 e
  generalize toS (e 0) = n at *
  refine ⟨[.agg [.str s, .int .i64 a0, .int .i64 a1, .int .i64 a2, .int .i64 a3, .int .i64 a4, .int .i64 a5, .int .i64 a6, .int .i64 a7, .int .i64 a8, .int .i64 a9, .int .i64 a10, .int .i64 a11], .eptr 13 (nameF n e)], rfl, rfl, rfl, rfl, rfl, rfl, rfl, rfl, rfl, rfl, rfl, rfl, rfl, rfl, fun j hj => ?_, ?_⟩
  · cases j with
    | zero => exact hp
    | succ j => rfl
  clear hp
  repeat' (first | ((with_reducible refine kok ?_); kernel_rfl) | ((with_reducible refine keq_mk ?_); kernel_rfl) | with_reducible rfl | ((conv => whnf); first | (with_reducible exact trivial) | ((with_reducible refine and_ff ?_ ?_); · exact rfl) | ((with_reducible refine and_tt ?_ ?_); · exact rfl) | (with_reducible refine And.intro ?_ ?_) | intro _ | (with_reducible refine fin2 hk ?_) | ((with_reducible refine eq_leaf ?_); exact rfl) | exact trivial))
noncomputable def lt9 : Lib := (72, mk rPc1P) :: (78, mk rEach) :: (65, mk rName) :: (27, mk rCheckBands) :: lt8
theorem lt9_ok : LibOK Go.Proofs.Tryz.prog lt9 := .cons fPc1_ok (.cons fEach_ok (.cons windName_ok (.cons windCheckBands_ok lt8_ok)))
def rIdxPc : QRule := fun ds K => match ds with
  | [.rsl 13 n g, .fn 72 [] [.eptr 13 e]] => (SM n 13 g ∧ n ≤ 1099511627776 ∧ e 0 = .str (toS (e 0))) ∧ ∀ i : Int, K (.ret (.int .i64 i))
  | _ => False
theorem fIdxPc_ok : QSound Go.Proofs.Tryz.prog 94 rIdxPc := by
  refine qsound_of Tryz.func94 (by kernel_rfl) rfl (ctx lt9_ok) ?_
  intro ds K h
  unfold rIdxPc at h
  split at h <;> first | exact h.elim | skip
  refine ⟨Nat.le_of_ble_eq_true rfl, ?_⟩
  rename_i n g e
  obtain ⟨⟨h1, h2, h3⟩, hK⟩ := h
  refine ⟨[.rsl 13 n (smD (nmOf g) (imS g)), .fn 72 [] [.eptr 13 e]], rfl, h1, ?_⟩
  clear h1
  generalize nmOf g = nm at *
  generalize imS g = a at *
  repeat' (first | ((with_reducible refine kok ?_); kernel_rfl) | ((with_reducible refine keq_mk ?_); kernel_rfl) | with_reducible rfl | ((conv => whnf); first | (with_reducible exact trivial) | ((with_reducible refine and_ff ?_ ?_); · exact rfl) | ((with_reducible refine and_tt ?_ ?_); · exact rfl) | (with_reducible refine And.intro ?_ ?_) | intro _ | (with_reducible refine fin2 hk ?_) | ((with_reducible refine eq_leaf ?_); exact rfl) | exact trivial))
  refine ⟨Nat, fun i => [(0, .rsl 13 n (smD nm a)), (1, .fn 72 [] [.eptr 13 e]), (7, .int .i64 n), (8, .int .i64 i)], fun _ => [], fun i => n - i, fun i => i ≤ n, [], 0, fun _ => ⟨rfl, rfl⟩, ?_, fun i hI => ?_⟩
  · repeat' (first | ((with_reducible refine kok ?_); kernel_rfl) | ((with_reducible refine keq_mk ?_); kernel_rfl) | with_reducible rfl | ((conv => whnf); first | (with_reducible exact trivial) | ((with_reducible refine and_ff ?_ ?_); · exact rfl) | ((with_reducible refine and_tt ?_ ?_); · exact rfl) | (with_reducible refine And.intro ?_ ?_) | intro _ | (with_reducible refine fin2 hk ?_) | ((with_reducible refine eq_leaf ?_); exact rfl) | exact trivial))
    exact Nat.zero_le _
  have hi : i ≤ n := hI
  repeat' (first | ((with_reducible refine kok ?_); kernel_rfl) | ((with_reducible refine keq_mk ?_); kernel_rfl) | with_reducible rfl | ((conv => whnf); first | (with_reducible exact trivial) | ((with_reducible refine and_ff ?_ ?_); · exact rfl) | ((with_reducible refine and_tt ?_ ?_); · exact rfl) | (with_reducible refine And.intro ?_ ?_) | intro _ | (with_reducible refine fin2 hk ?_) | ((with_reducible refine eq_leaf ?_); exact rfl) | exact trivial))
  all_goals try ((first | with_reducible refine (?_ : (_ : Int) ≤ _) | with_reducible refine (?_ : (_ : Int) < _)); simp only [taskOf_agg, ↓Bool.not_eq_true', ↓Bool.not_eq_false', ↓decT, ↓decF, out_true, out_false, isin_true, isin_false, Int.toNat_natCast, Int.ofNat_lt, Nat.zero_add, Nat.add_zero, Nat.reduceAdd] at *; omega)
  all_goals try exact h3
  all_goals try exact hK _
  rename_i g1 g2
  conv => whnf
  refine ⟨i + 1, ?_⟩
  repeat' (first | ((with_reducible refine kok ?_); kernel_rfl) | ((with_reducible refine keq_mk ?_); kernel_rfl) | with_reducible rfl | ((conv => whnf); first | (with_reducible exact trivial) | ((with_reducible refine and_ff ?_ ?_); · exact rfl) | ((with_reducible refine and_tt ?_ ?_); · exact rfl) | (with_reducible refine And.intro ?_ ?_) | intro _ | (with_reducible refine fin2 hk ?_) | ((with_reducible refine eq_leaf ?_); exact rfl) | exact trivial))
  · simp only [taskOf_agg, ↓Bool.not_eq_true', ↓Bool.not_eq_false', ↓decT, ↓decF, out_true, out_false, isin_true, isin_false, Int.toNat_natCast, Int.ofNat_lt, Nat.zero_add, Nat.add_zero, Nat.reduceAdd] at g1
    exact g1
  · simp only [taskOf_agg, ↓Bool.not_eq_true', ↓Bool.not_eq_false', ↓decT, ↓decF, out_true, out_false, isin_true, isin_false, Int.toNat_natCast, Int.ofNat_lt, Nat.zero_add, Nat.add_zero, Nat.reduceAdd] at g1
    simp only; omega
def rContPc : QRule := fun ds K => match ds with
  | [.rsl 13 n g, .fn 72 [] [.eptr 13 e]] => (SM n 13 g ∧ n ≤ 1099511627776 ∧ e 0 = .str (toS (e 0))) ∧ ∀ b : Bool, K (.ret (.bool b))
  | _ => False
noncomputable def Lth1 : Libs := ⟨lt9, [(94, qC rIdxPc)], [], []⟩
theorem Lth1_ok : LibsOK Go.Proofs.Tryz.prog Lth1 := ⟨lt9_ok, asGet_cons (csound_q fIdxPc_ok) (fun g s h => by cases h), fun f r h => (by cases h), fun f r h => (by cases h)⟩
theorem fContPc_ok : QSound Go.Proofs.Tryz.prog 71 rContPc := by
  refine qsound_of Tryz.func71 (by kernel_rfl) rfl (ctxA Lth1_ok) ?_
  intro ds K h
  unfold rContPc at h
  split at h <;> first | exact h.elim | skip
  refine ⟨Nat.le_of_ble_eq_true rfl, ?_⟩
  rename_i n g e
  obtain ⟨⟨h1, h2, h3⟩, hK⟩ := h
  refine ⟨[.rsl 13 n (smD (nmOf g) (imS g)), .fn 72 [] [.eptr 13 e]], rfl, h1, ?_⟩
  clear h1
  generalize nmOf g = nm at *
  generalize imS g = a at *
  repeat' (first | ((with_reducible refine kok ?_); kernel_rfl) | ((with_reducible refine keq_mk ?_); kernel_rfl) | with_reducible rfl | ((conv => whnf); first | (with_reducible exact trivial) | ((with_reducible refine and_ff ?_ ?_); · exact rfl) | ((with_reducible refine and_tt ?_ ?_); · exact rfl) | (with_reducible refine And.intro ?_ ?_) | intro _ | (with_reducible refine fin2 hk ?_) | ((with_reducible refine eq_leaf ?_); exact rfl) | exact trivial))
  all_goals first
    | exact SM_smD _ _ _ _
    | exact h2
    | exact h3
    | exact hK _
    | skip
end Go.Proofs.YtphcblofacfkaaaGreat
end
section
namespace Go.Proofs.YtphcblofacfkaaaGreat
open Go.V
noncomputable def Lth2 : Libs := ⟨lt9, [(94, qC rIdxPc), (71, qC rContPc)], [], []⟩
theorem Lth2_ok : LibsOK Go.Proofs.Tryz.prog Lth2 := ⟨lt9_ok, asGet_cons (csound_q fIdxPc_ok) (asGet_cons (csound_q fContPc_ok) (fun g s h => by cases h)), fun f r h => (by cases h), fun f r h => (by cases h)⟩
def rChkF : QRule := fun ds K => match ds with
  | [d] => (VehIs d ∧ (vehOf d).fits) ∧ ∀ x y e : Int, (e = 0 → ChkOK (vehOf d)) → K (.ret (.tup [.int .i64 x, .int .i64 y, .int .i64 e]))
  | _ => False
theorem airOK_mk {v : Veh} {i : Nat} (h1 : i = 0 → v.air i 0 = 0) (h2 : 0 < i → v.air (i - 1) 0 < v.air i 0) (h3 : v.air i 0 ≤ 2000000000) (h4 : out (v.air i 1) 0 1000 = false) : airOK v i := ⟨h1, h2, h3, h4⟩
theorem phOK_mk {v : Veh} {i : Nat} (h1 : out (v.ph i 0) 1 3000 = false) (h2 : beyondB (v.ph i 1) (v.ph i 2) 0 2000000 = false) (h3 : heavyB (v.ph i 3) (v.ph i 4) (v.ph i 5) (v.ph i 6) = false) (h4 : wideB (n6 (v.ph i 7) (v.ph i 8) (v.ph i 9) (v.ph i 10) (v.ph i 11) (v.ph i 12)) 2000 = false) : phOK v i := ⟨h1, h2, h3, h4⟩
theorem pcOK_mk {v : Veh} {i : Nat} (h1 : out (v.pc i 0) 1 3000 = false) (h2 : heavyB (v.pc i 1) (v.pc i 2) (v.pc i 3) (v.pc i 4) = false) (h3 : wideB (n6 (v.pc i 5) (v.pc i 6) (v.pc i 7) (v.pc i 8) (v.pc i 9) (v.pc i 10)) 1000000 = false) (h4 : out (v.pc i 11) 0 2000000000 = false) : pcOK v i := ⟨h1, h2, h3, h4⟩
attribute [local irreducible] wideB heavyB beyondB nameS airOK phOK pcOK out
theorem fChk_ok : QSound Go.Proofs.Tryz.prog 42 rChkF := by
  refine qsound_of Tryz.func42 (by kernel_rfl) rfl (ctxA Lth2_ok) ?_
  intro ds K h
  unfold rChkF at h
  split at h <;> first | exact h.elim | skip
  refine ⟨Nat.le_of_ble_eq_true rfl, ?_⟩
  rename_i d
  obtain ⟨⟨ht, hf⟩, hK⟩ := h
  refine ⟨[(vehOf d).D], veh_imp ht ?_⟩
  clear ht
  generalize vehOf d = v at *
  repeat' (first | ((with_reducible refine kok ?_); kernel_rfl) | ((with_reducible refine keq_mk ?_); kernel_rfl) | with_reducible rfl | ((conv => whnf); first | (with_reducible exact trivial) | ((with_reducible refine and_ff ?_ ?_); · exact rfl) | ((with_reducible refine and_tt ?_ ?_); · exact rfl) | (with_reducible refine And.intro ?_ ?_) | intro _ | (with_reducible refine fin2 hk ?_) | ((with_reducible refine eq_leaf ?_); exact rfl) | exact trivial))
  all_goals try exact hf.1
  all_goals try exact hK _ _ _ (fun h => absurd h (by decide))
  rename_i q1 q2 q3
  have hna : v.na ≤ 20 := by simp only [taskOf_agg, ↓Bool.not_eq_true', ↓Bool.not_eq_false', ↓decT, ↓decF, out_true, out_false, isin_true, isin_false, Int.toNat_natCast, Int.ofNat_lt, Nat.zero_add, Nat.add_zero, Nat.reduceAdd] at q3; omega
  conv => whnf
  refine ⟨Nat, fun i => [(1, .ptr 0 0), (26, .rsl 2 v.na (imD v.air)), (27, .int .i64 v.na), (28, .int .i64 i)], fun _ => [some (.row v.cells)], fun i => v.na - i, fun i => i ≤ v.na ∧ ∀ j, j < i → airOK v j, [], 0, fun _ => ⟨rfl, rfl⟩, ?_, fun i hI => ?_⟩
  · repeat' (first | ((with_reducible refine kok ?_); kernel_rfl) | ((with_reducible refine keq_mk ?_); kernel_rfl) | with_reducible rfl | ((conv => whnf); first | (with_reducible exact trivial) | ((with_reducible refine and_ff ?_ ?_); · exact rfl) | ((with_reducible refine and_tt ?_ ?_); · exact rfl) | (with_reducible refine And.intro ?_ ?_) | intro _ | (with_reducible refine fin2 hk ?_) | ((with_reducible refine eq_leaf ?_); exact rfl) | exact trivial))
    · exact Nat.zero_le _
    · rename_i hj; exact absurd hj (Nat.not_lt_zero _)
  obtain ⟨hi, hA⟩ := hI
  have hi : i ≤ v.na := hi
  have hA : ∀ j, j < i → airOK v j := hA
  have t1 : ((i : Int) - 1).toNat = i - 1 := by omega
  repeat' (first | ((with_reducible refine kok ?_); kernel_rfl) | ((with_reducible refine keq_mk ?_); kernel_rfl) | with_reducible rfl | ((conv => whnf); first | (with_reducible exact trivial) | ((with_reducible refine and_ff ?_ ?_); · exact rfl) | ((with_reducible refine and_tt ?_ ?_); · exact rfl) | (with_reducible refine And.intro ?_ ?_) | intro _ | (with_reducible refine fin2 hk ?_) | ((with_reducible refine eq_leaf ?_); exact rfl) | exact trivial))
  all_goals try exact hK _ _ _ (fun h => absurd h (by decide))
  all_goals try ((first | with_reducible refine (?_ : (_ : Int) ≤ _) | with_reducible refine (?_ : (_ : Int) < _)); simp only [taskOf_agg, ↓Bool.not_eq_true', ↓Bool.not_eq_false', ↓decT, ↓decF, out_true, out_false, isin_true, isin_false, Int.toNat_natCast, Int.ofNat_lt, Nat.zero_add, Nat.add_zero, Nat.reduceAdd] at *; omega)
  · conv => whnf
    refine ⟨i + 1, ?_⟩
    repeat' (first | ((with_reducible refine kok ?_); kernel_rfl) | ((with_reducible refine keq_mk ?_); kernel_rfl) | with_reducible rfl | ((conv => whnf); first | (with_reducible exact trivial) | ((with_reducible refine and_ff ?_ ?_); · exact rfl) | ((with_reducible refine and_tt ?_ ?_); · exact rfl) | (with_reducible refine And.intro ?_ ?_) | intro _ | (with_reducible refine fin2 hk ?_) | ((with_reducible refine eq_leaf ?_); exact rfl) | exact trivial))
    all_goals first
      | (simp only [taskOf_agg, ↓Bool.not_eq_true', ↓Bool.not_eq_false', ↓decT, ↓decF, out_true, out_false, isin_true, isin_false, Int.toNat_natCast, Int.ofNat_lt, Nat.zero_add, Nat.add_zero, Nat.reduceAdd] at *; omega)
      | (rename_i j hj
         rcases Nat.lt_or_eq_of_le (Nat.le_of_lt_succ hj) with g | g
         · exact hA j g
         · rw [g]
           refine airOK_mk (fun h => ?_) (fun h => ?_) ?_ ?_ <;> (clear hK hA; simp only [taskOf_agg, ↓Bool.not_eq_true', ↓Bool.not_eq_false', ↓decT, ↓decF, out_true, out_false, isin_true, isin_false, Int.toNat_natCast, Int.ofNat_lt, Nat.zero_add, Nat.add_zero, Nat.reduceAdd, t1, Nat.add_zero] at *; first | assumption | omega))
  · conv => whnf
    refine ⟨i + 1, ?_⟩
    repeat' (first | ((with_reducible refine kok ?_); kernel_rfl) | ((with_reducible refine keq_mk ?_); kernel_rfl) | with_reducible rfl | ((conv => whnf); first | (with_reducible exact trivial) | ((with_reducible refine and_ff ?_ ?_); · exact rfl) | ((with_reducible refine and_tt ?_ ?_); · exact rfl) | (with_reducible refine And.intro ?_ ?_) | intro _ | (with_reducible refine fin2 hk ?_) | ((with_reducible refine eq_leaf ?_); exact rfl) | exact trivial))
    all_goals first
      | (simp only [taskOf_agg, ↓Bool.not_eq_true', ↓Bool.not_eq_false', ↓decT, ↓decF, out_true, out_false, isin_true, isin_false, Int.toNat_natCast, Int.ofNat_lt, Nat.zero_add, Nat.add_zero, Nat.reduceAdd] at *; omega)
      | (rename_i j hj
         rcases Nat.lt_or_eq_of_le (Nat.le_of_lt_succ hj) with g | g
         · exact hA j g
         · rw [g]
           refine airOK_mk (fun h => ?_) (fun h => ?_) ?_ ?_ <;> (clear hK hA; simp only [taskOf_agg, ↓Bool.not_eq_true', ↓Bool.not_eq_false', ↓decT, ↓decF, out_true, out_false, isin_true, isin_false, Int.toNat_natCast, Int.ofNat_lt, Nat.zero_add, Nat.add_zero, Nat.reduceAdd, t1, Nat.add_zero] at *; first | assumption | omega))
  · conv => whnf
    refine ⟨i + 1, ?_⟩
    repeat' (first | ((with_reducible refine kok ?_); kernel_rfl) | ((with_reducible refine keq_mk ?_); kernel_rfl) | with_reducible rfl | ((conv => whnf); first | (with_reducible exact trivial) | ((with_reducible refine and_ff ?_ ?_); · exact rfl) | ((with_reducible refine and_tt ?_ ?_); · exact rfl) | (with_reducible refine And.intro ?_ ?_) | intro _ | (with_reducible refine fin2 hk ?_) | ((with_reducible refine eq_leaf ?_); exact rfl) | exact trivial))
    all_goals first
      | (simp only [taskOf_agg, ↓Bool.not_eq_true', ↓Bool.not_eq_false', ↓decT, ↓decF, out_true, out_false, isin_true, isin_false, Int.toNat_natCast, Int.ofNat_lt, Nat.zero_add, Nat.add_zero, Nat.reduceAdd] at *; omega)
      | (rename_i j hj
         rcases Nat.lt_or_eq_of_le (Nat.le_of_lt_succ hj) with g | g
         · exact hA j g
         · rw [g]
           refine airOK_mk (fun h => ?_) (fun h => ?_) ?_ ?_ <;> (clear hK hA; simp only [taskOf_agg, ↓Bool.not_eq_true', ↓Bool.not_eq_false', ↓decT, ↓decF, out_true, out_false, isin_true, isin_false, Int.toNat_natCast, Int.ofNat_lt, Nat.zero_add, Nat.add_zero, Nat.reduceAdd, t1, Nat.add_zero] at *; first | assumption | omega))
  · conv => whnf
    refine ⟨i + 1, ?_⟩
    repeat' (first | ((with_reducible refine kok ?_); kernel_rfl) | ((with_reducible refine keq_mk ?_); kernel_rfl) | with_reducible rfl | ((conv => whnf); first | (with_reducible exact trivial) | ((with_reducible refine and_ff ?_ ?_); · exact rfl) | ((with_reducible refine and_tt ?_ ?_); · exact rfl) | (with_reducible refine And.intro ?_ ?_) | intro _ | (with_reducible refine fin2 hk ?_) | ((with_reducible refine eq_leaf ?_); exact rfl) | exact trivial))
    all_goals first
      | (simp only [taskOf_agg, ↓Bool.not_eq_true', ↓Bool.not_eq_false', ↓decT, ↓decF, out_true, out_false, isin_true, isin_false, Int.toNat_natCast, Int.ofNat_lt, Nat.zero_add, Nat.add_zero, Nat.reduceAdd] at *; omega)
      | (rename_i j hj
         rcases Nat.lt_or_eq_of_le (Nat.le_of_lt_succ hj) with g | g
         · exact hA j g
         · rw [g]
           refine airOK_mk (fun h => ?_) (fun h => ?_) ?_ ?_ <;> (clear hK hA; simp only [taskOf_agg, ↓Bool.not_eq_true', ↓Bool.not_eq_false', ↓decT, ↓decF, out_true, out_false, isin_true, isin_false, Int.toNat_natCast, Int.ofNat_lt, Nat.zero_add, Nat.add_zero, Nat.reduceAdd, t1, Nat.add_zero] at *; first | assumption | omega))
  rename_i g1 g2
  have hAir : ∀ j, j < v.na → airOK v j := fun j hj => hA j (by simp only [taskOf_agg, ↓Bool.not_eq_true', ↓Bool.not_eq_false', ↓decT, ↓decF, out_true, out_false, isin_true, isin_false, Int.toNat_natCast, Int.ofNat_lt, Nat.zero_add, Nat.add_zero, Nat.reduceAdd] at g1; omega)
  clear hA
  have hnp : 1 ≤ v.np ∧ v.np ≤ 12 := by simp only [taskOf_agg, ↓Bool.not_eq_true', ↓Bool.not_eq_false', ↓decT, ↓decF, out_true, out_false, isin_true, isin_false, Int.toNat_natCast, Int.ofNat_lt, Nat.zero_add, Nat.add_zero, Nat.reduceAdd] at g2; omega
  conv => whnf
  refine ⟨Nat, fun i => [(1, .ptr 0 0), (74, .rsl 13 v.np (imD v.ph)), (75, .int .i64 v.np), (76, .int .i64 i)], fun _ => [some (.row v.cells)], fun i => v.np - i, fun i => i ≤ v.np ∧ ∀ j, j < i → phOK v j, [], 0, fun _ => ⟨rfl, rfl⟩, ?_, fun i hI => ?_⟩
  · repeat' (first | ((with_reducible refine kok ?_); kernel_rfl) | ((with_reducible refine keq_mk ?_); kernel_rfl) | with_reducible rfl | ((conv => whnf); first | (with_reducible exact trivial) | ((with_reducible refine and_ff ?_ ?_); · exact rfl) | ((with_reducible refine and_tt ?_ ?_); · exact rfl) | (with_reducible refine And.intro ?_ ?_) | intro _ | (with_reducible refine fin2 hk ?_) | ((with_reducible refine eq_leaf ?_); exact rfl) | exact trivial))
    · exact Nat.zero_le _
    · rename_i hj; exact absurd hj (Nat.not_lt_zero _)
  obtain ⟨hi, hA⟩ := hI
  have hi : i ≤ v.np := hi
  have hA : ∀ j, j < i → phOK v j := hA
  repeat' (first | ((with_reducible refine kok ?_); kernel_rfl) | ((with_reducible refine keq_mk ?_); kernel_rfl) | with_reducible rfl | ((conv => whnf); first | (with_reducible exact trivial) | ((with_reducible refine and_ff ?_ ?_); · exact rfl) | ((with_reducible refine and_tt ?_ ?_); · exact rfl) | (with_reducible refine And.intro ?_ ?_) | intro _ | (with_reducible refine fin2 hk ?_) | ((with_reducible refine eq_leaf ?_); exact rfl) | exact trivial))
  all_goals try exact hK _ _ _ (fun h => absurd h (by decide))
  all_goals try ((first | with_reducible refine (?_ : (_ : Int) ≤ _) | with_reducible refine (?_ : (_ : Int) < _)); simp only [taskOf_agg, ↓Bool.not_eq_true', ↓Bool.not_eq_false', ↓decT, ↓decF, out_true, out_false, isin_true, isin_false, Int.toNat_natCast, Int.ofNat_lt, Nat.zero_add, Nat.add_zero, Nat.reduceAdd] at *; omega)
  · conv => whnf
    refine ⟨i + 1, ?_⟩
    repeat' (first | ((with_reducible refine kok ?_); kernel_rfl) | ((with_reducible refine keq_mk ?_); kernel_rfl) | with_reducible rfl | ((conv => whnf); first | (with_reducible exact trivial) | ((with_reducible refine and_ff ?_ ?_); · exact rfl) | ((with_reducible refine and_tt ?_ ?_); · exact rfl) | (with_reducible refine And.intro ?_ ?_) | intro _ | (with_reducible refine fin2 hk ?_) | ((with_reducible refine eq_leaf ?_); exact rfl) | exact trivial))
    all_goals first
      | (simp only [taskOf_agg, ↓Bool.not_eq_true', ↓Bool.not_eq_false', ↓decT, ↓decF, out_true, out_false, isin_true, isin_false, Int.toNat_natCast, Int.ofNat_lt, Nat.zero_add, Nat.add_zero, Nat.reduceAdd] at *; omega)
      | (rename_i j hj
         rcases Nat.lt_or_eq_of_le (Nat.le_of_lt_succ hj) with g | g
         · exact hA j g
         · rw [g]
           refine phOK_mk ?_ ?_ ?_ ?_ <;> (clear hK hA; simp only [Int.toNat_natCast] at *; assumption))
  rename_i g3 g4
  have hPh : ∀ j, j < v.np → phOK v j := fun j hj => hA j (by simp only [taskOf_agg, ↓Bool.not_eq_true', ↓Bool.not_eq_false', ↓decT, ↓decF, out_true, out_false, isin_true, isin_false, Int.toNat_natCast, Int.ofNat_lt, Nat.zero_add, Nat.add_zero, Nat.reduceAdd] at g3; omega)
  clear hA
  have hnq : v.nq ≤ 6 := by simp only [taskOf_agg, ↓Bool.not_eq_true', ↓Bool.not_eq_false', ↓decT, ↓decF, out_true, out_false, isin_true, isin_false, Int.toNat_natCast, Int.ofNat_lt, Nat.zero_add, Nat.add_zero, Nat.reduceAdd] at g4; omega
  conv => whnf
  refine ⟨Nat, fun i => [(1, .ptr 0 0), (109, .rsl 13 v.nq (smD v.pn v.pc)), (110, .int .i64 v.nq), (111, .int .i64 i)], fun _ => [some (.row v.cells)], fun i => v.nq - i, fun i => i ≤ v.nq ∧ ∀ j, j < i → pcOK v j, [], 0, fun _ => ⟨rfl, rfl⟩, ?_, fun i hI => ?_⟩
  · repeat' (first | ((with_reducible refine kok ?_); kernel_rfl) | ((with_reducible refine keq_mk ?_); kernel_rfl) | with_reducible rfl | ((conv => whnf); first | (with_reducible exact trivial) | ((with_reducible refine and_ff ?_ ?_); · exact rfl) | ((with_reducible refine and_tt ?_ ?_); · exact rfl) | (with_reducible refine And.intro ?_ ?_) | intro _ | (with_reducible refine fin2 hk ?_) | ((with_reducible refine eq_leaf ?_); exact rfl) | exact trivial))
    · exact Nat.zero_le _
    · rename_i hj; exact absurd hj (Nat.not_lt_zero _)
  obtain ⟨hi, hA⟩ := hI
  have hi : i ≤ v.nq := hi
  have hA : ∀ j, j < i → pcOK v j := hA
  have hfi : i < v.nq → (v.pn i).size ≤ 9223372036854775807 := hf.2 i
  repeat' (first | ((with_reducible refine kok ?_); kernel_rfl) | ((with_reducible refine keq_mk ?_); kernel_rfl) | with_reducible rfl | ((conv => whnf); first | (with_reducible exact trivial) | ((with_reducible refine and_ff ?_ ?_); · exact rfl) | ((with_reducible refine and_tt ?_ ?_); · exact rfl) | (with_reducible refine And.intro ?_ ?_) | intro _ | (with_reducible refine fin2 hk ?_) | ((with_reducible refine eq_leaf ?_); exact rfl) | exact trivial))
  all_goals try exact hK _ _ _ (fun h => absurd h (by decide))
  all_goals try exact hf.2 _ (by assumption)
  all_goals try exact SM_smD _ _ _ _
  all_goals try ((first | with_reducible refine (?_ : (_ : Int) ≤ _) | with_reducible refine (?_ : (_ : Int) < _) | with_reducible refine (?_ : (_ : Nat) ≤ _)); clear hK hA; simp only [taskOf_agg, ↓Bool.not_eq_true', ↓Bool.not_eq_false', ↓decT, ↓decF, out_true, out_false, isin_true, isin_false, Int.toNat_natCast, Int.ofNat_lt, Nat.zero_add, Nat.add_zero, Nat.reduceAdd] at *; omega)
  · conv => whnf
    refine ⟨i + 1, ?_⟩
    repeat' (first | ((with_reducible refine kok ?_); kernel_rfl) | ((with_reducible refine keq_mk ?_); kernel_rfl) | with_reducible rfl | ((conv => whnf); first | (with_reducible exact trivial) | ((with_reducible refine and_ff ?_ ?_); · exact rfl) | ((with_reducible refine and_tt ?_ ?_); · exact rfl) | (with_reducible refine And.intro ?_ ?_) | intro _ | (with_reducible refine fin2 hk ?_) | ((with_reducible refine eq_leaf ?_); exact rfl) | exact trivial))
    all_goals first
      | (simp only [taskOf_agg, ↓Bool.not_eq_true', ↓Bool.not_eq_false', ↓decT, ↓decF, out_true, out_false, isin_true, isin_false, Int.toNat_natCast, Int.ofNat_lt, Nat.zero_add, Nat.add_zero, Nat.reduceAdd] at *; omega)
      | (rename_i j hj
         rcases Nat.lt_or_eq_of_le (Nat.le_of_lt_succ hj) with g | g
         · exact hA j g
         · rw [g]
           refine pcOK_mk ?_ ?_ ?_ ?_ <;> (clear hK hA; simp only [Int.toNat_natCast] at *; assumption))
  rename_i g5
  have g5 : decide ((i : Int) < v.nq) = false := g5
  have hPc : ∀ j, j < v.nq → pcOK v j := fun j hj => hA j (by simp only [taskOf_agg, ↓Bool.not_eq_true', ↓Bool.not_eq_false', ↓decT, ↓decF, out_true, out_false, isin_true, isin_false, Int.toNat_natCast, Int.ofNat_lt, Nat.zero_add, Nat.add_zero, Nat.reduceAdd] at g5; omega)
  exact hK 0 0 0 fun _ => ⟨q2, hna, hAir, hnp, hPh, hnq, hPc⟩
def rDirF : QRule := fun ds K => match ds with
  | [.agg [.int .i64 x, .int .i64 y, .int .i64 z]] => ∀ e : Int, (e = 0 → btw 10000 x ∧ btw 10000 y ∧ btw 10000 z) → K (.ret (.int .i64 e))
  | _ => False
theorem sq_bd {x : Int} (h : btw 10000 x) : 0 ≤ x * x ∧ x * x ≤ 100000000 := by
  have h1 := mul_bd h h (by decide) (by decide)
  have h2 : 0 ≤ x * x := by
    rcases Int.le_total 0 x with q | q
    · exact Int.mul_nonneg q q
    · have := Int.mul_nonneg (show 0 ≤ -x by omega) (show 0 ≤ -x by omega)
      rwa [Int.neg_mul_neg] at this
  unfold btw at h1
  omega
theorem fDir_ok : QSound Go.Proofs.Tryz.prog 43 rDirF := by
  refine qsound_of Tryz.func43 (by kernel_rfl) rfl (ctx lt9_ok) ?_
  intro ds K h
  unfold rDirF at h
  split at h <;> first | exact h.elim | skip
  refine ⟨Nat.le_of_ble_eq_true rfl, ?_⟩
  rename_i x y z
  refine ⟨[.agg [.int .i64 x, .int .i64 y, .int .i64 z]], rfl, rfl, rfl, ?_⟩
  have o1 : ∀ {n lo hi : Int}, out n lo hi = false → lo ≤ n ∧ n ≤ hi := fun h => by rw [out_false] at h; exact h
  repeat' (first | ((with_reducible refine kok ?_); kernel_rfl) | ((with_reducible refine keq_mk ?_); kernel_rfl) | with_reducible rfl | ((conv => whnf); first | (with_reducible exact trivial) | ((with_reducible refine and_ff ?_ ?_); · exact rfl) | ((with_reducible refine and_tt ?_ ?_); · exact rfl) | (with_reducible refine And.intro ?_ ?_) | intro _ | (with_reducible refine fin2 hk ?_) | ((with_reducible refine eq_leaf ?_); exact rfl) | exact trivial))
  all_goals try exact h _ (fun h => absurd h (by decide))
  all_goals (
    have b1 : btw 10000 x := by have := o1 (by assumption : out x (-10000) 10000 = false); unfold btw; omega
    have b2 : btw 10000 y := by have := o1 (by assumption : out y (-10000) 10000 = false); unfold btw; omega
    have b3 : btw 10000 z := by have := o1 (by assumption : out z 1 10000 = false); unfold btw; omega
    have s1 := sq_bd b1
    have s2 := sq_bd b2
    have s3 := sq_bd b3
    first
      | exact h 0 (fun _ => ⟨b1, b2, b3⟩)
      | ((try simp only [Nat.add_zero, Nat.zero_add, Nat.reduceAdd]); omega))
end Go.Proofs.YtphcblofacfkaaaGreat
end
section
namespace Go.Proofs.YtphcblofacfkaaaGreat
open Go.V
structure Flt where
  v : Veh
  x : Int
  y : Int
  z : Int
  nb : Nat
  b : Nat → Nat → Int
def Flt.cells (F : Flt) : List V.D := [.str F.v.nm, .int .i64 F.v.g0, .int .i64 F.v.g1, .rsl 2 F.v.na (imD F.v.air), .rsl 13 F.v.np (imD F.v.ph), .rsl 13 F.v.nq (smD F.v.pn F.v.pc), .int .i64 F.x, .int .i64 F.x, .int .i64 F.y, .int .i64 F.y, .int .i64 F.z, .int .i64 F.z, .rsl 6 F.nb (imD F.b)]
def Flt.at (F : Flt) (j : Nat) : V.D := F.cells.getD j .top
structure FltOK (F : Flt) : Prop where
  chk : ChkOK F.v
  x : btw 10000 F.x
  y : btw 10000 F.y
  z : btw 10000 F.z
  bands : BandsOK F.nb F.b
def FltIs (g : Nat → V.D) : Prop := ∃ F : Flt, FltOK F ∧ ∀ j, j < 13 → g j = F.at j
def rBeginF : QRule := fun ds K => match ds with
  | [d, .agg [.int .i64 x, .int .i64 y, .int .i64 z], .rsl 6 n g] => (VehIs d ∧ (vehOf d).fits ∧ IM n 6 g) ∧ (∀ e : Int, e ≠ 0 → K (.ret (.tup [.nilP, .int .i64 e]))) ∧ ∀ f : Nat → V.D, FltIs f → ChkOK (vehOf d) → K (.ret (.tup [.eptr 13 f, .int .i64 0]))
  | _ => False
noncomputable def Ltj : Libs := ⟨lt9, [(42, qC rChkF), (43, qC rDirF)], [], []⟩
theorem Ltj_ok : LibsOK Go.Proofs.Tryz.prog Ltj := ⟨lt9_ok, asGet_cons (csound_q fChk_ok) (asGet_cons (csound_q fDir_ok) (fun g s h => by cases h)), fun f r h => (by cases h), fun f r h => (by cases h)⟩
theorem vehOf_agg (v : Veh) : vehOf (.agg [.str v.nm, .int .i64 v.g0, .int .i64 v.g1, .rsl 2 v.na (imD v.air), .rsl 13 v.np (imD v.ph), .rsl 13 v.nq (smD v.pn v.pc)]) = v := rfl
theorem lt13 {j : Nat} (h : j < 13) : j = 0 ∨ j = 1 ∨ j = 2 ∨ j = 3 ∨ j = 4 ∨ j = 5 ∨ j = 6 ∨ j = 7 ∨ j = 8 ∨ j = 9 ∨ j = 10 ∨ j = 11 ∨ j = 12 := by omega
theorem flt_is {F : Flt} (h : FltOK F) {g : Nat → V.D} (hg : ∀ j, j < 13 → g j = F.at j) : FltIs g := ⟨F, h, hg⟩
attribute [local irreducible] FltIs
theorem fBegin_ok : QSound Go.Proofs.Tryz.prog 14 rBeginF := by
  refine qsound_of Tryz.func14 (by kernel_rfl) rfl (ctxA Ltj_ok) ?_
  intro ds K h
  unfold rBeginF at h
  split at h <;> first | exact h.elim | skip
  refine ⟨Nat.le_of_ble_eq_true rfl, ?_⟩
  rename_i d x y z n g
  obtain ⟨⟨ht, hf, hg⟩, hE, hK⟩ := h
  refine ⟨[(vehOf d).D, .agg [.int .i64 x, .int .i64 y, .int .i64 z], .rsl 6 n (imD (im g))], veh_imp ht ⟨rfl, rfl, rfl, rfl, hg, ?_⟩⟩
  clear ht hg
  generalize vehOf d = v at *
  generalize im g = b at *
  repeat' (first | ((with_reducible refine kok ?_); kernel_rfl) | ((with_reducible refine keq_mk ?_); kernel_rfl) | with_reducible rfl | ((conv => whnf); first | (with_reducible exact trivial) | ((with_reducible refine and_ff ?_ ?_); · exact rfl) | ((with_reducible refine and_tt ?_ ?_); · exact rfl) | (with_reducible refine And.intro ?_ ?_) | intro _ | (with_reducible refine fin2 hk ?_) | ((with_reducible refine eq_leaf ?_); exact rfl) | exact trivial))
  all_goals try (simp only [vehOf_agg] at *; first | exact hf.1 | exact hf.2 _ (by assumption))
  all_goals try (refine hE _ ?_; simp only [im_imD, taskOf_agg, ↓Bool.not_eq_true', ↓Bool.not_eq_false', ↓decT, ↓decF, out_true, out_false, isin_true, isin_false, Int.toNat_natCast, Int.ofNat_lt, Nat.zero_add, Nat.add_zero, Nat.reduceAdd] at *; assumption)
  rename_i x1 y1 e1 c1 d1 e2 c2 d2 d3
  simp only [vehOf_agg, im_imD, taskOf_agg, ↓Bool.not_eq_true', ↓Bool.not_eq_false', ↓decT, ↓decF, out_true, out_false, isin_true, isin_false, Int.toNat_natCast, Int.ofNat_lt, Nat.zero_add, Nat.add_zero, Nat.reduceAdd, Decidable.not_not] at c1 d1 c2 d2 d3
  obtain ⟨b1, b2, b3⟩ := c2 d2
  conv => whnf
  refine hK _ (flt_is (F := ⟨v, x, y, z, n, b⟩) ⟨c1 d1, b1, b2, b3, bands_ok d3⟩ fun j hj => ?_) (c1 d1)
  rcases lt13 hj with rfl | rfl | rfl | rfl | rfl | rfl | rfl | rfl | rfl | rfl | rfl | rfl | rfl <;> rfl
end Go.Proofs.YtphcblofacfkaaaGreat
end
