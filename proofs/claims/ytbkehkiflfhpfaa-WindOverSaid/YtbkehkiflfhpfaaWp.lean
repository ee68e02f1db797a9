/-
  Contracts of the wind: views.
-/
import Derived.Test.YtbkehkiflfhpfaaWo
set_option linter.unusedVariables false
set_option linter.unusedSimpArgs false
set_option maxRecDepth 100000
set_option maxHeartbeats 4000000
namespace Go.Proofs.Ytbkehkiflfhpfaa
open Go.V

def lib18 : Lib := (20, mk rCheck) :: lib17
theorem lib18_ok : LibOK Go.Proofs.Try.prog lib18 := .cons windCheck_ok lib17_ok

def Task.cells (t : Task) : List V.D := [.rsl 7 t.ns (smD t.nm t.sa), .rsl 5 t.nx (imD t.xa), .rsl 1 t.nc (imD t.ca), .int .i64 t.age, .int .i64 t.shear]
def viewL (t : Task) (tick now : Int) : List V.D := [.rsl 7 t.ns (smD t.nm t.sa), .rsl 5 t.nx (imD t.xa), .rsl 1 t.nc (imD t.ca), .int .i64 t.age, .int .i64 t.shear, .int .i64 tick, .int .i64 now]
theorem view_imp {a b c e f : V.D} {tick now : Int} {k : Prop} (h : TaskIs (.agg [a, b, c, e, f])) (hk : k) : impB noGh (.agg [a, b, c, e, f, .int .i64 tick, .int .i64 now]) (.agg (viewL (taskOf (.agg [a, b, c, e, f])) tick now)) k := by
  unfold TaskIs at h
  split at h
  · rename_i heq
    cases heq
    exact ⟨rfl, h.1, rfl, h.2.1, rfl, h.2.2, rfl, rfl, rfl, rfl, hk⟩
  · exact h.elim

def rParts : List D → Option (Prop × D) := fun ds => match ds with
  | [.int .i64 a, .int .i64 b, .int .i64 l] => some (sm a ∧ sm b ∧ 0 < l ∧ l ≤ 1099511627776, .int .i64 (begun a b l))
  | _ => none
theorem parts_ok : PSound Go.Proofs.Try.prog 103 (mk rParts) := by
  refine psound_mk Try.func103 (by kernel_rfl) rfl (ctx (.nil _)) ?_
  (intro ds p d h; unfold rParts at h; split at h <;> first | (cases h; done) | skip; cases h; refine ⟨Nat.le_of_ble_eq_true rfl, fun hp k hk => ?_⟩)
  rename_i a b l
  refine ⟨[.int .i64 a, .int .i64 b, .int .i64 l], rfl, rfl, rfl, ?_⟩
  obtain ⟨ha, hb, hl, hl2⟩ := hp
  unfold sm at ha hb
  generalize hS : begun a b l = c at *
  have hS' : c = (max (a - b) (b - a) + l - 1).tdiv l := hS.symm
  clear hS
  have e1 : a > b → max (a - b) (b - a) + l - 1 = a - b + l - 1 := fun h => by omega
  have e2 : ¬ a > b → max (a - b) (b - a) + l - 1 = b - a + l - 1 := fun h => by omega
  repeat' (first | with_reducible rfl | ((conv => whnf); first | exact trivial | refine And.intro ?_ ?_ | intro _ | (with_reducible refine (?_ : _ = true); (conv => lhs; whnf); done) | exact rfl))
  all_goals try refine fin_of hk ?_
  all_goals clear hk
  repeat' (first | with_reducible rfl | ((conv => whnf); first | exact trivial | refine And.intro ?_ ?_ | intro _ | (with_reducible refine (?_ : _ = true); (conv => lhs; whnf); done) | exact rfl))
  all_goals try omega
  all_goals first
    | exact Int.le_trans (by omega) (tdiv_bound hl (by omega) (by omega)).1
    | exact Int.le_trans (tdiv_bound hl (by omega) (by omega)).2 (by omega)
    | (rw [hS', e1 (of_decide_eq_true (by assumption))]; done)
    | (rw [hS', e2 (of_decide_eq_false (by assumption))]; done)

def doubtX (t : Task) (x0 x1 x2 h a : Int) : Int := t.sa x0.toNat 1 + t.age * begun x1 a 600 + t.shear * begun x2 h 100000
def rDoubtX : List V.D → Option (Prop × V.D) := fun ds => match ds with
  | [.agg [a, b, c, e, f, .int .i64 tick, .int .i64 now], .agg [.int .i64 x0, .int .i64 x1, .int .i64 x2, .int .i64 x3, .int .i64 x4], .int .i64 h] =>
    some (TaskIs (.agg [a, b, c, e, f]) ∧ (0 ≤ x0 ∧ x0 < (taskOf (.agg [a, b, c, e, f])).ns) ∧ (0 ≤ x1 ∧ x1 ≤ 100000) ∧ (0 ≤ x2 ∧ x2 < 100000000) ∧
      (0 ≤ (taskOf (.agg [a, b, c, e, f])).sa x0.toNat 1 ∧ (taskOf (.agg [a, b, c, e, f])).sa x0.toNat 1 ≤ 5000) ∧ (0 ≤ (taskOf (.agg [a, b, c, e, f])).age ∧ (taskOf (.agg [a, b, c, e, f])).age ≤ 1000) ∧
      (0 ≤ (taskOf (.agg [a, b, c, e, f])).shear ∧ (taskOf (.agg [a, b, c, e, f])).shear ≤ 1000) ∧ (0 ≤ h ∧ h < 100000000) ∧ (0 ≤ tick ∧ tick ≤ 100000), .int .i64 (doubtX (taskOf (.agg [a, b, c, e, f])) x0 x1 x2 h tick))
  | _ => none
def lib19 : Lib := (103, mk rParts) :: lib18
theorem lib19_ok : LibOK Go.Proofs.Try.prog lib19 := .cons parts_ok lib18_ok
theorem viewDoubt_ok : PSound Go.Proofs.Try.prog 76 (mk rDoubtX) := by
  refine psound_mk Try.func76 (by kernel_rfl) rfl (ctx lib19_ok) ?_
  (intro ds p d h; unfold rDoubtX at h; split at h <;> first | (cases h; done) | skip; cases h; refine ⟨Nat.le_of_ble_eq_true rfl, fun hp k hk => ?_⟩)
  rename_i a b c e f tick now x0 x1 x2 x3 x4 h
  obtain ⟨ht, h3, h5, h6, h7, h8, h9, h10, h11⟩ := hp
  refine ⟨[.agg (viewL (taskOf (.agg [a, b, c, e, f])) tick now), .agg [.int .i64 x0, .int .i64 x1, .int .i64 x2, .int .i64 x3, .int .i64 x4], .int .i64 h], view_imp ht ⟨rfl, rfl, rfl, rfl, rfl, rfl, ?_⟩⟩
  clear ht
  generalize taskOf (.agg [a, b, c, e, f]) = t at *
  have b1 := begun_bound (l := 600) ⟨h5.1, by omega⟩ ⟨h11.1, by omega⟩ (by omega)
  have b2 := begun_bound (l := 100000) (b := h) ⟨h6.1, by omega⟩ ⟨h10.1, by omega⟩ (by omega)
  have m1 := mul_bound h8 b1
  have m2 := mul_bound h9 b2
  generalize hS : doubtX t x0 x1 x2 h tick = w at *
  have hS' : w = t.sa x0.toNat 1 + t.age * begun x1 tick 600 + t.shear * begun x2 h 100000 := hS.symm
  clear hS
  repeat' (first | with_reducible rfl | ((conv => whnf); first | exact trivial | refine And.intro ?_ ?_ | intro _ | (with_reducible refine (?_ : _ = true); (conv => lhs; whnf); done) | exact rfl))
  all_goals try refine fin_of hk ?_
  all_goals clear hk
  repeat' (first | with_reducible rfl | ((conv => whnf); first | exact trivial | refine And.intro ?_ ?_ | intro _ | (with_reducible refine (?_ : _ = true); (conv => lhs; whnf); done) | exact rfl))
  all_goals try simp only [sm, Nat.zero_add, Nat.add_zero, Nat.reduceAdd] at *
  all_goals try omega

/-- The heights of a band. -/
def rBand : List V.D → Option (Prop × V.D) := fun ds => match ds with
  | [.agg [a, b, c, e, f, .int .i64 tick, .int .i64 now], .int .i64 i] =>
    some (TaskIs (.agg [a, b, c, e, f]) ∧ (0 ≤ i ∧ i < (taskOf (.agg [a, b, c, e, f])).nc) ∧ (taskOf (.agg [a, b, c, e, f])).nc ≤ 20 ∧ (-1099511627776 ≤ (taskOf (.agg [a, b, c, e, f])).ca i.toNat 0 ∧ (taskOf (.agg [a, b, c, e, f])).ca i.toNat 0 ≤ 1099511627776),
      .agg [.int .i64 (lowS (taskOf (.agg [a, b, c, e, f])) i.toNat), .int .i64 ((taskOf (.agg [a, b, c, e, f])).ca i.toNat 0 - 1)])
  | _ => none
theorem viewBand_ok : PSound Go.Proofs.Try.prog 72 (mk rBand) := by
  refine psound_mk Try.func72 (by kernel_rfl) rfl (ctx lib19_ok) ?_
  (intro ds p d h; unfold rBand at h; split at h <;> first | (cases h; done) | skip; cases h; refine ⟨Nat.le_of_ble_eq_true rfl, fun hp k hk => ?_⟩)
  rename_i a b c e f tick now i
  obtain ⟨ht, ⟨h1, h2⟩, h3, h4⟩ := hp
  refine ⟨[.agg (viewL (taskOf (.agg [a, b, c, e, f])) tick now), .int .i64 i], view_imp ht ⟨rfl, ?_⟩⟩
  clear ht
  generalize taskOf (.agg [a, b, c, e, f]) = t at *
  obtain ⟨n, rfl⟩ := Int.eq_ofNat_of_zero_le h1
  have e1 : 0 < n → ((n : Int) - 1).toNat = n - 1 := fun h => by omega
  repeat' (first | with_reducible rfl | ((conv => whnf); first | exact trivial | refine And.intro ?_ ?_ | intro _ | (with_reducible refine (?_ : _ = true); (conv => lhs; whnf); done) | exact rfl))
  all_goals try refine fin_of hk ?_
  all_goals clear hk
  repeat' (first | with_reducible rfl | ((conv => whnf); first | exact trivial | refine And.intro ?_ ?_ | intro _ | (with_reducible refine (?_ : _ = true); (conv => lhs; whnf); done) | exact rfl))
  all_goals try simp only [lowS, Int.toNat_natCast, Nat.zero_add, Nat.add_zero, Nat.reduceAdd, decide_eq_true_eq, decide_eq_false_iff_not] at *
  all_goals try omega
  all_goals (rw [e1 (by omega), if_neg (by omega)])
end Go.Proofs.Ytbkehkiflfhpfaa
