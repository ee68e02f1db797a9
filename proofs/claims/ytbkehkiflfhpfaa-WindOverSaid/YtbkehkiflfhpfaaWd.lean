/-
  Contracts of the wind: a task, and a single sounding of it.
-/
import Derived.Test.YtbkehkiflfhpfaaWc
set_option linter.unusedVariables false
set_option linter.unusedSimpArgs false
set_option maxRecDepth 100000
namespace Go.Proofs.Ytbkehkiflfhpfaa
open Go.V

/-- A task: sources (name; kind, error, late, life, low, high), soundings (source, tick, height, x, y), cuts. -/
structure Task where
  ns : Nat
  nx : Nat
  nc : Nat
  nm : Nat → ByteArray
  sa : Nat → Nat → Int
  xa : Nat → Nat → Int
  ca : Nat → Nat → Int
  age : Int
  shear : Int
def Task.D (t : Task) : V.D := .agg [.rsl 7 t.ns (smD t.nm t.sa), .rsl 5 t.nx (imD t.xa), .rsl 1 t.nc (imD t.ca), .int .i64 t.age, .int .i64 t.shear]
def taskOf (d : V.D) : Task := match d with
  | .agg [.rsl _ ns g, .rsl _ nx h, .rsl _ nc c, .int _ a, .int _ s] => ⟨ns, nx, nc, nmOf g, imS g, im h, im c, a, s⟩
  | _ => ⟨0, 0, 0, fun _ => ⟨#[]⟩, fun _ _ => 0, fun _ _ => 0, fun _ _ => 0, 0, 0⟩
def TaskIs (d : V.D) : Prop := match d with
  | .agg [.rsl 7 ns g, .rsl 5 nx h, .rsl 1 nc c, .int .i64 _, .int .i64 _] => SM ns 7 g ∧ IM nx 5 h ∧ IM nc 1 c
  | _ => False
theorem taskOf_agg (t : Task) : taskOf (.agg [.rsl 7 t.ns (smD t.nm t.sa), .rsl 5 t.nx (imD t.xa), .rsl 1 t.nc (imD t.ca), .int .i64 t.age, .int .i64 t.shear]) = t := rfl
theorem task_imp {d : V.D} {k : Prop} (h : TaskIs d) (hk : k) : impB noGh d (taskOf d).D k := by
  unfold TaskIs at h
  split at h
  · exact ⟨rfl, h.1, rfl, h.2.1, rfl, h.2.2, rfl, rfl, hk⟩
  · exact h.elim

def knownS (t : Task) (i : Nat) (now : Int) : Bool := decide (t.xa i 1 + t.sa (t.xa i 0).toNat 2 ≤ now) && decide (now - t.xa i 1 ≤ t.sa (t.xa i 0).toNat 3)
def rKnown : List V.D → Option (Prop × V.D) := fun ds => match ds with
  | [d, .int .i64 i, .int .i64 now] => some (TaskIs d ∧ (0 ≤ i ∧ i < (taskOf d).nx) ∧ (0 ≤ (taskOf d).xa i.toNat 0 ∧ (taskOf d).xa i.toNat 0 < (taskOf d).ns) ∧ sm ((taskOf d).xa i.toNat 1) ∧ sm ((taskOf d).sa ((taskOf d).xa i.toNat 0).toNat 2) ∧ sm now,
      .bool (knownS (taskOf d) i.toNat now))
  | _ => none
theorem known_ok : PSound Go.Proofs.Try.prog 75 (mk rKnown) := by
  refine psound_mk Try.func75 (by kernel_rfl) rfl (ctx (.nil _)) ?_
  (intro ds p d h; unfold rKnown at h; split at h <;> first | (cases h; done) | skip; cases h; refine ⟨Nat.le_of_ble_eq_true rfl, fun hp k hk => ?_⟩)
  rename_i d i now
  obtain ⟨ht, hp⟩ := hp
  refine ⟨[(taskOf d).D, .int .i64 i, .int .i64 now], task_imp ht ⟨rfl, rfl, ?_⟩⟩
  clear ht
  generalize taskOf d = t at *
  obtain ⟨⟨h1, h2⟩, ⟨h3, h4⟩, h5, h6, h7⟩ := hp
  unfold sm at h5 h6 h7
  repeat' (first | with_reducible rfl | ((conv => whnf); first | exact trivial | refine And.intro ?_ ?_ | intro _ | (with_reducible refine (?_ : _ = true); (conv => lhs; whnf); done) | exact rfl))
  all_goals try refine fin_of hk ?_
  all_goals clear hk
  repeat' (first | with_reducible rfl | ((conv => whnf); first | exact trivial | refine And.intro ?_ ?_ | intro _ | (with_reducible refine (?_ : _ = true); (conv => lhs; whnf); done) | exact rfl))
  all_goals try simp only [knownS, Nat.zero_add, Nat.add_zero, Nat.reduceAdd, decide_eq_true_eq, decide_eq_false_iff_not] at *
  all_goals try omega
  all_goals simp_all <;> omega

def doubtS (t : Task) (i : Nat) (h at' : Int) : Int := t.sa (t.xa i 0).toNat 1 + t.age * begun (t.xa i 1) at' 600 + t.shear * begun (t.xa i 2) h 100000
def rDoubt : List V.D → Option (Prop × V.D) := fun ds => match ds with
  | [d, .int .i64 i, .int .i64 h, .int .i64 a] => some (TaskIs d ∧ (0 ≤ i ∧ i < (taskOf d).nx) ∧ (0 ≤ (taskOf d).xa i.toNat 0 ∧ (taskOf d).xa i.toNat 0 < (taskOf d).ns) ∧ (0 ≤ (taskOf d).xa i.toNat 1 ∧ (taskOf d).xa i.toNat 1 ≤ 100000) ∧
      (0 ≤ (taskOf d).xa i.toNat 2 ∧ (taskOf d).xa i.toNat 2 < 100000000) ∧ (0 ≤ (taskOf d).sa ((taskOf d).xa i.toNat 0).toNat 1 ∧ (taskOf d).sa ((taskOf d).xa i.toNat 0).toNat 1 ≤ 5000) ∧
      (0 ≤ (taskOf d).age ∧ (taskOf d).age ≤ 1000) ∧ (0 ≤ (taskOf d).shear ∧ (taskOf d).shear ≤ 1000) ∧ (0 ≤ h ∧ h < 100000000) ∧ (0 ≤ a ∧ a ≤ 100000), .int .i64 (doubtS (taskOf d) i.toNat h a))
  | _ => none
def lib5 : Lib := (104, mk rBegun) :: (75, mk rKnown) :: (112, mk rAround) :: (51, mk rCheckBands) :: (32, mk rInts) :: lib4
theorem lib5_ok : LibOK Go.Proofs.Try.prog lib5 := .cons begun_ok (.cons known_ok (.cons around_ok (.cons refCheckBands_ok (.cons ints_ok lib4_ok))))

theorem begun_bound {a b l : Int} (ha : 0 ≤ a ∧ a ≤ 100000000) (hb : 0 ≤ b ∧ b ≤ 100000000) (hl : 100 ≤ l ∧ l ≤ 100000) : 0 ≤ begun a b l ∧ begun a b l ≤ 1001000 := by
  unfold begun
  have h1 : 0 ≤ max (a - b) (b - a) + l - 1 := by omega
  have h2 : max (a - b) (b - a) + l - 1 ≤ 100000000 + l := by omega
  generalize max (a - b) (b - a) + l - 1 = x at *
  rw [Int.tdiv_eq_ediv_of_nonneg h1]
  refine ⟨Int.ediv_nonneg h1 (by omega), ?_⟩
  have h3 : x / l ≤ (100000000 + l) / l := Int.ediv_le_ediv (by omega) h2
  have h4 : (100000000 + l) / l = 100000000 / l + 1 := by
    rw [Int.add_ediv_of_dvd_right (Int.dvd_refl l), Int.ediv_self (by omega)]
  have h5 : 100000000 / l ≤ 1000000 := by
    apply Int.ediv_le_of_le_mul (by omega)
    omega
  omega
theorem mul_bound {x y : Int} (hx : 0 ≤ x ∧ x ≤ 1000) (hy : 0 ≤ y ∧ y ≤ 1001000) : 0 ≤ x * y ∧ x * y ≤ 1001000000 := by
  refine ⟨Int.mul_nonneg hx.1 hy.1, ?_⟩
  have h1 : x * y ≤ 1000 * y := Int.mul_le_mul_of_nonneg_right hx.2 hy.1
  omega

theorem doubt_ok : PSound Go.Proofs.Try.prog 77 (mk rDoubt) := by
  refine psound_mk Try.func77 (by kernel_rfl) rfl (ctx lib5_ok) ?_
  (intro ds p d h; unfold rDoubt at h; split at h <;> first | (cases h; done) | skip; cases h; refine ⟨Nat.le_of_ble_eq_true rfl, fun hp k hk => ?_⟩)
  rename_i d i h a
  obtain ⟨ht, hp⟩ := hp
  refine ⟨[(taskOf d).D, .int .i64 i, .int .i64 h, .int .i64 a], task_imp ht ⟨rfl, rfl, rfl, ?_⟩⟩
  clear ht
  generalize taskOf d = t at *
  obtain ⟨⟨h1, h2⟩, ⟨h3, h4⟩, h5, h6, h7, h8, h9, h10, h11⟩ := hp
  have b1 := begun_bound (l := 600) ⟨h5.1, by omega⟩ ⟨h11.1, by omega⟩ (by omega)
  have b2 := begun_bound (l := 100000) (b := h) ⟨h6.1, by omega⟩ ⟨h10.1, by omega⟩ (by omega)
  have m1 := mul_bound h8 b1
  have m2 := mul_bound h9 b2
  repeat' (first | with_reducible rfl | ((conv => whnf); first | exact trivial | refine And.intro ?_ ?_ | intro _ | (with_reducible refine (?_ : _ = true); (conv => lhs; whnf); done) | exact rfl))
  all_goals try refine fin_of hk ?_
  all_goals clear hk
  repeat' (first | with_reducible rfl | ((conv => whnf); first | exact trivial | refine And.intro ?_ ?_ | intro _ | (with_reducible refine (?_ : _ = true); (conv => lhs; whnf); done) | exact rfl))
  all_goals try simp only [sm, doubtS, Nat.zero_add, Nat.add_zero, Nat.reduceAdd, decide_eq_true_eq, decide_eq_false_iff_not] at *
  all_goals try omega
end Go.Proofs.Ytbkehkiflfhpfaa
