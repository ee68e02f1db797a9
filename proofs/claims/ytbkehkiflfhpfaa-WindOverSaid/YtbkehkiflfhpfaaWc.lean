/-
  Contracts of the wind: single soundings, equal lists.
-/
import Derived.Test.YtbkehkiflfhpfaaWb
set_option linter.unusedVariables false
set_option linter.unusedSimpArgs false
set_option maxRecDepth 100000
namespace Go.Proofs.Ytbkehkiflfhpfaa
open Go.V

/-- A number that is far from the ends of its type. -/
def sm (n : Int) : Prop := -1099511627776 ≤ n ∧ n ≤ 1099511627776

def begun (a b l : Int) : Int := (max (a - b) (b - a) + l - 1).tdiv l
def rBegun : List D → Option (Prop × D) := fun ds => match ds with
  | [.int .i64 a, .int .i64 b, .int .i64 l] => some (sm a ∧ sm b ∧ 0 < l ∧ l ≤ 1099511627776, .int .i64 (begun a b l))
  | _ => none
theorem tdiv_bound {x l : Int} (hl : 0 < l) (hx : -4398046511104 ≤ x) (hx2 : x ≤ 4398046511104) : -4398046511104 ≤ x.tdiv l ∧ x.tdiv l ≤ 4398046511104 := by
  have h := Int.natAbs_tdiv x l
  have h2 : x.natAbs.div l.natAbs ≤ x.natAbs := Nat.div_le_self _ _
  rw [← h] at h2
  omega
theorem begun_ok : PSound Go.Proofs.Try.prog 104 (mk rBegun) := by
  refine psound_mk Try.func104 (by kernel_rfl) rfl (ctx (.nil _)) ?_
  (intro ds p d h; unfold rBegun at h; split at h <;> first | (cases h; done) | skip; cases h; refine ⟨Nat.le_of_ble_eq_true rfl, fun hp k hk => ?_⟩)
  rename_i a b l
  refine ⟨[.int .i64 a, .int .i64 b, .int .i64 l], rfl, rfl, rfl, ?_⟩
  obtain ⟨ha, hb, hl, hl2⟩ := hp
  unfold sm at ha hb
  repeat' (first | with_reducible rfl | ((conv => whnf); first | exact trivial | refine And.intro ?_ ?_ | intro _ | (with_reducible refine (?_ : _ = true); (conv => lhs; whnf); done) | exact rfl))
  all_goals try refine fin_of hk ?_
  all_goals clear hk
  repeat' (first | with_reducible rfl | ((conv => whnf); first | exact trivial | refine And.intro ?_ ?_ | intro _ | (with_reducible refine (?_ : _ = true); (conv => lhs; whnf); done) | exact rfl))
  all_goals try omega
  · exact (Int.le_trans (by omega) (tdiv_bound hl (by omega) (by omega)).1)
  · exact (Int.le_trans (tdiv_bound hl (by omega) (by omega)).2 (by omega))

def rAround : List D → Option (Prop × D) := fun ds => match ds with
  | [.int .i64 n, .int .i64 d] => some (sm n ∧ sm d, .agg [.int .i64 (n - d), .int .i64 (n + d)])
  | _ => none
theorem around_ok : PSound Go.Proofs.Try.prog 112 (mk rAround) := by
  refine psound_mk Try.func112 (by kernel_rfl) rfl (ctx (.nil _)) ?_
  (intro ds p d h; unfold rAround at h; split at h <;> first | (cases h; done) | skip; cases h; refine ⟨Nat.le_of_ble_eq_true rfl, fun hp k hk => ?_⟩)
  rename_i a b
  refine ⟨[.int .i64 a, .int .i64 b], rfl, rfl, ?_⟩
  obtain ⟨ha, hb⟩ := hp
  unfold sm at ha hb
  repeat' (first | with_reducible rfl | ((conv => whnf); first | exact trivial | refine And.intro ?_ ?_ | intro _ | (with_reducible refine (?_ : _ = true); (conv => lhs; whnf); done) | exact rfl))
  all_goals try refine fin_of hk ?_
  all_goals clear hk
  repeat' (first | with_reducible rfl | ((conv => whnf); first | exact trivial | refine And.intro ?_ ?_ | intro _ | (with_reducible refine (?_ : _ = true); (conv => lhs; whnf); done) | exact rfl))
  all_goals omega

/-- Two lists of numbers are the same. -/
def sameFrom (s : Nat) (a b : Nat → Nat → Int) (n : Nat) (i : Nat) : Prop := ∀ x, i ≤ x → x < n → ∀ j, j < s → a x j = b x j
theorem sameFrom_step {s : Nat} {a b : Nat → Nat → Int} {n i : Nat} (h : i < n) : sameFrom s a b n i ↔ (∀ j, j < s → a i j = b i j) ∧ sameFrom s a b n (i + 1) := by
  constructor
  · exact fun g => ⟨g i (Nat.le_refl _) h, fun x hx => g x (by omega)⟩
  · rintro ⟨g1, g2⟩ x hx hn
    rcases Nat.eq_or_lt_of_le hx with rfl | h1
    · exact g1
    · exact g2 x h1 hn
theorem sameFrom_end {s : Nat} {a b : Nat → Nat → Int} {n i : Nat} (h : n ≤ i) : sameFrom s a b n i := fun x hx hn => absurd hn (by omega)

open Classical in
noncomputable def sameB (s n m : Nat) (a b : Nat → Nat → Int) : Bool := decide (n = m ∧ sameFrom s a b n 0)
noncomputable def rInts : List D → Option (Prop × D) := fun ds => match ds with
  | [.rsl 1 n g, .rsl 1 m h] => some (IM n 1 g ∧ IM m 1 h ∧ n ≤ 1099511627776, .bool (sameB 1 n m (im g) (im h)))
  | _ => none
theorem ints_ok : PSound Go.Proofs.Try.prog 32 (mk rInts) := by
  refine psound_mk Try.func32 (by kernel_rfl) rfl (ctx (.nil _)) ?_
  (intro ds p d h; unfold rInts at h; split at h <;> first | (cases h; done) | skip; cases h; refine ⟨Nat.le_of_ble_eq_true rfl, fun hp k hk => ?_⟩)
  rename_i n g m h
  obtain ⟨h1, h2, h3⟩ := hp
  refine ⟨[.rsl 1 n (imD (im g)), .rsl 1 m (imD (im h))], rfl, h1, rfl, h2, ?_⟩
  clear h1 h2
  generalize im g = a at *
  generalize im h = b at *
  repeat' (first | with_reducible rfl | ((conv => whnf); first | exact trivial | refine And.intro ?_ ?_ | intro _ | (with_reducible refine (?_ : _ = true); (conv => lhs; whnf); done) | exact rfl))
  · (refine fin_of hk ?_; clear hk; repeat' (first | with_reducible rfl | ((conv => whnf); first | exact trivial | refine And.intro ?_ ?_ | intro _ | (with_reducible refine (?_ : _ = true); (conv => lhs; whnf); done) | exact rfl)))
    all_goals simp_all [sameB]
    all_goals omega
  · rename_i hlen
    refine ⟨Nat, fun i => [(0, .rsl 1 n (imD a)), (1, .rsl 1 m (imD b)), (5, .int .i64 i)], fun _ => [], fun i => n - i, fun i => i ≤ n ∧ (sameFrom 1 a b n 0 ↔ sameFrom 1 a b n i), [], 0, fun _ => ⟨rfl, rfl⟩, ?_, fun i hI => ?_⟩
    · repeat' (first | with_reducible rfl | ((conv => whnf); first | exact trivial | refine And.intro ?_ ?_ | intro _ | (with_reducible refine (?_ : _ = true); (conv => lhs; whnf); done) | exact rfl))
      all_goals simp_all
    · obtain ⟨hi, hc⟩ := hI
      have hnm : n = m := by simp at hlen; omega
      subst hnm
      have key : i < n → (sameFrom 1 a b n 0 ↔ a i 0 = b i 0 ∧ sameFrom 1 a b n (i + 1)) := fun h => by
        rw [hc, sameFrom_step h]
        exact and_congr_left' ⟨fun h => h 0 (by omega), fun h j hj => by rw [show j = 0 by omega]; exact h⟩
      have key2 : n ≤ i → sameFrom 1 a b n 0 := fun h => hc.2 (sameFrom_end h)
      clear hc hlen
      repeat' (first | with_reducible rfl | ((conv => whnf); first | exact trivial | refine And.intro ?_ ?_ | intro _ | (with_reducible refine (?_ : _ = true); (conv => lhs; whnf); done) | exact rfl))
      all_goals try refine fin_of hk ?_
      all_goals try refine ⟨i + 1, ?_⟩
      all_goals clear hk
      repeat' (first | with_reducible rfl | ((conv => whnf); first | exact trivial | refine And.intro ?_ ?_ | intro _ | (with_reducible refine (?_ : _ = true); (conv => lhs; whnf); done) | exact rfl))
      all_goals simp only [sameB, Nat.zero_add, Nat.add_zero, Int.toNat_natCast, decide_eq_true_eq, decide_eq_false_iff_not, Bool.not_eq_true', Bool.not_eq_false', Int.ofNat_lt, Int.natCast_pos, Nat.pos_iff_ne_zero, Nat.reduceAdd] at *
      all_goals try omega
      all_goals simp_all
end Go.Proofs.Ytbkehkiflfhpfaa
