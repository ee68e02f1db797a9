/-
  Contracts of aiming's laws: equal choices; the laws Checks, Weighs, Asks, Bests.
-/
import Derived.Test.YtbakdblbknfadaaGreatMm
import Derived.Test.YtbakdblbknfadaaGreatMf
import Derived.Test.YtbakdblbknfadaaGreatRows
section
set_option linter.unusedVariables false
set_option linter.unusedSimpArgs false
set_option maxRecDepth 100000
set_option maxHeartbeats 4000000
namespace Go.Proofs.YtbakdblbknfadaaGreat
open Go.V
theorem all2A {p : Nat → Prop} : (∀ j, j < 2 → p j) ↔ p 0 ∧ p 1 :=
  ⟨fun h => ⟨h 0 (by omega), h 1 (by omega)⟩, fun h j hj => by
    have hj' : j = 0 ∨ j = 1 := by omega
    rcases hj' with rfl | rfl
    · exact h.1
    · exact h.2⟩
noncomputable def chB (a0 a1 : Int) (n : Nat) (a : Nat → Nat → Int) (b0 b1 : Int) (m : Nat) (b : Nat → Nat → Int) : Bool := decide (a0 = b0) && (decide (a1 = b1) && sameB 2 n m a b)
theorem chB_iff {a0 a1 : Int} {n : Nat} {a : Nat → Nat → Int} {b0 b1 : Int} {m : Nat} {b : Nat → Nat → Int} : chB a0 a1 n a b0 b1 m b = true ↔ a0 = b0 ∧ a1 = b1 ∧ n = m ∧ sameFrom 2 a b n 0 := by
  unfold chB
  rw [Bool.and_eq_true, Bool.and_eq_true, sameB_iff, decide_eq_true_eq, decide_eq_true_eq]
theorem chB_refl (a0 a1 : Int) (n : Nat) (a : Nat → Nat → Int) : chB a0 a1 n a a0 a1 n a = true := chB_iff.2 ⟨rfl, rfl, rfl, fun x _ _ j _ => rfl⟩
noncomputable def rSameCh : List V.D → Option (Prop × V.D) := fun ds => match ds with
  | [.agg [.int .i64 a0, .int .i64 a1, .rsl 2 n g], .agg [.int .i64 b0, .int .i64 b1, .rsl 2 m h]] => some (IM n 2 g ∧ IM m 2 h ∧ n ≤ 1099511627776, .bool (chB a0 a1 n (im g) b0 b1 m (im h)))
  | _ => none
end Go.Proofs.YtbakdblbknfadaaGreat
end
section
set_option linter.unusedVariables false
set_option linter.unusedSimpArgs false
set_option maxRecDepth 100000
set_option maxHeartbeats 4000000
namespace Go.Proofs.YtbakdblbknfadaaGreat
open Go.V
noncomputable def la26 : Lib := la25
theorem la26_ok : LibOK Go.Proofs.Tryz.prog la26 := la25_ok
theorem alwN_le (t : ATask) (n : Nat) (a : Nat → Nat → Int) : alwN t n a ≤ 40 := by
  unfold alwN
  by_cases h : askE t n a = 0
  · rw [h, ifn_0]
    have h1 := alwTo_len (weighS t n a) t.ns
    have h2 := (ask_ok h).1.ns
    omega
  · rw [ifn_ne h]
    omega
theorem bestN_le (t : ATask) (n : Nat) (a : Nat → Nat → Int) : ifn (bE t n a) t.ns ≤ 40 := by
  by_cases h : askE t n a = 0
  · have h2 := (ask_ok h).1.ns
    unfold ifn
    split
    · omega
    · omega
  · rw [ifn_ne (by rw [bE_1 h]; exact h)]
    omega
theorem sameA_refl (s n : Nat) (a : Nat → Nat → Int) : sameB s n n a a = true := sameB_iff.mpr ⟨rfl, fun x _ _ j _ => rfl⟩
attribute [local irreducible] weighS chkA checkBands lowB askE askI imp missS alwN bE bB bM whyM sameB chB ifz ifn listM alwTo
def rLA1 : List V.D → Option (Prop × V.D) := fun ds => match ds with
  | [d] => some (AtIs d, .tt)
  | _ => none
def rLA2 : List V.D → Option (Prop × V.D) := fun ds => match ds with
  | [d, .rsl 6 n g] => some (AtIs d ∧ IM n 6 g, .tt)
  | _ => none
def rLA3 : List V.D → Option (Prop × V.D) := fun ds => match ds with
  | [d, .rsl 6 n g, .int .i64 i] => some (AtIs d ∧ IM n 6 g, .tt)
  | _ => none
end Go.Proofs.YtbakdblbknfadaaGreat
end
section
set_option linter.unusedVariables false
set_option linter.unusedSimpArgs false
set_option maxRecDepth 100000
namespace Go.Proofs.YtbakdblbknfadaaGreat
open Go.V

theorem own : ownKnob Go.Proofs.Tryz.prog.godebug = none := by kernel_rfl
theorem laid_ok : laidOutB Go.Proofs.Tryz.prog = true := by kernel_rfl
theorem tbool : Go.Proofs.Tryz.prog.underlying 4 = some .bool := by kernel_rfl
def atK : AK := .agg [.sl [.int .i64, .int .i64, .int .i64, .int .i64], .sl [.int .i64, .int .i64, .int .i64, .int .i64, .int .i64], .int .i64, .int .i64, .int .i64, .int .i64, .int .i64, .int .i64, .int .i64, .int .i64, .int .i64]
/-- What is read of a task is one. -/
theorem at_of_kinds {d : V.D} (h : IsA atK d) : AtIs d := by
  obtain ⟨ds, rfl, hl, h⟩ := h
  match ds, hl with
  | [d0, d1, d2, d3, d4, d5, d6, d7, d8, d9, d10], _ =>
    obtain ⟨n0, g0, rfl, hn0, hg0⟩ := h 0 _ _ rfl rfl
    obtain ⟨n1, g1, rfl, hn1, hg1⟩ := h 1 _ _ rfl rfl
    obtain ⟨n2, rfl, _⟩ := h 2 _ _ rfl rfl
    obtain ⟨n3, rfl, _⟩ := h 3 _ _ rfl rfl
    obtain ⟨n4, rfl, _⟩ := h 4 _ _ rfl rfl
    obtain ⟨n5, rfl, _⟩ := h 5 _ _ rfl rfl
    obtain ⟨n6, rfl, _⟩ := h 6 _ _ rfl rfl
    obtain ⟨n7, rfl, _⟩ := h 7 _ _ rfl rfl
    obtain ⟨n8, rfl, _⟩ := h 8 _ _ rfl rfl
    obtain ⟨n9, rfl, _⟩ := h 9 _ _ rfl rfl
    obtain ⟨n10, rfl, _⟩ := h 10 _ _ rfl rfl
    exact ⟨⟨IM_of hg0 rfl, by omega⟩, IM_of hg1 rfl, by omega⟩
theorem isAL1 {a : AK} {ds : List V.D} (h : IsAL [a] ds) : ∃ d, ds = [d] ∧ IsA a d := by
  match ds, h with
  | [d], h => exact ⟨d, rfl, h.1⟩
theorem isAL2 {a b : AK} {ds : List V.D} (h : IsAL [a, b] ds) : ∃ d e, ds = [d, e] ∧ IsA a d ∧ IsA b e := by
  match ds, h with
  | [d, e], h => exact ⟨d, e, rfl, h.1, h.2.1⟩
theorem isAL3 {a b c : AK} {ds : List V.D} (h : IsAL [a, b, c] ds) : ∃ d e f, ds = [d, e, f] ∧ IsA a d ∧ IsA b e ∧ IsA c f := by
  match ds, h with
  | [d, e, f], h => exact ⟨d, e, f, rfl, h.1, h.2.1, h.2.2.1⟩
def bandsK : CK := .sl [.int .i64, .int .i64, .int .i64, .int .i64, .int .i64, .int .i64]
theorem bands_of_kinds {f : Nat} {d : V.D} (h : Is (f + 2) bandsK d) : ∃ n g, d = .rsl 6 n g ∧ IM n 6 g := by
  obtain ⟨n, g, rfl, _, hg⟩ := h
  exact ⟨n, g, rfl, IM_of hg rfl⟩
theorem int_of_kinds {f : Nat} {k : IntKind} {d : V.D} (h : Is (f + 1) (.int k) d) : ∃ n, d = .int k n ∧ k.min ≤ n ∧ n ≤ k.max := h
end Go.Proofs.YtbakdblbknfadaaGreat
end
