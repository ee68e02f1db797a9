/-
  Contracts of the flight: what is done to each axis.
-/
import Derived.Test.YtphcblofacfkaaaGreatNa
set_option linter.unusedVariables false
set_option linter.unusedSimpArgs false
set_option maxRecDepth 100000
set_option maxHeartbeats 4000000
section
namespace Go.Proofs.YtphcblofacfkaaaGreat
open Go.V
def plP (a b c d : Int) : Prop := i64 (a + c) ∧ i64 (b + d)
def plL (a b c d : Int) : Int := a + c
def plH (a b c d : Int) : Int := b + d
def miP (a b c d : Int) : Prop := i64 (a - d) ∧ i64 (b - c)
def miL (a b c d : Int) : Int := a - d
def miH (a b c d : Int) : Int := b - c
def huP (a b c d : Int) : Prop := True
def huL (a b c d : Int) : Int := min a c
def huH (a b c d : Int) : Int := max b d
def pick (k i : Nat) (x : Int) : Int := if k < i then x else 0
def rEach : List V.D → Option (Prop × V.D) := fun ds => match ds with
  | [.agg [.int .i64 a0, .int .i64 a1, .int .i64 a2, .int .i64 a3, .int .i64 a4, .int .i64 a5], .agg [.int .i64 b0, .int .i64 b1, .int .i64 b2, .int .i64 b3, .int .i64 b4, .int .i64 b5], .fn 79 [] []] => some (plP a0 a1 b0 b1 ∧ plP a2 a3 b2 b3 ∧ plP a4 a5 b4 b5, .agg [.int .i64 (plL a0 a1 b0 b1), .int .i64 (plH a0 a1 b0 b1), .int .i64 (plL a2 a3 b2 b3), .int .i64 (plH a2 a3 b2 b3), .int .i64 (plL a4 a5 b4 b5), .int .i64 (plH a4 a5 b4 b5)])
  | [.agg [.int .i64 a0, .int .i64 a1, .int .i64 a2, .int .i64 a3, .int .i64 a4, .int .i64 a5], .agg [.int .i64 b0, .int .i64 b1, .int .i64 b2, .int .i64 b3, .int .i64 b4, .int .i64 b5], .fn 111 [] []] => some (miP a0 a1 b0 b1 ∧ miP a2 a3 b2 b3 ∧ miP a4 a5 b4 b5, .agg [.int .i64 (miL a0 a1 b0 b1), .int .i64 (miH a0 a1 b0 b1), .int .i64 (miL a2 a3 b2 b3), .int .i64 (miH a2 a3 b2 b3), .int .i64 (miL a4 a5 b4 b5), .int .i64 (miH a4 a5 b4 b5)])
  | [.agg [.int .i64 a0, .int .i64 a1, .int .i64 a2, .int .i64 a3, .int .i64 a4, .int .i64 a5], .agg [.int .i64 b0, .int .i64 b1, .int .i64 b2, .int .i64 b3, .int .i64 b4, .int .i64 b5], .fn 81 [] []] => some (huP a0 a1 b0 b1 ∧ huP a2 a3 b2 b3 ∧ huP a4 a5 b4 b5, .agg [.int .i64 (huL a0 a1 b0 b1), .int .i64 (huH a0 a1 b0 b1), .int .i64 (huL a2 a3 b2 b3), .int .i64 (huH a2 a3 b2 b3), .int .i64 (huL a4 a5 b4 b5), .int .i64 (huH a4 a5 b4 b5)])
  | [.agg [.int .i64 a0, .int .i64 a1, .int .i64 a2, .int .i64 a3, .int .i64 a4, .int .i64 a5], .agg [.int .i64 b0, .int .i64 b1, .int .i64 b2, .int .i64 b3, .int .i64 b4, .int .i64 b5], .fn 115 [] [.eptr 12 g]] => some ((cellI g 12 ∧ BodyOK (fun i => toI (g i))) ∧ (btw 10000 a0 ∧ btw 10000 a1 ∧ btw 10000 a2 ∧ btw 10000 a3 ∧ btw 10000 a4 ∧ btw 10000 a5) ∧ btw 2000 b0 ∧ btw 2000 b1 ∧ btw 2000 b2 ∧ btw 2000 b3 ∧ btw 2000 b4 ∧ btw 2000 b5, .agg [.int .i64 (fc1L (fun i => toI (g i)) a0 a1 b0 b1), .int .i64 (fc1H (fun i => toI (g i)) a0 a1 b0 b1), .int .i64 (fc1L (fun i => toI (g i)) a2 a3 b2 b3), .int .i64 (fc1H (fun i => toI (g i)) a2 a3 b2 b3), .int .i64 (fc1L (fun i => toI (g i)) a4 a5 b4 b5), .int .i64 (fc1H (fun i => toI (g i)) a4 a5 b4 b5)])
  | [.agg [.int .i64 a0, .int .i64 a1, .int .i64 a2, .int .i64 a3, .int .i64 a4, .int .i64 a5], .agg [.int .i64 b0, .int .i64 b1, .int .i64 b2, .int .i64 b3, .int .i64 b4, .int .i64 b5], .fn 117 [] [.eptr 2 h, .eptr 12 g]] => some ((cellI g 12 ∧ BodyOK (fun i => toI (g i))) ∧ (cellI h 2 ∧ btw 2000000000000 (toI (h 0)) ∧ btw 2000000000000 (toI (h 1))) ∧ (btw 240000000000 a0 ∧ btw 240000000000 a1 ∧ btw 240000000000 a2 ∧ btw 240000000000 a3 ∧ btw 240000000000 a4 ∧ btw 240000000000 a5) ∧ btw 1020000 b0 ∧ btw 1020000 b1 ∧ btw 1020000 b2 ∧ btw 1020000 b3 ∧ btw 1020000 b4 ∧ btw 1020000 b5, .agg [.int .i64 (fc2L (fun i => toI (g i)) (toI (h 0)) (toI (h 1)) a0 a1 b0 b1), .int .i64 (fc2H (fun i => toI (g i)) (toI (h 0)) (toI (h 1)) a0 a1 b0 b1), .int .i64 (fc2L (fun i => toI (g i)) (toI (h 0)) (toI (h 1)) a2 a3 b2 b3), .int .i64 (fc2H (fun i => toI (g i)) (toI (h 0)) (toI (h 1)) a2 a3 b2 b3), .int .i64 (fc2L (fun i => toI (g i)) (toI (h 0)) (toI (h 1)) a4 a5 b4 b5), .int .i64 (fc2H (fun i => toI (g i)) (toI (h 0)) (toI (h 1)) a4 a5 b4 b5)])
  | _ => none
noncomputable def lt8 : Lib := (115, mk rForce1) :: (117, mk rForce2) :: lt7
theorem lt8_ok : LibOK Go.Proofs.Tryz.prog lt8 := .cons fForce1_ok (.cons fForce2_ok lt7_ok)
theorem fEach_ok : PSound Go.Proofs.Tryz.prog 78 (mk rEach) := by
  refine psound_mk Tryz.func78 (by kernel_rfl) rfl (ctx lt8_ok) ?_
  (intro ds p d h; unfold rEach at h; split at h <;> first | (cases h; done) | skip; cases h; refine ⟨Nat.le_of_ble_eq_true rfl, fun hp k hk => ?_⟩)
  · rename_i a0 a1 a2 a3 a4 a5 b0 b1 b2 b3 b4 b5
    refine ⟨[.agg [.int .i64 a0, .int .i64 a1, .int .i64 a2, .int .i64 a3, .int .i64 a4, .int .i64 a5], .agg [.int .i64 b0, .int .i64 b1, .int .i64 b2, .int .i64 b3, .int .i64 b4, .int .i64 b5], .fn 79 [] []], rfl, rfl, rfl, rfl, rfl, rfl, rfl, rfl, rfl, rfl, rfl, rfl, rfl, ?_⟩
    obtain ⟨h0, h1, h2⟩ := hp
    unfold plP at h0 h1 h2
    repeat' (first | ((with_reducible refine kok ?_); kernel_rfl) | ((with_reducible refine keq_mk ?_); kernel_rfl) | with_reducible rfl | ((conv => whnf); first | (with_reducible exact trivial) | ((with_reducible refine and_ff ?_ ?_); · exact rfl) | ((with_reducible refine and_tt ?_ ?_); · exact rfl) | (with_reducible refine And.intro ?_ ?_) | intro _ | (with_reducible refine fin2 hk ?_) | ((with_reducible refine eq_leaf ?_); exact rfl) | exact trivial))
    conv => whnf
    refine ⟨Nat, fun i => [(2, .fn 79 [] []), (3, .ptr 0 0), (4, .ptr 1 0), (6, .ptr 2 0), (8, .int .i64 i)], fun i => [some (.row [.int .i64 a0, .int .i64 a1, .int .i64 a2, .int .i64 a3, .int .i64 a4, .int .i64 a5]), some (.row [.int .i64 b0, .int .i64 b1, .int .i64 b2, .int .i64 b3, .int .i64 b4, .int .i64 b5]), some (.row [.int .i64 (pick 0 i (plL a0 a1 b0 b1)), .int .i64 (pick 0 i (plH a0 a1 b0 b1)), .int .i64 (pick 1 i (plL a2 a3 b2 b3)), .int .i64 (pick 1 i (plH a2 a3 b2 b3)), .int .i64 (pick 2 i (plL a4 a5 b4 b5)), .int .i64 (pick 2 i (plH a4 a5 b4 b5))])], fun i => 3 - i, fun i => i ≤ 3, [], 0, fun _ => ⟨rfl, rfl⟩, ?_, fun i hi => ?_⟩
    · clear hk
      repeat' (first | ((with_reducible refine kok ?_); kernel_rfl) | ((with_reducible refine keq_mk ?_); kernel_rfl) | with_reducible rfl | ((conv => whnf); first | (with_reducible exact trivial) | ((with_reducible refine and_ff ?_ ?_); · exact rfl) | ((with_reducible refine and_tt ?_ ?_); · exact rfl) | (with_reducible refine And.intro ?_ ?_) | intro _ | (with_reducible refine fin2 hk ?_) | ((with_reducible refine eq_leaf ?_); exact rfl) | exact trivial))
      all_goals first
        | exact Nat.zero_le _
        | rfl
        | skip
    have hi : i = 0 ∨ i = 1 ∨ i = 2 ∨ i = 3 := by
      have hi : i ≤ 3 := hi
      omega
    rcases hi with rfl | rfl | rfl | rfl
    · repeat' (first | ((with_reducible refine kok ?_); kernel_rfl) | ((with_reducible refine keq_mk ?_); kernel_rfl) | with_reducible rfl | ((conv => whnf); first | (with_reducible exact trivial) | ((with_reducible refine and_ff ?_ ?_); · exact rfl) | ((with_reducible refine and_tt ?_ ?_); · exact rfl) | (with_reducible refine And.intro ?_ ?_) | intro _ | (with_reducible refine fin2 hk ?_) | ((with_reducible refine eq_leaf ?_); exact rfl) | exact trivial))
      all_goals try ((first | with_reducible refine (?_ : (_ : Int) ≤ _) | with_reducible refine (?_ : (_ : Int) < _) | with_reducible refine (?_ : (_ : Nat) < _)); clear hk; try unfold i64 at *; first | decide | omega)
      clear hk
      conv => whnf
      refine ⟨1, ?_⟩
      repeat' (first | ((with_reducible refine kok ?_); kernel_rfl) | ((with_reducible refine keq_mk ?_); kernel_rfl) | with_reducible rfl | ((conv => whnf); first | (with_reducible exact trivial) | ((with_reducible refine and_ff ?_ ?_); · exact rfl) | ((with_reducible refine and_tt ?_ ?_); · exact rfl) | (with_reducible refine And.intro ?_ ?_) | intro _ | (with_reducible refine fin2 hk ?_) | ((with_reducible refine eq_leaf ?_); exact rfl) | exact trivial))
      all_goals first
        | rfl
        | decide
        | skip
    · repeat' (first | ((with_reducible refine kok ?_); kernel_rfl) | ((with_reducible refine keq_mk ?_); kernel_rfl) | with_reducible rfl | ((conv => whnf); first | (with_reducible exact trivial) | ((with_reducible refine and_ff ?_ ?_); · exact rfl) | ((with_reducible refine and_tt ?_ ?_); · exact rfl) | (with_reducible refine And.intro ?_ ?_) | intro _ | (with_reducible refine fin2 hk ?_) | ((with_reducible refine eq_leaf ?_); exact rfl) | exact trivial))
      all_goals try ((first | with_reducible refine (?_ : (_ : Int) ≤ _) | with_reducible refine (?_ : (_ : Int) < _) | with_reducible refine (?_ : (_ : Nat) < _)); clear hk; try unfold i64 at *; first | decide | omega)
      clear hk
      conv => whnf
      refine ⟨2, ?_⟩
      repeat' (first | ((with_reducible refine kok ?_); kernel_rfl) | ((with_reducible refine keq_mk ?_); kernel_rfl) | with_reducible rfl | ((conv => whnf); first | (with_reducible exact trivial) | ((with_reducible refine and_ff ?_ ?_); · exact rfl) | ((with_reducible refine and_tt ?_ ?_); · exact rfl) | (with_reducible refine And.intro ?_ ?_) | intro _ | (with_reducible refine fin2 hk ?_) | ((with_reducible refine eq_leaf ?_); exact rfl) | exact trivial))
      all_goals first
        | rfl
        | decide
        | skip
    · repeat' (first | ((with_reducible refine kok ?_); kernel_rfl) | ((with_reducible refine keq_mk ?_); kernel_rfl) | with_reducible rfl | ((conv => whnf); first | (with_reducible exact trivial) | ((with_reducible refine and_ff ?_ ?_); · exact rfl) | ((with_reducible refine and_tt ?_ ?_); · exact rfl) | (with_reducible refine And.intro ?_ ?_) | intro _ | (with_reducible refine fin2 hk ?_) | ((with_reducible refine eq_leaf ?_); exact rfl) | exact trivial))
      all_goals try ((first | with_reducible refine (?_ : (_ : Int) ≤ _) | with_reducible refine (?_ : (_ : Int) < _) | with_reducible refine (?_ : (_ : Nat) < _)); clear hk; try unfold i64 at *; first | decide | omega)
      clear hk
      conv => whnf
      refine ⟨3, ?_⟩
      repeat' (first | ((with_reducible refine kok ?_); kernel_rfl) | ((with_reducible refine keq_mk ?_); kernel_rfl) | with_reducible rfl | ((conv => whnf); first | (with_reducible exact trivial) | ((with_reducible refine and_ff ?_ ?_); · exact rfl) | ((with_reducible refine and_tt ?_ ?_); · exact rfl) | (with_reducible refine And.intro ?_ ?_) | intro _ | (with_reducible refine fin2 hk ?_) | ((with_reducible refine eq_leaf ?_); exact rfl) | exact trivial))
      all_goals first
        | rfl
        | decide
        | skip
    · repeat' (first | ((with_reducible refine kok ?_); kernel_rfl) | ((with_reducible refine keq_mk ?_); kernel_rfl) | with_reducible rfl | ((conv => whnf); first | (with_reducible exact trivial) | ((with_reducible refine and_ff ?_ ?_); · exact rfl) | ((with_reducible refine and_tt ?_ ?_); · exact rfl) | (with_reducible refine And.intro ?_ ?_) | intro _ | (with_reducible refine fin2 hk ?_) | ((with_reducible refine eq_leaf ?_); exact rfl) | exact trivial))
      all_goals first
        | rfl
        | skip
  · rename_i a0 a1 a2 a3 a4 a5 b0 b1 b2 b3 b4 b5
    refine ⟨[.agg [.int .i64 a0, .int .i64 a1, .int .i64 a2, .int .i64 a3, .int .i64 a4, .int .i64 a5], .agg [.int .i64 b0, .int .i64 b1, .int .i64 b2, .int .i64 b3, .int .i64 b4, .int .i64 b5], .fn 111 [] []], rfl, rfl, rfl, rfl, rfl, rfl, rfl, rfl, rfl, rfl, rfl, rfl, rfl, ?_⟩
    obtain ⟨h0, h1, h2⟩ := hp
    unfold miP at h0 h1 h2
    repeat' (first | ((with_reducible refine kok ?_); kernel_rfl) | ((with_reducible refine keq_mk ?_); kernel_rfl) | with_reducible rfl | ((conv => whnf); first | (with_reducible exact trivial) | ((with_reducible refine and_ff ?_ ?_); · exact rfl) | ((with_reducible refine and_tt ?_ ?_); · exact rfl) | (with_reducible refine And.intro ?_ ?_) | intro _ | (with_reducible refine fin2 hk ?_) | ((with_reducible refine eq_leaf ?_); exact rfl) | exact trivial))
    conv => whnf
    refine ⟨Nat, fun i => [(2, .fn 111 [] []), (3, .ptr 0 0), (4, .ptr 1 0), (6, .ptr 2 0), (8, .int .i64 i)], fun i => [some (.row [.int .i64 a0, .int .i64 a1, .int .i64 a2, .int .i64 a3, .int .i64 a4, .int .i64 a5]), some (.row [.int .i64 b0, .int .i64 b1, .int .i64 b2, .int .i64 b3, .int .i64 b4, .int .i64 b5]), some (.row [.int .i64 (pick 0 i (miL a0 a1 b0 b1)), .int .i64 (pick 0 i (miH a0 a1 b0 b1)), .int .i64 (pick 1 i (miL a2 a3 b2 b3)), .int .i64 (pick 1 i (miH a2 a3 b2 b3)), .int .i64 (pick 2 i (miL a4 a5 b4 b5)), .int .i64 (pick 2 i (miH a4 a5 b4 b5))])], fun i => 3 - i, fun i => i ≤ 3, [], 0, fun _ => ⟨rfl, rfl⟩, ?_, fun i hi => ?_⟩
    · clear hk
      repeat' (first | ((with_reducible refine kok ?_); kernel_rfl) | ((with_reducible refine keq_mk ?_); kernel_rfl) | with_reducible rfl | ((conv => whnf); first | (with_reducible exact trivial) | ((with_reducible refine and_ff ?_ ?_); · exact rfl) | ((with_reducible refine and_tt ?_ ?_); · exact rfl) | (with_reducible refine And.intro ?_ ?_) | intro _ | (with_reducible refine fin2 hk ?_) | ((with_reducible refine eq_leaf ?_); exact rfl) | exact trivial))
      all_goals first
        | exact Nat.zero_le _
        | rfl
        | skip
    have hi : i = 0 ∨ i = 1 ∨ i = 2 ∨ i = 3 := by
      have hi : i ≤ 3 := hi
      omega
    rcases hi with rfl | rfl | rfl | rfl
    · repeat' (first | ((with_reducible refine kok ?_); kernel_rfl) | ((with_reducible refine keq_mk ?_); kernel_rfl) | with_reducible rfl | ((conv => whnf); first | (with_reducible exact trivial) | ((with_reducible refine and_ff ?_ ?_); · exact rfl) | ((with_reducible refine and_tt ?_ ?_); · exact rfl) | (with_reducible refine And.intro ?_ ?_) | intro _ | (with_reducible refine fin2 hk ?_) | ((with_reducible refine eq_leaf ?_); exact rfl) | exact trivial))
      all_goals try ((first | with_reducible refine (?_ : (_ : Int) ≤ _) | with_reducible refine (?_ : (_ : Int) < _) | with_reducible refine (?_ : (_ : Nat) < _)); clear hk; try unfold i64 at *; first | decide | omega)
      clear hk
      conv => whnf
      refine ⟨1, ?_⟩
      repeat' (first | ((with_reducible refine kok ?_); kernel_rfl) | ((with_reducible refine keq_mk ?_); kernel_rfl) | with_reducible rfl | ((conv => whnf); first | (with_reducible exact trivial) | ((with_reducible refine and_ff ?_ ?_); · exact rfl) | ((with_reducible refine and_tt ?_ ?_); · exact rfl) | (with_reducible refine And.intro ?_ ?_) | intro _ | (with_reducible refine fin2 hk ?_) | ((with_reducible refine eq_leaf ?_); exact rfl) | exact trivial))
      all_goals first
        | rfl
        | decide
        | skip
    · repeat' (first | ((with_reducible refine kok ?_); kernel_rfl) | ((with_reducible refine keq_mk ?_); kernel_rfl) | with_reducible rfl | ((conv => whnf); first | (with_reducible exact trivial) | ((with_reducible refine and_ff ?_ ?_); · exact rfl) | ((with_reducible refine and_tt ?_ ?_); · exact rfl) | (with_reducible refine And.intro ?_ ?_) | intro _ | (with_reducible refine fin2 hk ?_) | ((with_reducible refine eq_leaf ?_); exact rfl) | exact trivial))
      all_goals try ((first | with_reducible refine (?_ : (_ : Int) ≤ _) | with_reducible refine (?_ : (_ : Int) < _) | with_reducible refine (?_ : (_ : Nat) < _)); clear hk; try unfold i64 at *; first | decide | omega)
      clear hk
      conv => whnf
      refine ⟨2, ?_⟩
      repeat' (first | ((with_reducible refine kok ?_); kernel_rfl) | ((with_reducible refine keq_mk ?_); kernel_rfl) | with_reducible rfl | ((conv => whnf); first | (with_reducible exact trivial) | ((with_reducible refine and_ff ?_ ?_); · exact rfl) | ((with_reducible refine and_tt ?_ ?_); · exact rfl) | (with_reducible refine And.intro ?_ ?_) | intro _ | (with_reducible refine fin2 hk ?_) | ((with_reducible refine eq_leaf ?_); exact rfl) | exact trivial))
      all_goals first
        | rfl
        | decide
        | skip
    · repeat' (first | ((with_reducible refine kok ?_); kernel_rfl) | ((with_reducible refine keq_mk ?_); kernel_rfl) | with_reducible rfl | ((conv => whnf); first | (with_reducible exact trivial) | ((with_reducible refine and_ff ?_ ?_); · exact rfl) | ((with_reducible refine and_tt ?_ ?_); · exact rfl) | (with_reducible refine And.intro ?_ ?_) | intro _ | (with_reducible refine fin2 hk ?_) | ((with_reducible refine eq_leaf ?_); exact rfl) | exact trivial))
      all_goals try ((first | with_reducible refine (?_ : (_ : Int) ≤ _) | with_reducible refine (?_ : (_ : Int) < _) | with_reducible refine (?_ : (_ : Nat) < _)); clear hk; try unfold i64 at *; first | decide | omega)
      clear hk
      conv => whnf
      refine ⟨3, ?_⟩
      repeat' (first | ((with_reducible refine kok ?_); kernel_rfl) | ((with_reducible refine keq_mk ?_); kernel_rfl) | with_reducible rfl | ((conv => whnf); first | (with_reducible exact trivial) | ((with_reducible refine and_ff ?_ ?_); · exact rfl) | ((with_reducible refine and_tt ?_ ?_); · exact rfl) | (with_reducible refine And.intro ?_ ?_) | intro _ | (with_reducible refine fin2 hk ?_) | ((with_reducible refine eq_leaf ?_); exact rfl) | exact trivial))
      all_goals first
        | rfl
        | decide
        | skip
    · repeat' (first | ((with_reducible refine kok ?_); kernel_rfl) | ((with_reducible refine keq_mk ?_); kernel_rfl) | with_reducible rfl | ((conv => whnf); first | (with_reducible exact trivial) | ((with_reducible refine and_ff ?_ ?_); · exact rfl) | ((with_reducible refine and_tt ?_ ?_); · exact rfl) | (with_reducible refine And.intro ?_ ?_) | intro _ | (with_reducible refine fin2 hk ?_) | ((with_reducible refine eq_leaf ?_); exact rfl) | exact trivial))
      all_goals first
        | rfl
        | skip
  · rename_i a0 a1 a2 a3 a4 a5 b0 b1 b2 b3 b4 b5
    refine ⟨[.agg [.int .i64 a0, .int .i64 a1, .int .i64 a2, .int .i64 a3, .int .i64 a4, .int .i64 a5], .agg [.int .i64 b0, .int .i64 b1, .int .i64 b2, .int .i64 b3, .int .i64 b4, .int .i64 b5], .fn 81 [] []], rfl, rfl, rfl, rfl, rfl, rfl, rfl, rfl, rfl, rfl, rfl, rfl, rfl, ?_⟩
    obtain ⟨h0, h1, h2⟩ := hp
    unfold huP at h0 h1 h2
    repeat' (first | ((with_reducible refine kok ?_); kernel_rfl) | ((with_reducible refine keq_mk ?_); kernel_rfl) | with_reducible rfl | ((conv => whnf); first | (with_reducible exact trivial) | ((with_reducible refine and_ff ?_ ?_); · exact rfl) | ((with_reducible refine and_tt ?_ ?_); · exact rfl) | (with_reducible refine And.intro ?_ ?_) | intro _ | (with_reducible refine fin2 hk ?_) | ((with_reducible refine eq_leaf ?_); exact rfl) | exact trivial))
    conv => whnf
    refine ⟨Nat, fun i => [(2, .fn 81 [] []), (3, .ptr 0 0), (4, .ptr 1 0), (6, .ptr 2 0), (8, .int .i64 i)], fun i => [some (.row [.int .i64 a0, .int .i64 a1, .int .i64 a2, .int .i64 a3, .int .i64 a4, .int .i64 a5]), some (.row [.int .i64 b0, .int .i64 b1, .int .i64 b2, .int .i64 b3, .int .i64 b4, .int .i64 b5]), some (.row [.int .i64 (pick 0 i (huL a0 a1 b0 b1)), .int .i64 (pick 0 i (huH a0 a1 b0 b1)), .int .i64 (pick 1 i (huL a2 a3 b2 b3)), .int .i64 (pick 1 i (huH a2 a3 b2 b3)), .int .i64 (pick 2 i (huL a4 a5 b4 b5)), .int .i64 (pick 2 i (huH a4 a5 b4 b5))])], fun i => 3 - i, fun i => i ≤ 3, [], 0, fun _ => ⟨rfl, rfl⟩, ?_, fun i hi => ?_⟩
    · clear hk
      repeat' (first | ((with_reducible refine kok ?_); kernel_rfl) | ((with_reducible refine keq_mk ?_); kernel_rfl) | with_reducible rfl | ((conv => whnf); first | (with_reducible exact trivial) | ((with_reducible refine and_ff ?_ ?_); · exact rfl) | ((with_reducible refine and_tt ?_ ?_); · exact rfl) | (with_reducible refine And.intro ?_ ?_) | intro _ | (with_reducible refine fin2 hk ?_) | ((with_reducible refine eq_leaf ?_); exact rfl) | exact trivial))
      all_goals first
        | exact Nat.zero_le _
        | rfl
        | skip
    have hi : i = 0 ∨ i = 1 ∨ i = 2 ∨ i = 3 := by
      have hi : i ≤ 3 := hi
      omega
    rcases hi with rfl | rfl | rfl | rfl
    · repeat' (first | ((with_reducible refine kok ?_); kernel_rfl) | ((with_reducible refine keq_mk ?_); kernel_rfl) | with_reducible rfl | ((conv => whnf); first | (with_reducible exact trivial) | ((with_reducible refine and_ff ?_ ?_); · exact rfl) | ((with_reducible refine and_tt ?_ ?_); · exact rfl) | (with_reducible refine And.intro ?_ ?_) | intro _ | (with_reducible refine fin2 hk ?_) | ((with_reducible refine eq_leaf ?_); exact rfl) | exact trivial))
      all_goals try ((first | with_reducible refine (?_ : (_ : Int) ≤ _) | with_reducible refine (?_ : (_ : Int) < _) | with_reducible refine (?_ : (_ : Nat) < _)); clear hk; try unfold i64 at *; first | decide | omega)
      clear hk
      conv => whnf
      refine ⟨1, ?_⟩
      repeat' (first | ((with_reducible refine kok ?_); kernel_rfl) | ((with_reducible refine keq_mk ?_); kernel_rfl) | with_reducible rfl | ((conv => whnf); first | (with_reducible exact trivial) | ((with_reducible refine and_ff ?_ ?_); · exact rfl) | ((with_reducible refine and_tt ?_ ?_); · exact rfl) | (with_reducible refine And.intro ?_ ?_) | intro _ | (with_reducible refine fin2 hk ?_) | ((with_reducible refine eq_leaf ?_); exact rfl) | exact trivial))
      all_goals first
        | rfl
        | decide
        | skip
    · repeat' (first | ((with_reducible refine kok ?_); kernel_rfl) | ((with_reducible refine keq_mk ?_); kernel_rfl) | with_reducible rfl | ((conv => whnf); first | (with_reducible exact trivial) | ((with_reducible refine and_ff ?_ ?_); · exact rfl) | ((with_reducible refine and_tt ?_ ?_); · exact rfl) | (with_reducible refine And.intro ?_ ?_) | intro _ | (with_reducible refine fin2 hk ?_) | ((with_reducible refine eq_leaf ?_); exact rfl) | exact trivial))
      all_goals try ((first | with_reducible refine (?_ : (_ : Int) ≤ _) | with_reducible refine (?_ : (_ : Int) < _) | with_reducible refine (?_ : (_ : Nat) < _)); clear hk; try unfold i64 at *; first | decide | omega)
      clear hk
      conv => whnf
      refine ⟨2, ?_⟩
      repeat' (first | ((with_reducible refine kok ?_); kernel_rfl) | ((with_reducible refine keq_mk ?_); kernel_rfl) | with_reducible rfl | ((conv => whnf); first | (with_reducible exact trivial) | ((with_reducible refine and_ff ?_ ?_); · exact rfl) | ((with_reducible refine and_tt ?_ ?_); · exact rfl) | (with_reducible refine And.intro ?_ ?_) | intro _ | (with_reducible refine fin2 hk ?_) | ((with_reducible refine eq_leaf ?_); exact rfl) | exact trivial))
      all_goals first
        | rfl
        | decide
        | skip
    · repeat' (first | ((with_reducible refine kok ?_); kernel_rfl) | ((with_reducible refine keq_mk ?_); kernel_rfl) | with_reducible rfl | ((conv => whnf); first | (with_reducible exact trivial) | ((with_reducible refine and_ff ?_ ?_); · exact rfl) | ((with_reducible refine and_tt ?_ ?_); · exact rfl) | (with_reducible refine And.intro ?_ ?_) | intro _ | (with_reducible refine fin2 hk ?_) | ((with_reducible refine eq_leaf ?_); exact rfl) | exact trivial))
      all_goals try ((first | with_reducible refine (?_ : (_ : Int) ≤ _) | with_reducible refine (?_ : (_ : Int) < _) | with_reducible refine (?_ : (_ : Nat) < _)); clear hk; try unfold i64 at *; first | decide | omega)
      clear hk
      conv => whnf
      refine ⟨3, ?_⟩
      repeat' (first | ((with_reducible refine kok ?_); kernel_rfl) | ((with_reducible refine keq_mk ?_); kernel_rfl) | with_reducible rfl | ((conv => whnf); first | (with_reducible exact trivial) | ((with_reducible refine and_ff ?_ ?_); · exact rfl) | ((with_reducible refine and_tt ?_ ?_); · exact rfl) | (with_reducible refine And.intro ?_ ?_) | intro _ | (with_reducible refine fin2 hk ?_) | ((with_reducible refine eq_leaf ?_); exact rfl) | exact trivial))
      all_goals first
        | rfl
        | decide
        | skip
    · repeat' (first | ((with_reducible refine kok ?_); kernel_rfl) | ((with_reducible refine keq_mk ?_); kernel_rfl) | with_reducible rfl | ((conv => whnf); first | (with_reducible exact trivial) | ((with_reducible refine and_ff ?_ ?_); · exact rfl) | ((with_reducible refine and_tt ?_ ?_); · exact rfl) | (with_reducible refine And.intro ?_ ?_) | intro _ | (with_reducible refine fin2 hk ?_) | ((with_reducible refine eq_leaf ?_); exact rfl) | exact trivial))
      all_goals first
        | rfl
        | skip
  · rename_i a0 a1 a2 a3 a4 a5 b0 b1 b2 b3 b4 b5 g
    refine ⟨[.agg [.int .i64 a0, .int .i64 a1, .int .i64 a2, .int .i64 a3, .int .i64 a4, .int .i64 a5], .agg [.int .i64 b0, .int .i64 b1, .int .i64 b2, .int .i64 b3, .int .i64 b4, .int .i64 b5], .fn 115 [] [.eptr 12 g]], rfl, rfl, rfl, rfl, rfl, rfl, rfl, rfl, rfl, rfl, rfl, rfl, rfl, ?_⟩
    obtain ⟨⟨hg, hB⟩, ⟨k0, k1, k2, k3, k4, k5⟩, l0, l1, l2, l3, l4, l5⟩ := hp
    repeat' (first | ((with_reducible refine kok ?_); kernel_rfl) | ((with_reducible refine keq_mk ?_); kernel_rfl) | with_reducible rfl | ((conv => whnf); first | (with_reducible exact trivial) | ((with_reducible refine and_ff ?_ ?_); · exact rfl) | ((with_reducible refine and_tt ?_ ?_); · exact rfl) | (with_reducible refine And.intro ?_ ?_) | intro _ | (with_reducible refine fin2 hk ?_) | ((with_reducible refine eq_leaf ?_); exact rfl) | exact trivial))
    conv => whnf
    refine ⟨Nat, fun i => [(2, .fn 115 [] [.eptr 12 g]), (3, .ptr 0 0), (4, .ptr 1 0), (6, .ptr 2 0), (8, .int .i64 i)], fun i => [some (.row [.int .i64 a0, .int .i64 a1, .int .i64 a2, .int .i64 a3, .int .i64 a4, .int .i64 a5]), some (.row [.int .i64 b0, .int .i64 b1, .int .i64 b2, .int .i64 b3, .int .i64 b4, .int .i64 b5]), some (.row [.int .i64 (pick 0 i (fc1L (fun i => toI (g i)) a0 a1 b0 b1)), .int .i64 (pick 0 i (fc1H (fun i => toI (g i)) a0 a1 b0 b1)), .int .i64 (pick 1 i (fc1L (fun i => toI (g i)) a2 a3 b2 b3)), .int .i64 (pick 1 i (fc1H (fun i => toI (g i)) a2 a3 b2 b3)), .int .i64 (pick 2 i (fc1L (fun i => toI (g i)) a4 a5 b4 b5)), .int .i64 (pick 2 i (fc1H (fun i => toI (g i)) a4 a5 b4 b5))])], fun i => 3 - i, fun i => i ≤ 3, [], 0, fun _ => ⟨rfl, rfl⟩, ?_, fun i hi => ?_⟩
    · clear hk
      repeat' (first | ((with_reducible refine kok ?_); kernel_rfl) | ((with_reducible refine keq_mk ?_); kernel_rfl) | with_reducible rfl | ((conv => whnf); first | (with_reducible exact trivial) | ((with_reducible refine and_ff ?_ ?_); · exact rfl) | ((with_reducible refine and_tt ?_ ?_); · exact rfl) | (with_reducible refine And.intro ?_ ?_) | intro _ | (with_reducible refine fin2 hk ?_) | ((with_reducible refine eq_leaf ?_); exact rfl) | exact trivial))
      all_goals first
        | exact Nat.zero_le _
        | rfl
        | skip
    have hi : i = 0 ∨ i = 1 ∨ i = 2 ∨ i = 3 := by
      have hi : i ≤ 3 := hi
      omega
    rcases hi with rfl | rfl | rfl | rfl
    · repeat' (first | ((with_reducible refine kok ?_); kernel_rfl) | ((with_reducible refine keq_mk ?_); kernel_rfl) | with_reducible rfl | ((conv => whnf); first | (with_reducible exact trivial) | ((with_reducible refine and_ff ?_ ?_); · exact rfl) | ((with_reducible refine and_tt ?_ ?_); · exact rfl) | (with_reducible refine And.intro ?_ ?_) | intro _ | (with_reducible refine fin2 hk ?_) | ((with_reducible refine eq_leaf ?_); exact rfl) | exact trivial))
      all_goals try (clear hk; assumption)
      all_goals try (clear hk; first | decide | omega)
      all_goals try (rename_i q; first | exact hg _ q | exact hh _ q)
      all_goals try ((first | with_reducible refine (?_ : (_ : Int) ≤ _) | with_reducible refine (?_ : (_ : Int) < _) | with_reducible refine (?_ : (_ : Nat) < _)); clear hk; unfold btw at *; omega)
      clear hk
      conv => whnf
      refine ⟨1, ?_⟩
      repeat' (first | ((with_reducible refine kok ?_); kernel_rfl) | ((with_reducible refine keq_mk ?_); kernel_rfl) | with_reducible rfl | ((conv => whnf); first | (with_reducible exact trivial) | ((with_reducible refine and_ff ?_ ?_); · exact rfl) | ((with_reducible refine and_tt ?_ ?_); · exact rfl) | (with_reducible refine And.intro ?_ ?_) | intro _ | (with_reducible refine fin2 hk ?_) | ((with_reducible refine eq_leaf ?_); exact rfl) | exact trivial))
      all_goals first
        | rfl
        | decide
        | skip
    · repeat' (first | ((with_reducible refine kok ?_); kernel_rfl) | ((with_reducible refine keq_mk ?_); kernel_rfl) | with_reducible rfl | ((conv => whnf); first | (with_reducible exact trivial) | ((with_reducible refine and_ff ?_ ?_); · exact rfl) | ((with_reducible refine and_tt ?_ ?_); · exact rfl) | (with_reducible refine And.intro ?_ ?_) | intro _ | (with_reducible refine fin2 hk ?_) | ((with_reducible refine eq_leaf ?_); exact rfl) | exact trivial))
      all_goals try (clear hk; assumption)
      all_goals try (clear hk; first | decide | omega)
      all_goals try (rename_i q; first | exact hg _ q | exact hh _ q)
      all_goals try ((first | with_reducible refine (?_ : (_ : Int) ≤ _) | with_reducible refine (?_ : (_ : Int) < _) | with_reducible refine (?_ : (_ : Nat) < _)); clear hk; unfold btw at *; omega)
      clear hk
      conv => whnf
      refine ⟨2, ?_⟩
      repeat' (first | ((with_reducible refine kok ?_); kernel_rfl) | ((with_reducible refine keq_mk ?_); kernel_rfl) | with_reducible rfl | ((conv => whnf); first | (with_reducible exact trivial) | ((with_reducible refine and_ff ?_ ?_); · exact rfl) | ((with_reducible refine and_tt ?_ ?_); · exact rfl) | (with_reducible refine And.intro ?_ ?_) | intro _ | (with_reducible refine fin2 hk ?_) | ((with_reducible refine eq_leaf ?_); exact rfl) | exact trivial))
      all_goals first
        | rfl
        | decide
        | skip
    · repeat' (first | ((with_reducible refine kok ?_); kernel_rfl) | ((with_reducible refine keq_mk ?_); kernel_rfl) | with_reducible rfl | ((conv => whnf); first | (with_reducible exact trivial) | ((with_reducible refine and_ff ?_ ?_); · exact rfl) | ((with_reducible refine and_tt ?_ ?_); · exact rfl) | (with_reducible refine And.intro ?_ ?_) | intro _ | (with_reducible refine fin2 hk ?_) | ((with_reducible refine eq_leaf ?_); exact rfl) | exact trivial))
      all_goals try (clear hk; assumption)
      all_goals try (clear hk; first | decide | omega)
      all_goals try (rename_i q; first | exact hg _ q | exact hh _ q)
      all_goals try ((first | with_reducible refine (?_ : (_ : Int) ≤ _) | with_reducible refine (?_ : (_ : Int) < _) | with_reducible refine (?_ : (_ : Nat) < _)); clear hk; unfold btw at *; omega)
      clear hk
      conv => whnf
      refine ⟨3, ?_⟩
      repeat' (first | ((with_reducible refine kok ?_); kernel_rfl) | ((with_reducible refine keq_mk ?_); kernel_rfl) | with_reducible rfl | ((conv => whnf); first | (with_reducible exact trivial) | ((with_reducible refine and_ff ?_ ?_); · exact rfl) | ((with_reducible refine and_tt ?_ ?_); · exact rfl) | (with_reducible refine And.intro ?_ ?_) | intro _ | (with_reducible refine fin2 hk ?_) | ((with_reducible refine eq_leaf ?_); exact rfl) | exact trivial))
      all_goals first
        | rfl
        | decide
        | skip
    · repeat' (first | ((with_reducible refine kok ?_); kernel_rfl) | ((with_reducible refine keq_mk ?_); kernel_rfl) | with_reducible rfl | ((conv => whnf); first | (with_reducible exact trivial) | ((with_reducible refine and_ff ?_ ?_); · exact rfl) | ((with_reducible refine and_tt ?_ ?_); · exact rfl) | (with_reducible refine And.intro ?_ ?_) | intro _ | (with_reducible refine fin2 hk ?_) | ((with_reducible refine eq_leaf ?_); exact rfl) | exact trivial))
      all_goals first
        | rfl
        | skip
  · rename_i a0 a1 a2 a3 a4 a5 b0 b1 b2 b3 b4 b5 h g
    refine ⟨[.agg [.int .i64 a0, .int .i64 a1, .int .i64 a2, .int .i64 a3, .int .i64 a4, .int .i64 a5], .agg [.int .i64 b0, .int .i64 b1, .int .i64 b2, .int .i64 b3, .int .i64 b4, .int .i64 b5], .fn 117 [] [.eptr 2 h, .eptr 12 g]], rfl, rfl, rfl, rfl, rfl, rfl, rfl, rfl, rfl, rfl, rfl, rfl, rfl, ?_⟩
    obtain ⟨⟨hg, hB⟩, ⟨hh, r0, r1⟩, ⟨k0, k1, k2, k3, k4, k5⟩, l0, l1, l2, l3, l4, l5⟩ := hp
    repeat' (first | ((with_reducible refine kok ?_); kernel_rfl) | ((with_reducible refine keq_mk ?_); kernel_rfl) | with_reducible rfl | ((conv => whnf); first | (with_reducible exact trivial) | ((with_reducible refine and_ff ?_ ?_); · exact rfl) | ((with_reducible refine and_tt ?_ ?_); · exact rfl) | (with_reducible refine And.intro ?_ ?_) | intro _ | (with_reducible refine fin2 hk ?_) | ((with_reducible refine eq_leaf ?_); exact rfl) | exact trivial))
    conv => whnf
    refine ⟨Nat, fun i => [(2, .fn 117 [] [.eptr 2 h, .eptr 12 g]), (3, .ptr 0 0), (4, .ptr 1 0), (6, .ptr 2 0), (8, .int .i64 i)], fun i => [some (.row [.int .i64 a0, .int .i64 a1, .int .i64 a2, .int .i64 a3, .int .i64 a4, .int .i64 a5]), some (.row [.int .i64 b0, .int .i64 b1, .int .i64 b2, .int .i64 b3, .int .i64 b4, .int .i64 b5]), some (.row [.int .i64 (pick 0 i (fc2L (fun i => toI (g i)) (toI (h 0)) (toI (h 1)) a0 a1 b0 b1)), .int .i64 (pick 0 i (fc2H (fun i => toI (g i)) (toI (h 0)) (toI (h 1)) a0 a1 b0 b1)), .int .i64 (pick 1 i (fc2L (fun i => toI (g i)) (toI (h 0)) (toI (h 1)) a2 a3 b2 b3)), .int .i64 (pick 1 i (fc2H (fun i => toI (g i)) (toI (h 0)) (toI (h 1)) a2 a3 b2 b3)), .int .i64 (pick 2 i (fc2L (fun i => toI (g i)) (toI (h 0)) (toI (h 1)) a4 a5 b4 b5)), .int .i64 (pick 2 i (fc2H (fun i => toI (g i)) (toI (h 0)) (toI (h 1)) a4 a5 b4 b5))])], fun i => 3 - i, fun i => i ≤ 3, [], 0, fun _ => ⟨rfl, rfl⟩, ?_, fun i hi => ?_⟩
    · clear hk
      repeat' (first | ((with_reducible refine kok ?_); kernel_rfl) | ((with_reducible refine keq_mk ?_); kernel_rfl) | with_reducible rfl | ((conv => whnf); first | (with_reducible exact trivial) | ((with_reducible refine and_ff ?_ ?_); · exact rfl) | ((with_reducible refine and_tt ?_ ?_); · exact rfl) | (with_reducible refine And.intro ?_ ?_) | intro _ | (with_reducible refine fin2 hk ?_) | ((with_reducible refine eq_leaf ?_); exact rfl) | exact trivial))
      all_goals first
        | exact Nat.zero_le _
        | rfl
        | skip
    have hi : i = 0 ∨ i = 1 ∨ i = 2 ∨ i = 3 := by
      have hi : i ≤ 3 := hi
      omega
    rcases hi with rfl | rfl | rfl | rfl
    · repeat' (first | ((with_reducible refine kok ?_); kernel_rfl) | ((with_reducible refine keq_mk ?_); kernel_rfl) | with_reducible rfl | ((conv => whnf); first | (with_reducible exact trivial) | ((with_reducible refine and_ff ?_ ?_); · exact rfl) | ((with_reducible refine and_tt ?_ ?_); · exact rfl) | (with_reducible refine And.intro ?_ ?_) | intro _ | (with_reducible refine fin2 hk ?_) | ((with_reducible refine eq_leaf ?_); exact rfl) | exact trivial))
      all_goals try (clear hk; assumption)
      all_goals try (clear hk; first | decide | omega)
      all_goals try (rename_i q; first | exact hg _ q | exact hh _ q)
      all_goals try ((first | with_reducible refine (?_ : (_ : Int) ≤ _) | with_reducible refine (?_ : (_ : Int) < _) | with_reducible refine (?_ : (_ : Nat) < _)); clear hk; unfold btw at *; omega)
      clear hk
      conv => whnf
      refine ⟨1, ?_⟩
      repeat' (first | ((with_reducible refine kok ?_); kernel_rfl) | ((with_reducible refine keq_mk ?_); kernel_rfl) | with_reducible rfl | ((conv => whnf); first | (with_reducible exact trivial) | ((with_reducible refine and_ff ?_ ?_); · exact rfl) | ((with_reducible refine and_tt ?_ ?_); · exact rfl) | (with_reducible refine And.intro ?_ ?_) | intro _ | (with_reducible refine fin2 hk ?_) | ((with_reducible refine eq_leaf ?_); exact rfl) | exact trivial))
      all_goals first
        | rfl
        | decide
        | skip
    · repeat' (first | ((with_reducible refine kok ?_); kernel_rfl) | ((with_reducible refine keq_mk ?_); kernel_rfl) | with_reducible rfl | ((conv => whnf); first | (with_reducible exact trivial) | ((with_reducible refine and_ff ?_ ?_); · exact rfl) | ((with_reducible refine and_tt ?_ ?_); · exact rfl) | (with_reducible refine And.intro ?_ ?_) | intro _ | (with_reducible refine fin2 hk ?_) | ((with_reducible refine eq_leaf ?_); exact rfl) | exact trivial))
      all_goals try (clear hk; assumption)
      all_goals try (clear hk; first | decide | omega)
      all_goals try (rename_i q; first | exact hg _ q | exact hh _ q)
      all_goals try ((first | with_reducible refine (?_ : (_ : Int) ≤ _) | with_reducible refine (?_ : (_ : Int) < _) | with_reducible refine (?_ : (_ : Nat) < _)); clear hk; unfold btw at *; omega)
      clear hk
      conv => whnf
      refine ⟨2, ?_⟩
      repeat' (first | ((with_reducible refine kok ?_); kernel_rfl) | ((with_reducible refine keq_mk ?_); kernel_rfl) | with_reducible rfl | ((conv => whnf); first | (with_reducible exact trivial) | ((with_reducible refine and_ff ?_ ?_); · exact rfl) | ((with_reducible refine and_tt ?_ ?_); · exact rfl) | (with_reducible refine And.intro ?_ ?_) | intro _ | (with_reducible refine fin2 hk ?_) | ((with_reducible refine eq_leaf ?_); exact rfl) | exact trivial))
      all_goals first
        | rfl
        | decide
        | skip
    · repeat' (first | ((with_reducible refine kok ?_); kernel_rfl) | ((with_reducible refine keq_mk ?_); kernel_rfl) | with_reducible rfl | ((conv => whnf); first | (with_reducible exact trivial) | ((with_reducible refine and_ff ?_ ?_); · exact rfl) | ((with_reducible refine and_tt ?_ ?_); · exact rfl) | (with_reducible refine And.intro ?_ ?_) | intro _ | (with_reducible refine fin2 hk ?_) | ((with_reducible refine eq_leaf ?_); exact rfl) | exact trivial))
      all_goals try (clear hk; assumption)
      all_goals try (clear hk; first | decide | omega)
      all_goals try (rename_i q; first | exact hg _ q | exact hh _ q)
      all_goals try ((first | with_reducible refine (?_ : (_ : Int) ≤ _) | with_reducible refine (?_ : (_ : Int) < _) | with_reducible refine (?_ : (_ : Nat) < _)); clear hk; unfold btw at *; omega)
      clear hk
      conv => whnf
      refine ⟨3, ?_⟩
      repeat' (first | ((with_reducible refine kok ?_); kernel_rfl) | ((with_reducible refine keq_mk ?_); kernel_rfl) | with_reducible rfl | ((conv => whnf); first | (with_reducible exact trivial) | ((with_reducible refine and_ff ?_ ?_); · exact rfl) | ((with_reducible refine and_tt ?_ ?_); · exact rfl) | (with_reducible refine And.intro ?_ ?_) | intro _ | (with_reducible refine fin2 hk ?_) | ((with_reducible refine eq_leaf ?_); exact rfl) | exact trivial))
      all_goals first
        | rfl
        | decide
        | skip
    · repeat' (first | ((with_reducible refine kok ?_); kernel_rfl) | ((with_reducible refine keq_mk ?_); kernel_rfl) | with_reducible rfl | ((conv => whnf); first | (with_reducible exact trivial) | ((with_reducible refine and_ff ?_ ?_); · exact rfl) | ((with_reducible refine and_tt ?_ ?_); · exact rfl) | (with_reducible refine And.intro ?_ ?_) | intro _ | (with_reducible refine fin2 hk ?_) | ((with_reducible refine eq_leaf ?_); exact rfl) | exact trivial))
      all_goals first
        | rfl
        | skip
end Go.Proofs.YtphcblofacfkaaaGreat
end
