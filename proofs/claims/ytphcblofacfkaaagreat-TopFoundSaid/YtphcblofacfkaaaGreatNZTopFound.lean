/-
  The law TopFound is proved: a piece comes down to its floor in its impact, and from there by a parachute through winds within the bands; if the place where it lands agrees with all fixes, the search of the area in which it can land finds it by its last visit, or leaves its cell, which never opens, or is farther away than the fuel lasts, for any vehicle, shot, parachute, drift and search. No condition.
-/
import Derived.Test.YtphcblofacfkaaaGreatNj
import Derived.Test.YtphcblofacfkaaaGreatMs
set_option linter.unusedVariables false
set_option linter.unusedSimpArgs false
set_option maxRecDepth 100000
section
namespace Go.Proofs.YtphcblofacfkaaaGreat
open Go.V
def pieceK : List CK := [.str, .int .i64, .int .i64, .int .i64, .int .i64, .int .i64, .int .i64, .int .i64, .int .i64, .int .i64, .int .i64, .int .i64, .int .i64]
def vehK : AK := .agg [.str, .int .i64, .int .i64, .sl [.int .i64, .int .i64], .sl [.int .i64, .int .i64, .int .i64, .int .i64, .int .i64, .int .i64, .int .i64, .int .i64, .int .i64, .int .i64, .int .i64, .int .i64, .int .i64], .sl pieceK]
theorem veh_of_kinds {d : V.D} (h : IsA vehK d) : VehIs d ∧ (vehOf d).fits := by
  obtain ⟨ds, rfl, hl, h⟩ := h
  match ds, hl with
  | [d0, d1, d2, d3, d4, d5], _ =>
    obtain ⟨s, rfl, hs⟩ := h 0 _ _ rfl rfl
    obtain ⟨n1, rfl, _⟩ := h 1 _ _ rfl rfl
    obtain ⟨n2, rfl, _⟩ := h 2 _ _ rfl rfl
    obtain ⟨n3, g3, rfl, hn3, hg3⟩ := h 3 _ _ rfl rfl
    obtain ⟨n4, g4, rfl, hn4, hg4⟩ := h 4 _ _ rfl rfl
    obtain ⟨n5, g5, rfl, hn5, hg5⟩ := h 5 _ _ rfl rfl
    obtain ⟨s1, s2⟩ := SM_of hg5 rfl
    exact ⟨⟨IM_of hg3 rfl, IM_of hg4 rfl, s1⟩, hs, s2⟩
def shotK : AK := .agg [.int .i64, .int .i64, .int .i64, .sl [.int .i64, .int .i64, .int .i64, .int .i64, .int .i64, .int .i64], .int .i64, .int .i64]
theorem shot_of_kinds {d : V.D} (h : IsA shotK d) : ∃ x y z n g a b, d = .agg [.int .i64 x, .int .i64 y, .int .i64 z, .rsl 6 n g, .int .i64 a, .int .i64 b] ∧ IM n 6 g := by
  obtain ⟨ds, rfl, hl, h⟩ := h
  match ds, hl with
  | [d0, d1, d2, d3, d4, d5], _ =>
    obtain ⟨n0, rfl, _⟩ := h 0 _ _ rfl rfl
    obtain ⟨n1, rfl, _⟩ := h 1 _ _ rfl rfl
    obtain ⟨n2, rfl, _⟩ := h 2 _ _ rfl rfl
    obtain ⟨n3, g3, rfl, _, hg3⟩ := h 3 _ _ rfl rfl
    obtain ⟨n4, rfl, _⟩ := h 4 _ _ rfl rfl
    obtain ⟨n5, rfl, _⟩ := h 5 _ _ rfl rfl
    exact ⟨n0, n1, n2, n3, g3, n4, n5, rfl, IM_of hg3 rfl⟩
def lostK : AK := .agg [.int .i64, .int .i64, .int .i64, .int .u8, .int .u8, .int .u8, .int .u8, .sl [.int .u8], .int .i64, .int .i64, .int .i64, .int .i64, .int .i64, .sl [.int .i64, .int .i64, .int .i64, .int .i64, .int .i64], .sl [.str, .int .i64, .int .i64, .int .i64, .int .i64, .int .i64], .int .i64, .int .i64, .int .i64, .int .i64, .int .i64, .int .i64, .int .i64]
theorem lost_of_kinds {d : V.D} (hd : IsA lostK d) : ∃ (h f f' px py pt pf : Int) (m : Nat) (w : Nat → Nat → V.D) (xl xh yl yh sz : Int) (nf : Nat) (fx : Nat → Nat → V.D) (no : Nat) (ow : Nat → Nat → V.D) (bx bz st spd fu lo tu : Int),
    d = .agg [.int .i64 h, .int .i64 f, .int .i64 f', .int .u8 px, .int .u8 py, .int .u8 pt, .int .u8 pf, .rsl 1 m w, .int .i64 xl, .int .i64 xh, .int .i64 yl, .int .i64 yh, .int .i64 sz, .rsl 5 nf fx, .rsl 6 no ow, .int .i64 bx, .int .i64 bz, .int .i64 st, .int .i64 spd, .int .i64 fu, .int .i64 lo, .int .i64 tu] ∧
    ((U8 m w ∧ (∀ j, j < m → 0 ≤ toI (w j 0) ∧ toI (w j 0) ≤ 255)) ∧ m ≤ 9223372036854775807 ∧ (0 ≤ px ∧ px ≤ 255) ∧ (0 ≤ py ∧ py ≤ 255) ∧ (0 ≤ pt ∧ pt ≤ 255) ∧ 0 ≤ pf ∧ pf ≤ 255) ∧ IM nf 5 fx ∧ SM no 6 ow ∧ ∀ i, i < no → (nmOf ow i).size ≤ 9223372036854775807 := by
  obtain ⟨ds, rfl, hl, h⟩ := hd
  match ds, hl with
  | [d0, d1, d2, d3, d4, d5, d6, d7, d8, d9, d10, d11, d12, d13, d14, d15, d16, d17, d18, d19, d20, d21], _ =>
    obtain ⟨n0, rfl, _⟩ := h 0 _ _ rfl rfl
    obtain ⟨n1, rfl, _⟩ := h 1 _ _ rfl rfl
    obtain ⟨n2, rfl, _⟩ := h 2 _ _ rfl rfl
    obtain ⟨n3, rfl, a3, b3⟩ := h 3 _ _ rfl rfl
    obtain ⟨n4, rfl, a4, b4⟩ := h 4 _ _ rfl rfl
    obtain ⟨n5, rfl, a5, b5⟩ := h 5 _ _ rfl rfl
    obtain ⟨n6, rfl, a6, b6⟩ := h 6 _ _ rfl rfl
    obtain ⟨m, g, rfl, hm, hg⟩ := h 7 _ _ rfl rfl
    obtain ⟨n8, rfl, _⟩ := h 8 _ _ rfl rfl
    obtain ⟨n9, rfl, _⟩ := h 9 _ _ rfl rfl
    obtain ⟨n10, rfl, _⟩ := h 10 _ _ rfl rfl
    obtain ⟨n11, rfl, _⟩ := h 11 _ _ rfl rfl
    obtain ⟨n12, rfl, _⟩ := h 12 _ _ rfl rfl
    obtain ⟨n13, g13, rfl, hn13, hg13⟩ := h 13 _ _ rfl rfl
    obtain ⟨n14, g14, rfl, hn14, hg14⟩ := h 14 _ _ rfl rfl
    obtain ⟨n15, rfl, _⟩ := h 15 _ _ rfl rfl
    obtain ⟨n16, rfl, _⟩ := h 16 _ _ rfl rfl
    obtain ⟨n17, rfl, _⟩ := h 17 _ _ rfl rfl
    obtain ⟨n18, rfl, _⟩ := h 18 _ _ rfl rfl
    obtain ⟨n19, rfl, _⟩ := h 19 _ _ rfl rfl
    obtain ⟨n20, rfl, _⟩ := h 20 _ _ rfl rfl
    obtain ⟨n21, rfl, _⟩ := h 21 _ _ rfl rfl
    obtain ⟨s1, s2⟩ := SM_of hg14 rfl
    refine ⟨n0, n1, n2, n3, n4, n5, n6, m, g, n8, n9, n10, n11, n12, n13, g13, n14, g14, n15, n16, n17, n18, n19, n20, n21, rfl, ⟨⟨fun i j hi hj => ?_, fun j hj => ?_⟩, hm, ⟨a3, b3⟩, ⟨a4, b4⟩, ⟨a5, b5⟩, a6, b6⟩, IM_of hg13 rfl, s1, s2⟩
    · obtain rfl : j = 0 := by omega
      obtain ⟨v, e, _⟩ := hg i 0 _ hi rfl
      show g i 0 = V.D.int .u8 (toI (g i 0))
      rw [e]; rfl
    · obtain ⟨v, e, e1, e2⟩ := hg j 0 _ hj rfl
      rw [e]
      exact ⟨e1, e2⟩
theorem topFound_lifted (os : Os) (started : os.Started) (H : Type) (enc : TypeId × Value → H) :
    ReturnsInHanded {} Tryz.checked os 3 .any (Rows.topFoundSpec.pre6 enc Go.Proofs.Tryz.prog Tryz.f3 Rows.topFoundRow.domain false) (Rows.topFoundSpec.post enc Go.Proofs.Tryz.prog Tryz.f3 false Rows.topFoundRow.fresh Rows.topFoundRow.handsOn Rows.topFoundRow.again) := by
  refine returnsInHanded_of_change (C := Tryz.checked) own started (by kernel_rfl) Tryz.func3
    (ChangeSpec.witness6 (enc := enc) (C := Tryz.checked) false ⟨#[], #[.agg #[.string ⟨#[]⟩, .int .i64 0, .int .i64 0, .slice none 0 0, .slice none 0 0, .slice none 0 0], .agg #[.int .i64 0, .int .i64 0, .int .i64 0, .slice none 0 0, .int .i64 0, .int .i64 0], .agg #[.int .i64 0, .int .i64 0, .int .i64 0, .int .u8 0, .int .u8 0, .int .u8 0, .int .u8 0, .slice none 0 0, .int .i64 0, .int .i64 0, .int .i64 0, .int .i64 0, .int .i64 0, .slice none 0 0, .slice none 0 0, .int .i64 0, .int .i64 0, .int .i64 0, .int .i64 0, .int .i64 0, .int .i64 0, .int .i64 0]], []⟩ 8 (by kernel_rfl) (by kernel_rfl) (by kernel_rfl) (by kernel_rfl)) ?_
  intro W base args ds gs before hok hW _ _
  refine law_contract (l := [vehK, shotK, lostK]) (tb := 4) laid_ok top_ok (by kernel_rfl) (by kernel_rfl) rfl tbool (fun ds h => ?_) rfl (fun ds hd => ?_) W base args ds gs before hok hW
  · obtain ⟨d, e, q, rfl, h1, h2, h3⟩ := isAL3 h
    obtain ⟨x, y, z, n, g, a, b, rfl, hg⟩ := shot_of_kinds h2
    obtain ⟨hh, f, f', px, py, pt, pf, m, w, xl, xh, yl, yh, sz, nf, fx, no, ow, bx, bz, st, spd, fu, lo, tu, rfl, k1, k2⟩ := lost_of_kinds h3
    exact ⟨_, _, rfl, ⟨veh_of_kinds h1, hg, k1, k2⟩, .inl rfl⟩
  · match ds, hd with
    | [a, b, c], _ => exact ⟨rfl, rfl, rfl⟩
theorem topFound_holds : Rows.TopFoundSaid :=
  OpenClaim.holds_of_wide 3 Tryz.f3 rfl rfl rfl rfl rfl rfl rfl ⟨rfl, rfl, rfl, rfl, rfl⟩ rfl rfl rfl rfl rfl (by kernel_rfl) Tryz.func3 (by kernel_rfl)
    (of_decide_eq_true (by kernel_rfl)) (by unfold Func.isWrapper; first | (rw [if_pos (by decide +kernel)]; kernel_rfl) | (rw [if_neg (by decide +kernel)]; exact ⟨rfl, rfl⟩))
    (fun os started H enc _ => topFound_lifted os started H enc)
#print axioms topFound_holds
end Go.Proofs.YtphcblofacfkaaaGreat
end
