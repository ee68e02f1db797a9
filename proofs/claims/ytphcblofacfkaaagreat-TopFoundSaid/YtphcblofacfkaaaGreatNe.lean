/-
  Contracts of the flight: force (bounds).
-/
import Derived.Test.YtphcblofacfkaaaGreatNd
set_option linter.unusedVariables false
set_option linter.unusedSimpArgs false
set_option maxRecDepth 100000
set_option maxHeartbeats 4000000
section
namespace Go.Proofs.YtphcblofacfkaaaGreat
open Go.V
structure StOK (s : Nat → Int) : Prop where
  x : -2000000000 ≤ s 0 ∧ s 0 ≤ s 1 ∧ s 1 ≤ 2000000000
  y : -2000000000 ≤ s 2 ∧ s 2 ≤ s 3 ∧ s 3 ≤ 2000000000
  z : -2000000000 ≤ s 4 ∧ s 4 ≤ s 5 ∧ s 5 ≤ 2000000000
  u : -1000000 ≤ s 6 ∧ s 6 ≤ s 7 ∧ s 7 ≤ 1000000
  v : -1000000 ≤ s 8 ∧ s 8 ≤ s 9 ∧ s 9 ≤ 1000000
  w : -1000000 ≤ s 10 ∧ s 10 ≤ s 11 ∧ s 11 ≤ 1000000
theorem far_false {s : Nat → Int} (h : farB (n6 (s 0) (s 1) (s 2) (s 3) (s 4) (s 5)) (n6 (s 6) (s 7) (s 8) (s 9) (s 10) (s 11)) = false) : StOK s := by
  unfold farB at h
  rw [Bool.or_eq_false_iff] at h
  have h1 := wide_false h.1
  have h2 := wide_false h.2
  exact ⟨h1.1, h1.2.1, h1.2.2, h2.1, h2.2.1, h2.2.2⟩
def rForceF : QRule := fun ds K => match ds with
  | [.eptr 13 g, .agg [.int .i64 b0, .int .i64 b1, .int .i64 b2, .int .i64 b3, .int .i64 b4, .int .i64 b5, .int .i64 b6, .int .i64 b7, .int .i64 b8, .int .i64 b9, .int .i64 b10, .int .i64 b11], .agg [.int .i64 s0, .int .i64 s1, .int .i64 s2, .int .i64 s3, .int .i64 s4, .int .i64 s5, .int .i64 s6, .int .i64 s7, .int .i64 s8, .int .i64 s9, .int .i64 s10, .int .i64 s11]] =>
    (FltIs g ∧ BodyOK (n12 b0 b1 b2 b3 b4 b5 b6 b7 b8 b9 b10 b11) ∧ StOK (n12 s0 s1 s2 s3 s4 s5 s6 s7 s8 s9 s10 s11)) ∧ ∀ a : Nat → Int, (∀ j, j < 6 → btw 3000000000000000000 (a j)) → K (.ret (ax a))
  | _ => False
noncomputable def Lto : Libs := ⟨lt9, [(121, qC rSomeF), (110, qC rWindsF), (113, qC rAirF)], [], []⟩
theorem Lto_ok : LibsOK Go.Proofs.Tryz.prog Lto := ⟨lt9_ok, asGet_cons (csound_q fSome_ok) (asGet_cons (csound_q fWinds_ok) (asGet_cons (csound_q fAir_ok) (fun g s h => by cases h))), fun f r h => (by cases h), fun f r h => (by cases h)⟩
theorem body_congr {a b : Nat → Int} (h : BodyOK b) (e : ∀ i, i < 12 → a i = b i) : BodyOK a := by
  have e0 := e 0 (by decide)
  have e1 := e 1 (by decide)
  have e2 := e 2 (by decide)
  have e3 := e 3 (by decide)
  have e4 := e 4 (by decide)
  have e5 := e 5 (by decide)
  refine ⟨by rw [e0, e1]; exact h.push, by rw [e2, e3]; exact h.mass, by rw [e4, e5]; exact h.drag, fun i h1 h2 => by rw [e i h2]; exact h.tilt i h1 h2⟩
theorem fc1_bd {b : Nat → Int} (hB : BodyOK b) {d0 d1 t0 t1 : Int} (hd0 : btw 10000 d0) (hd1 : btw 10000 d1) (ht0 : btw 2000 t0) (ht1 : btw 2000 t1) : btw 240000000000 (fc1L b d0 d1 t0 t1) ∧ btw 240000000000 (fc1H b d0 d1 t0 t1) := by
  have hpu := hB.push
  have hm := hB.mass
  have q0 : btw 20000000 (b 0) := by unfold btw; omega
  have q1 : btw 20000000 (b 1) := by unfold btw; omega
  have r0 : btw 12000 (d0 + t0) := by unfold btw at *; omega
  have r1 : btw 12000 (d1 + t1) := by unfold btw at *; omega
  have m := mulL_bd q0 q1 r0 r1 (by decide) (by decide)
  exact ⟨(ov_bd (by omega) (by omega) (by decide) m.1).1, (ov_bd (by omega) (by omega) (by decide) m.2).2⟩
theorem fc2_bd {b : Nat → Int} (hB : BodyOK b) {r0 r1 t0 t1 v0 v1 : Int} (hr0 : btw 2000000000000 r0) (hr1 : btw 2000000000000 r1) (ht0 : btw 240000000000 t0) (ht1 : btw 240000000000 t1) (hv0 : btw 1020000 v0) (hv1 : btw 1020000 v1) :
    btw 2100000000000000000 (fc2L b r0 r1 t0 t1 v0 v1) ∧ btw 2100000000000000000 (fc2H b r0 r1 t0 t1 v0 v1) := by
  have hm := hB.mass
  have m := mulL_bd hr0 hr1 hv0 hv1 (by decide) (by decide)
  have o1 := ov_bd (c := b 2) (d := b 3) (n := 1000000000) (by omega) (by omega) (by decide) m.1
  have o2 := ov_bd (c := b 2) (d := b 3) (n := 1000000000) (by omega) (by omega) (by decide) m.2
  unfold fc2L fc2H
  have o3 := o1.1
  have o4 := o2.2
  generalize ovL (mulL r0 r1 v0 v1) (b 2) (b 3) 1000000000 = p at *
  generalize ovH (mulH r0 r1 v0 v1) (b 2) (b 3) 1000000000 = q at *
  unfold btw at *
  omega
theorem sq_sp {a b : Int} (h : -1020000 ≤ a ∧ a ≤ b ∧ b ≤ 1020000) : (0 ≤ sqLo a b ∧ sqLo a b ≤ 1050000000000) ∧ 0 ≤ sqHi a b ∧ sqHi a b ≤ 1050000000000 := by
  have key : ∀ x : Int, 0 ≤ x → x ≤ 1020000 → 0 ≤ x * x ∧ x * x ≤ 1050000000000 := fun x h1 h2 => by
    have p := Int.mul_nonneg h1 h1
    have q : x * x ≤ 1020000 * x := Int.mul_le_mul_of_nonneg_right h2 h1
    omega
  exact ⟨key _ (by omega) (by omega), key _ (by omega) (by omega)⟩
theorem root_sp {n : Int} (h : 0 ≤ n ∧ n ≤ 3150000000000) : (0 ≤ rootN n ∧ rootN n ≤ 1800000) ∧ 0 ≤ rootUp n ∧ rootUp n ≤ 1800001 := by
  have h1 := rootN_in h.1
  have h2 := root_le (n := n) (m := 1800000) h.1 (by decide) (by omega)
  unfold rootUp
  split <;> omega
theorem wind3_at {a : Nat → Int} (h : WindIs3 a) : (-20000 ≤ a 0 ∧ a 0 ≤ a 1 ∧ a 1 ≤ 20000) ∧ (-20000 ≤ a 2 ∧ a 2 ≤ a 3 ∧ a 3 ≤ 20000) ∧ a 4 = 0 ∧ a 5 = 0 := by
  obtain ⟨h1, h2, h3, h4, h5⟩ := h
  simp only [l3] at h1 h2 h3 h4 h5
  omega
theorem lt12 {j : Nat} (h : j < 12) : j = 0 ∨ j = 1 ∨ j = 2 ∨ j = 3 ∨ j = 4 ∨ j = 5 ∨ j = 6 ∨ j = 7 ∨ j = 8 ∨ j = 9 ∨ j = 10 ∨ j = 11 := by omega
def row12 (b : Nat → Int) : List V.D := [.int .i64 (b 0), .int .i64 (b 1), .int .i64 (b 2), .int .i64 (b 3), .int .i64 (b 4), .int .i64 (b 5), .int .i64 (b 6), .int .i64 (b 7), .int .i64 (b 8), .int .i64 (b 9), .int .i64 (b 10), .int .i64 (b 11)]
theorem row_at (b : Nat → Int) (H : HL) (i : Nat) (hi : i < 12) : hide H ((row12 b).getD (0 + i) .top) = .int .i64 (b i) := by
  rcases lt12 hi with rfl | rfl | rfl | rfl | rfl | rfl | rfl | rfl | rfl | rfl | rfl | rfl <;> rfl
theorem body_row {b : Nat → Int} (h : BodyOK b) (H : HL) : BodyOK (fun i => toI ((fun j => hide H ((row12 b).getD (0 + j) .top)) i)) := body_congr h fun i hi => by
  show toI (hide H ((row12 b).getD (0 + i) .top)) = b i
  rw [row_at b H i hi]
  rfl
theorem cell_row (b : Nat → Int) (H : HL) (i : Nat) (hi : i < 12) : (fun j => hide H ((row12 b).getD (0 + j) .top)) i = .int .i64 (toI ((fun j => hide H ((row12 b).getD (0 + j) .top)) i)) := by
  show hide H ((row12 b).getD (0 + i) .top) = .int .i64 (toI (hide H ((row12 b).getD (0 + i) .top)))
  rw [row_at b H i hi]
  rfl
theorem cell_row2 (x y : Int) (H : HL) (i : Nat) (hi : i < 2) : (fun j => hide H (([.int .i64 x, .int .i64 y] : List V.D).getD (0 + j) .top)) i = .int .i64 (toI ((fun j => hide H (([.int .i64 x, .int .i64 y] : List V.D).getD (0 + j) .top)) i)) := by
  have h : i = 0 ∨ i = 1 := by omega
  rcases h with rfl | rfl <;> rfl
theorem sub_bd {p g : Int} (h : btw 2100000000000000000 p) (hg : 0 ≤ g ∧ g ≤ 200) : (-9223372036854775808 ≤ p - g ∧ p - g ≤ 9223372036854775807) ∧ btw 3000000000000000000 (p - g) := by
  unfold btw at *
  omega
theorem up_bd {p : Int} (h : btw 2100000000000000000 p) : btw 3000000000000000000 p := by
  unfold btw at *
  omega
theorem btw_bd {p m : Int} (h : btw m p) (hm : m ≤ 9000000000000000000) : -9223372036854775808 ≤ p ∧ p ≤ 9223372036854775807 := by
  unfold btw at h
  omega
theorem btw_mk {p m : Int} (h1 : -m ≤ p) (h2 : p ≤ m) : btw m p := ⟨h1, h2⟩
theorem drag_bd {b : Nat → Int} (hB : BodyOK b) {x y lo hi : Int} (hx : 0 ≤ x ∧ x ≤ y ∧ y ≤ 1000) (hl : 0 ≤ lo ∧ lo ≤ 3150000000000) (hh : 0 ≤ hi ∧ hi ≤ 3150000000000) :
    ((btw 1000000 (b 4 * x) ∧ btw 1000000 (b 4 * y)) ∧ btw 1000000 (b 5 * x) ∧ btw 1000000 (b 5 * y)) ∧
    ((btw 2000000000000 (mulL (b 4) (b 5) x y * rootN lo) ∧ btw 2000000000000 (mulL (b 4) (b 5) x y * rootUp hi)) ∧ btw 2000000000000 (mulH (b 4) (b 5) x y * rootN lo) ∧ btw 2000000000000 (mulH (b 4) (b 5) x y * rootUp hi)) ∧
    btw 2000000000000 (mulL (mulL (b 4) (b 5) x y) (mulH (b 4) (b 5) x y) (rootN lo) (rootUp hi)) ∧ btw 2000000000000 (mulH (mulL (b 4) (b 5) x y) (mulH (b 4) (b 5) x y) (rootN lo) (rootUp hi)) := by
  have hd := hB.drag
  have d4 : btw 1000 (b 4) := by unfold btw; omega
  have d5 : btw 1000 (b 5) := by unfold btw; omega
  have dx : btw 1000 x := by unfold btw; omega
  have dy : btw 1000 y := by unfold btw; omega
  have rl := (root_sp hl).1
  have rh := (root_sp hh).2
  have r0 : btw 1900000 (rootN lo) := by unfold btw; omega
  have r1 : btw 1900000 (rootUp hi) := by unfold btw; omega
  have m := mulL_bd d4 d5 dx dy (by decide) (by decide)
  have up : ∀ {z : Int}, btw (1000 * 1000 * 1900000) z → btw 2000000000000 z := fun h => by unfold btw at *; omega
  have m2 := mulL_bd m.1 m.2 r0 r1 (by decide) (by decide)
  exact ⟨⟨⟨mul_bd d4 dx (by decide) (by decide), mul_bd d4 dy (by decide) (by decide)⟩, mul_bd d5 dx (by decide) (by decide), mul_bd d5 dy (by decide) (by decide)⟩,
    ⟨⟨up (mul_bd m.1 r0 (by decide) (by decide)), up (mul_bd m.1 r1 (by decide) (by decide))⟩, up (mul_bd m.2 r0 (by decide) (by decide)), up (mul_bd m.2 r1 (by decide) (by decide))⟩, up m2.1, up m2.2⟩
theorem k_ax {M : Int} {K : Res → Prop} (hK : ∀ a : Nat → Int, (∀ j, j < 6 → btw M (a j)) → K (.ret (ax a))) {a0 a1 a2 a3 a4 a5 : Int} (h0 : btw M a0) (h1 : btw M a1) (h2 : btw M a2) (h3 : btw M a3) (h4 : btw M a4) (h5 : btw M a5) :
    K (.ret (.agg [.int .i64 a0, .int .i64 a1, .int .i64 a2, .int .i64 a3, .int .i64 a4, .int .i64 a5])) := hK (n6 a0 a1 a2 a3 a4 a5) fun j hj => by
  rcases ltv6 hj with rfl | rfl | rfl | rfl | rfl | rfl <;> assumption
attribute [local irreducible] WindIs3 btw miL miH fc1L fc1H fc2L fc2H mulL mulH rootN rootUp sqLo sqHi
theorem fForce_ok : QSound Go.Proofs.Tryz.prog 95 rForceF := by
  refine qsound_of Tryz.func95 (by kernel_rfl) rfl (ctxA Lto_ok) ?_
  intro ds K h
  unfold rForceF at h
  split at h <;> first | exact h.elim | skip
  refine ⟨Nat.le_of_ble_eq_true rfl, ?_⟩
  rename_i g b0 b1 b2 b3 b4 b5 b6 b7 b8 b9 b10 b11 s0 s1 s2 s3 s4 s5 s6 s7 s8 s9 s10 s11
  obtain ⟨⟨⟨F, hF, hg⟩, hB, hS⟩, hK⟩ := h
  refine ⟨[.eptr 13 F.at, ax12 (n12 b0 b1 b2 b3 b4 b5 b6 b7 b8 b9 b10 b11), ax12 (n12 s0 s1 s2 s3 s4 s5 s6 s7 s8 s9 s10 s11)], rfl, hg, rfl, rfl, rfl, rfl, rfl, rfl, rfl, rfl, rfl, rfl, rfl, rfl, rfl, rfl, rfl, rfl, rfl, rfl, rfl, rfl, rfl, rfl, rfl, rfl, ?_⟩
  clear hg
  generalize n12 b0 b1 b2 b3 b4 b5 b6 b7 b8 b9 b10 b11 = b at *
  generalize n12 s0 s1 s2 s3 s4 s5 s6 s7 s8 s9 s10 s11 = s at *
  have su := hS.u
  have sv := hS.v
  have sw := hS.w
  repeat' (first | ((with_reducible refine kok ?_); kernel_rfl) | ((with_reducible refine keq_mk ?_); kernel_rfl) | with_reducible rfl | ((conv => whnf); first | (with_reducible exact trivial) | ((with_reducible refine and_ff ?_ ?_); · exact rfl) | ((with_reducible refine and_tt ?_ ?_); · exact rfl) | (with_reducible refine And.intro ?_ ?_) | intro _ | (with_reducible refine fin2 hk ?_) | ((with_reducible refine eq_leaf ?_); exact rfl) | exact trivial))
  all_goals try exact hF.bands
  all_goals try (clear hK; decide)
  all_goals try ((first | with_reducible refine (?_ : (_ : Int) ≤ _) | with_reducible refine (?_ : (_ : Int) < _)); clear hK; have W := wind3_at (by assumption); omega)
  rename_i a hW
  have W := wind3_at hW
  have w0 : -1020000 ≤ miL (s 6) (s 7) (a 0) (a 1) ∧ miL (s 6) (s 7) (a 0) (a 1) ≤ miH (s 6) (s 7) (a 0) (a 1) ∧ miH (s 6) (s 7) (a 0) (a 1) ≤ 1020000 := by unfold miL miH; omega
  have w1 : -1020000 ≤ miL (s 8) (s 9) (a 2) (a 3) ∧ miL (s 8) (s 9) (a 2) (a 3) ≤ miH (s 8) (s 9) (a 2) (a 3) ∧ miH (s 8) (s 9) (a 2) (a 3) ≤ 1020000 := by unfold miL miH; omega
  have w2 : -1020000 ≤ miL (s 10) (s 11) (a 4) (a 5) ∧ miL (s 10) (s 11) (a 4) (a 5) ≤ miH (s 10) (s 11) (a 4) (a 5) ∧ miH (s 10) (s 11) (a 4) (a 5) ≤ 1020000 := by unfold miL miH; omega
  generalize miL (s 6) (s 7) (a 0) (a 1) = c0 at *
  generalize miH (s 6) (s 7) (a 0) (a 1) = c1 at *
  generalize miL (s 8) (s 9) (a 2) (a 3) = c2 at *
  generalize miH (s 8) (s 9) (a 2) (a 3) = c3 at *
  generalize miL (s 10) (s 11) (a 4) (a 5) = c4 at *
  generalize miH (s 10) (s 11) (a 4) (a 5) = c5 at *
  clear hW W su sv sw
  have q0 := sq_sp w0
  have q1 := sq_sp w1
  have q2 := sq_sp w2
  conv => whnf
  refine ⟨Nat × Int × Int, fun r => [(0, .eptr 13 F.at), (4, .ptr 0 0), (5, .ptr 1 0), (6, .ptr 2 0), (7, .ptr 3 0), (8, .ptr 5 0), (26, .agg [.int .i64 c0, .int .i64 c1, .int .i64 c2, .int .i64 c3, .int .i64 c4, .int .i64 c5]), (27, .int .i64 r.1)],
    fun r => [some (.row [.int .i64 (b 0), .int .i64 (b 1), .int .i64 (b 2), .int .i64 (b 3), .int .i64 (b 4), .int .i64 (b 5), .int .i64 (b 6), .int .i64 (b 7), .int .i64 (b 8), .int .i64 (b 9), .int .i64 (b 10), .int .i64 (b 11)]), some (.row [.int .i64 (s 0), .int .i64 (s 1), .int .i64 (s 2), .int .i64 (s 3), .int .i64 (s 4), .int .i64 (s 5), .int .i64 (s 6), .int .i64 (s 7), .int .i64 (s 8), .int .i64 (s 9), .int .i64 (s 10), .int .i64 (s 11)]), some (.row [.int .i64 0, .int .i64 0, .int .i64 0, .int .i64 0, .int .i64 0, .int .i64 0]), some (.row [.int .i64 c0, .int .i64 c1, .int .i64 c2, .int .i64 c3, .int .i64 c4, .int .i64 c5]), none, some (.row [.int .i64 r.2.1, .int .i64 r.2.2])],
    fun r => 3 - r.1, fun r => r.1 ≤ 3 ∧ (0 ≤ r.2.1 ∧ r.2.1 ≤ 1050000000000 * r.1) ∧ 0 ≤ r.2.2 ∧ r.2.2 ≤ 1050000000000 * r.1, [], (0, 0, 0), fun _ => ⟨rfl, rfl⟩, ?_, fun r hI => ?_⟩
  · repeat' (first | ((with_reducible refine kok ?_); kernel_rfl) | ((with_reducible refine keq_mk ?_); kernel_rfl) | with_reducible rfl | ((conv => whnf); first | (with_reducible exact trivial) | ((with_reducible refine and_ff ?_ ?_); · exact rfl) | ((with_reducible refine and_tt ?_ ?_); · exact rfl) | (with_reducible refine And.intro ?_ ?_) | intro _ | (with_reducible refine fin2 hk ?_) | ((with_reducible refine eq_leaf ?_); exact rfl) | exact trivial))
    all_goals first
      | exact Nat.zero_le _
      | decide
      | skip
  obtain ⟨i, lo, hi⟩ := r
  obtain ⟨h3, hl, hh⟩ := hI
  have h3 : i ≤ 3 := h3
  have hl : 0 ≤ lo ∧ lo ≤ 1050000000000 * (i : Int) := hl
  have hh : 0 ≤ hi ∧ hi ≤ 1050000000000 * (i : Int) := hh
  have hx : i = 0 ∨ i = 1 ∨ i = 2 ∨ i = 3 := by omega
  rcases hx with rfl | rfl | rfl | rfl
  · repeat' (first | ((with_reducible refine kok ?_); kernel_rfl) | ((with_reducible refine keq_mk ?_); kernel_rfl) | with_reducible rfl | ((conv => whnf); first | (with_reducible exact trivial) | ((with_reducible refine and_ff ?_ ?_); · exact rfl) | ((with_reducible refine and_tt ?_ ?_); · exact rfl) | (with_reducible refine And.intro ?_ ?_) | intro _ | (with_reducible refine fin2 hk ?_) | ((with_reducible refine eq_leaf ?_); exact rfl) | exact trivial))
    all_goals try ((first | with_reducible refine (?_ : (_ : Int) ≤ _) | with_reducible refine (?_ : (_ : Int) < _)); clear hK; simp only at *; omega)
    clear hK
    conv => whnf
    refine ⟨(1, lo + sqLo c0 c1, hi + sqHi c0 c1), ?_⟩
    repeat' (first | ((with_reducible refine kok ?_); kernel_rfl) | ((with_reducible refine keq_mk ?_); kernel_rfl) | with_reducible rfl | ((conv => whnf); first | (with_reducible exact trivial) | ((with_reducible refine and_ff ?_ ?_); · exact rfl) | ((with_reducible refine and_tt ?_ ?_); · exact rfl) | (with_reducible refine And.intro ?_ ?_) | intro _ | (with_reducible refine fin2 hk ?_) | ((with_reducible refine eq_leaf ?_); exact rfl) | exact trivial))
    all_goals first
      | decide
      | (simp only; omega)
  · repeat' (first | ((with_reducible refine kok ?_); kernel_rfl) | ((with_reducible refine keq_mk ?_); kernel_rfl) | with_reducible rfl | ((conv => whnf); first | (with_reducible exact trivial) | ((with_reducible refine and_ff ?_ ?_); · exact rfl) | ((with_reducible refine and_tt ?_ ?_); · exact rfl) | (with_reducible refine And.intro ?_ ?_) | intro _ | (with_reducible refine fin2 hk ?_) | ((with_reducible refine eq_leaf ?_); exact rfl) | exact trivial))
    all_goals try ((first | with_reducible refine (?_ : (_ : Int) ≤ _) | with_reducible refine (?_ : (_ : Int) < _)); clear hK; simp only at *; omega)
    clear hK
    conv => whnf
    refine ⟨(2, lo + sqLo c2 c3, hi + sqHi c2 c3), ?_⟩
    repeat' (first | ((with_reducible refine kok ?_); kernel_rfl) | ((with_reducible refine keq_mk ?_); kernel_rfl) | with_reducible rfl | ((conv => whnf); first | (with_reducible exact trivial) | ((with_reducible refine and_ff ?_ ?_); · exact rfl) | ((with_reducible refine and_tt ?_ ?_); · exact rfl) | (with_reducible refine And.intro ?_ ?_) | intro _ | (with_reducible refine fin2 hk ?_) | ((with_reducible refine eq_leaf ?_); exact rfl) | exact trivial))
    all_goals first
      | decide
      | (simp only; omega)
  · repeat' (first | ((with_reducible refine kok ?_); kernel_rfl) | ((with_reducible refine keq_mk ?_); kernel_rfl) | with_reducible rfl | ((conv => whnf); first | (with_reducible exact trivial) | ((with_reducible refine and_ff ?_ ?_); · exact rfl) | ((with_reducible refine and_tt ?_ ?_); · exact rfl) | (with_reducible refine And.intro ?_ ?_) | intro _ | (with_reducible refine fin2 hk ?_) | ((with_reducible refine eq_leaf ?_); exact rfl) | exact trivial))
    all_goals try ((first | with_reducible refine (?_ : (_ : Int) ≤ _) | with_reducible refine (?_ : (_ : Int) < _)); clear hK; simp only at *; omega)
    clear hK
    conv => whnf
    refine ⟨(3, lo + sqLo c4 c5, hi + sqHi c4 c5), ?_⟩
    repeat' (first | ((with_reducible refine kok ?_); kernel_rfl) | ((with_reducible refine keq_mk ?_); kernel_rfl) | with_reducible rfl | ((conv => whnf); first | (with_reducible exact trivial) | ((with_reducible refine and_ff ?_ ?_); · exact rfl) | ((with_reducible refine and_tt ?_ ?_); · exact rfl) | (with_reducible refine And.intro ?_ ?_) | intro _ | (with_reducible refine fin2 hk ?_) | ((with_reducible refine eq_leaf ?_); exact rfl) | exact trivial))
    all_goals first
      | decide
      | (simp only; omega)
  have hl : 0 ≤ lo ∧ lo ≤ 3150000000000 := by omega
  have hh : 0 ≤ hi ∧ hi ≤ 3150000000000 := by omega
  have tl := hB.tilt
  have hgr := beyond_false hF.chk.g
  have u0 : btw 1020000 c0 := btw_mk (by omega) (by omega)
  have u1 : btw 1020000 c1 := btw_mk (by omega) (by omega)
  have u2 : btw 1020000 c2 := btw_mk (by omega) (by omega)
  have u3 : btw 1020000 c3 := btw_mk (by omega) (by omega)
  have u4 : btw 1020000 c4 := btw_mk (by omega) (by omega)
  have u5 : btw 1020000 c5 := btw_mk (by omega) (by omega)
  clear q0 q1 q2
  repeat' (first | ((with_reducible refine kok ?_); kernel_rfl) | ((with_reducible refine keq_mk ?_); kernel_rfl) | with_reducible rfl | ((conv => whnf); first | (with_reducible exact trivial) | ((with_reducible refine and_ff ?_ ?_); · exact rfl) | ((with_reducible refine and_tt ?_ ?_); · exact rfl) | (with_reducible refine And.intro ?_ ?_) | intro _ | (with_reducible refine fin2 hk ?_) | ((with_reducible refine eq_leaf ?_); exact rfl) | exact trivial))
  all_goals try (clear hK; decide)
  all_goals try exact hF.chk
  all_goals try assumption
  all_goals try exact hF.x
  all_goals try exact hF.y
  all_goals try exact hF.z
  all_goals try exact tl _ (by decide) (by decide)
  all_goals try exact hl.1
  all_goals try exact hh.1
  all_goals try exact Int.le_trans hl.2 (by decide)
  all_goals try exact Int.le_trans hh.2 (by decide)
  all_goals try exact body_row hB _
  all_goals try exact cell_row b _ _ (by assumption)
  all_goals try exact cell_row2 _ _ _ _ (by assumption)
  all_goals try exact (drag_bd hB (by assumption) hl hh).2.2.1
  all_goals try exact (drag_bd hB (by assumption) hl hh).2.2.2
  all_goals try exact (fc1_bd (body_row hB _) hF.x hF.x (tl 6 (by decide) (by decide)) (tl 7 (by decide) (by decide))).1
  all_goals try exact (fc1_bd (body_row hB _) hF.x hF.x (tl 6 (by decide) (by decide)) (tl 7 (by decide) (by decide))).2
  all_goals try exact (fc1_bd (body_row hB _) hF.y hF.y (tl 8 (by decide) (by decide)) (tl 9 (by decide) (by decide))).1
  all_goals try exact (fc1_bd (body_row hB _) hF.y hF.y (tl 8 (by decide) (by decide)) (tl 9 (by decide) (by decide))).2
  all_goals try exact (fc1_bd (body_row hB _) hF.z hF.z (tl 10 (by decide) (by decide)) (tl 11 (by decide) (by decide))).1
  all_goals try exact (fc1_bd (body_row hB _) hF.z hF.z (tl 10 (by decide) (by decide)) (tl 11 (by decide) (by decide))).2
  all_goals try exact (btw_bd (drag_bd hB (by assumption) hl hh).1.1.1 (by decide)).1
  all_goals try exact (btw_bd (drag_bd hB (by assumption) hl hh).1.1.1 (by decide)).2
  all_goals try exact (btw_bd (drag_bd hB (by assumption) hl hh).1.1.2 (by decide)).1
  all_goals try exact (btw_bd (drag_bd hB (by assumption) hl hh).1.1.2 (by decide)).2
  all_goals try exact (btw_bd (drag_bd hB (by assumption) hl hh).1.2.1 (by decide)).1
  all_goals try exact (btw_bd (drag_bd hB (by assumption) hl hh).1.2.1 (by decide)).2
  all_goals try exact (btw_bd (drag_bd hB (by assumption) hl hh).1.2.2 (by decide)).1
  all_goals try exact (btw_bd (drag_bd hB (by assumption) hl hh).1.2.2 (by decide)).2
  all_goals try exact (btw_bd (drag_bd hB (by assumption) hl hh).2.1.1.1 (by decide)).1
  all_goals try exact (btw_bd (drag_bd hB (by assumption) hl hh).2.1.1.1 (by decide)).2
  all_goals try exact (btw_bd (drag_bd hB (by assumption) hl hh).2.1.1.2 (by decide)).1
  all_goals try exact (btw_bd (drag_bd hB (by assumption) hl hh).2.1.1.2 (by decide)).2
  all_goals try exact (btw_bd (drag_bd hB (by assumption) hl hh).2.1.2.1 (by decide)).1
  all_goals try exact (btw_bd (drag_bd hB (by assumption) hl hh).2.1.2.1 (by decide)).2
  all_goals try exact (btw_bd (drag_bd hB (by assumption) hl hh).2.1.2.2 (by decide)).1
  all_goals try exact (btw_bd (drag_bd hB (by assumption) hl hh).2.1.2.2 (by decide)).2
  all_goals try exact (sub_bd (fc2_bd (body_row hB _) (drag_bd hB (by assumption) hl hh).2.2.1 (drag_bd hB (by assumption) hl hh).2.2.2 (fc1_bd (body_row hB _) hF.z hF.z (tl 10 (by decide) (by decide)) (tl 11 (by decide) (by decide))).1 (fc1_bd (body_row hB _) hF.z hF.z (tl 10 (by decide) (by decide)) (tl 11 (by decide) (by decide))).2 u4 u5).1 (by omega)).1.1
  all_goals try exact (sub_bd (fc2_bd (body_row hB _) (drag_bd hB (by assumption) hl hh).2.2.1 (drag_bd hB (by assumption) hl hh).2.2.2 (fc1_bd (body_row hB _) hF.z hF.z (tl 10 (by decide) (by decide)) (tl 11 (by decide) (by decide))).1 (fc1_bd (body_row hB _) hF.z hF.z (tl 10 (by decide) (by decide)) (tl 11 (by decide) (by decide))).2 u4 u5).1 (by omega)).1.2
  all_goals try exact (sub_bd (fc2_bd (body_row hB _) (drag_bd hB (by assumption) hl hh).2.2.1 (drag_bd hB (by assumption) hl hh).2.2.2 (fc1_bd (body_row hB _) hF.z hF.z (tl 10 (by decide) (by decide)) (tl 11 (by decide) (by decide))).1 (fc1_bd (body_row hB _) hF.z hF.z (tl 10 (by decide) (by decide)) (tl 11 (by decide) (by decide))).2 u4 u5).2 (by omega)).1.1
  all_goals try exact (sub_bd (fc2_bd (body_row hB _) (drag_bd hB (by assumption) hl hh).2.2.1 (drag_bd hB (by assumption) hl hh).2.2.2 (fc1_bd (body_row hB _) hF.z hF.z (tl 10 (by decide) (by decide)) (tl 11 (by decide) (by decide))).1 (fc1_bd (body_row hB _) hF.z hF.z (tl 10 (by decide) (by decide)) (tl 11 (by decide) (by decide))).2 u4 u5).2 (by omega)).1.2
  conv => whnf
  refine k_ax hK (up_bd (fc2_bd (body_row hB _) (drag_bd hB (by assumption) hl hh).2.2.1 (drag_bd hB (by assumption) hl hh).2.2.2 (fc1_bd (body_row hB _) hF.x hF.x (tl 6 (by decide) (by decide)) (tl 7 (by decide) (by decide))).1 (fc1_bd (body_row hB _) hF.x hF.x (tl 6 (by decide) (by decide)) (tl 7 (by decide) (by decide))).2 u0 u1).1) (up_bd (fc2_bd (body_row hB _) (drag_bd hB (by assumption) hl hh).2.2.1 (drag_bd hB (by assumption) hl hh).2.2.2 (fc1_bd (body_row hB _) hF.x hF.x (tl 6 (by decide) (by decide)) (tl 7 (by decide) (by decide))).1 (fc1_bd (body_row hB _) hF.x hF.x (tl 6 (by decide) (by decide)) (tl 7 (by decide) (by decide))).2 u0 u1).2) (up_bd (fc2_bd (body_row hB _) (drag_bd hB (by assumption) hl hh).2.2.1 (drag_bd hB (by assumption) hl hh).2.2.2 (fc1_bd (body_row hB _) hF.y hF.y (tl 8 (by decide) (by decide)) (tl 9 (by decide) (by decide))).1 (fc1_bd (body_row hB _) hF.y hF.y (tl 8 (by decide) (by decide)) (tl 9 (by decide) (by decide))).2 u2 u3).1) (up_bd (fc2_bd (body_row hB _) (drag_bd hB (by assumption) hl hh).2.2.1 (drag_bd hB (by assumption) hl hh).2.2.2 (fc1_bd (body_row hB _) hF.y hF.y (tl 8 (by decide) (by decide)) (tl 9 (by decide) (by decide))).1 (fc1_bd (body_row hB _) hF.y hF.y (tl 8 (by decide) (by decide)) (tl 9 (by decide) (by decide))).2 u2 u3).2) (sub_bd (fc2_bd (body_row hB _) (drag_bd hB (by assumption) hl hh).2.2.1 (drag_bd hB (by assumption) hl hh).2.2.2 (fc1_bd (body_row hB _) hF.z hF.z (tl 10 (by decide) (by decide)) (tl 11 (by decide) (by decide))).1 (fc1_bd (body_row hB _) hF.z hF.z (tl 10 (by decide) (by decide)) (tl 11 (by decide) (by decide))).2 u4 u5).1 (by omega)).2 (sub_bd (fc2_bd (body_row hB _) (drag_bd hB (by assumption) hl hh).2.2.1 (drag_bd hB (by assumption) hl hh).2.2.2 (fc1_bd (body_row hB _) hF.z hF.z (tl 10 (by decide) (by decide)) (tl 11 (by decide) (by decide))).1 (fc1_bd (body_row hB _) hF.z hF.z (tl 10 (by decide) (by decide)) (tl 11 (by decide) (by decide))).2 u4 u5).2 (by omega)).2
end Go.Proofs.YtphcblofacfkaaaGreat
end
