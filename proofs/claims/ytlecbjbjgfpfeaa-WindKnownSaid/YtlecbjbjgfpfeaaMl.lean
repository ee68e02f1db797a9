/-
  Files of soundings: sums, and a number's bytes (contracts).
-/
import Derived.Test.YtlecbjbjgfpfeaaMk
section
set_option linter.unusedVariables false
set_option linter.unusedSimpArgs false
set_option maxRecDepth 100000
set_option maxHeartbeats 4000000
namespace Go.Proofs.Ytlecbjbjgfpfeaa
open Go.V

def bD (f : Nat → Int) (i _j : Nat) : V.D := .int .u8 (f i)
def toF (g : Nat → Nat → V.D) (i : Nat) : Int := toI (g i 0)
/-- Cells that are bytes. -/
def BytC (n : Nat) (g : Nat → Nat → V.D) : Prop := (∀ i, i < n → g i 0 = .int .u8 (toF g i)) ∧ Byt n (toF g)
theorem bytC_imp {n : Nat} {g : Nat → Nat → V.D} (h : BytC n g) : ∀ i j, i < n → j < 1 → g i j = bD (toF g) i j := fun i j hi hj => by
  obtain rfl : j = 0 := by omega
  exact h.1 i hi
theorem sumF_in {n : Nat} {f : Nat → Int} (h : Byt n f) : ∀ {i : Nat}, i ≤ n → 0 ≤ sumF f i ∧ sumF f i ≤ 255 * i
  | 0, _ => by simp [sumF]
  | i + 1, hi => by
    have h1 := sumF_in h (i := i) (by omega)
    have h2 := h i (by omega)
    rw [sumF]
    omega
noncomputable def rSum : List V.D → Option (Prop × V.D) := fun ds => match ds with
  | [.rsl 1 n g] => some (BytC n g ∧ n ≤ 1000000, .int .i64 (sumF (toF g) n % 65536))
  | _ => none
theorem fTotal_ok : PSound Go.Proofs.Try.prog 27 (mk rSum) := by
  refine psound_mk Try.func27 (by kernel_rfl) rfl (ctx (.nil _)) ?_
  (intro ds p d h; unfold rSum at h; split at h <;> first | (cases h; done) | skip; cases h; refine ⟨Nat.le_of_ble_eq_true rfl, fun hp k hk => ?_⟩)
  rename_i n g
  obtain ⟨hb, hn⟩ := hp
  refine ⟨[.rsl 1 n (bD (toF g))], rfl, bytC_imp hb, ?_⟩
  have hB := hb.2
  clear hb
  generalize toF g = f at *
  repeat' (first | ((with_reducible refine kok ?_); kernel_rfl) | ((with_reducible refine keq_mk ?_); kernel_rfl) | with_reducible rfl | ((conv => whnf); first | (with_reducible exact trivial) | ((with_reducible refine and_ff ?_ ?_); · exact rfl) | ((with_reducible refine and_tt ?_ ?_); · exact rfl) | (with_reducible refine And.intro ?_ ?_) | intro _ | (with_reducible refine fin2 hk ?_) | ((with_reducible refine eq_leaf ?_); exact rfl) | exact trivial))
  refine ⟨Nat, fun i => [(2, .int .i64 (sumF f i)), (5, .rsl 1 n (bD f)), (6, .int .i64 n), (7, .int .i64 i)], fun _ => [], fun i => n - i, fun i => i ≤ n, [], 0, fun _ => ⟨rfl, rfl⟩, ?_, fun i hI => ?_⟩
  · clear hk
    repeat' (first | ((with_reducible refine kok ?_); kernel_rfl) | ((with_reducible refine keq_mk ?_); kernel_rfl) | with_reducible rfl | ((conv => whnf); first | (with_reducible exact trivial) | ((with_reducible refine and_ff ?_ ?_); · exact rfl) | ((with_reducible refine and_tt ?_ ?_); · exact rfl) | (with_reducible refine And.intro ?_ ?_) | intro _ | (with_reducible refine fin2 hk ?_) | ((with_reducible refine eq_leaf ?_); exact rfl) | exact trivial))
    all_goals first
      | exact Nat.zero_le _
      | rfl
  have hI : i ≤ n := hI
  have hs := sumF_in hB hI
  conv => whnf
  refine ⟨fun g1 => ?_, fun g1 => ?_⟩
  rotate_left
  · have e : i = n := by have := of_decide_eq_false g1; omega
    subst e
    repeat' (first | ((with_reducible refine kok ?_); kernel_rfl) | ((with_reducible refine keq_mk ?_); kernel_rfl) | with_reducible rfl | ((conv => whnf); first | (with_reducible exact trivial) | ((with_reducible refine and_ff ?_ ?_); · exact rfl) | ((with_reducible refine and_tt ?_ ?_); · exact rfl) | (with_reducible refine And.intro ?_ ?_) | intro _ | (with_reducible refine fin2 hk ?_) | ((with_reducible refine eq_leaf ?_); exact rfl) | exact trivial))
    all_goals try ((first | with_reducible refine (?_ : (_ : Int) ≤ _) | with_reducible refine (?_ : (_ : Int) < _) | with_reducible refine (?_ : (_ : Nat) ≤ _) | with_reducible refine (?_ : (_ : Nat) < _)); clear hk; first | omega | (simp only [Int.toNat_natCast, Int.reduceToNat]; omega))
    all_goals first
      | exact (Int.tmod_eq_emod_of_nonneg hs.1)
      | (exfalso; omega)
  have hlt : i < n := by have := of_decide_eq_true g1; omega
  have hf := hB i hlt
  repeat' (first | ((with_reducible refine kok ?_); kernel_rfl) | ((with_reducible refine keq_mk ?_); kernel_rfl) | with_reducible rfl | ((conv => whnf); first | (with_reducible exact trivial) | ((with_reducible refine and_ff ?_ ?_); · exact rfl) | ((with_reducible refine and_tt ?_ ?_); · exact rfl) | (with_reducible refine And.intro ?_ ?_) | intro _ | (with_reducible refine fin2 hk ?_) | ((with_reducible refine eq_leaf ?_); exact rfl) | exact trivial))
  all_goals try ((first | with_reducible refine (?_ : (_ : Int) ≤ _) | with_reducible refine (?_ : (_ : Int) < _) | with_reducible refine (?_ : (_ : Nat) ≤ _) | with_reducible refine (?_ : (_ : Nat) < _)); clear hk; first | omega | (simp only [Int.toNat_natCast, Int.reduceToNat]; omega))
  repeat' (first | ((with_reducible refine kok ?_); kernel_rfl) | ((with_reducible refine keq_mk ?_); kernel_rfl) | with_reducible rfl | ((conv => whnf); first | (with_reducible exact trivial) | ((with_reducible refine and_ff ?_ ?_); · exact rfl) | ((with_reducible refine and_tt ?_ ?_); · exact rfl) | (with_reducible refine And.intro ?_ ?_) | intro _ | (with_reducible refine fin2 hk ?_) | ((with_reducible refine eq_leaf ?_); exact rfl) | exact trivial))
  all_goals try ((first | with_reducible refine (?_ : (_ : Int) ≤ _) | with_reducible refine (?_ : (_ : Int) < _) | with_reducible refine (?_ : (_ : Nat) ≤ _) | with_reducible refine (?_ : (_ : Nat) < _)); clear hk; first | omega | (simp only [Int.toNat_natCast, Int.reduceToNat]; omega))
  conv => whnf
  refine ⟨i + 1, ?_⟩
  repeat' (first | ((with_reducible refine kok ?_); kernel_rfl) | ((with_reducible refine keq_mk ?_); kernel_rfl) | with_reducible rfl | ((conv => whnf); first | (with_reducible exact trivial) | ((with_reducible refine and_ff ?_ ?_); · exact rfl) | ((with_reducible refine and_tt ?_ ?_); · exact rfl) | (with_reducible refine And.intro ?_ ?_) | intro _ | (with_reducible refine fin2 hk ?_) | ((with_reducible refine eq_leaf ?_); exact rfl) | exact trivial))
  all_goals first
    | (clear hk; rfl)
    | (clear hk; show n - (i + 1) < n - i; omega)
    | exact hlt
theorem fSum_ok : PSound Go.Proofs.Try.prog 30 (mk rSum) := by
  refine psound_mk Try.func30 (by kernel_rfl) rfl (ctx (.nil _)) ?_
  (intro ds p d h; unfold rSum at h; split at h <;> first | (cases h; done) | skip; cases h; refine ⟨Nat.le_of_ble_eq_true rfl, fun hp k hk => ?_⟩)
  rename_i n g
  obtain ⟨hb, hn⟩ := hp
  refine ⟨[.rsl 1 n (bD (toF g))], rfl, bytC_imp hb, ?_⟩
  have hB := hb.2
  clear hb
  generalize toF g = f at *
  repeat' (first | ((with_reducible refine kok ?_); kernel_rfl) | ((with_reducible refine keq_mk ?_); kernel_rfl) | with_reducible rfl | ((conv => whnf); first | (with_reducible exact trivial) | ((with_reducible refine and_ff ?_ ?_); · exact rfl) | ((with_reducible refine and_tt ?_ ?_); · exact rfl) | (with_reducible refine And.intro ?_ ?_) | intro _ | (with_reducible refine fin2 hk ?_) | ((with_reducible refine eq_leaf ?_); exact rfl) | exact trivial))
  refine ⟨Nat, fun i => [(0, .rsl 1 n (bD f)), (3, .int .i64 (sumF f i)), (4, .int .i64 i)], fun _ => [], fun i => n - i, fun i => i ≤ n, [], 0, fun _ => ⟨rfl, rfl⟩, ?_, fun i hI => ?_⟩
  · clear hk
    repeat' (first | ((with_reducible refine kok ?_); kernel_rfl) | ((with_reducible refine keq_mk ?_); kernel_rfl) | with_reducible rfl | ((conv => whnf); first | (with_reducible exact trivial) | ((with_reducible refine and_ff ?_ ?_); · exact rfl) | ((with_reducible refine and_tt ?_ ?_); · exact rfl) | (with_reducible refine And.intro ?_ ?_) | intro _ | (with_reducible refine fin2 hk ?_) | ((with_reducible refine eq_leaf ?_); exact rfl) | exact trivial))
    all_goals first
      | exact Nat.zero_le _
      | rfl
  have hI : i ≤ n := hI
  have hs := sumF_in hB hI
  conv => whnf
  refine ⟨fun g1 => ?_, fun g1 => ?_⟩
  rotate_left
  · have e : i = n := by have := of_decide_eq_false g1; omega
    subst e
    repeat' (first | ((with_reducible refine kok ?_); kernel_rfl) | ((with_reducible refine keq_mk ?_); kernel_rfl) | with_reducible rfl | ((conv => whnf); first | (with_reducible exact trivial) | ((with_reducible refine and_ff ?_ ?_); · exact rfl) | ((with_reducible refine and_tt ?_ ?_); · exact rfl) | (with_reducible refine And.intro ?_ ?_) | intro _ | (with_reducible refine fin2 hk ?_) | ((with_reducible refine eq_leaf ?_); exact rfl) | exact trivial))
    all_goals try ((first | with_reducible refine (?_ : (_ : Int) ≤ _) | with_reducible refine (?_ : (_ : Int) < _) | with_reducible refine (?_ : (_ : Nat) ≤ _) | with_reducible refine (?_ : (_ : Nat) < _)); clear hk; first | omega | (simp only [Int.toNat_natCast, Int.reduceToNat]; omega))
    all_goals first
      | exact (Int.tmod_eq_emod_of_nonneg hs.1)
      | (exfalso; omega)
  have hlt : i < n := by have := of_decide_eq_true g1; omega
  have hf := hB i hlt
  repeat' (first | ((with_reducible refine kok ?_); kernel_rfl) | ((with_reducible refine keq_mk ?_); kernel_rfl) | with_reducible rfl | ((conv => whnf); first | (with_reducible exact trivial) | ((with_reducible refine and_ff ?_ ?_); · exact rfl) | ((with_reducible refine and_tt ?_ ?_); · exact rfl) | (with_reducible refine And.intro ?_ ?_) | intro _ | (with_reducible refine fin2 hk ?_) | ((with_reducible refine eq_leaf ?_); exact rfl) | exact trivial))
  all_goals try ((first | with_reducible refine (?_ : (_ : Int) ≤ _) | with_reducible refine (?_ : (_ : Int) < _) | with_reducible refine (?_ : (_ : Nat) ≤ _) | with_reducible refine (?_ : (_ : Nat) < _)); clear hk; first | omega | (simp only [Int.toNat_natCast, Int.reduceToNat]; omega))
  repeat' (first | ((with_reducible refine kok ?_); kernel_rfl) | ((with_reducible refine keq_mk ?_); kernel_rfl) | with_reducible rfl | ((conv => whnf); first | (with_reducible exact trivial) | ((with_reducible refine and_ff ?_ ?_); · exact rfl) | ((with_reducible refine and_tt ?_ ?_); · exact rfl) | (with_reducible refine And.intro ?_ ?_) | intro _ | (with_reducible refine fin2 hk ?_) | ((with_reducible refine eq_leaf ?_); exact rfl) | exact trivial))
  all_goals try ((first | with_reducible refine (?_ : (_ : Int) ≤ _) | with_reducible refine (?_ : (_ : Int) < _) | with_reducible refine (?_ : (_ : Nat) ≤ _) | with_reducible refine (?_ : (_ : Nat) < _)); clear hk; first | omega | (simp only [Int.toNat_natCast, Int.reduceToNat]; omega))
  conv => whnf
  refine ⟨i + 1, ?_⟩
  repeat' (first | ((with_reducible refine kok ?_); kernel_rfl) | ((with_reducible refine keq_mk ?_); kernel_rfl) | with_reducible rfl | ((conv => whnf); first | (with_reducible exact trivial) | ((with_reducible refine and_ff ?_ ?_); · exact rfl) | ((with_reducible refine and_tt ?_ ?_); · exact rfl) | (with_reducible refine And.intro ?_ ?_) | intro _ | (with_reducible refine fin2 hk ?_) | ((with_reducible refine eq_leaf ?_); exact rfl) | exact trivial))
  all_goals first
    | (clear hk; rfl)
    | (clear hk; show n - (i + 1) < n - i; omega)
    | exact hlt
theorem nput {n : Int} {v j : Nat} {k : List Int} {b : Int} {x : V.D} (hj : j ≤ v) (hk : k = (numL n v).take j ++ [b]) (hx : x = .int .u8 b) : ∀ i q, i < j + 1 → q < 1 → (if i < j then byL ((numL n v).take j) i q else [x].getD ((i - j) * 1 + q) .top) = byL k i q := fun i q hi hq => by
  have hl : ((numL n v).take j).length = j := by rw [List.length_take, numL_len]; omega
  have := behind_put (n := 0) (len := j) (g := fun _ _ => .top) (by rw [hl]; omega) hk hx i q hi hq
  unfold behind at this
  simpa using this
noncomputable def rNum : List V.D → Option (Prop × V.D) := fun ds => match ds with
  | [.int .i64 n, .int .i64 w] => some (0 ≤ w ∧ w ≤ 8, .rsl 1 w.toNat (byL (numL n w.toNat)))
  | _ => none
theorem fNum_ok : PSound Go.Proofs.Try.prog 29 (mk rNum) := by
  refine psound_mk Try.func29 (by kernel_rfl) rfl (ctx (.nil _)) ?_
  (intro ds p d h; unfold rNum at h; split at h <;> first | (cases h; done) | skip; cases h; refine ⟨Nat.le_of_ble_eq_true rfl, fun hp k hk => ?_⟩)
  rename_i n w
  obtain ⟨h0, h8⟩ := hp
  obtain ⟨v, rfl⟩ := Int.eq_ofNat_of_zero_le h0
  refine ⟨[.int .i64 n, .int .i64 v], rfl, rfl, ?_⟩
  simp only [Int.toNat_natCast] at *
  have hv : v ≤ 8 := by omega
  repeat' (first | ((with_reducible refine kok ?_); kernel_rfl) | ((with_reducible refine keq_mk ?_); kernel_rfl) | with_reducible rfl | ((conv => whnf); first | (with_reducible exact trivial) | ((with_reducible refine and_ff ?_ ?_); · exact rfl) | ((with_reducible refine and_tt ?_ ?_); · exact rfl) | (with_reducible refine And.intro ?_ ?_) | intro _ | (with_reducible refine fin2 hk ?_) | ((with_reducible refine eq_leaf ?_); exact rfl) | exact trivial))
  all_goals try ((first | with_reducible refine (?_ : (_ : Int) ≤ _) | with_reducible refine (?_ : (_ : Int) < _) | with_reducible refine (?_ : (_ : Nat) ≤ _) | with_reducible refine (?_ : (_ : Nat) < _)); clear hk; first | omega | (simp only [Int.toNat_natCast, Int.reduceToNat]; omega))
  refine ⟨Nat, fun j => [(0, .int .i64 n), (5, .own 0 j), (6, .int .i64 (v - 1 - j))], fun j => [some (.buf 5 1 j (byL ((numL n v).take j)))], fun j => v - j, fun j => j ≤ v, [(5, 1)], 0, fun _ => ⟨rfl, rfl⟩, ?_, fun j hJ => ?_⟩
  · clear hk
    repeat' (first | ((with_reducible refine kok ?_); kernel_rfl) | ((with_reducible refine keq_mk ?_); kernel_rfl) | with_reducible rfl | ((conv => whnf); first | (with_reducible exact trivial) | ((with_reducible refine and_ff ?_ ?_); · exact rfl) | ((with_reducible refine and_tt ?_ ?_); · exact rfl) | (with_reducible refine And.intro ?_ ?_) | intro _ | (with_reducible refine fin2 hk ?_) | ((with_reducible refine eq_leaf ?_); exact rfl) | exact trivial))
    all_goals first
      | exact Nat.zero_le _
      | (exact absurd (by assumption) (Nat.not_lt_zero _))
      | omega
  have hJ : j ≤ v := hJ
  conv => whnf
  refine ⟨fun g2 => ?_, fun g2 => ?_⟩
  rotate_left
  · have e : j = v := by have := of_decide_eq_false g2; omega
    subst e
    have e : (numL n j).take j = numL n j := List.take_of_length_le (by rw [numL_len]; exact Nat.le_refl _)
    repeat' (first | ((with_reducible refine kok ?_); kernel_rfl) | ((with_reducible refine keq_mk ?_); kernel_rfl) | with_reducible rfl | ((conv => whnf); first | (with_reducible exact trivial) | ((with_reducible refine and_ff ?_ ?_); · exact rfl) | ((with_reducible refine and_tt ?_ ?_); · exact rfl) | (with_reducible refine And.intro ?_ ?_) | intro _ | (with_reducible refine fin2 hk ?_) | ((with_reducible refine eq_leaf ?_); exact rfl) | exact trivial))
    show byL _ _ _ = _
    rw [e]
  have hlt2 : j < v := by have := of_decide_eq_true g2; omega
  have hu : IntKind.u64.wrap (8 * ((v : Int) - 1 - j)) = 8 * (v - 1 - j) := by
    simp [IntKind.wrap, IntKind.bits, IntKind.signed]
    omega
  repeat' (first | ((with_reducible refine kok ?_); kernel_rfl) | ((with_reducible refine keq_mk ?_); kernel_rfl) | with_reducible rfl | ((conv => whnf); first | (with_reducible exact trivial) | ((with_reducible refine and_ff ?_ ?_); · exact rfl) | ((with_reducible refine and_tt ?_ ?_); · exact rfl) | (with_reducible refine And.intro ?_ ?_) | intro _ | (with_reducible refine fin2 hk ?_) | ((with_reducible refine eq_leaf ?_); exact rfl) | exact trivial))
  all_goals try ((first | with_reducible refine (?_ : (_ : Int) ≤ _) | with_reducible refine (?_ : (_ : Int) < _) | with_reducible refine (?_ : (_ : Nat) ≤ _) | with_reducible refine (?_ : (_ : Nat) < _)); clear hk; first | omega | (simp only [Int.toNat_natCast, Int.reduceToNat]; omega))
  all_goals try (clear hk; rw [hu]; omega)
  repeat' (first | ((with_reducible refine kok ?_); kernel_rfl) | ((with_reducible refine keq_mk ?_); kernel_rfl) | with_reducible rfl | ((conv => whnf); first | (with_reducible exact trivial) | ((with_reducible refine and_ff ?_ ?_); · exact rfl) | ((with_reducible refine and_tt ?_ ?_); · exact rfl) | (with_reducible refine And.intro ?_ ?_) | intro _ | (with_reducible refine fin2 hk ?_) | ((with_reducible refine eq_leaf ?_); exact rfl) | exact trivial))
  all_goals try ((first | with_reducible refine (?_ : (_ : Int) ≤ _) | with_reducible refine (?_ : (_ : Int) < _) | with_reducible refine (?_ : (_ : Nat) ≤ _) | with_reducible refine (?_ : (_ : Nat) < _)); clear hk; first | omega | (simp only [Int.toNat_natCast, Int.reduceToNat]; omega))
  conv => whnf
  refine ⟨j + 1, ?_⟩
  repeat' (first | ((with_reducible refine kok ?_); kernel_rfl) | ((with_reducible refine keq_mk ?_); kernel_rfl) | with_reducible rfl | ((conv => whnf); first | (with_reducible exact trivial) | ((with_reducible refine and_ff ?_ ?_); · exact rfl) | ((with_reducible refine and_tt ?_ ?_); · exact rfl) | (with_reducible refine And.intro ?_ ?_) | intro _ | (with_reducible refine fin2 hk ?_) | ((with_reducible refine eq_leaf ?_); exact rfl) | exact trivial))
  · clear hk; omega
  · refine nput hJ (numL_take_succ n v j hlt2) ?_ _ _ (by assumption) (by assumption)
    rw [hu, show (8 * ((v : Int) - 1 - j)).toNat = 8 * (v - 1 - j) by omega]
    exact congrArg (D.int .u8) (shr_byte _ (by omega))
  · exact hlt2
  · clear hk; show v - (j + 1) < v - j; omega
end Go.Proofs.Ytlecbjbjgfpfeaa
end
section
set_option linter.unusedVariables false
set_option linter.unusedSimpArgs false
set_option maxRecDepth 100000
set_option maxHeartbeats 4000000
namespace Go.Proofs.Ytlecbjbjgfpfeaa
open Go.V

theorem rep_use {n : Nat} {g : Nat → Nat → V.D} {l l' : List Int} (h : Rep n g l) (e : l = l') {i j : Nat} (hi : i < l'.length) (hj : j < 1) : g i j = byL l' i j := by
  subst e
  obtain ⟨rfl, h⟩ := h
  exact h i j hi hj
theorem rep_str_app {n : Nat} {g : Nat → Nat → V.D} {l : List Int} {s : ByteArray} (h : Rep n g l) : Rep (n + s.size) (fun i j => if i < n then g i j else .int .u8 (byteAt s (i - n))) (l ++ strL s) := rep_app h (rep_str s)
theorem rep_num_app {n : Nat} {g : Nat → Nat → V.D} {l k : List Int} (h : Rep n g l) : Rep (n + k.length) (fun i j => if i < n then g i j else byL k (i - n) j) (l ++ k) := rep_app h (rep_byL k)
theorem behind_rep2 {N n : Nat} {g : Nat → Nat → V.D} {l k : List Int} (h : Rep n g l) (e : N = n) : Rep (N + k.length) (behind N g k) (l ++ k) := by
  subst e
  exact behind_rep h
theorem rep_str_app2 {N n : Nat} {g : Nat → Nat → V.D} {l : List Int} {s : ByteArray} (h : Rep n g l) (e : N = n) : Rep (N + s.size) (fun i j => if i < N then g i j else .int .u8 (byteAt s (i - N))) (l ++ strL s) := by
  subst e
  exact rep_str_app h
theorem rep_num_app2 {N n : Nat} {g : Nat → Nat → V.D} {l k : List Int} (h : Rep n g l) (e : N = n) : Rep (N + k.length) (fun i j => if i < N then g i j else byL k (i - N) j) (l ++ k) := by
  subst e
  exact rep_num_app h
theorem rep_lit (l : List Int) : Rep l.length (fun i j => (l.map (D.int .u8)).getD (i * 1 + j) .top) l := ⟨rfl, fun i j hi hj => by
  obtain rfl : j = 0 := by omega
  simp [List.getD_eq_getElem?_getD, List.getElem?_map, List.getElem?_eq_getElem hi]⟩
theorem puts1 (w : Nat) (x : Int) : putsL w (preL (fun i j => ([.int .i64 x] : List V.D).getD (i * 1 + j) .top) 1) = numL x w := by simp [putsL, preL, toI]
theorem puts2 (w : Nat) (x y : Int) : putsL w (preL (fun i j => ([.int .i64 x, .int .i64 y] : List V.D).getD (i * 1 + j) .top) 2) = numL x w ++ numL y w := by simp [putsL, preL, toI, List.range_succ]
theorem puts3 (w : Nat) (x y z : Int) : putsL w (preL (fun i j => ([.int .i64 x, .int .i64 y, .int .i64 z] : List V.D).getD (i * 1 + j) .top) 3) = numL x w ++ (numL y w ++ numL z w) := by simp [putsL, preL, toI, List.range_succ]
theorem preL_im (a : Nat → Nat → Int) (n : Nat) : preL (imD a) n = (List.range n).map fun i => a i 0 := rfl
/-- All are bytes. -/
def BL (l : List Int) : Prop := ∀ b, b ∈ l → 0 ≤ b ∧ b < 256
theorem BL.app {l k : List Int} (h1 : BL l) (h2 : BL k) : BL (l ++ k) := fun b hb => (List.mem_append.1 hb).elim (h1 b) (h2 b)
theorem BL.nil : BL [] := fun b hb => by cases hb
theorem BL.num (n : Int) : ∀ w, BL (numL n w)
  | 0 => .nil
  | w + 1 => fun b hb => by
    rw [numL] at hb
    rcases List.mem_cons.1 hb with rfl | hb
    · exact byteN_lt n w
    · exact BL.num n w b hb
theorem byteAt_in (s : ByteArray) (i : Nat) : 0 ≤ byteAt s i ∧ byteAt s i < 256 := by
  by_cases h : i < s.size
  · rw [byteAt_get h]
    have := UInt8.toNat_lt (s[i]'h)
    omega
  · unfold byteAt
    rw [getElem?_neg s i h]
    simp
theorem BL.str (s : ByteArray) : BL (strL s) := fun b hb => by
  unfold strL at hb
  obtain ⟨i, _, rfl⟩ := List.mem_map.1 hb
  exact byteAt_in s i
theorem BL.cat {f : Nat → List Int} (h : ∀ i, BL (f i)) : ∀ n, BL (catL f n)
  | 0 => .nil
  | n + 1 => (BL.cat h n).app (h n)
theorem BL.cuts (t : Task) (i : Nat) : BL (cutsL t i) := by
  refine BL.app ?_ (BL.cat (fun i => .num _ _) i)
  unfold hdL
  refine BL.app (BL.app (BL.app ?_ (.num _ _)) (.num _ _)) (.num _ _)
  intro b hb
  simp at hb
  omega
theorem BL.srcs (t : Task) (i : Nat) : BL (srcsL t i) := by
  refine BL.app (BL.app (BL.cuts t _) (.num _ _)) (BL.cat (fun i => ?_) i)
  unfold srcL
  exact (((((((BL.num _ _).app (.num _ _)).app (.num _ _)).app (.num _ _)).app (.num _ _)).app (.num _ _)).app (.num _ _)).app (.str _)
theorem BL.snds (t : Task) (i : Nat) : BL (sndsL t i) := by
  refine BL.app (BL.app (BL.srcs t _) (.num _ _)) (BL.cat (fun i => ?_) i)
  unfold sndL
  exact ((((BL.num _ _).app (.num _ _)).app (.num _ _)).app (.num _ _)).app (.num _ _)
theorem BL.file (t : Task) : BL (fileL t) := BL.app (BL.snds t _) (.num _ _)
theorem BL.byt {l : List Int} (h : BL l) : Byt l.length (fun i => l.getD i 0) := fun i hi => by
  have e : l.getD i 0 = l[i] := by simp [List.getD_eq_getElem?_getD, List.getElem?_eq_getElem hi]
  show 0 ≤ l.getD i 0 ∧ l.getD i 0 < 256
  rw [e]
  exact h _ (List.getElem_mem hi)
theorem sum_byL (l : List Int) : sumF (toF (byL l)) l.length = sumL l := sum_at (at_self l)
noncomputable def lrf1 : Lib := (27, mk rSum) :: (30, mk rSum) :: (29, mk rNum) :: lib35
theorem lrf1_ok : LibOK Go.Proofs.Try.prog lrf1 := .cons fTotal_ok (.cons fSum_ok (.cons fNum_ok lib35_ok))
noncomputable def Lput : Libs := ⟨lrf1, [(26, frameC rPut)], [], []⟩
theorem Lput_ok : LibsOK Go.Proofs.Try.prog Lput := ⟨lrf1_ok, asGet_cons (csound_frame fPut_ok) (fun g s h => by cases h), fun f r h => (by cases h), fun f r h => (by cases h)⟩

def lit (l : List V.D) (i j : Nat) : V.D := l.getD (i * 1 + j) .top
def wHd (t : Task) : HL := [some (.row t.cells), some (.buf 5 1 (fileL t).length (byL (fileL t))), some (.buf 3 1 2 (lit [.int .i64 t.age, .int .i64 t.shear])), some (.buf 3 1 1 (lit [.int .i64 t.nc])), some (.buf 3 1 1 (lit [.int .i64 t.ns])),
  some (.buf 3 1 1 (lit [.int .i64 t.nx])), some (.buf 3 1 1 (lit [.int .i64 (sumL (bodyL t) % 65536)]))]
def rWriteC : CRule := fun ds H K => ∃ t : Task, ds = [t.D] ∧ H = [] ∧ t.fits ∧ (checkE t ≠ 0 → K (.ret (.tup [.nilS, .int .i64 (checkE t)])) [some (.row t.cells)]) ∧
  (checkE t = 0 → K (.ret (.tup [.own 1 (fileL t).length, .int .i64 0])) (wHd t))
attribute [local irreducible] checkS fileL bodyL srcsL sndsL cutsL hdL srcL sndL cutL sumL numL strL putsL
theorem fWrite_ok : CSound Go.Proofs.Try.prog 6 rWriteC := by
  refine csound_mono (redo_ok (csound_in Try.func6 (by kernel_rfl) rfl (ctxA Lput_ok))) fun ds H K h => ?_
  obtain ⟨t, rfl, rfl, hf, hk1, hk⟩ := h
  by_cases e0 : (checkS t).2.2 = 0
  rotate_left
  · have hk := hk1 e0
    repeat' (first | ((with_reducible refine kok ?_); kernel_rfl) | ((with_reducible refine keq_mk ?_); kernel_rfl) | with_reducible rfl | ((conv => whnf); first | (with_reducible exact trivial) | ((with_reducible refine and_ff ?_ ?_); · exact rfl) | ((with_reducible refine and_tt ?_ ?_); · exact rfl) | (with_reducible refine And.intro ?_ ?_) | intro _ | (with_reducible refine fin2 hk ?_) | ((with_reducible refine eq_leaf ?_); exact rfl) | exact trivial))
    all_goals try exact hf _ (by assumption)
    all_goals try (
      exfalso
      clear hk hk1
      simp only [taskOf_agg, ↓Bool.not_eq_true', ↓Bool.not_eq_false', ↓decT, ↓decF, out_true, out_false, isin_true, isin_false, Int.toNat_natCast, Int.ofNat_lt, Nat.zero_add, Nat.add_zero, Nat.reduceAdd] at *
      contradiction)
    conv => whnf
    refine ⟨.tup [.nilS, .int .i64 (checkE t)], [some (.row t.cells)], ?_⟩
    repeat' (first | ((with_reducible refine kok ?_); kernel_rfl) | ((with_reducible refine keq_mk ?_); kernel_rfl) | with_reducible rfl | ((conv => whnf); first | (with_reducible exact trivial) | ((with_reducible refine and_ff ?_ ?_); · exact rfl) | ((with_reducible refine and_tt ?_ ?_); · exact rfl) | (with_reducible refine And.intro ?_ ?_) | intro _ | (with_reducible refine fin2 hk ?_) | ((with_reducible refine eq_leaf ?_); exact rfl) | exact trivial))
    all_goals first
      | exact hk
      | rfl
  have hk := hk e0
  have ok := check_ok e0
  have bns := ok.ns
  have bnx := ok.nx
  have bnc := ok.nc
  have hsl := srcs_le (t := t) e0
  repeat' (first | ((with_reducible refine kok ?_); kernel_rfl) | ((with_reducible refine keq_mk ?_); kernel_rfl) | with_reducible rfl | ((conv => whnf); first | (with_reducible exact trivial) | ((with_reducible refine and_ff ?_ ?_); · exact rfl) | ((with_reducible refine and_tt ?_ ?_); · exact rfl) | (with_reducible refine And.intro ?_ ?_) | intro _ | (with_reducible refine fin2 hk ?_) | ((with_reducible refine eq_leaf ?_); exact rfl) | exact trivial))
  all_goals try exact hf _ (by assumption)
  all_goals try (
    exfalso
    clear hk hk1
    simp only [taskOf_agg, ↓Bool.not_eq_true', ↓Bool.not_eq_false', ↓decT, ↓decF, out_true, out_false, isin_true, isin_false, Int.toNat_natCast, Int.ofNat_lt, Nat.zero_add, Nat.add_zero, Nat.reduceAdd] at *
    contradiction)
  all_goals try ((first | with_reducible refine (?_ : (_ : Int) ≤ _) | with_reducible refine (?_ : (_ : Int) < _) | with_reducible refine (?_ : (_ : Nat) ≤ _) | with_reducible refine (?_ : (_ : Nat) < _)); clear hk; first | omega | (simp only [Int.toNat_natCast, Int.reduceToNat]; omega))
  all_goals try (
    clear hk hk1
    rename_i q0 q1
    have q2 : q0 = 0 ∨ q0 = 1 ∨ q0 = 2 := by omega
    rcases q2 with rfl | rfl | rfl <;> first | rfl | (exfalso; omega))
  all_goals try exact rfl
  conv => whnf
  have hl0 : (srcsL t 0).length = 10 + 4 * t.nc + 1 := by rw [srcsL_len]; rfl
  refine ⟨Nat, fun i => [(1, .ptr 0 0), (7, .own 1 (srcsL t i).length), (45, .rsl 7 t.ns (smD t.nm t.sa)), (46, .int .i64 t.ns), (47, .int .i64 i)],
    fun i => [some (.row t.cells), some (.buf 5 1 (srcsL t i).length (byL (srcsL t i))), some (.buf 3 1 2 (lit [.int .i64 t.age, .int .i64 t.shear])), some (.buf 3 1 1 (lit [.int .i64 t.nc])), some (.buf 3 1 1 (lit [.int .i64 t.ns]))],
    fun i => t.ns - i, fun i => i ≤ t.ns, [], 0, fun _ => ⟨?_, ?_⟩, ?_, fun i hI => ?_⟩
  · conv => lhs; whnf
  · conv => lhs; whnf
  · clear hk hk1
    repeat' (first | ((with_reducible refine kok ?_); kernel_rfl) | ((with_reducible refine keq_mk ?_); kernel_rfl) | with_reducible rfl | ((conv => whnf); first | (with_reducible exact trivial) | ((with_reducible refine and_ff ?_ ?_); · exact rfl) | ((with_reducible refine and_tt ?_ ?_); · exact rfl) | (with_reducible refine And.intro ?_ ?_) | intro _ | (with_reducible refine fin2 hk ?_) | ((with_reducible refine eq_leaf ?_); exact rfl) | exact trivial))
    all_goals first
      | exact Nat.zero_le _
      | rfl
      | (rw [hl0]; show 5 + 2 * 2 + 1 * 1 + 4 * t.nc + 1 * 1 = _; omega)
      | skip
    refine rep_use (behind_rep2 (behind_rep2 (behind_rep2 (behind_rep2 (rep_lit [87, 73, 78, 68, 1]) ?_) ?_) ?_) ?_) ?_ (by assumption) (by assumption)
    · rfl
    · simp only [putsL_len, preL_len, Int.reduceToNat]
    · simp only [putsL_len, preL_len, Int.reduceToNat]
    · simp only [putsL_len, preL_len, Int.reduceToNat]
    · simp only [srcsL_0, cutsL, cuts_puts, hdL, Int.reduceToNat, puts1, puts2, preL_im, List.append_assoc]
  have hI : i ≤ t.ns := hI
  have hli := srcsL_len t i
  have hsi := hsl i hI
  conv => whnf
  refine ⟨fun g1 => ?_, fun g1 => ?_⟩
  rotate_left
  · have e : i = t.ns := by have := of_decide_eq_false g1; omega
    subst e
    repeat' (first | ((with_reducible refine kok ?_); kernel_rfl) | ((with_reducible refine keq_mk ?_); kernel_rfl) | with_reducible rfl | ((conv => whnf); first | (with_reducible exact trivial) | ((with_reducible refine and_ff ?_ ?_); · exact rfl) | ((with_reducible refine and_tt ?_ ?_); · exact rfl) | (with_reducible refine And.intro ?_ ?_) | intro _ | (with_reducible refine fin2 hk ?_) | ((with_reducible refine eq_leaf ?_); exact rfl) | exact trivial))
    all_goals try ((first | with_reducible refine (?_ : (_ : Int) ≤ _) | with_reducible refine (?_ : (_ : Int) < _) | with_reducible refine (?_ : (_ : Nat) ≤ _) | with_reducible refine (?_ : (_ : Nat) < _)); clear hk; first | omega | (simp only [Int.toNat_natCast, Int.reduceToNat]; omega))
    all_goals try (
      clear hk hk1
      rename_i q0 q1
      obtain rfl : q0 = 0 := by omega
      rfl)
    conv => whnf
    have hx0 : (sndsL t 0).length = (srcsL t t.ns).length + 1 := by rw [sndsL_len]
    refine ⟨Nat, fun i => [(1, .ptr 0 0), (7, .own 1 (sndsL t i).length), (87, .rsl 5 t.nx (imD t.xa)), (88, .int .i64 t.nx), (89, .int .i64 i)],
      fun i => [some (.row t.cells), some (.buf 5 1 (sndsL t i).length (byL (sndsL t i))), some (.buf 3 1 2 (lit [.int .i64 t.age, .int .i64 t.shear])), some (.buf 3 1 1 (lit [.int .i64 t.nc])), some (.buf 3 1 1 (lit [.int .i64 t.ns])), some (.buf 3 1 1 (lit [.int .i64 t.nx]))],
      fun i => t.nx - i, fun i => i ≤ t.nx, [], 0, fun _ => ⟨?_, ?_⟩, ?_, fun i hI => ?_⟩
    · conv => lhs; whnf
    · conv => lhs; whnf
    · clear hk hk1
      repeat' (first | ((with_reducible refine kok ?_); kernel_rfl) | ((with_reducible refine keq_mk ?_); kernel_rfl) | with_reducible rfl | ((conv => whnf); first | (with_reducible exact trivial) | ((with_reducible refine and_ff ?_ ?_); · exact rfl) | ((with_reducible refine and_tt ?_ ?_); · exact rfl) | (with_reducible refine And.intro ?_ ?_) | intro _ | (with_reducible refine fin2 hk ?_) | ((with_reducible refine eq_leaf ?_); exact rfl) | exact trivial))
      all_goals first
        | exact Nat.zero_le _
        | (rw [hx0]; show _ + 1 * 1 = _; omega)
        | (refine rep_use (behind_rep2 (rep_byL _) ?_) ?_ (by assumption) (by assumption)
           all_goals try (simp only [putsL_len, preL_len, Int.reduceToNat]; done)
           simp only [sndsL_0, Int.reduceToNat, puts1])
        | rfl
        | skip
    have hI : i ≤ t.nx := hI
    have hlx := sndsL_len t i
    conv => whnf
    refine ⟨fun g1 => ?_, fun g1 => ?_⟩
    rotate_left
    · have e : i = t.nx := by have := of_decide_eq_false g1; omega
      subst e
      have hby := (BL.snds t t.nx).byt
      have hsm := sum_byL (sndsL t t.nx)
      repeat' (first | ((with_reducible refine kok ?_); kernel_rfl) | ((with_reducible refine keq_mk ?_); kernel_rfl) | with_reducible rfl | ((conv => whnf); first | (with_reducible exact trivial) | ((with_reducible refine and_ff ?_ ?_); · exact rfl) | ((with_reducible refine and_tt ?_ ?_); · exact rfl) | (with_reducible refine And.intro ?_ ?_) | intro _ | (with_reducible refine fin2 hk ?_) | ((with_reducible refine eq_leaf ?_); exact rfl) | exact trivial))
      all_goals try exact (hby _ (by assumption)).1
      all_goals try exact (hby _ (by assumption)).2
      all_goals try ((first | with_reducible refine (?_ : (_ : Int) ≤ _) | with_reducible refine (?_ : (_ : Int) < _) | with_reducible refine (?_ : (_ : Nat) ≤ _) | with_reducible refine (?_ : (_ : Nat) < _)); clear hk; first | omega | (simp only [Int.toNat_natCast, Int.reduceToNat]; omega))
      all_goals try (
        clear hk hk1
        rename_i q0 q1
        obtain rfl : q0 = 0 := by omega
        rfl)
      conv => whnf
      refine ⟨.tup [.own 1 (fileL t).length, .int .i64 0], wHd t, ?_⟩
      have hfl := file_len t
      have hbl : bodyL t = sndsL t t.nx := by unfold bodyL; rfl
      rw [hbl] at hfl
      repeat' (first | ((with_reducible refine kok ?_); kernel_rfl) | ((with_reducible refine keq_mk ?_); kernel_rfl) | with_reducible rfl | ((conv => whnf); first | (with_reducible exact trivial) | ((with_reducible refine and_ff ?_ ?_); · exact rfl) | ((with_reducible refine and_tt ?_ ?_); · exact rfl) | (with_reducible refine And.intro ?_ ?_) | intro _ | (with_reducible refine fin2 hk ?_) | ((with_reducible refine eq_leaf ?_); exact rfl) | exact trivial))
      all_goals first
        | exact hk
        | (clear hk hk1; rw [hfl]; show _ + 2 * 1 = _; omega)
        | (clear hk hk1
           refine rep_use (behind_rep2 (rep_byL _) rfl) ?_ (by assumption) (by assumption)
           rw [fileL, hbl]
           simp only [Int.reduceToNat, puts1, hsm])
        | (clear hk hk1; rw [hsm, ← hbl]; rfl)
        | rfl
        | skip
    have hlt : i < t.nx := by have := of_decide_eq_true g1; omega
    have k3 := ok.x i hlt
    have k4 := ok.y i hlt
    repeat' (first | ((with_reducible refine kok ?_); kernel_rfl) | ((with_reducible refine keq_mk ?_); kernel_rfl) | with_reducible rfl | ((conv => whnf); first | (with_reducible exact trivial) | ((with_reducible refine and_ff ?_ ?_); · exact rfl) | ((with_reducible refine and_tt ?_ ?_); · exact rfl) | (with_reducible refine And.intro ?_ ?_) | intro _ | (with_reducible refine fin2 hk ?_) | ((with_reducible refine eq_leaf ?_); exact rfl) | exact trivial))
    all_goals try ((first | with_reducible refine (?_ : (_ : Int) ≤ _) | with_reducible refine (?_ : (_ : Int) < _) | with_reducible refine (?_ : (_ : Nat) ≤ _) | with_reducible refine (?_ : (_ : Nat) < _)); clear hk; first | omega | (simp only [Int.toNat_natCast, Int.reduceToNat]; omega))
    all_goals try (
      clear hk hk1
      rename_i q0 q1
      have q2 : q0 = 0 ∨ q0 = 1 := by omega
      rcases q2 with rfl | rfl <;> first | rfl | (exfalso; omega))
    repeat' (first | ((with_reducible refine kok ?_); kernel_rfl) | ((with_reducible refine keq_mk ?_); kernel_rfl) | with_reducible rfl | ((conv => whnf); first | (with_reducible exact trivial) | ((with_reducible refine and_ff ?_ ?_); · exact rfl) | ((with_reducible refine and_tt ?_ ?_); · exact rfl) | (with_reducible refine And.intro ?_ ?_) | intro _ | (with_reducible refine fin2 hk ?_) | ((with_reducible refine eq_leaf ?_); exact rfl) | exact trivial))
    all_goals try ((first | with_reducible refine (?_ : (_ : Int) ≤ _) | with_reducible refine (?_ : (_ : Int) < _) | with_reducible refine (?_ : (_ : Nat) ≤ _) | with_reducible refine (?_ : (_ : Nat) < _)); clear hk; first | omega | (simp only [Int.toNat_natCast, Int.reduceToNat]; omega))
    conv => whnf
    refine ⟨i + 1, ?_⟩
    have hln := sndL_len t i
    have hls : (sndsL t (i + 1)).length = (sndsL t i).length + 13 := by rw [sndsL_succ, List.length_append, hln]
    repeat' (first | ((with_reducible refine kok ?_); kernel_rfl) | ((with_reducible refine keq_mk ?_); kernel_rfl) | with_reducible rfl | ((conv => whnf); first | (with_reducible exact trivial) | ((with_reducible refine and_ff ?_ ?_); · exact rfl) | ((with_reducible refine and_tt ?_ ?_); · exact rfl) | (with_reducible refine And.intro ?_ ?_) | intro _ | (with_reducible refine fin2 hk ?_) | ((with_reducible refine eq_leaf ?_); exact rfl) | exact trivial))
    all_goals first
      | exact hlt
      | (clear hk hk1; show t.nx - (i + 1) < t.nx - i; omega)
      | (clear hk hk1; rw [hls]; show _ + 1 * 1 + 4 * 2 + 2 * 2 = _; omega)
      | (refine rep_use (behind_rep2 (behind_rep2 (behind_rep2 (rep_byL _) ?_) ?_) ?_) ?_ (by assumption) (by assumption)
         all_goals try (clear hk hk1; simp only [putsL_len, preL_len, Int.reduceToNat]; done)
         simp only [sndsL_succ, sndL, Int.toNat_natCast, Int.reduceToNat, puts1, puts2, List.append_assoc])
      | rfl
      | skip
  have hlt : i < t.ns := by have := of_decide_eq_true g1; omega
  have hsr := src_ok (t := t) e0 hlt
  repeat' (first | ((with_reducible refine kok ?_); kernel_rfl) | ((with_reducible refine keq_mk ?_); kernel_rfl) | with_reducible rfl | ((conv => whnf); first | (with_reducible exact trivial) | ((with_reducible refine and_ff ?_ ?_); · exact rfl) | ((with_reducible refine and_tt ?_ ?_); · exact rfl) | (with_reducible refine And.intro ?_ ?_) | intro _ | (with_reducible refine fin2 hk ?_) | ((with_reducible refine eq_leaf ?_); exact rfl) | exact trivial))
  all_goals try exact hf _ (by assumption)
  all_goals try ((first | with_reducible refine (?_ : (_ : Int) ≤ _) | with_reducible refine (?_ : (_ : Int) < _) | with_reducible refine (?_ : (_ : Nat) ≤ _) | with_reducible refine (?_ : (_ : Nat) < _)); clear hk; first | omega | (simp only [Int.toNat_natCast, Int.reduceToNat]; omega))
  all_goals try (
    clear hk hk1
    rename_i q0 q1
    have q2 : q0 = 0 ∨ q0 = 1 ∨ q0 = 2 := by omega
    rcases q2 with rfl | rfl | rfl <;> first | rfl | (exfalso; omega))
  repeat' (first | ((with_reducible refine kok ?_); kernel_rfl) | ((with_reducible refine keq_mk ?_); kernel_rfl) | with_reducible rfl | ((conv => whnf); first | (with_reducible exact trivial) | ((with_reducible refine and_ff ?_ ?_); · exact rfl) | ((with_reducible refine and_tt ?_ ?_); · exact rfl) | (with_reducible refine And.intro ?_ ?_) | intro _ | (with_reducible refine fin2 hk ?_) | ((with_reducible refine eq_leaf ?_); exact rfl) | exact trivial))
  all_goals try ((first | with_reducible refine (?_ : (_ : Int) ≤ _) | with_reducible refine (?_ : (_ : Int) < _) | with_reducible refine (?_ : (_ : Nat) ≤ _) | with_reducible refine (?_ : (_ : Nat) < _)); clear hk; first | omega | (simp only [Int.toNat_natCast, Int.reduceToNat]; omega))
  conv => whnf
  refine ⟨i + 1, ?_⟩
  have hln := srcL_len t i
  have hls : (srcsL t (i + 1)).length = (srcsL t i).length + (16 + (t.nm i).size) := by rw [srcsL_succ, List.length_append, hln]
  repeat' (first | ((with_reducible refine kok ?_); kernel_rfl) | ((with_reducible refine keq_mk ?_); kernel_rfl) | with_reducible rfl | ((conv => whnf); first | (with_reducible exact trivial) | ((with_reducible refine and_ff ?_ ?_); · exact rfl) | ((with_reducible refine and_tt ?_ ?_); · exact rfl) | (with_reducible refine And.intro ?_ ?_) | intro _ | (with_reducible refine fin2 hk ?_) | ((with_reducible refine eq_leaf ?_); exact rfl) | exact trivial))
  all_goals first
    | exact hlt
    | (clear hk hk1; show t.ns - (i + 1) < t.ns - i; omega)
    | (clear hk hk1; rw [hls]; simp only [Int.toNat_natCast, Int.reduceToNat]; omega)
    | (refine rep_use (rep_str_app2 (behind_rep2 (behind_rep2 (behind_rep2 (behind_rep2 (rep_byL _) ?_) ?_) ?_) ?_) ?_) ?_ (by assumption) (by assumption)
       all_goals try (clear hk hk1; simp only [putsL_len, preL_len, Int.reduceToNat]; done)
       simp only [srcsL_succ, srcL, Int.toNat_natCast, Int.reduceToNat, puts1, puts2, puts3, List.append_assoc])
    | rfl
    | skip
end Go.Proofs.Ytlecbjbjgfpfeaa
end
section
set_option linter.unusedVariables false
set_option linter.unusedSimpArgs false
set_option maxRecDepth 100000
set_option maxHeartbeats 4000000
namespace Go.Proofs.Ytlecbjbjgfpfeaa
open Go.V

/-- Two numbers, the first one's bits above the second one's. -/
theorem shl_or {a b : Int} (h0 : 0 ≤ a) (h1 : a < 1099511627776) (h2 : 0 ≤ b) (h3 : b < 256) : bits .or .i64 (a * 256) b = 256 * a + b := by
  have h := bits_join .i64 62 (by decide) (fun n h0 h1 => by rw [IntKind.wrap_i64]; omega) 8 (a * 256) b (by omega) (by omega) (by omega) h2 (by omega) (by omega)
  rw [h]
  omega
theorem form_short {n q w : Nat} {f : Nat → Int} (h1 : q + w ≤ pE f + 2) (h2 : n < q + w) : formF n f = false := by
  cases h : formF n f with
  | false => rfl
  | true =>
    simp only [formF, Bool.and_eq_true, decide_eq_true_eq] at h
    omega

def rTakeC : CRule := fun ds H K => match ds, H with
  | [.int .i64 w, .ptr 0 0], [some (.row [.rsl 1 m g])] => (0 ≤ w ∧ w ≤ 100000 ∧ m ≤ 1000000) ∧ ((m : Int) < w → K (.pan (.iface 28 (.int .i64 6))) [some (.row [.rsl 1 m g])]) ∧
      (w ≤ (m : Int) → K (.ret (.rsl 1 w.toNat g)) [some (.row [.rsl 1 (m - w.toNat) (fun i j => g (w.toNat + i) j)])])
  | _, _ => False
theorem fTake_ok : CSound Go.Proofs.Try.prog 55 rTakeC := by
  refine csound_mk Try.func55 (by kernel_rfl) rfl (ctx (.nil _)) fun ds H K h => ?_
  unfold rTakeC at h
  split at h
  · rename_i w m g
    obtain ⟨⟨hw0, hw1, hm⟩, hk1, hk⟩ := h
    obtain ⟨v, rfl⟩ := Int.eq_ofNat_of_zero_le hw0
    simp only [Int.toNat_natCast] at *
    repeat' (first | ((with_reducible refine kok ?_); kernel_rfl) | ((with_reducible refine keq_mk ?_); kernel_rfl) | with_reducible rfl | ((conv => whnf); first | (with_reducible exact trivial) | ((with_reducible refine and_ff ?_ ?_); · exact rfl) | ((with_reducible refine and_tt ?_ ?_); · exact rfl) | (with_reducible refine And.intro ?_ ?_) | intro _ | (with_reducible refine fin2 hk ?_) | ((with_reducible refine eq_leaf ?_); exact rfl) | exact trivial))
    · conv => whnf
      exact hk1 (of_decide_eq_true (by assumption))
    all_goals try ((first | with_reducible refine (?_ : (_ : Int) ≤ _) | with_reducible refine (?_ : (_ : Int) < _)); clear hk hk1; have := of_decide_eq_false (by assumption : decide ((m : Int) < v) = false); omega)
    repeat' (first | ((with_reducible refine kok ?_); kernel_rfl) | ((with_reducible refine keq_mk ?_); kernel_rfl) | with_reducible rfl | ((conv => whnf); first | (with_reducible exact trivial) | ((with_reducible refine and_ff ?_ ?_); · exact rfl) | ((with_reducible refine and_tt ?_ ?_); · exact rfl) | (with_reducible refine And.intro ?_ ?_) | intro _ | (with_reducible refine fin2 hk ?_) | ((with_reducible refine eq_leaf ?_); exact rfl) | exact trivial))
    all_goals try ((first | with_reducible refine (?_ : (_ : Int) ≤ _) | with_reducible refine (?_ : (_ : Int) < _)); clear hk hk1; have := of_decide_eq_false (by assumption : decide ((m : Int) < v) = false); omega)
    conv => whnf
    refine ⟨.rsl 1 v g, [some (.row [.rsl 1 (m - v) (fun i j => g (v + i) j)])], ?_⟩
    repeat' (first | ((with_reducible refine kok ?_); kernel_rfl) | ((with_reducible refine keq_mk ?_); kernel_rfl) | with_reducible rfl | ((conv => whnf); first | (with_reducible exact trivial) | ((with_reducible refine and_ff ?_ ?_); · exact rfl) | ((with_reducible refine and_tt ?_ ?_); · exact rfl) | (with_reducible refine And.intro ?_ ?_) | intro _ | (with_reducible refine fin2 hk ?_) | ((with_reducible refine eq_leaf ?_); exact rfl) | exact trivial))
    all_goals first
      | exact hk (by have := of_decide_eq_false (by assumption : decide ((m : Int) < v) = false); omega)
      | (clear hk hk1; show g ((0 : Int).toNat + _) _ = g _ _; rw [Int.toNat_zero, Nat.zero_add])
  · exact h.elim

/-- What a number of the next bytes is: two variables, and what is left of the bytes. -/
def rNumberC : CRule := fun ds H K => match ds, H with
  | [.int .i64 w, .ptr 0 0], [some (.row [.fn q [] [.ptr 1 0]]), some (.row [.rsl 1 m g])] => (((0 ≤ w ∧ w ≤ 4) ∧ m ≤ 1000000 ∧ q = 55) ∧ BytC m g) ∧
      ((m : Int) < w → K (.pan (.iface 28 (.int .i64 6))) [some (.row [.fn q [] [.ptr 1 0]]), some (.row [.rsl 1 m g])]) ∧
      (w ≤ (m : Int) → K (.ret (.int .i64 (numF (toF g) 0 w.toNat))) [some (.row [.fn q [] [.ptr 1 0]]), some (.row [.rsl 1 (m - w.toNat) (fun i j => g (w.toNat + i) j)])])
  | _, _ => False
noncomputable def Ltake : Libs := ⟨[], [(55, frameC rTakeC)], [], []⟩
theorem Ltake_ok : LibsOK Go.Proofs.Try.prog Ltake := ⟨.nil _, asGet_cons (csound_frame fTake_ok) (fun g s h => by cases h), fun f r h => (by cases h), fun f r h => (by cases h)⟩
theorem fNumber_ok : CSound Go.Proofs.Try.prog 56 rNumberC := by
  refine csound_mk Try.func56 (by kernel_rfl) rfl (ctxA Ltake_ok) fun ds H K h => ?_
  unfold rNumberC at h
  split at h
  · rename_i w q m g
    obtain ⟨⟨⟨hw, hm, rfl⟩, hB⟩, hk1, hk⟩ := h
    obtain ⟨v, rfl⟩ := Int.eq_ofNat_of_zero_le hw.1
    simp only [Int.toNat_natCast] at *
    have hv : v ≤ 4 := by omega
    clear hw
    repeat' (first | ((with_reducible refine kok ?_); kernel_rfl) | ((with_reducible refine keq_mk ?_); kernel_rfl) | with_reducible rfl | ((conv => whnf); first | (with_reducible exact trivial) | ((with_reducible refine and_ff ?_ ?_); · exact rfl) | ((with_reducible refine and_tt ?_ ?_); · exact rfl) | (with_reducible refine And.intro ?_ ?_) | intro _ | (with_reducible refine fin2 hk ?_) | ((with_reducible refine eq_leaf ?_); exact rfl) | exact trivial))
    all_goals try ((first | with_reducible refine (?_ : (_ : Int) ≤ _) | with_reducible refine (?_ : (_ : Int) < _) | with_reducible refine (?_ : (_ : Nat) ≤ _) | with_reducible refine (?_ : (_ : Nat) < _)); clear hk; first | omega | (simp only [Int.toNat_natCast, Int.reduceToNat]; omega))
    · conv => whnf
      exact hk1 (by assumption)
    have hle : v ≤ m := by
      rename_i q0
      omega
    have hBc := bytC_imp hB
    have hBy := hB.2
    conv => whnf
    refine ⟨Nat, fun i => [(3, .int .i64 (numF (toF g) 0 i)), (8, .rsl 1 v (bD (toF g))), (9, .int .i64 v), (10, .int .i64 i)],
      fun i => [some (.row [.fn 55 [] [.ptr 1 0]]), some (.row [.rsl 1 (m - v) (fun i j => g (v + i) j)])], fun i => v - i, fun i => i ≤ v, [], 0, fun _ => ⟨rfl, rfl⟩, ?_, fun i hI => ?_⟩
    · clear hk hk1
      repeat' (first | ((with_reducible refine kok ?_); kernel_rfl) | ((with_reducible refine keq_mk ?_); kernel_rfl) | with_reducible rfl | ((conv => whnf); first | (with_reducible exact trivial) | ((with_reducible refine and_ff ?_ ?_); · exact rfl) | ((with_reducible refine and_tt ?_ ?_); · exact rfl) | (with_reducible refine And.intro ?_ ?_) | intro _ | (with_reducible refine fin2 hk ?_) | ((with_reducible refine eq_leaf ?_); exact rfl) | exact trivial))
      all_goals first
        | exact Nat.zero_le _
        | exact hBc _ _ (by omega) (by assumption)
        | rfl
    have hI : i ≤ v := hI
    have hin := numF_in hBy (p := 0) (w := i) (by omega)
    have hp : (256 : Int) ^ i ≤ 4294967296 := by
      have : i = 0 ∨ i = 1 ∨ i = 2 ∨ i = 3 ∨ i = 4 := by omega
      rcases this with rfl | rfl | rfl | rfl | rfl <;> decide
    have e8 : (2 : Int) ^ min (Int.toNat 8) IntKind.i64.bits = 256 := by decide
    have hf : i < v → 0 ≤ toF g i ∧ toF g i < 256 := fun h => hBy i (by omega)
    generalize toF g = f at *
    conv => whnf
    refine ⟨fun g1 => ?_, fun g1 => ?_⟩
    rotate_left
    · have e : i = v := by have := of_decide_eq_false g1; omega
      subst e
      repeat' (first | ((with_reducible refine kok ?_); kernel_rfl) | ((with_reducible refine keq_mk ?_); kernel_rfl) | with_reducible rfl | ((conv => whnf); first | (with_reducible exact trivial) | ((with_reducible refine and_ff ?_ ?_); · exact rfl) | ((with_reducible refine and_tt ?_ ?_); · exact rfl) | (with_reducible refine And.intro ?_ ?_) | intro _ | (with_reducible refine fin2 hk ?_) | ((with_reducible refine eq_leaf ?_); exact rfl) | exact trivial))
      conv => whnf
      refine ⟨.int .i64 (numF f 0 i), [some (.row [.fn 55 [] [.ptr 1 0]]), some (.row [.rsl 1 (m - i) (fun j q => g (i + j) q)])], ?_⟩
      repeat' (first | ((with_reducible refine kok ?_); kernel_rfl) | ((with_reducible refine keq_mk ?_); kernel_rfl) | with_reducible rfl | ((conv => whnf); first | (with_reducible exact trivial) | ((with_reducible refine and_ff ?_ ?_); · exact rfl) | ((with_reducible refine and_tt ?_ ?_); · exact rfl) | (with_reducible refine And.intro ?_ ?_) | intro _ | (with_reducible refine fin2 hk ?_) | ((with_reducible refine eq_leaf ?_); exact rfl) | exact trivial))
      all_goals first
        | exact hk (by omega)
        | rfl
    have hlt : i < v := by have := of_decide_eq_true g1; omega
    have hf := hf hlt
    repeat' (first | ((with_reducible refine kok ?_); kernel_rfl) | ((with_reducible refine keq_mk ?_); kernel_rfl) | with_reducible rfl | ((conv => whnf); first | (with_reducible exact trivial) | ((with_reducible refine and_ff ?_ ?_); · exact rfl) | ((with_reducible refine and_tt ?_ ?_); · exact rfl) | (with_reducible refine And.intro ?_ ?_) | intro _ | (with_reducible refine fin2 hk ?_) | ((with_reducible refine eq_leaf ?_); exact rfl) | exact trivial))
    all_goals try ((first | with_reducible refine (?_ : (_ : Int) ≤ _) | with_reducible refine (?_ : (_ : Int) < _) | with_reducible refine (?_ : (_ : Nat) ≤ _) | with_reducible refine (?_ : (_ : Nat) < _)); clear hk; first | omega | (simp only [Int.toNat_natCast, Int.reduceToNat]; omega))
    all_goals try (clear hk hk1; rw [e8]; omega)
    repeat' (first | ((with_reducible refine kok ?_); kernel_rfl) | ((with_reducible refine keq_mk ?_); kernel_rfl) | with_reducible rfl | ((conv => whnf); first | (with_reducible exact trivial) | ((with_reducible refine and_ff ?_ ?_); · exact rfl) | ((with_reducible refine and_tt ?_ ?_); · exact rfl) | (with_reducible refine And.intro ?_ ?_) | intro _ | (with_reducible refine fin2 hk ?_) | ((with_reducible refine eq_leaf ?_); exact rfl) | exact trivial))
    all_goals try ((first | with_reducible refine (?_ : (_ : Int) ≤ _) | with_reducible refine (?_ : (_ : Int) < _) | with_reducible refine (?_ : (_ : Nat) ≤ _) | with_reducible refine (?_ : (_ : Nat) < _)); clear hk; first | omega | (simp only [Int.toNat_natCast, Int.reduceToNat]; omega))
    conv => whnf
    refine ⟨i + 1, ?_⟩
    repeat' (first | ((with_reducible refine kok ?_); kernel_rfl) | ((with_reducible refine keq_mk ?_); kernel_rfl) | with_reducible rfl | ((conv => whnf); first | (with_reducible exact trivial) | ((with_reducible refine and_ff ?_ ?_); · exact rfl) | ((with_reducible refine and_tt ?_ ?_); · exact rfl) | (with_reducible refine And.intro ?_ ?_) | intro _ | (with_reducible refine fin2 hk ?_) | ((with_reducible refine eq_leaf ?_); exact rfl) | exact trivial))
    · rw [e8]
      show bits .or .i64 (numF f 0 i * 256) (f (i : Int).toNat) = _
      rw [Int.toNat_natCast, shl_or hin.1 (by omega) hf.1 hf.2, numF, Nat.zero_add]
    · exact hlt
    · clear hk hk1; show v - (i + 1) < v - i; omega
  · exact h.elim
end Go.Proofs.Ytlecbjbjgfpfeaa
end
section
set_option linter.unusedVariables false
set_option linter.unusedSimpArgs false
set_option maxRecDepth 100000
set_option maxHeartbeats 4000000
namespace Go.Proofs.Ytlecbjbjgfpfeaa
open Go.V

/-- What Write returns. -/
noncomputable def wrL (t : Task) : List Int := if checkE t = 0 then fileL t else []
theorem wrL_0 {t : Task} (h : checkE t = 0) : wrL t = fileL t := if_pos h
theorem wrL_e {t : Task} (h : checkE t ≠ 0) : wrL t = [] := if_neg h
noncomputable def rWrite : List V.D → Option (Prop × V.D) := fun ds => match ds with
  | [d] => some (TaskIs d ∧ (taskOf d).fits, .tup [.rsl 1 (wrL (taskOf d)).length (byL (wrL (taskOf d))), .int .i64 (checkE (taskOf d))])
  | _ => none
theorem fits_wrL (t : Task) : True := trivial
attribute [local irreducible] checkS fileL bodyL srcsL sndsL cutsL hdL srcL sndL cutL sumL numL strL putsL wrL
theorem fWriteN_ok : NSound Go.Proofs.Try.prog 6 (mk rWrite) := by
  refine nsound_of fWrite_ok fun ds k hk => ?_
  unfold mk rWrite at hk
  split at hk
  · rename_i x heq
    split at heq
    · cases heq
      rename_i d
      obtain ⟨⟨ht, hf⟩, hk⟩ := hk
      refine ⟨[(taskOf d).D], task_imp ht ?_⟩
      clear ht
      generalize taskOf d = t at *
      refine ⟨t, rfl, rfl, hf, fun he => ?_, fun he => ?_⟩
      · rw [wrL_e he] at hk
        repeat' (first | ((with_reducible refine kok ?_); kernel_rfl) | ((with_reducible refine keq_mk ?_); kernel_rfl) | with_reducible rfl | ((conv => whnf); first | (with_reducible exact trivial) | ((with_reducible refine and_ff ?_ ?_); · exact rfl) | ((with_reducible refine and_tt ?_ ?_); · exact rfl) | (with_reducible refine And.intro ?_ ?_) | intro _ | (with_reducible refine fin2 hk ?_) | ((with_reducible refine eq_leaf ?_); exact rfl) | exact trivial))
      · rw [wrL_0 he] at hk
        repeat' (first | ((with_reducible refine kok ?_); kernel_rfl) | ((with_reducible refine keq_mk ?_); kernel_rfl) | with_reducible rfl | ((conv => whnf); first | (with_reducible exact trivial) | ((with_reducible refine and_ff ?_ ?_); · exact rfl) | ((with_reducible refine and_tt ?_ ?_); · exact rfl) | (with_reducible refine And.intro ?_ ?_) | intro _ | (with_reducible refine fin2 hk ?_) | ((with_reducible refine eq_leaf ?_); exact rfl) | exact trivial))
        all_goals exact he.symm
    · cases heq
  · exact hk.elim
theorem fRefWrite_ok : PSound Go.Proofs.Try.prog 7 (mk rWrite) := by
  refine psound_mk Try.func7 (by kernel_rfl) rfl (ctx lrf1_ok) ?_
  (intro ds p d h; unfold rWrite at h; split at h <;> first | (cases h; done) | skip; cases h; refine ⟨Nat.le_of_ble_eq_true rfl, fun hp k hk => ?_⟩)
  rename_i d
  obtain ⟨ht, hf⟩ := hp
  refine ⟨[(taskOf d).D], task_imp ht ?_⟩
  clear ht
  generalize taskOf d = t at *
  by_cases e0 : (checkS t).2.2 = 0
  rotate_left
  · rw [wrL_e e0] at hk
    repeat' (first | ((with_reducible refine kok ?_); kernel_rfl) | ((with_reducible refine keq_mk ?_); kernel_rfl) | with_reducible rfl | ((conv => whnf); first | (with_reducible exact trivial) | ((with_reducible refine and_ff ?_ ?_); · exact rfl) | ((with_reducible refine and_tt ?_ ?_); · exact rfl) | (with_reducible refine And.intro ?_ ?_) | intro _ | (with_reducible refine fin2 hk ?_) | ((with_reducible refine eq_leaf ?_); exact rfl) | exact trivial))
    all_goals try exact hf _ (by assumption)
    all_goals try (
      exfalso
      clear hk
      simp only [taskOf_agg, ↓Bool.not_eq_true', ↓Bool.not_eq_false', ↓decT, ↓decF, out_true, out_false, isin_true, isin_false, Int.toNat_natCast, Int.ofNat_lt, Nat.zero_add, Nat.add_zero, Nat.reduceAdd] at *
      contradiction)
  have hk0 : (checkE t) = 0 := e0
  rw [wrL_0 e0, hk0] at hk
  have ok := check_ok e0
  have bns := ok.ns
  have bnx := ok.nx
  have bnc := ok.nc
  have hsl := srcs_le (t := t) e0
  repeat' (first | ((with_reducible refine kok ?_); kernel_rfl) | ((with_reducible refine keq_mk ?_); kernel_rfl) | with_reducible rfl | ((conv => whnf); first | (with_reducible exact trivial) | ((with_reducible refine and_ff ?_ ?_); · exact rfl) | ((with_reducible refine and_tt ?_ ?_); · exact rfl) | (with_reducible refine And.intro ?_ ?_) | intro _ | (with_reducible refine fin2 hk ?_) | ((with_reducible refine eq_leaf ?_); exact rfl) | exact trivial))
  all_goals try exact hf _ (by assumption)
  all_goals try (
    exfalso
    clear hk
    simp only [taskOf_agg, ↓Bool.not_eq_true', ↓Bool.not_eq_false', ↓decT, ↓decF, out_true, out_false, isin_true, isin_false, Int.toNat_natCast, Int.ofNat_lt, Nat.zero_add, Nat.add_zero, Nat.reduceAdd] at *
    contradiction)
  all_goals try ((first | with_reducible refine (?_ : (_ : Int) ≤ _) | with_reducible refine (?_ : (_ : Int) < _) | with_reducible refine (?_ : (_ : Nat) ≤ _) | with_reducible refine (?_ : (_ : Nat) < _)); clear hk; first | omega | (simp only [Int.toNat_natCast, Int.reduceToNat]; omega))
  repeat' (first | ((with_reducible refine kok ?_); kernel_rfl) | ((with_reducible refine keq_mk ?_); kernel_rfl) | with_reducible rfl | ((conv => whnf); first | (with_reducible exact trivial) | ((with_reducible refine and_ff ?_ ?_); · exact rfl) | ((with_reducible refine and_tt ?_ ?_); · exact rfl) | (with_reducible refine And.intro ?_ ?_) | intro _ | (with_reducible refine fin2 hk ?_) | ((with_reducible refine eq_leaf ?_); exact rfl) | exact trivial))
  all_goals try ((first | with_reducible refine (?_ : (_ : Int) ≤ _) | with_reducible refine (?_ : (_ : Int) < _) | with_reducible refine (?_ : (_ : Nat) ≤ _) | with_reducible refine (?_ : (_ : Nat) < _)); clear hk; first | omega | (simp only [Int.toNat_natCast, Int.reduceToNat]; omega))
  have hc0 : (cutsL t 0).length = 10 := by rw [cutsL_len]
  refine ⟨Nat, fun i => [(1, .ptr 0 0), (7, .own 1 (cutsL t i).length), (8, .int .i64 i)], fun i => [some (.row t.cells), some (.buf 5 1 (cutsL t i).length (byL (cutsL t i))), some (.buf 5 1 1 (lit [.int .u8 1])), none, none], fun i => t.nc - i, fun i => i ≤ t.nc, [], 0, fun _ => ⟨?_, ?_⟩, ?_, fun i hI => ?_⟩
  · conv => lhs; whnf
  · conv => lhs; whnf
  · clear hk
    repeat' (first | ((with_reducible refine kok ?_); kernel_rfl) | ((with_reducible refine keq_mk ?_); kernel_rfl) | with_reducible rfl | ((conv => whnf); first | (with_reducible exact trivial) | ((with_reducible refine and_ff ?_ ?_); · exact rfl) | ((with_reducible refine and_tt ?_ ?_); · exact rfl) | (with_reducible refine And.intro ?_ ?_) | intro _ | (with_reducible refine fin2 hk ?_) | ((with_reducible refine eq_leaf ?_); exact rfl) | exact trivial))
    all_goals first
      | exact Nat.zero_le _
      | (rw [hc0]; show 4 + 1 + 2 + 2 + 1 = _; omega)
      | rfl
      | skip
    all_goals (
      refine rep_use (rep_num_app2 (rep_num_app2 (rep_num_app2 (rep_app (rep_lit [87, 73, 78, 68]) (rep_lit [1])) ?_) ?_) ?_) ?_ (by assumption) (by assumption)
      · rfl
      · simp only [numL_len, Int.reduceToNat, List.length_cons, List.length_nil]
      · simp only [numL_len, Int.reduceToNat, List.length_cons, List.length_nil]
      · simp only [cutsL_0, hdL, Int.reduceToNat, List.append_assoc]; rfl)
  have hI : i ≤ t.nc := hI
  have hli := cutsL_len t i
  conv => whnf
  refine ⟨fun g1 => ?_, fun g1 => ?_⟩
  rotate_left
  · have e : i = t.nc := by have := of_decide_eq_false g1; omega
    subst e
    repeat' (first | ((with_reducible refine kok ?_); kernel_rfl) | ((with_reducible refine keq_mk ?_); kernel_rfl) | with_reducible rfl | ((conv => whnf); first | (with_reducible exact trivial) | ((with_reducible refine and_ff ?_ ?_); · exact rfl) | ((with_reducible refine and_tt ?_ ?_); · exact rfl) | (with_reducible refine And.intro ?_ ?_) | intro _ | (with_reducible refine fin2 hk ?_) | ((with_reducible refine eq_leaf ?_); exact rfl) | exact trivial))
    all_goals try ((first | with_reducible refine (?_ : (_ : Int) ≤ _) | with_reducible refine (?_ : (_ : Int) < _) | with_reducible refine (?_ : (_ : Nat) ≤ _) | with_reducible refine (?_ : (_ : Nat) < _)); clear hk; first | omega | (simp only [Int.toNat_natCast, Int.reduceToNat]; omega))
    have hl0 : (srcsL t 0).length = (cutsL t t.nc).length + 1 := by rw [srcsL_len, cutsL_len]; rfl
    refine ⟨Nat, fun i => [(1, .ptr 0 0), (7, .own 1 (srcsL t i).length), (9, .int .i64 i)], fun i => [some (.row t.cells), some (.buf 5 1 (srcsL t i).length (byL (srcsL t i))), some (.buf 5 1 1 (lit [.int .u8 1])), none, none], fun i => t.ns - i, fun i => i ≤ t.ns, [], 0, fun _ => ⟨?_, ?_⟩, ?_, fun i hI => ?_⟩
    · conv => lhs; whnf
    · conv => lhs; whnf
    · clear hk
      repeat' (first | ((with_reducible refine kok ?_); kernel_rfl) | ((with_reducible refine keq_mk ?_); kernel_rfl) | with_reducible rfl | ((conv => whnf); first | (with_reducible exact trivial) | ((with_reducible refine and_ff ?_ ?_); · exact rfl) | ((with_reducible refine and_tt ?_ ?_); · exact rfl) | (with_reducible refine And.intro ?_ ?_) | intro _ | (with_reducible refine fin2 hk ?_) | ((with_reducible refine eq_leaf ?_); exact rfl) | exact trivial))
      all_goals first
        | exact Nat.zero_le _
        | (rw [hl0]; show _ + 1 = _; omega)
        | rfl
        | skip
      all_goals (
        refine rep_use (rep_num_app2 (rep_byL _) rfl) ?_ (by assumption) (by assumption)
        simp only [srcsL_0, Int.reduceToNat])
    have hI : i ≤ t.ns := hI
    have hli := srcsL_len t i
    have hsi := hsl i hI
    conv => whnf
    refine ⟨fun g1 => ?_, fun g1 => ?_⟩
    rotate_left
    · have e : i = t.ns := by have := of_decide_eq_false g1; omega
      subst e
      repeat' (first | ((with_reducible refine kok ?_); kernel_rfl) | ((with_reducible refine keq_mk ?_); kernel_rfl) | with_reducible rfl | ((conv => whnf); first | (with_reducible exact trivial) | ((with_reducible refine and_ff ?_ ?_); · exact rfl) | ((with_reducible refine and_tt ?_ ?_); · exact rfl) | (with_reducible refine And.intro ?_ ?_) | intro _ | (with_reducible refine fin2 hk ?_) | ((with_reducible refine eq_leaf ?_); exact rfl) | exact trivial))
      all_goals try ((first | with_reducible refine (?_ : (_ : Int) ≤ _) | with_reducible refine (?_ : (_ : Int) < _) | with_reducible refine (?_ : (_ : Nat) ≤ _) | with_reducible refine (?_ : (_ : Nat) < _)); clear hk; first | omega | (simp only [Int.toNat_natCast, Int.reduceToNat]; omega))
      have hx0 : (sndsL t 0).length = (srcsL t t.ns).length + 1 := by rw [sndsL_len]
      refine ⟨Nat, fun i => [(1, .ptr 0 0), (7, .own 1 (sndsL t i).length), (11, .int .i64 i)], fun i => [some (.row t.cells), some (.buf 5 1 (sndsL t i).length (byL (sndsL t i))), some (.buf 5 1 1 (lit [.int .u8 1])), none, none], fun i => t.nx - i, fun i => i ≤ t.nx, [], 0, fun _ => ⟨?_, ?_⟩, ?_, fun i hI => ?_⟩
      · conv => lhs; whnf
      · conv => lhs; whnf
      · clear hk
        repeat' (first | ((with_reducible refine kok ?_); kernel_rfl) | ((with_reducible refine keq_mk ?_); kernel_rfl) | with_reducible rfl | ((conv => whnf); first | (with_reducible exact trivial) | ((with_reducible refine and_ff ?_ ?_); · exact rfl) | ((with_reducible refine and_tt ?_ ?_); · exact rfl) | (with_reducible refine And.intro ?_ ?_) | intro _ | (with_reducible refine fin2 hk ?_) | ((with_reducible refine eq_leaf ?_); exact rfl) | exact trivial))
        all_goals first
          | exact Nat.zero_le _
          | (rw [hx0]; show _ + 1 = _; omega)
          | rfl
          | skip
        all_goals (
          refine rep_use (rep_num_app2 (rep_byL _) rfl) ?_ (by assumption) (by assumption)
          simp only [sndsL_0, Int.reduceToNat])
      have hI : i ≤ t.nx := hI
      have hli := sndsL_len t i
      conv => whnf
      refine ⟨fun g1 => ?_, fun g1 => ?_⟩
      rotate_left
      · have e : i = t.nx := by have := of_decide_eq_false g1; omega
        subst e
        have hby := (BL.snds t t.nx).byt
        have hsm := sum_byL (sndsL t t.nx)
        have hfl := file_len t
        have hbl : bodyL t = sndsL t t.nx := by unfold bodyL; rfl
        rw [hbl] at hfl
        repeat' (first | ((with_reducible refine kok ?_); kernel_rfl) | ((with_reducible refine keq_mk ?_); kernel_rfl) | with_reducible rfl | ((conv => whnf); first | (with_reducible exact trivial) | ((with_reducible refine and_ff ?_ ?_); · exact rfl) | ((with_reducible refine and_tt ?_ ?_); · exact rfl) | (with_reducible refine And.intro ?_ ?_) | intro _ | (with_reducible refine fin2 hk ?_) | ((with_reducible refine eq_leaf ?_); exact rfl) | exact trivial))
        all_goals try exact (hby _ (by assumption)).1
        all_goals try exact (hby _ (by assumption)).2
        all_goals try ((first | with_reducible refine (?_ : (_ : Int) ≤ _) | with_reducible refine (?_ : (_ : Int) < _) | with_reducible refine (?_ : (_ : Nat) ≤ _) | with_reducible refine (?_ : (_ : Nat) < _)); clear hk; first | omega | (simp only [Int.toNat_natCast, Int.reduceToNat]; omega))
        repeat' (first | ((with_reducible refine kok ?_); kernel_rfl) | ((with_reducible refine keq_mk ?_); kernel_rfl) | with_reducible rfl | ((conv => whnf); first | (with_reducible exact trivial) | ((with_reducible refine and_ff ?_ ?_); · exact rfl) | ((with_reducible refine and_tt ?_ ?_); · exact rfl) | (with_reducible refine And.intro ?_ ?_) | intro _ | (with_reducible refine fin2 hk ?_) | ((with_reducible refine eq_leaf ?_); exact rfl) | exact trivial))
        all_goals first
          | (clear hk; rw [hfl]; show _ + 2 = _; omega)
          | (clear hk
             refine rep_use (rep_num_app2 (rep_byL _) rfl) ?_ (by assumption) (by assumption)
             rw [fileL, hbl]
             simp only [Int.reduceToNat, hsm])
          | rfl
          | skip
      have hlt : i < t.nx := by have := of_decide_eq_true g1; omega
      have k3 := ok.x i hlt
      have k4 := ok.y i hlt
      repeat' (first | ((with_reducible refine kok ?_); kernel_rfl) | ((with_reducible refine keq_mk ?_); kernel_rfl) | with_reducible rfl | ((conv => whnf); first | (with_reducible exact trivial) | ((with_reducible refine and_ff ?_ ?_); · exact rfl) | ((with_reducible refine and_tt ?_ ?_); · exact rfl) | (with_reducible refine And.intro ?_ ?_) | intro _ | (with_reducible refine fin2 hk ?_) | ((with_reducible refine eq_leaf ?_); exact rfl) | exact trivial))
      all_goals try exact hf _ (by assumption)
      all_goals try ((first | with_reducible refine (?_ : (_ : Int) ≤ _) | with_reducible refine (?_ : (_ : Int) < _) | with_reducible refine (?_ : (_ : Nat) ≤ _) | with_reducible refine (?_ : (_ : Nat) < _)); clear hk; first | omega | (simp only [Int.toNat_natCast, Int.reduceToNat]; omega))
      repeat' (first | ((with_reducible refine kok ?_); kernel_rfl) | ((with_reducible refine keq_mk ?_); kernel_rfl) | with_reducible rfl | ((conv => whnf); first | (with_reducible exact trivial) | ((with_reducible refine and_ff ?_ ?_); · exact rfl) | ((with_reducible refine and_tt ?_ ?_); · exact rfl) | (with_reducible refine And.intro ?_ ?_) | intro _ | (with_reducible refine fin2 hk ?_) | ((with_reducible refine eq_leaf ?_); exact rfl) | exact trivial))
      all_goals try ((first | with_reducible refine (?_ : (_ : Int) ≤ _) | with_reducible refine (?_ : (_ : Int) < _) | with_reducible refine (?_ : (_ : Nat) ≤ _) | with_reducible refine (?_ : (_ : Nat) < _)); clear hk; first | omega | (simp only [Int.toNat_natCast, Int.reduceToNat]; omega))
      conv => whnf
      refine ⟨i + 1, ?_⟩
      have hln := sndL_len t i
      have hls : (sndsL t (i + 1)).length = (sndsL t i).length + 13 := by rw [sndsL_succ, List.length_append, hln]
      repeat' (first | ((with_reducible refine kok ?_); kernel_rfl) | ((with_reducible refine keq_mk ?_); kernel_rfl) | with_reducible rfl | ((conv => whnf); first | (with_reducible exact trivial) | ((with_reducible refine and_ff ?_ ?_); · exact rfl) | ((with_reducible refine and_tt ?_ ?_); · exact rfl) | (with_reducible refine And.intro ?_ ?_) | intro _ | (with_reducible refine fin2 hk ?_) | ((with_reducible refine eq_leaf ?_); exact rfl) | exact trivial))
      all_goals first
        | exact hlt
        | (clear hk; show t.nx - (i + 1) < t.nx - i; omega)
        | (clear hk; rw [hls]; simp only [Int.toNat_natCast, Int.reduceToNat]; omega)
        | (clear hk; rw [hls]; simp only [Int.toNat_natCast, Int.reduceToNat]; done)
        | (refine rep_use (rep_num_app2 (rep_num_app2 (rep_num_app2 (rep_num_app2 (rep_num_app2 (rep_byL _) rfl) ?_) ?_) ?_) ?_) ?_ (by assumption) (by assumption)
           all_goals try (clear hk; simp only [numL_len, Int.reduceToNat]; done)
           simp only [sndsL_succ, sndL, Int.toNat_natCast, Int.reduceToNat, List.append_assoc])
        | rfl
        | skip

    have hlt : i < t.ns := by have := of_decide_eq_true g1; omega
    have hsr := src_ok (t := t) e0 hlt
    repeat' (first | ((with_reducible refine kok ?_); kernel_rfl) | ((with_reducible refine keq_mk ?_); kernel_rfl) | with_reducible rfl | ((conv => whnf); first | (with_reducible exact trivial) | ((with_reducible refine and_ff ?_ ?_); · exact rfl) | ((with_reducible refine and_tt ?_ ?_); · exact rfl) | (with_reducible refine And.intro ?_ ?_) | intro _ | (with_reducible refine fin2 hk ?_) | ((with_reducible refine eq_leaf ?_); exact rfl) | exact trivial))
    all_goals try exact hf _ (by assumption)
    all_goals try ((first | with_reducible refine (?_ : (_ : Int) ≤ _) | with_reducible refine (?_ : (_ : Int) < _) | with_reducible refine (?_ : (_ : Nat) ≤ _) | with_reducible refine (?_ : (_ : Nat) < _)); clear hk; first | omega | (simp only [Int.toNat_natCast, Int.reduceToNat]; omega))
    repeat' (first | ((with_reducible refine kok ?_); kernel_rfl) | ((with_reducible refine keq_mk ?_); kernel_rfl) | with_reducible rfl | ((conv => whnf); first | (with_reducible exact trivial) | ((with_reducible refine and_ff ?_ ?_); · exact rfl) | ((with_reducible refine and_tt ?_ ?_); · exact rfl) | (with_reducible refine And.intro ?_ ?_) | intro _ | (with_reducible refine fin2 hk ?_) | ((with_reducible refine eq_leaf ?_); exact rfl) | exact trivial))
    all_goals try ((first | with_reducible refine (?_ : (_ : Int) ≤ _) | with_reducible refine (?_ : (_ : Int) < _) | with_reducible refine (?_ : (_ : Nat) ≤ _) | with_reducible refine (?_ : (_ : Nat) < _)); clear hk; first | omega | (simp only [Int.toNat_natCast, Int.reduceToNat]; omega))
    conv => whnf
    refine ⟨i + 1, ?_⟩
    have hln := srcL_len t i
    have hls : (srcsL t (i + 1)).length = (srcsL t i).length + (16 + (t.nm i).size) := by rw [srcsL_succ, List.length_append, hln]
    repeat' (first | ((with_reducible refine kok ?_); kernel_rfl) | ((with_reducible refine keq_mk ?_); kernel_rfl) | with_reducible rfl | ((conv => whnf); first | (with_reducible exact trivial) | ((with_reducible refine and_ff ?_ ?_); · exact rfl) | ((with_reducible refine and_tt ?_ ?_); · exact rfl) | (with_reducible refine And.intro ?_ ?_) | intro _ | (with_reducible refine fin2 hk ?_) | ((with_reducible refine eq_leaf ?_); exact rfl) | exact trivial))
    all_goals first
      | exact hlt
      | (clear hk; show t.ns - (i + 1) < t.ns - i; omega)
      | (clear hk; rw [hls]; simp only [Int.toNat_natCast, Int.reduceToNat]; omega)
      | (clear hk; rw [hls]; simp only [Int.toNat_natCast, Int.reduceToNat]; done)
      | (refine rep_use (rep_str_app2 (rep_num_app2 (rep_num_app2 (rep_num_app2 (rep_num_app2 (rep_num_app2 (rep_num_app2 (rep_num_app2 (rep_byL _) rfl) ?_) ?_) ?_) ?_) ?_) ?_) ?_) ?_ (by assumption) (by assumption)
         all_goals try (clear hk; simp only [numL_len, Int.reduceToNat]; done)
         simp only [srcsL_succ, srcL, Int.toNat_natCast, Int.reduceToNat, List.append_assoc])
      | rfl
      | skip

  have hlt : i < t.nc := by have := of_decide_eq_true g1; omega
  repeat' (first | ((with_reducible refine kok ?_); kernel_rfl) | ((with_reducible refine keq_mk ?_); kernel_rfl) | with_reducible rfl | ((conv => whnf); first | (with_reducible exact trivial) | ((with_reducible refine and_ff ?_ ?_); · exact rfl) | ((with_reducible refine and_tt ?_ ?_); · exact rfl) | (with_reducible refine And.intro ?_ ?_) | intro _ | (with_reducible refine fin2 hk ?_) | ((with_reducible refine eq_leaf ?_); exact rfl) | exact trivial))
  all_goals try exact hf _ (by assumption)
  all_goals try ((first | with_reducible refine (?_ : (_ : Int) ≤ _) | with_reducible refine (?_ : (_ : Int) < _) | with_reducible refine (?_ : (_ : Nat) ≤ _) | with_reducible refine (?_ : (_ : Nat) < _)); clear hk; first | omega | (simp only [Int.toNat_natCast, Int.reduceToNat]; omega))
  repeat' (first | ((with_reducible refine kok ?_); kernel_rfl) | ((with_reducible refine keq_mk ?_); kernel_rfl) | with_reducible rfl | ((conv => whnf); first | (with_reducible exact trivial) | ((with_reducible refine and_ff ?_ ?_); · exact rfl) | ((with_reducible refine and_tt ?_ ?_); · exact rfl) | (with_reducible refine And.intro ?_ ?_) | intro _ | (with_reducible refine fin2 hk ?_) | ((with_reducible refine eq_leaf ?_); exact rfl) | exact trivial))
  all_goals try ((first | with_reducible refine (?_ : (_ : Int) ≤ _) | with_reducible refine (?_ : (_ : Int) < _) | with_reducible refine (?_ : (_ : Nat) ≤ _) | with_reducible refine (?_ : (_ : Nat) < _)); clear hk; first | omega | (simp only [Int.toNat_natCast, Int.reduceToNat]; omega))
  conv => whnf
  refine ⟨i + 1, ?_⟩
  have hln := cutL_len t i
  have hls : (cutsL t (i + 1)).length = (cutsL t i).length + 4 := by rw [cutsL_succ, List.length_append, hln]
  repeat' (first | ((with_reducible refine kok ?_); kernel_rfl) | ((with_reducible refine keq_mk ?_); kernel_rfl) | with_reducible rfl | ((conv => whnf); first | (with_reducible exact trivial) | ((with_reducible refine and_ff ?_ ?_); · exact rfl) | ((with_reducible refine and_tt ?_ ?_); · exact rfl) | (with_reducible refine And.intro ?_ ?_) | intro _ | (with_reducible refine fin2 hk ?_) | ((with_reducible refine eq_leaf ?_); exact rfl) | exact trivial))
  all_goals first
    | exact hlt
    | (clear hk; show t.nc - (i + 1) < t.nc - i; omega)
    | (clear hk; rw [hls]; simp only [Int.toNat_natCast, Int.reduceToNat]; omega)
    | (clear hk; rw [hls]; simp only [Int.toNat_natCast, Int.reduceToNat]; done)
    | (refine rep_use (rep_num_app2 (rep_byL _) rfl) ?_ (by assumption) (by assumption)
       all_goals try (clear hk; simp only [numL_len, Int.reduceToNat]; done)
       simp only [cutsL_succ, cutL, Int.toNat_natCast, Int.reduceToNat, List.append_assoc])
    | rfl
    | skip
end Go.Proofs.Ytlecbjbjgfpfeaa
end
