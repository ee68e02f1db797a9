/-
  Files of soundings: the document's reader (contracts).
-/
import Derived.Test.YtlecbjbjgfpfeaaMm
section
set_option linter.unusedVariables false
set_option linter.unusedSimpArgs false
set_option maxRecDepth 100000
set_option maxHeartbeats 4000000
namespace Go.Proofs.Ytlecbjbjgfpfeaa
open Go.V

/-- Whether bytes are missing; what a read leaves. -/
def short (n : Nat) (a : Int) (w : Int) : Bool := decide ((n : Int) - a < w)
def rdA (n : Nat) (a w : Int) : Int := if (n : Int) - a < w then a else a + w
def rdV (n : Nat) (f : Nat → Int) (a w : Int) : Int := if (n : Int) - a < w then 0 else numF f a.toNat w.toNat
def rdS (n : Nat) (f : Nat → Int) (a w : Int) : ByteArray := if (n : Int) - a < w then ⟨#[]⟩ else strF f a.toNat w.toNat
def rNumberR : CRule := fun ds H K => match ds, H with
  | [.ptr 0 0, .int .i64 w], [some (.row [.rsl 1 n g, .int .i64 a, bd])] => ((0 ≤ w ∧ w ≤ 4) ∧ (0 ≤ a ∧ a ≤ n) ∧ n ≤ 1000000 ∧ BytC n g) ∧ (bif isB bd then K (.ret (.int .i64 (rdV n (toF g) a w))) [some (.row [.rsl 1 n g, .int .i64 (rdA n a w), .bool (boolOf bd || short n a w)])] else False)
  | _, _ => False
def rNameR : CRule := fun ds H K => match ds, H with
  | [.ptr 0 0, .int .i64 w], [some (.row [.rsl 1 n g, .int .i64 a, bd])] => ((0 ≤ w ∧ w ≤ 255) ∧ (0 ≤ a ∧ a ≤ n) ∧ n ≤ 1000000 ∧ BytC n g) ∧ (bif isB bd then K (.ret (.str (rdS n (toF g) a w))) [some (.row [.rsl 1 n g, .int .i64 (rdA n a w), .bool (boolOf bd || short n a w)])] else False)
  | _, _ => False
theorem rd_short {n : Nat} {f : Nat → Int} {a w : Int} (h : decide ((n : Int) - a < w) = true) : short n a w = true ∧ rdA n a w = a ∧ rdV n f a w = 0 ∧ rdS n f a w = ⟨#[]⟩ := by
  have h' := of_decide_eq_true h
  exact ⟨h, if_pos h', if_pos h', if_pos h'⟩
theorem rd_long {n : Nat} {f : Nat → Int} {a w : Int} (h : decide ((n : Int) - a < w) = false) : short n a w = false ∧ rdA n a w = a + w ∧ rdV n f a w = numF f a.toNat w.toNat ∧ rdS n f a w = strF f a.toNat w.toNat := by
  have h' := of_decide_eq_false h
  exact ⟨h, if_neg h', if_neg h', if_neg h'⟩
theorem fNumberR_ok : CSound Go.Proofs.Try.prog 33 rNumberR := by
  refine csound_mk Try.func33 (by kernel_rfl) rfl (ctx (.nil _)) fun ds H K h => ?_
  unfold rNumberR at h
  split at h
  · rename_i w n g a bd
    obtain ⟨⟨⟨hw0, hw4⟩, ⟨ha0, han⟩, hn, hB⟩, h⟩ := h
    have hbd : isB bd = true := by
      cases hbd : isB bd with
      | false => rw [hbd] at h; exact h.elim
      | true => rfl
    rw [hbd, cond_true] at h
    have hk := h
    clear h
    generalize hbo : boolOf bd = bo at hk
    obtain ⟨v, rfl⟩ := Int.eq_ofNat_of_zero_le hw0
    obtain ⟨p, rfl⟩ := Int.eq_ofNat_of_zero_le ha0
    cases bd <;> first | (cases hbd; done) | skip
    · have hBc := bytC_imp hB
      have hBy := hB.2
      clear hB
      have hgg : ∀ i j, i < n → j < 1 → bD (toF g) i j = g i j := fun i j hi hj => (hBc i j hi hj).symm
      generalize toF g = f at *
      repeat' (first | ((with_reducible refine kok ?_); kernel_rfl) | ((with_reducible refine keq_mk ?_); kernel_rfl) | with_reducible rfl | ((conv => whnf); first | (with_reducible exact trivial) | ((with_reducible refine and_ff ?_ ?_); · exact rfl) | ((with_reducible refine and_tt ?_ ?_); · exact rfl) | (with_reducible refine And.intro ?_ ?_) | intro _ | (with_reducible refine fin2 hk ?_) | ((with_reducible refine eq_leaf ?_); exact rfl) | exact trivial))
      all_goals try ((first | with_reducible refine (?_ : (_ : Int) ≤ _)); clear hk; omega)
      · have hs := rd_short (f := f) (by assumption)
        conv => whnf
        refine ⟨.int .i64 (rdV n f p v), [some (.row [.rsl 1 n g, .int .i64 (rdA n p v), .bool (bo || short n p v)])], ?_⟩
        repeat' (first | ((with_reducible refine kok ?_); kernel_rfl) | ((with_reducible refine keq_mk ?_); kernel_rfl) | with_reducible rfl | ((conv => whnf); first | (with_reducible exact trivial) | ((with_reducible refine and_ff ?_ ?_); · exact rfl) | ((with_reducible refine and_tt ?_ ?_); · exact rfl) | (with_reducible refine And.intro ?_ ?_) | intro _ | (with_reducible refine fin2 hk ?_) | ((with_reducible refine eq_leaf ?_); exact rfl) | exact trivial))
        all_goals first
          | exact hk
          | exact hs.2.2.1.symm
          | exact hs.2.1.symm
          | (rw [hs.1, Bool.or_true])
      have hs := rd_long (f := f) (by assumption)
      have hl : p + v ≤ n := by
        have := of_decide_eq_false (by assumption : decide ((n : Int) - p < v) = false)
        omega
      conv => whnf
      refine ⟨Nat, fun i => [(0, .ptr 0 0), (1, .int .i64 v), (5, .int .i64 (numF f p i)), (6, .int .i64 i)],
        fun i => [some (.row [.rsl 1 n (bD f), .int .i64 p, .tt])], fun i => v - i, fun i => i ≤ v, [], 0, fun _ => ⟨?_, ?_⟩, ?_, fun i hI => ?_⟩
      · rfl
      · rfl
      · clear hk
        repeat' (first | ((with_reducible refine kok ?_); kernel_rfl) | ((with_reducible refine keq_mk ?_); kernel_rfl) | with_reducible rfl | ((conv => whnf); first | (with_reducible exact trivial) | ((with_reducible refine and_ff ?_ ?_); · exact rfl) | ((with_reducible refine and_tt ?_ ?_); · exact rfl) | (with_reducible refine And.intro ?_ ?_) | intro _ | (with_reducible refine fin2 hk ?_) | ((with_reducible refine eq_leaf ?_); exact rfl) | exact trivial))
        all_goals first
          | exact Nat.zero_le _
          | exact hBc _ _ (by assumption) (by assumption)
          | rfl
      have hI : i ≤ v := hI
      have hin := numF_in hBy (p := p) (w := i) (by omega)
      have hp : (256 : Int) ^ i ≤ 4294967296 := by
        have : i = 0 ∨ i = 1 ∨ i = 2 ∨ i = 3 ∨ i = 4 := by omega
        rcases this with rfl | rfl | rfl | rfl | rfl <;> decide
      conv => whnf
      refine ⟨fun g1 => ?_, fun g1 => ?_⟩
      rotate_left
      · have e : i = v := by have := of_decide_eq_false g1; omega
        subst e
        repeat' (first | ((with_reducible refine kok ?_); kernel_rfl) | ((with_reducible refine keq_mk ?_); kernel_rfl) | with_reducible rfl | ((conv => whnf); first | (with_reducible exact trivial) | ((with_reducible refine and_ff ?_ ?_); · exact rfl) | ((with_reducible refine and_tt ?_ ?_); · exact rfl) | (with_reducible refine And.intro ?_ ?_) | intro _ | (with_reducible refine fin2 hk ?_) | ((with_reducible refine eq_leaf ?_); exact rfl) | exact trivial))
        all_goals try ((first | with_reducible refine (?_ : (_ : Int) ≤ _)); clear hk; omega)
        repeat' (first | ((with_reducible refine kok ?_); kernel_rfl) | ((with_reducible refine keq_mk ?_); kernel_rfl) | with_reducible rfl | ((conv => whnf); first | (with_reducible exact trivial) | ((with_reducible refine and_ff ?_ ?_); · exact rfl) | ((with_reducible refine and_tt ?_ ?_); · exact rfl) | (with_reducible refine And.intro ?_ ?_) | intro _ | (with_reducible refine fin2 hk ?_) | ((with_reducible refine eq_leaf ?_); exact rfl) | exact trivial))
        all_goals try ((first | with_reducible refine (?_ : (_ : Int) ≤ _)); clear hk; omega)
        conv => whnf
        refine ⟨.int .i64 (rdV n f p i), [some (.row [.rsl 1 n g, .int .i64 (rdA n p i), .bool (bo || short n p i)])], ?_⟩
        repeat' (first | ((with_reducible refine kok ?_); kernel_rfl) | ((with_reducible refine keq_mk ?_); kernel_rfl) | with_reducible rfl | ((conv => whnf); first | (with_reducible exact trivial) | ((with_reducible refine and_ff ?_ ?_); · exact rfl) | ((with_reducible refine and_tt ?_ ?_); · exact rfl) | (with_reducible refine And.intro ?_ ?_) | intro _ | (with_reducible refine fin2 hk ?_) | ((with_reducible refine eq_leaf ?_); exact rfl) | exact trivial))
        all_goals first
          | exact hk
          | exact hs.2.2.1.symm
          | exact hs.2.1.symm
          | exact hgg _ _ (by assumption) (by assumption)
          | (rw [hs.1, Bool.or_false, ← hbo]; rfl)
      have hlt : i < v := by have := of_decide_eq_true g1; omega
      have hf := hBy (p + i) (by omega)
      have hcc : ((p : Int) + i).toNat = p + i := by omega
      repeat' (first | ((with_reducible refine kok ?_); kernel_rfl) | ((with_reducible refine keq_mk ?_); kernel_rfl) | with_reducible rfl | ((conv => whnf); first | (with_reducible exact trivial) | ((with_reducible refine and_ff ?_ ?_); · exact rfl) | ((with_reducible refine and_tt ?_ ?_); · exact rfl) | (with_reducible refine And.intro ?_ ?_) | intro _ | (with_reducible refine fin2 hk ?_) | ((with_reducible refine eq_leaf ?_); exact rfl) | exact trivial))
      all_goals try ((first | with_reducible refine (?_ : (_ : Int) ≤ _) | with_reducible refine (?_ : (_ : Int) < _)); clear hk; first | omega | (rw [hcc]; omega))
      repeat' (first | ((with_reducible refine kok ?_); kernel_rfl) | ((with_reducible refine keq_mk ?_); kernel_rfl) | with_reducible rfl | ((conv => whnf); first | (with_reducible exact trivial) | ((with_reducible refine and_ff ?_ ?_); · exact rfl) | ((with_reducible refine and_tt ?_ ?_); · exact rfl) | (with_reducible refine And.intro ?_ ?_) | intro _ | (with_reducible refine fin2 hk ?_) | ((with_reducible refine eq_leaf ?_); exact rfl) | exact trivial))
      all_goals try ((first | with_reducible refine (?_ : (_ : Int) ≤ _) | with_reducible refine (?_ : (_ : Int) < _)); clear hk; first | omega | (rw [hcc]; omega))
      conv => whnf
      refine ⟨i + 1, ?_⟩
      repeat' (first | ((with_reducible refine kok ?_); kernel_rfl) | ((with_reducible refine keq_mk ?_); kernel_rfl) | with_reducible rfl | ((conv => whnf); first | (with_reducible exact trivial) | ((with_reducible refine and_ff ?_ ?_); · exact rfl) | ((with_reducible refine and_tt ?_ ?_); · exact rfl) | (with_reducible refine And.intro ?_ ?_) | intro _ | (with_reducible refine fin2 hk ?_) | ((with_reducible refine eq_leaf ?_); exact rfl) | exact trivial))
      all_goals first
        | exact hlt
        | (clear hk; show v - (i + 1) < v - i; omega)
        | (clear hk; show 256 * numF f p i + f ((p : Int) + i).toNat = numF f p (i + 1); rw [hcc]; rfl)
        | skip
    · have hBc := bytC_imp hB
      have hBy := hB.2
      clear hB
      have hgg : ∀ i j, i < n → j < 1 → bD (toF g) i j = g i j := fun i j hi hj => (hBc i j hi hj).symm
      generalize toF g = f at *
      repeat' (first | ((with_reducible refine kok ?_); kernel_rfl) | ((with_reducible refine keq_mk ?_); kernel_rfl) | with_reducible rfl | ((conv => whnf); first | (with_reducible exact trivial) | ((with_reducible refine and_ff ?_ ?_); · exact rfl) | ((with_reducible refine and_tt ?_ ?_); · exact rfl) | (with_reducible refine And.intro ?_ ?_) | intro _ | (with_reducible refine fin2 hk ?_) | ((with_reducible refine eq_leaf ?_); exact rfl) | exact trivial))
      all_goals try ((first | with_reducible refine (?_ : (_ : Int) ≤ _)); clear hk; omega)
      · have hs := rd_short (f := f) (by assumption)
        conv => whnf
        refine ⟨.int .i64 (rdV n f p v), [some (.row [.rsl 1 n g, .int .i64 (rdA n p v), .bool (bo || short n p v)])], ?_⟩
        repeat' (first | ((with_reducible refine kok ?_); kernel_rfl) | ((with_reducible refine keq_mk ?_); kernel_rfl) | with_reducible rfl | ((conv => whnf); first | (with_reducible exact trivial) | ((with_reducible refine and_ff ?_ ?_); · exact rfl) | ((with_reducible refine and_tt ?_ ?_); · exact rfl) | (with_reducible refine And.intro ?_ ?_) | intro _ | (with_reducible refine fin2 hk ?_) | ((with_reducible refine eq_leaf ?_); exact rfl) | exact trivial))
        all_goals first
          | exact hk
          | exact hs.2.2.1.symm
          | exact hs.2.1.symm
          | (rw [hs.1, Bool.or_true])
      have hs := rd_long (f := f) (by assumption)
      have hl : p + v ≤ n := by
        have := of_decide_eq_false (by assumption : decide ((n : Int) - p < v) = false)
        omega
      conv => whnf
      refine ⟨Nat, fun i => [(0, .ptr 0 0), (1, .int .i64 v), (5, .int .i64 (numF f p i)), (6, .int .i64 i)],
        fun i => [some (.row [.rsl 1 n (bD f), .int .i64 p, .ff])], fun i => v - i, fun i => i ≤ v, [], 0, fun _ => ⟨?_, ?_⟩, ?_, fun i hI => ?_⟩
      · rfl
      · rfl
      · clear hk
        repeat' (first | ((with_reducible refine kok ?_); kernel_rfl) | ((with_reducible refine keq_mk ?_); kernel_rfl) | with_reducible rfl | ((conv => whnf); first | (with_reducible exact trivial) | ((with_reducible refine and_ff ?_ ?_); · exact rfl) | ((with_reducible refine and_tt ?_ ?_); · exact rfl) | (with_reducible refine And.intro ?_ ?_) | intro _ | (with_reducible refine fin2 hk ?_) | ((with_reducible refine eq_leaf ?_); exact rfl) | exact trivial))
        all_goals first
          | exact Nat.zero_le _
          | exact hBc _ _ (by assumption) (by assumption)
          | rfl
      have hI : i ≤ v := hI
      have hin := numF_in hBy (p := p) (w := i) (by omega)
      have hp : (256 : Int) ^ i ≤ 4294967296 := by
        have : i = 0 ∨ i = 1 ∨ i = 2 ∨ i = 3 ∨ i = 4 := by omega
        rcases this with rfl | rfl | rfl | rfl | rfl <;> decide
      conv => whnf
      refine ⟨fun g1 => ?_, fun g1 => ?_⟩
      rotate_left
      · have e : i = v := by have := of_decide_eq_false g1; omega
        subst e
        repeat' (first | ((with_reducible refine kok ?_); kernel_rfl) | ((with_reducible refine keq_mk ?_); kernel_rfl) | with_reducible rfl | ((conv => whnf); first | (with_reducible exact trivial) | ((with_reducible refine and_ff ?_ ?_); · exact rfl) | ((with_reducible refine and_tt ?_ ?_); · exact rfl) | (with_reducible refine And.intro ?_ ?_) | intro _ | (with_reducible refine fin2 hk ?_) | ((with_reducible refine eq_leaf ?_); exact rfl) | exact trivial))
        all_goals try ((first | with_reducible refine (?_ : (_ : Int) ≤ _)); clear hk; omega)
        repeat' (first | ((with_reducible refine kok ?_); kernel_rfl) | ((with_reducible refine keq_mk ?_); kernel_rfl) | with_reducible rfl | ((conv => whnf); first | (with_reducible exact trivial) | ((with_reducible refine and_ff ?_ ?_); · exact rfl) | ((with_reducible refine and_tt ?_ ?_); · exact rfl) | (with_reducible refine And.intro ?_ ?_) | intro _ | (with_reducible refine fin2 hk ?_) | ((with_reducible refine eq_leaf ?_); exact rfl) | exact trivial))
        all_goals try ((first | with_reducible refine (?_ : (_ : Int) ≤ _)); clear hk; omega)
        conv => whnf
        refine ⟨.int .i64 (rdV n f p i), [some (.row [.rsl 1 n g, .int .i64 (rdA n p i), .bool (bo || short n p i)])], ?_⟩
        repeat' (first | ((with_reducible refine kok ?_); kernel_rfl) | ((with_reducible refine keq_mk ?_); kernel_rfl) | with_reducible rfl | ((conv => whnf); first | (with_reducible exact trivial) | ((with_reducible refine and_ff ?_ ?_); · exact rfl) | ((with_reducible refine and_tt ?_ ?_); · exact rfl) | (with_reducible refine And.intro ?_ ?_) | intro _ | (with_reducible refine fin2 hk ?_) | ((with_reducible refine eq_leaf ?_); exact rfl) | exact trivial))
        all_goals first
          | exact hk
          | exact hs.2.2.1.symm
          | exact hs.2.1.symm
          | exact hgg _ _ (by assumption) (by assumption)
          | (rw [hs.1, Bool.or_false, ← hbo]; rfl)
      have hlt : i < v := by have := of_decide_eq_true g1; omega
      have hf := hBy (p + i) (by omega)
      have hcc : ((p : Int) + i).toNat = p + i := by omega
      repeat' (first | ((with_reducible refine kok ?_); kernel_rfl) | ((with_reducible refine keq_mk ?_); kernel_rfl) | with_reducible rfl | ((conv => whnf); first | (with_reducible exact trivial) | ((with_reducible refine and_ff ?_ ?_); · exact rfl) | ((with_reducible refine and_tt ?_ ?_); · exact rfl) | (with_reducible refine And.intro ?_ ?_) | intro _ | (with_reducible refine fin2 hk ?_) | ((with_reducible refine eq_leaf ?_); exact rfl) | exact trivial))
      all_goals try ((first | with_reducible refine (?_ : (_ : Int) ≤ _) | with_reducible refine (?_ : (_ : Int) < _)); clear hk; first | omega | (rw [hcc]; omega))
      repeat' (first | ((with_reducible refine kok ?_); kernel_rfl) | ((with_reducible refine keq_mk ?_); kernel_rfl) | with_reducible rfl | ((conv => whnf); first | (with_reducible exact trivial) | ((with_reducible refine and_ff ?_ ?_); · exact rfl) | ((with_reducible refine and_tt ?_ ?_); · exact rfl) | (with_reducible refine And.intro ?_ ?_) | intro _ | (with_reducible refine fin2 hk ?_) | ((with_reducible refine eq_leaf ?_); exact rfl) | exact trivial))
      all_goals try ((first | with_reducible refine (?_ : (_ : Int) ≤ _) | with_reducible refine (?_ : (_ : Int) < _)); clear hk; first | omega | (rw [hcc]; omega))
      conv => whnf
      refine ⟨i + 1, ?_⟩
      repeat' (first | ((with_reducible refine kok ?_); kernel_rfl) | ((with_reducible refine keq_mk ?_); kernel_rfl) | with_reducible rfl | ((conv => whnf); first | (with_reducible exact trivial) | ((with_reducible refine and_ff ?_ ?_); · exact rfl) | ((with_reducible refine and_tt ?_ ?_); · exact rfl) | (with_reducible refine And.intro ?_ ?_) | intro _ | (with_reducible refine fin2 hk ?_) | ((with_reducible refine eq_leaf ?_); exact rfl) | exact trivial))
      all_goals first
        | exact hlt
        | (clear hk; show v - (i + 1) < v - i; omega)
        | (clear hk; show 256 * numF f p i + f ((p : Int) + i).toNat = numF f p (i + 1); rw [hcc]; rfl)
        | skip
    · rename_i b0
      have hBc := bytC_imp hB
      have hBy := hB.2
      clear hB
      have hgg : ∀ i j, i < n → j < 1 → bD (toF g) i j = g i j := fun i j hi hj => (hBc i j hi hj).symm
      generalize toF g = f at *
      repeat' (first | ((with_reducible refine kok ?_); kernel_rfl) | ((with_reducible refine keq_mk ?_); kernel_rfl) | with_reducible rfl | ((conv => whnf); first | (with_reducible exact trivial) | ((with_reducible refine and_ff ?_ ?_); · exact rfl) | ((with_reducible refine and_tt ?_ ?_); · exact rfl) | (with_reducible refine And.intro ?_ ?_) | intro _ | (with_reducible refine fin2 hk ?_) | ((with_reducible refine eq_leaf ?_); exact rfl) | exact trivial))
      all_goals try ((first | with_reducible refine (?_ : (_ : Int) ≤ _)); clear hk; omega)
      · have hs := rd_short (f := f) (by assumption)
        conv => whnf
        refine ⟨.int .i64 (rdV n f p v), [some (.row [.rsl 1 n g, .int .i64 (rdA n p v), .bool (bo || short n p v)])], ?_⟩
        repeat' (first | ((with_reducible refine kok ?_); kernel_rfl) | ((with_reducible refine keq_mk ?_); kernel_rfl) | with_reducible rfl | ((conv => whnf); first | (with_reducible exact trivial) | ((with_reducible refine and_ff ?_ ?_); · exact rfl) | ((with_reducible refine and_tt ?_ ?_); · exact rfl) | (with_reducible refine And.intro ?_ ?_) | intro _ | (with_reducible refine fin2 hk ?_) | ((with_reducible refine eq_leaf ?_); exact rfl) | exact trivial))
        all_goals first
          | exact hk
          | exact hs.2.2.1.symm
          | exact hs.2.1.symm
          | (rw [hs.1, Bool.or_true])
      have hs := rd_long (f := f) (by assumption)
      have hl : p + v ≤ n := by
        have := of_decide_eq_false (by assumption : decide ((n : Int) - p < v) = false)
        omega
      conv => whnf
      refine ⟨Nat, fun i => [(0, .ptr 0 0), (1, .int .i64 v), (5, .int .i64 (numF f p i)), (6, .int .i64 i)],
        fun i => [some (.row [.rsl 1 n (bD f), .int .i64 p, .bool b0])], fun i => v - i, fun i => i ≤ v, [], 0, fun _ => ⟨?_, ?_⟩, ?_, fun i hI => ?_⟩
      · rfl
      · rfl
      · clear hk
        repeat' (first | ((with_reducible refine kok ?_); kernel_rfl) | ((with_reducible refine keq_mk ?_); kernel_rfl) | with_reducible rfl | ((conv => whnf); first | (with_reducible exact trivial) | ((with_reducible refine and_ff ?_ ?_); · exact rfl) | ((with_reducible refine and_tt ?_ ?_); · exact rfl) | (with_reducible refine And.intro ?_ ?_) | intro _ | (with_reducible refine fin2 hk ?_) | ((with_reducible refine eq_leaf ?_); exact rfl) | exact trivial))
        all_goals first
          | exact Nat.zero_le _
          | exact hBc _ _ (by assumption) (by assumption)
          | rfl
      have hI : i ≤ v := hI
      have hin := numF_in hBy (p := p) (w := i) (by omega)
      have hp : (256 : Int) ^ i ≤ 4294967296 := by
        have : i = 0 ∨ i = 1 ∨ i = 2 ∨ i = 3 ∨ i = 4 := by omega
        rcases this with rfl | rfl | rfl | rfl | rfl <;> decide
      conv => whnf
      refine ⟨fun g1 => ?_, fun g1 => ?_⟩
      rotate_left
      · have e : i = v := by have := of_decide_eq_false g1; omega
        subst e
        repeat' (first | ((with_reducible refine kok ?_); kernel_rfl) | ((with_reducible refine keq_mk ?_); kernel_rfl) | with_reducible rfl | ((conv => whnf); first | (with_reducible exact trivial) | ((with_reducible refine and_ff ?_ ?_); · exact rfl) | ((with_reducible refine and_tt ?_ ?_); · exact rfl) | (with_reducible refine And.intro ?_ ?_) | intro _ | (with_reducible refine fin2 hk ?_) | ((with_reducible refine eq_leaf ?_); exact rfl) | exact trivial))
        all_goals try ((first | with_reducible refine (?_ : (_ : Int) ≤ _)); clear hk; omega)
        repeat' (first | ((with_reducible refine kok ?_); kernel_rfl) | ((with_reducible refine keq_mk ?_); kernel_rfl) | with_reducible rfl | ((conv => whnf); first | (with_reducible exact trivial) | ((with_reducible refine and_ff ?_ ?_); · exact rfl) | ((with_reducible refine and_tt ?_ ?_); · exact rfl) | (with_reducible refine And.intro ?_ ?_) | intro _ | (with_reducible refine fin2 hk ?_) | ((with_reducible refine eq_leaf ?_); exact rfl) | exact trivial))
        all_goals try ((first | with_reducible refine (?_ : (_ : Int) ≤ _)); clear hk; omega)
        conv => whnf
        refine ⟨.int .i64 (rdV n f p i), [some (.row [.rsl 1 n g, .int .i64 (rdA n p i), .bool (bo || short n p i)])], ?_⟩
        repeat' (first | ((with_reducible refine kok ?_); kernel_rfl) | ((with_reducible refine keq_mk ?_); kernel_rfl) | with_reducible rfl | ((conv => whnf); first | (with_reducible exact trivial) | ((with_reducible refine and_ff ?_ ?_); · exact rfl) | ((with_reducible refine and_tt ?_ ?_); · exact rfl) | (with_reducible refine And.intro ?_ ?_) | intro _ | (with_reducible refine fin2 hk ?_) | ((with_reducible refine eq_leaf ?_); exact rfl) | exact trivial))
        all_goals first
          | exact hk
          | exact hs.2.2.1.symm
          | exact hs.2.1.symm
          | exact hgg _ _ (by assumption) (by assumption)
          | (rw [hs.1, Bool.or_false, ← hbo]; rfl)
      have hlt : i < v := by have := of_decide_eq_true g1; omega
      have hf := hBy (p + i) (by omega)
      have hcc : ((p : Int) + i).toNat = p + i := by omega
      repeat' (first | ((with_reducible refine kok ?_); kernel_rfl) | ((with_reducible refine keq_mk ?_); kernel_rfl) | with_reducible rfl | ((conv => whnf); first | (with_reducible exact trivial) | ((with_reducible refine and_ff ?_ ?_); · exact rfl) | ((with_reducible refine and_tt ?_ ?_); · exact rfl) | (with_reducible refine And.intro ?_ ?_) | intro _ | (with_reducible refine fin2 hk ?_) | ((with_reducible refine eq_leaf ?_); exact rfl) | exact trivial))
      all_goals try ((first | with_reducible refine (?_ : (_ : Int) ≤ _) | with_reducible refine (?_ : (_ : Int) < _)); clear hk; first | omega | (rw [hcc]; omega))
      repeat' (first | ((with_reducible refine kok ?_); kernel_rfl) | ((with_reducible refine keq_mk ?_); kernel_rfl) | with_reducible rfl | ((conv => whnf); first | (with_reducible exact trivial) | ((with_reducible refine and_ff ?_ ?_); · exact rfl) | ((with_reducible refine and_tt ?_ ?_); · exact rfl) | (with_reducible refine And.intro ?_ ?_) | intro _ | (with_reducible refine fin2 hk ?_) | ((with_reducible refine eq_leaf ?_); exact rfl) | exact trivial))
      all_goals try ((first | with_reducible refine (?_ : (_ : Int) ≤ _) | with_reducible refine (?_ : (_ : Int) < _)); clear hk; first | omega | (rw [hcc]; omega))
      conv => whnf
      refine ⟨i + 1, ?_⟩
      repeat' (first | ((with_reducible refine kok ?_); kernel_rfl) | ((with_reducible refine keq_mk ?_); kernel_rfl) | with_reducible rfl | ((conv => whnf); first | (with_reducible exact trivial) | ((with_reducible refine and_ff ?_ ?_); · exact rfl) | ((with_reducible refine and_tt ?_ ?_); · exact rfl) | (with_reducible refine And.intro ?_ ?_) | intro _ | (with_reducible refine fin2 hk ?_) | ((with_reducible refine eq_leaf ?_); exact rfl) | exact trivial))
      all_goals first
        | exact hlt
        | (clear hk; show v - (i + 1) < v - i; omega)
        | (clear hk; show 256 * numF f p i + f ((p : Int) + i).toNat = numF f p (i + 1); rw [hcc]; rfl)
        | skip
  · exact h.elim
theorem fNameR_ok : CSound Go.Proofs.Try.prog 32 rNameR := by
  refine csound_mk Try.func32 (by kernel_rfl) rfl (ctx (.nil _)) fun ds H K h => ?_
  unfold rNameR at h
  split at h
  · rename_i w n g a bd
    obtain ⟨⟨⟨hw0, hw4⟩, ⟨ha0, han⟩, hn, hB⟩, h⟩ := h
    have hbd : isB bd = true := by
      cases hbd : isB bd with
      | false => rw [hbd] at h; exact h.elim
      | true => rfl
    rw [hbd, cond_true] at h
    have hk := h
    clear h
    generalize hbo : boolOf bd = bo at hk
    obtain ⟨v, rfl⟩ := Int.eq_ofNat_of_zero_le hw0
    obtain ⟨p, rfl⟩ := Int.eq_ofNat_of_zero_le ha0
    cases bd <;> first | (cases hbd; done) | skip
    · have hBc := bytC_imp hB
      have hBy := hB.2
      clear hB
      have hgg : ∀ i j, i < n → j < 1 → bD (toF g) i j = g i j := fun i j hi hj => (hBc i j hi hj).symm
      have hg0 : ∀ i, i < n → g i 0 = .int .u8 (toF g i) := fun i hi => hBc i 0 hi (by omega)
      generalize toF g = f at *
      have hlF : decide ((n : Int) - p < v) = false → p + v ≤ n := fun h => by
        have := of_decide_eq_false h
        omega
      repeat' (first | ((with_reducible refine kok ?_); kernel_rfl) | ((with_reducible refine keq_mk ?_); kernel_rfl) | with_reducible rfl | ((conv => whnf); first | (with_reducible exact trivial) | ((with_reducible refine and_ff ?_ ?_); · exact rfl) | ((with_reducible refine and_tt ?_ ?_); · exact rfl) | (with_reducible refine And.intro ?_ ?_) | intro _ | (with_reducible refine fin2 hk ?_) | ((with_reducible refine eq_leaf ?_); exact rfl) | exact trivial))
      all_goals try ((first | with_reducible refine (?_ : (_ : Int) ≤ _)); clear hk; omega)
      · have hs := rd_short (f := f) (by assumption)
        conv => whnf
        refine ⟨.str (rdS n f p v), [some (.row [.rsl 1 n g, .int .i64 (rdA n p v), .bool (bo || short n p v)])], ?_⟩
        repeat' (first | ((with_reducible refine kok ?_); kernel_rfl) | ((with_reducible refine keq_mk ?_); kernel_rfl) | with_reducible rfl | ((conv => whnf); first | (with_reducible exact trivial) | ((with_reducible refine and_ff ?_ ?_); · exact rfl) | ((with_reducible refine and_tt ?_ ?_); · exact rfl) | (with_reducible refine And.intro ?_ ?_) | intro _ | (with_reducible refine fin2 hk ?_) | ((with_reducible refine eq_leaf ?_); exact rfl) | exact trivial))
        all_goals first
          | exact hk
          | exact hs.2.2.2.symm
          | exact hs.2.1.symm
          | (rw [hs.1, Bool.or_true])
      all_goals try ((first | with_reducible refine (?_ : (_ : Int) ≤ _)); clear hk; have hl := hlF (by assumption); omega)
      all_goals try (
        clear hk
        have hl := hlF (by assumption)
        show g _ 0 = D.int .u8 (numOf (g _ 0))
        rw [hg0]
        · rfl
        · omega)
      have hs := rd_long (f := f) (by assumption)
      have hl := hlF (by assumption)
      repeat' (first | ((with_reducible refine kok ?_); kernel_rfl) | ((with_reducible refine keq_mk ?_); kernel_rfl) | with_reducible rfl | ((conv => whnf); first | (with_reducible exact trivial) | ((with_reducible refine and_ff ?_ ?_); · exact rfl) | ((with_reducible refine and_tt ?_ ?_); · exact rfl) | (with_reducible refine And.intro ?_ ?_) | intro _ | (with_reducible refine fin2 hk ?_) | ((with_reducible refine eq_leaf ?_); exact rfl) | exact trivial))
      all_goals try ((first | with_reducible refine (?_ : (_ : Int) ≤ _)); clear hk; omega)
      conv => whnf
      refine ⟨.str (rdS n f p v), [some (.row [.rsl 1 n g, .int .i64 (rdA n p v), .bool (bo || short n p v)])], ?_⟩
      repeat' (first | ((with_reducible refine kok ?_); kernel_rfl) | ((with_reducible refine keq_mk ?_); kernel_rfl) | with_reducible rfl | ((conv => whnf); first | (with_reducible exact trivial) | ((with_reducible refine and_ff ?_ ?_); · exact rfl) | ((with_reducible refine and_tt ?_ ?_); · exact rfl) | (with_reducible refine And.intro ?_ ?_) | intro _ | (with_reducible refine fin2 hk ?_) | ((with_reducible refine eq_leaf ?_); exact rfl) | exact trivial))
      all_goals first
        | exact hk
        | exact hs.2.1.symm
        | (rw [hs.1, Bool.or_false, ← hbo]; done)
        | (rw [hs.1, Bool.or_false, ← hbo]; rfl)
        | (clear hk
           rw [hs.2.2.2]
           unfold strF
           rw [show ((p : Int) + v).toNat - (p : Int).toNat = (v : Int).toNat by omega]
           refine congrArg strOfNums (List.map_congr_left fun q hq => ?_)
           rw [List.mem_range] at hq
           show numOf (g _ 0) = _
           rw [hg0]
           · rfl
           · omega)
        | skip
    · have hBc := bytC_imp hB
      have hBy := hB.2
      clear hB
      have hgg : ∀ i j, i < n → j < 1 → bD (toF g) i j = g i j := fun i j hi hj => (hBc i j hi hj).symm
      have hg0 : ∀ i, i < n → g i 0 = .int .u8 (toF g i) := fun i hi => hBc i 0 hi (by omega)
      generalize toF g = f at *
      have hlF : decide ((n : Int) - p < v) = false → p + v ≤ n := fun h => by
        have := of_decide_eq_false h
        omega
      repeat' (first | ((with_reducible refine kok ?_); kernel_rfl) | ((with_reducible refine keq_mk ?_); kernel_rfl) | with_reducible rfl | ((conv => whnf); first | (with_reducible exact trivial) | ((with_reducible refine and_ff ?_ ?_); · exact rfl) | ((with_reducible refine and_tt ?_ ?_); · exact rfl) | (with_reducible refine And.intro ?_ ?_) | intro _ | (with_reducible refine fin2 hk ?_) | ((with_reducible refine eq_leaf ?_); exact rfl) | exact trivial))
      all_goals try ((first | with_reducible refine (?_ : (_ : Int) ≤ _)); clear hk; omega)
      · have hs := rd_short (f := f) (by assumption)
        conv => whnf
        refine ⟨.str (rdS n f p v), [some (.row [.rsl 1 n g, .int .i64 (rdA n p v), .bool (bo || short n p v)])], ?_⟩
        repeat' (first | ((with_reducible refine kok ?_); kernel_rfl) | ((with_reducible refine keq_mk ?_); kernel_rfl) | with_reducible rfl | ((conv => whnf); first | (with_reducible exact trivial) | ((with_reducible refine and_ff ?_ ?_); · exact rfl) | ((with_reducible refine and_tt ?_ ?_); · exact rfl) | (with_reducible refine And.intro ?_ ?_) | intro _ | (with_reducible refine fin2 hk ?_) | ((with_reducible refine eq_leaf ?_); exact rfl) | exact trivial))
        all_goals first
          | exact hk
          | exact hs.2.2.2.symm
          | exact hs.2.1.symm
          | (rw [hs.1, Bool.or_true])
      all_goals try ((first | with_reducible refine (?_ : (_ : Int) ≤ _)); clear hk; have hl := hlF (by assumption); omega)
      all_goals try (
        clear hk
        have hl := hlF (by assumption)
        show g _ 0 = D.int .u8 (numOf (g _ 0))
        rw [hg0]
        · rfl
        · omega)
      have hs := rd_long (f := f) (by assumption)
      have hl := hlF (by assumption)
      repeat' (first | ((with_reducible refine kok ?_); kernel_rfl) | ((with_reducible refine keq_mk ?_); kernel_rfl) | with_reducible rfl | ((conv => whnf); first | (with_reducible exact trivial) | ((with_reducible refine and_ff ?_ ?_); · exact rfl) | ((with_reducible refine and_tt ?_ ?_); · exact rfl) | (with_reducible refine And.intro ?_ ?_) | intro _ | (with_reducible refine fin2 hk ?_) | ((with_reducible refine eq_leaf ?_); exact rfl) | exact trivial))
      all_goals try ((first | with_reducible refine (?_ : (_ : Int) ≤ _)); clear hk; omega)
      conv => whnf
      refine ⟨.str (rdS n f p v), [some (.row [.rsl 1 n g, .int .i64 (rdA n p v), .bool (bo || short n p v)])], ?_⟩
      repeat' (first | ((with_reducible refine kok ?_); kernel_rfl) | ((with_reducible refine keq_mk ?_); kernel_rfl) | with_reducible rfl | ((conv => whnf); first | (with_reducible exact trivial) | ((with_reducible refine and_ff ?_ ?_); · exact rfl) | ((with_reducible refine and_tt ?_ ?_); · exact rfl) | (with_reducible refine And.intro ?_ ?_) | intro _ | (with_reducible refine fin2 hk ?_) | ((with_reducible refine eq_leaf ?_); exact rfl) | exact trivial))
      all_goals first
        | exact hk
        | exact hs.2.1.symm
        | (rw [hs.1, Bool.or_false, ← hbo]; done)
        | (rw [hs.1, Bool.or_false, ← hbo]; rfl)
        | (clear hk
           rw [hs.2.2.2]
           unfold strF
           rw [show ((p : Int) + v).toNat - (p : Int).toNat = (v : Int).toNat by omega]
           refine congrArg strOfNums (List.map_congr_left fun q hq => ?_)
           rw [List.mem_range] at hq
           show numOf (g _ 0) = _
           rw [hg0]
           · rfl
           · omega)
        | skip
    · rename_i b0
      have hBc := bytC_imp hB
      have hBy := hB.2
      clear hB
      have hgg : ∀ i j, i < n → j < 1 → bD (toF g) i j = g i j := fun i j hi hj => (hBc i j hi hj).symm
      have hg0 : ∀ i, i < n → g i 0 = .int .u8 (toF g i) := fun i hi => hBc i 0 hi (by omega)
      generalize toF g = f at *
      have hlF : decide ((n : Int) - p < v) = false → p + v ≤ n := fun h => by
        have := of_decide_eq_false h
        omega
      repeat' (first | ((with_reducible refine kok ?_); kernel_rfl) | ((with_reducible refine keq_mk ?_); kernel_rfl) | with_reducible rfl | ((conv => whnf); first | (with_reducible exact trivial) | ((with_reducible refine and_ff ?_ ?_); · exact rfl) | ((with_reducible refine and_tt ?_ ?_); · exact rfl) | (with_reducible refine And.intro ?_ ?_) | intro _ | (with_reducible refine fin2 hk ?_) | ((with_reducible refine eq_leaf ?_); exact rfl) | exact trivial))
      all_goals try ((first | with_reducible refine (?_ : (_ : Int) ≤ _)); clear hk; omega)
      · have hs := rd_short (f := f) (by assumption)
        conv => whnf
        refine ⟨.str (rdS n f p v), [some (.row [.rsl 1 n g, .int .i64 (rdA n p v), .bool (bo || short n p v)])], ?_⟩
        repeat' (first | ((with_reducible refine kok ?_); kernel_rfl) | ((with_reducible refine keq_mk ?_); kernel_rfl) | with_reducible rfl | ((conv => whnf); first | (with_reducible exact trivial) | ((with_reducible refine and_ff ?_ ?_); · exact rfl) | ((with_reducible refine and_tt ?_ ?_); · exact rfl) | (with_reducible refine And.intro ?_ ?_) | intro _ | (with_reducible refine fin2 hk ?_) | ((with_reducible refine eq_leaf ?_); exact rfl) | exact trivial))
        all_goals first
          | exact hk
          | exact hs.2.2.2.symm
          | exact hs.2.1.symm
          | (rw [hs.1, Bool.or_true])
      all_goals try ((first | with_reducible refine (?_ : (_ : Int) ≤ _)); clear hk; have hl := hlF (by assumption); omega)
      all_goals try (
        clear hk
        have hl := hlF (by assumption)
        show g _ 0 = D.int .u8 (numOf (g _ 0))
        rw [hg0]
        · rfl
        · omega)
      have hs := rd_long (f := f) (by assumption)
      have hl := hlF (by assumption)
      repeat' (first | ((with_reducible refine kok ?_); kernel_rfl) | ((with_reducible refine keq_mk ?_); kernel_rfl) | with_reducible rfl | ((conv => whnf); first | (with_reducible exact trivial) | ((with_reducible refine and_ff ?_ ?_); · exact rfl) | ((with_reducible refine and_tt ?_ ?_); · exact rfl) | (with_reducible refine And.intro ?_ ?_) | intro _ | (with_reducible refine fin2 hk ?_) | ((with_reducible refine eq_leaf ?_); exact rfl) | exact trivial))
      all_goals try ((first | with_reducible refine (?_ : (_ : Int) ≤ _)); clear hk; omega)
      conv => whnf
      refine ⟨.str (rdS n f p v), [some (.row [.rsl 1 n g, .int .i64 (rdA n p v), .bool (bo || short n p v)])], ?_⟩
      repeat' (first | ((with_reducible refine kok ?_); kernel_rfl) | ((with_reducible refine keq_mk ?_); kernel_rfl) | with_reducible rfl | ((conv => whnf); first | (with_reducible exact trivial) | ((with_reducible refine and_ff ?_ ?_); · exact rfl) | ((with_reducible refine and_tt ?_ ?_); · exact rfl) | (with_reducible refine And.intro ?_ ?_) | intro _ | (with_reducible refine fin2 hk ?_) | ((with_reducible refine eq_leaf ?_); exact rfl) | exact trivial))
      all_goals first
        | exact hk
        | exact hs.2.1.symm
        | (rw [hs.1, Bool.or_false, ← hbo]; done)
        | (rw [hs.1, Bool.or_false, ← hbo]; rfl)
        | (clear hk
           rw [hs.2.2.2]
           unfold strF
           rw [show ((p : Int) + v).toNat - (p : Int).toNat = (v : Int).toNat by omega]
           refine congrArg strOfNums (List.map_congr_left fun q hq => ?_)
           rw [List.mem_range] at hq
           show numOf (g _ 0) = _
           rw [hg0]
           · rfl
           · omega)
        | skip
  · exact h.elim
end Go.Proofs.Ytlecbjbjgfpfeaa
end
