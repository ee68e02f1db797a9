/-
  The law WindKnown: what it answers (contract).
-/
import Derived.Test.YtlecbjbjgfpfeaaMq
section
set_option linter.unusedVariables false
set_option linter.unusedSimpArgs false
set_option maxRecDepth 100000
set_option maxHeartbeats 4000000
namespace Go.Proofs.Ytlecbjbjgfpfeaa
open Go.V

def rSpan : List V.D → Option (Prop × V.D) := fun ds => match ds with
  | [.int .i64 a, .int .i64 b] => some (True, .agg [.int .i64 a, .int .i64 b])
  | _ => none
theorem span_ok : PSound Go.Proofs.Try.prog 17 (mk rSpan) := by
  refine psound_mk Try.func17 (by kernel_rfl) rfl (ctx (.nil _)) ?_
  (intro ds p d h; unfold rSpan at h; split at h <;> first | (cases h; done) | skip; cases h; refine ⟨Nat.le_of_ble_eq_true rfl, fun hp k hk => ?_⟩)
  rename_i a b
  refine ⟨[.int .i64 a, .int .i64 b], rfl, rfl, ?_⟩
  repeat' (first | ((with_reducible refine kok ?_); kernel_rfl) | ((with_reducible refine keq_mk ?_); kernel_rfl) | with_reducible rfl | ((conv => whnf); first | (with_reducible exact trivial) | ((with_reducible refine and_ff ?_ ?_); · exact rfl) | ((with_reducible refine and_tt ?_ ?_); · exact rfl) | (with_reducible refine And.intro ?_ ?_) | intro _ | (with_reducible refine fin2 hk ?_) | ((with_reducible refine eq_leaf ?_); exact rfl) | exact trivial))
def litN (s : Nat) (l : List V.D) (i j : Nat) : V.D := l.getD (i * s + j) .top
theorem nd {p : Prop} {i : Decidable p} (h : p) (z : (!@decide p i) = true) : False := by
  rw [decide_eq_true h] at z
  cases z
theorem nb {b : Bool} (h : b = true) (z : (!b) = true) : False := by
  rw [h] at z
  cases z
theorem n2 {p q : Prop} {i : Decidable p} {j : Decidable q} (h : p) (h2 : q) (z : (!(@decide p i && (@decide q j && true))) = true) : False := by
  rw [decide_eq_true h, decide_eq_true h2] at z
  cases z
theorem same_li {l : List Int} {n : Nat} {b : Nat → Nat → Int} (hn : l.length = n) (h : ∀ i, i < n → l.getD i 0 = b i 0) : sameB 1 l.length n (im (liD l)) b = true :=
  sameB_iff.2 ⟨hn, fun i _ hi j hj => by
    obtain rfl : j = 0 := by omega
    exact h i (by omega)⟩
theorem k_bandS : sameB 6 2 2 (im (imD (bandA exT 2200 2099))) (im (imD (im (litN 6 ([.int .i64 0, .int .i64 200000, .int .i64 420, .int .i64 580, .int .i64 (-130), .int .i64 80, .int .i64 200000, .int .i64 1000000, .int .i64 260, .int .i64 740, .int .i64 (-290), .int .i64 240]))))) = true :=
  sameB_iff.2 ⟨rfl, fun i _ hi j hj => by
    rw [im_imD, im_imD, k_band i hi j hj]
    have h1 : i = 0 ∨ i = 1 := by omega
    have h2 : j = 0 ∨ j = 1 ∨ j = 2 ∨ j = 3 ∨ j = 4 ∨ j = 5 := by omega
    rcases h1 with rfl | rfl <;> rcases h2 with rfl | rfl | rfl | rfl | rfl | rfl <;> rfl⟩
theorem taskE : taskOf (.agg [.rsl 7 exT.ns (smD exT.nm exT.sa), .rsl 5 exT.nx (imD exT.xa), .rsl 1 exT.nc (imD exT.ca), .int .i64 exT.age, .int .i64 exT.shear]) = exT := rfl
def kWant : List V.D := [.rsl 1 1 (lit [.int .i64 0]), .rsl 1 2 (lit [.int .i64 0, .int .i64 1]), .rsl 1 4 (lit [.int .i64 0, .int .i64 1, .int .i64 2, .int .i64 3]), .rsl 1 2 (lit [.int .i64 1, .int .i64 2])]
/-- Cells that are bytes. -/
theorem bytC_rep {n : Nat} {g : Nat → Nat → V.D} {l : List Int} (h : Rep n g l) (hb : BL l) : BytC n g := by
  have e : ∀ i, i < n → toF g i = l.getD i 0 := fun i hi => by
    unfold toF
    rw [h.2 i 0 hi (by omega)]
    rfl
  refine ⟨fun i hi => by rw [h.2 i 0 hi (by omega), e i hi], fun i hi => ?_⟩
  rw [e i hi]
  exact hb.byt i (h.1 ▸ hi)
theorem strF_rep {n : Nat} {g : Nat → Nat → V.D} {l : List Int} (h : Rep n g l) : strF (toF (byL l)) 0 l.length = strF (toF g) 0 n := by
  obtain ⟨rfl, h⟩ := h
  unfold strF
  congr 1
  refine List.map_congr_left fun i hi => ?_
  have hi := List.mem_range.1 hi
  rw [Nat.zero_add]
  unfold toF
  rw [h i 0 hi (by omega)]
  rfl
def kS : Task := taskOf (.agg [.rsl 7 0 (fun _ _ => .top), .rsl 5 0 (fun _ _ => .top), .rsl 1 1 (fun i j => ([.int .i64 1000] : List V.D).getD (i * 1 + j) .top), .int .i64 30, .int .i64 20])
theorem kS_check : checkE kS = 0 := by decide +kernel
theorem kS_wr : wrL kS = [87, 73, 78, 68, 1, 0, 30, 0, 20, 1, 0, 0, 3, 232, 0, 0, 2, 81] := (wrL_0 kS_check).trans (by decide +kernel)
theorem kX_wr : wrL exT = fileL exT := wrL_0 k_check
theorem kX_len : (wrL exT).length = 134 := by rw [kX_wr]; exact k_len
theorem kX_lenI : ((wrL exT).length : Int) = 134 := by rw [kX_len]; rfl
theorem kB_rep : Rep 18 (fun i j => ([.int .u8 87, .int .u8 73, .int .u8 78, .int .u8 68, .int .u8 1, .int .u8 0, .int .u8 30, .int .u8 0, .int .u8 20, .int .u8 1, .int .u8 0, .int .u8 0, .int .u8 3, .int .u8 232, .int .u8 0, .int .u8 0, .int .u8 2, .int .u8 81] : List V.D).getD (i * 1 + j) .top) [87, 73, 78, 68, 1, 0, 30, 0, 20, 1, 0, 0, 3, 232, 0, 0, 2, 81] := rep_lit [87, 73, 78, 68, 1, 0, 30, 0, 20, 1, 0, 0, 3, 232, 0, 0, 2, 81]
theorem kB_byt : BytC 18 (fun i j => ([.int .u8 87, .int .u8 73, .int .u8 78, .int .u8 68, .int .u8 1, .int .u8 0, .int .u8 30, .int .u8 0, .int .u8 20, .int .u8 1, .int .u8 0, .int .u8 0, .int .u8 3, .int .u8 232, .int .u8 0, .int .u8 0, .int .u8 2, .int .u8 81] : List V.D).getD (i * 1 + j) .top) := bytC_rep kB_rep (by unfold BL; decide)
theorem kS_str : strF (toF (byL (wrL kS))) 0 (wrL kS).length = strF (toF fun i j => ([.int .u8 87, .int .u8 73, .int .u8 78, .int .u8 68, .int .u8 1, .int .u8 0, .int .u8 30, .int .u8 0, .int .u8 20, .int .u8 1, .int .u8 0, .int .u8 0, .int .u8 3, .int .u8 232, .int .u8 0, .int .u8 0, .int .u8 2, .int .u8 81] : List V.D).getD (i * 1 + j) .top) 0 18 := by
  rw [kS_wr]
  exact strF_rep kB_rep
theorem kX_cut : readE (Int.toNat 133 - Int.toNat 0) (toF fun i j => byL (wrL exT) (Int.toNat 0 + i) j) = 6 := by
  have e : (toF fun i j => byL (wrL exT) (Int.toNat 0 + i) j) = toF (byL (fileL exT)) := by
    funext i
    show toI (byL (wrL exT) (Int.toNat 0 + i) 0) = toI (byL (fileL exT) i 0)
    rw [show Int.toNat 0 + i = i from Nat.zero_add i, kX_wr]
  rw [e]
  exact readE_cut (n := (fileL exT).length) (read_write k_check) (by rw [k_len]; decide)
theorem kX_byt : BytC (Int.toNat 133 - Int.toNat 0) (fun i j => byL (wrL exT) (Int.toNat 0 + i) j) := by
  refine ⟨fun i _ => rfl, fun i hi => ?_⟩
  have h := bytC_byt (bytC_wrL exT) (Int.toNat 0 + i) (by rw [kX_len]; show 0 + i < 134; have hi : i < 133 := hi; omega)
  exact h
theorem kX_teq : TEq exT (readR (wrL exT).length (toF (byL (wrL exT)))) := by
  rw [kX_wr]
  exact read_writeT k_check
theorem kX_read : readE (wrL exT).length (toF (byL (wrL exT))) = 0 := by
  rw [kX_wr]
  exact read_write k_check
theorem nf {p : Prop} {i : Decidable p} (h : p) (z : @decide p i = false) : False := by
  rw [decide_eq_true h] at z
  cases z
noncomputable def lrf4 : Lib := (17, mk rSpan) :: (23, mk rOver) :: (8, mk rBytes) :: (12, mk (rConst .tt)) :: (9, mk rRead) :: (11, mk rSameT) :: lrf1
theorem lrf4_ok : LibOK Go.Proofs.Try.prog lrf4 := .cons span_ok (.cons windOver_ok (.cons bytes_ok (.cons awake_ok (.cons (psound_new fRead_ok (mk_det _)) (.cons sameT_ok lrf1_ok)))))
noncomputable def Lkn : Libs := ⟨lrf4, [(6, lockC (mk rWriteN))], [], []⟩
theorem Lkn_ok : LibsOK Go.Proofs.Try.prog Lkn := ⟨lrf4_ok, asGet_cons (csound_lock writeN_ok) (fun g s h => by cases h), fun f r h => (by cases h), fun f r h => (by cases h)⟩
attribute [local irreducible] doubtS saysS leftS agreeS blameS answerS checkS begun nameS lowS answerN knownS exT bandsT doubtT atT bandA winA sameB saysT blameT knownT fileL bodyL srcsL sndsL cutsL hdL srcL sndL cutL sumL numL strL putsL readE readR readT strF BytC
theorem lawKnown_ok : PSound Go.Proofs.Try.prog 5 (mk (rConst .tt)) := by
  refine psound_mk Try.func5 (by kernel_rfl) rfl (ctxA Lkn_ok) ?_
  (intro ds p d h; unfold rConst at h; split at h <;> first | (cases h; done) | skip; cases h; refine ⟨Nat.le_of_ble_eq_true rfl, fun hp k hk => ?_⟩)
  refine ⟨[], ?_⟩
  repeat' (first | ((with_reducible refine kok ?_); kernel_rfl) | ((with_reducible refine keq_mk ?_); kernel_rfl) | with_reducible rfl | ((conv => whnf); first | (with_reducible exact trivial) | ((with_reducible refine and_ff ?_ ?_); · exact rfl) | ((with_reducible refine and_tt ?_ ?_); · exact rfl) | (with_reducible refine And.intro ?_ ?_) | intro _ | (with_reducible refine fin2 hk ?_) | ((with_reducible refine eq_leaf ?_); exact rfl) | exact trivial))
  conv => whnf
  refine ⟨Nat, fun i => [(1, .ptr 0 0), (2, .own 1 4), (3, .own 6 4), (4, .int .i64 i)], fun _ => [some (.row [.rsl 7 exT.ns (smD exT.nm exT.sa), .rsl 5 exT.nx (imD exT.xa), .rsl 1 exT.nc (imD exT.ca), .int .i64 exT.age, .int .i64 exT.shear]), some (.buf 3 1 4 (lit [.int .i64 1000, .int .i64 1600, .int .i64 2200, .int .i64 7001])), some .dead, some .dead, some .dead, some .dead, some (.buf 24 1 4 (lit kWant))], fun i => 4 - i, fun i => i ≤ 4, [], 0, fun _ => ⟨rfl, rfl⟩, ?_, fun i hi => ?_⟩
  · clear hk
    repeat' (first | ((with_reducible refine kok ?_); kernel_rfl) | ((with_reducible refine keq_mk ?_); kernel_rfl) | with_reducible rfl | ((conv => whnf); first | (with_reducible exact trivial) | ((with_reducible refine and_ff ?_ ?_); · exact rfl) | ((with_reducible refine and_tt ?_ ?_); · exact rfl) | (with_reducible refine And.intro ?_ ?_) | intro _ | (with_reducible refine fin2 hk ?_) | ((with_reducible refine eq_leaf ?_); exact rfl) | exact trivial))
    all_goals first
      | exact Nat.zero_le _
      | rfl
      | skip
  have hi : i = 0 ∨ i = 1 ∨ i = 2 ∨ i = 3 ∨ i = 4 := by
    have hi : i ≤ 4 := hi
    omega
  rcases hi with rfl | rfl | rfl | rfl | rfl
  · repeat' (first | ((with_reducible refine kok ?_); kernel_rfl) | ((with_reducible refine keq_mk ?_); kernel_rfl) | with_reducible rfl | ((conv => whnf); first | (with_reducible exact trivial) | ((with_reducible refine and_ff ?_ ?_); · exact rfl) | ((with_reducible refine and_tt ?_ ?_); · exact rfl) | (with_reducible refine And.intro ?_ ?_) | intro _ | (with_reducible refine fin2 hk ?_) | ((with_reducible refine eq_leaf ?_); exact rfl) | exact trivial))
    all_goals try exact ex_fits _ (by assumption)
    all_goals try ((first | with_reducible refine (?_ : (_ : Int) ≤ _) | with_reducible refine (?_ : (_ : Int) < _) | with_reducible refine (?_ : (_ : Nat) ≤ _) | with_reducible refine (?_ : (_ : Nat) < _)); clear hk; first | decide | omega)
    all_goals try (rename_i z; exact (nd (by rw [taskE, k_known1]) z).elim)
    all_goals try (rename_i z; exact (nb (by rw [taskE, k_known1]; exact same_li (l := [0]) rfl (by decide)) z).elim)
    · rename_i i j hi hj
      clear hk
      obtain rfl : j = 0 := by omega
      have hi : i = 0 := by omega
      rcases hi with rfl <;> rfl
    · rw [taskE, k_known1]
      exact Nat.le_of_ble_eq_true rfl
    clear hk
    conv => whnf
    refine ⟨1, ?_⟩
    repeat' (first | ((with_reducible refine kok ?_); kernel_rfl) | ((with_reducible refine keq_mk ?_); kernel_rfl) | with_reducible rfl | ((conv => whnf); first | (with_reducible exact trivial) | ((with_reducible refine and_ff ?_ ?_); · exact rfl) | ((with_reducible refine and_tt ?_ ?_); · exact rfl) | (with_reducible refine And.intro ?_ ?_) | intro _ | (with_reducible refine fin2 hk ?_) | ((with_reducible refine eq_leaf ?_); exact rfl) | exact trivial))
    all_goals first
      | decide
      | rfl
      | skip
  · repeat' (first | ((with_reducible refine kok ?_); kernel_rfl) | ((with_reducible refine keq_mk ?_); kernel_rfl) | with_reducible rfl | ((conv => whnf); first | (with_reducible exact trivial) | ((with_reducible refine and_ff ?_ ?_); · exact rfl) | ((with_reducible refine and_tt ?_ ?_); · exact rfl) | (with_reducible refine And.intro ?_ ?_) | intro _ | (with_reducible refine fin2 hk ?_) | ((with_reducible refine eq_leaf ?_); exact rfl) | exact trivial))
    all_goals try exact ex_fits _ (by assumption)
    all_goals try ((first | with_reducible refine (?_ : (_ : Int) ≤ _) | with_reducible refine (?_ : (_ : Int) < _) | with_reducible refine (?_ : (_ : Nat) ≤ _) | with_reducible refine (?_ : (_ : Nat) < _)); clear hk; first | decide | omega)
    all_goals try (rename_i z; exact (nd (by rw [taskE, k_known2]) z).elim)
    all_goals try (rename_i z; exact (nb (by rw [taskE, k_known2]; exact same_li (l := [0, 1]) rfl (by decide)) z).elim)
    · rename_i i j hi hj
      clear hk
      obtain rfl : j = 0 := by omega
      have hi : i = 0 ∨ i = 1 := by omega
      rcases hi with rfl | rfl <;> rfl
    · rw [taskE, k_known2]
      exact Nat.le_of_ble_eq_true rfl
    clear hk
    conv => whnf
    refine ⟨2, ?_⟩
    repeat' (first | ((with_reducible refine kok ?_); kernel_rfl) | ((with_reducible refine keq_mk ?_); kernel_rfl) | with_reducible rfl | ((conv => whnf); first | (with_reducible exact trivial) | ((with_reducible refine and_ff ?_ ?_); · exact rfl) | ((with_reducible refine and_tt ?_ ?_); · exact rfl) | (with_reducible refine And.intro ?_ ?_) | intro _ | (with_reducible refine fin2 hk ?_) | ((with_reducible refine eq_leaf ?_); exact rfl) | exact trivial))
    all_goals first
      | decide
      | rfl
      | skip
  · repeat' (first | ((with_reducible refine kok ?_); kernel_rfl) | ((with_reducible refine keq_mk ?_); kernel_rfl) | with_reducible rfl | ((conv => whnf); first | (with_reducible exact trivial) | ((with_reducible refine and_ff ?_ ?_); · exact rfl) | ((with_reducible refine and_tt ?_ ?_); · exact rfl) | (with_reducible refine And.intro ?_ ?_) | intro _ | (with_reducible refine fin2 hk ?_) | ((with_reducible refine eq_leaf ?_); exact rfl) | exact trivial))
    all_goals try exact ex_fits _ (by assumption)
    all_goals try ((first | with_reducible refine (?_ : (_ : Int) ≤ _) | with_reducible refine (?_ : (_ : Int) < _) | with_reducible refine (?_ : (_ : Nat) ≤ _) | with_reducible refine (?_ : (_ : Nat) < _)); clear hk; first | decide | omega)
    all_goals try (rename_i z; exact (nd (by rw [taskE, k_known3]) z).elim)
    all_goals try (rename_i z; exact (nb (by rw [taskE, k_known3]; exact same_li (l := [0, 1, 2, 3]) rfl (by decide)) z).elim)
    · rename_i i j hi hj
      clear hk
      obtain rfl : j = 0 := by omega
      have hi : i = 0 ∨ i = 1 ∨ i = 2 ∨ i = 3 := by omega
      rcases hi with rfl | rfl | rfl | rfl <;> rfl
    · rw [taskE, k_known3]
      exact Nat.le_of_ble_eq_true rfl
    clear hk
    conv => whnf
    refine ⟨3, ?_⟩
    repeat' (first | ((with_reducible refine kok ?_); kernel_rfl) | ((with_reducible refine keq_mk ?_); kernel_rfl) | with_reducible rfl | ((conv => whnf); first | (with_reducible exact trivial) | ((with_reducible refine and_ff ?_ ?_); · exact rfl) | ((with_reducible refine and_tt ?_ ?_); · exact rfl) | (with_reducible refine And.intro ?_ ?_) | intro _ | (with_reducible refine fin2 hk ?_) | ((with_reducible refine eq_leaf ?_); exact rfl) | exact trivial))
    all_goals first
      | decide
      | rfl
      | skip
  · repeat' (first | ((with_reducible refine kok ?_); kernel_rfl) | ((with_reducible refine keq_mk ?_); kernel_rfl) | with_reducible rfl | ((conv => whnf); first | (with_reducible exact trivial) | ((with_reducible refine and_ff ?_ ?_); · exact rfl) | ((with_reducible refine and_tt ?_ ?_); · exact rfl) | (with_reducible refine And.intro ?_ ?_) | intro _ | (with_reducible refine fin2 hk ?_) | ((with_reducible refine eq_leaf ?_); exact rfl) | exact trivial))
    all_goals try exact ex_fits _ (by assumption)
    all_goals try ((first | with_reducible refine (?_ : (_ : Int) ≤ _) | with_reducible refine (?_ : (_ : Int) < _) | with_reducible refine (?_ : (_ : Nat) ≤ _) | with_reducible refine (?_ : (_ : Nat) < _)); clear hk; first | decide | omega)
    all_goals try (rename_i z; exact (nd (by rw [taskE, k_known4]) z).elim)
    all_goals try (rename_i z; exact (nb (by rw [taskE, k_known4]; exact same_li (l := [1, 2]) rfl (by decide)) z).elim)
    · rename_i i j hi hj
      clear hk
      obtain rfl : j = 0 := by omega
      have hi : i = 0 ∨ i = 1 := by omega
      rcases hi with rfl | rfl <;> rfl
    · rw [taskE, k_known4]
      exact Nat.le_of_ble_eq_true rfl
    clear hk
    conv => whnf
    refine ⟨4, ?_⟩
    repeat' (first | ((with_reducible refine kok ?_); kernel_rfl) | ((with_reducible refine keq_mk ?_); kernel_rfl) | with_reducible rfl | ((conv => whnf); first | (with_reducible exact trivial) | ((with_reducible refine and_ff ?_ ?_); · exact rfl) | ((with_reducible refine and_tt ?_ ?_); · exact rfl) | (with_reducible refine And.intro ?_ ?_) | intro _ | (with_reducible refine fin2 hk ?_) | ((with_reducible refine eq_leaf ?_); exact rfl) | exact trivial))
    all_goals first
      | decide
      | rfl
      | skip
  repeat' (first | ((with_reducible refine kok ?_); kernel_rfl) | ((with_reducible refine keq_mk ?_); kernel_rfl) | with_reducible rfl | ((conv => whnf); first | (with_reducible exact trivial) | ((with_reducible refine and_ff ?_ ?_); · exact rfl) | ((with_reducible refine and_tt ?_ ?_); · exact rfl) | (with_reducible refine And.intro ?_ ?_) | intro _ | (with_reducible refine fin2 hk ?_) | ((with_reducible refine eq_leaf ?_); exact rfl) | exact trivial))
  conv => whnf
  refine ⟨Nat, fun i => [(1, .ptr 0 0), (7, .own 7 4), (8, .own 8 4), (9, .int .i64 i)], fun _ => [some (.row [.rsl 7 exT.ns (smD exT.nm exT.sa), .rsl 5 exT.nx (imD exT.xa), .rsl 1 exT.nc (imD exT.ca), .int .i64 exT.age, .int .i64 exT.shear]), some (.buf 3 1 4 (lit [.int .i64 1000, .int .i64 1600, .int .i64 2200, .int .i64 7001])), some .dead, some .dead, some .dead, some .dead, some (.buf 24 1 4 (lit kWant)), some (.buf 46 3 4 (litN 3 [.int .i64 0, .int .i64 100000, .int .i64 1000, .int .i64 0, .int .i64 100000, .int .i64 1001, .int .i64 0, .int .i64 250000, .int .i64 1600, .int .i64 2, .int .i64 0, .int .i64 1000])), some (.buf 3 1 4 (lit [.int .i64 50, .int .i64 80, .int .i64 120, .int .i64 250]))], fun i => 4 - i, fun i => i ≤ 4, [], 0, fun _ => ⟨rfl, rfl⟩, ?_, fun i hi => ?_⟩
  · clear hk
    repeat' (first | ((with_reducible refine kok ?_); kernel_rfl) | ((with_reducible refine keq_mk ?_); kernel_rfl) | with_reducible rfl | ((conv => whnf); first | (with_reducible exact trivial) | ((with_reducible refine and_ff ?_ ?_); · exact rfl) | ((with_reducible refine and_tt ?_ ?_); · exact rfl) | (with_reducible refine And.intro ?_ ?_) | intro _ | (with_reducible refine fin2 hk ?_) | ((with_reducible refine eq_leaf ?_); exact rfl) | exact trivial))
    all_goals first
      | exact Nat.zero_le _
      | rfl
      | skip
  have hi : i = 0 ∨ i = 1 ∨ i = 2 ∨ i = 3 ∨ i = 4 := by
    have hi : i ≤ 4 := hi
    omega
  rcases hi with rfl | rfl | rfl | rfl | rfl
  · repeat' (first | ((with_reducible refine kok ?_); kernel_rfl) | ((with_reducible refine keq_mk ?_); kernel_rfl) | with_reducible rfl | ((conv => whnf); first | (with_reducible exact trivial) | ((with_reducible refine and_ff ?_ ?_); · exact rfl) | ((with_reducible refine and_tt ?_ ?_); · exact rfl) | (with_reducible refine And.intro ?_ ?_) | intro _ | (with_reducible refine fin2 hk ?_) | ((with_reducible refine eq_leaf ?_); exact rfl) | exact trivial))
    all_goals try exact ex_fits _ (by assumption)
    all_goals try ((first | with_reducible refine (?_ : (_ : Int) ≤ _) | with_reducible refine (?_ : (_ : Int) < _) | with_reducible refine (?_ : (_ : Nat) ≤ _) | with_reducible refine (?_ : (_ : Nat) < _)); clear hk; first | decide | omega)
    all_goals try (rename_i z; exact (nd (by rw [taskE, k_doubt1]) z).elim)
    clear hk
    conv => whnf
    refine ⟨1, ?_⟩
    repeat' (first | ((with_reducible refine kok ?_); kernel_rfl) | ((with_reducible refine keq_mk ?_); kernel_rfl) | with_reducible rfl | ((conv => whnf); first | (with_reducible exact trivial) | ((with_reducible refine and_ff ?_ ?_); · exact rfl) | ((with_reducible refine and_tt ?_ ?_); · exact rfl) | (with_reducible refine And.intro ?_ ?_) | intro _ | (with_reducible refine fin2 hk ?_) | ((with_reducible refine eq_leaf ?_); exact rfl) | exact trivial))
    all_goals first
      | decide
      | rfl
      | skip
  · repeat' (first | ((with_reducible refine kok ?_); kernel_rfl) | ((with_reducible refine keq_mk ?_); kernel_rfl) | with_reducible rfl | ((conv => whnf); first | (with_reducible exact trivial) | ((with_reducible refine and_ff ?_ ?_); · exact rfl) | ((with_reducible refine and_tt ?_ ?_); · exact rfl) | (with_reducible refine And.intro ?_ ?_) | intro _ | (with_reducible refine fin2 hk ?_) | ((with_reducible refine eq_leaf ?_); exact rfl) | exact trivial))
    all_goals try exact ex_fits _ (by assumption)
    all_goals try ((first | with_reducible refine (?_ : (_ : Int) ≤ _) | with_reducible refine (?_ : (_ : Int) < _) | with_reducible refine (?_ : (_ : Nat) ≤ _) | with_reducible refine (?_ : (_ : Nat) < _)); clear hk; first | decide | omega)
    all_goals try (rename_i z; exact (nd (by rw [taskE, k_doubt2]) z).elim)
    clear hk
    conv => whnf
    refine ⟨2, ?_⟩
    repeat' (first | ((with_reducible refine kok ?_); kernel_rfl) | ((with_reducible refine keq_mk ?_); kernel_rfl) | with_reducible rfl | ((conv => whnf); first | (with_reducible exact trivial) | ((with_reducible refine and_ff ?_ ?_); · exact rfl) | ((with_reducible refine and_tt ?_ ?_); · exact rfl) | (with_reducible refine And.intro ?_ ?_) | intro _ | (with_reducible refine fin2 hk ?_) | ((with_reducible refine eq_leaf ?_); exact rfl) | exact trivial))
    all_goals first
      | decide
      | rfl
      | skip
  · repeat' (first | ((with_reducible refine kok ?_); kernel_rfl) | ((with_reducible refine keq_mk ?_); kernel_rfl) | with_reducible rfl | ((conv => whnf); first | (with_reducible exact trivial) | ((with_reducible refine and_ff ?_ ?_); · exact rfl) | ((with_reducible refine and_tt ?_ ?_); · exact rfl) | (with_reducible refine And.intro ?_ ?_) | intro _ | (with_reducible refine fin2 hk ?_) | ((with_reducible refine eq_leaf ?_); exact rfl) | exact trivial))
    all_goals try exact ex_fits _ (by assumption)
    all_goals try ((first | with_reducible refine (?_ : (_ : Int) ≤ _) | with_reducible refine (?_ : (_ : Int) < _) | with_reducible refine (?_ : (_ : Nat) ≤ _) | with_reducible refine (?_ : (_ : Nat) < _)); clear hk; first | decide | omega)
    all_goals try (rename_i z; exact (nd (by rw [taskE, k_doubt3]) z).elim)
    clear hk
    conv => whnf
    refine ⟨3, ?_⟩
    repeat' (first | ((with_reducible refine kok ?_); kernel_rfl) | ((with_reducible refine keq_mk ?_); kernel_rfl) | with_reducible rfl | ((conv => whnf); first | (with_reducible exact trivial) | ((with_reducible refine and_ff ?_ ?_); · exact rfl) | ((with_reducible refine and_tt ?_ ?_); · exact rfl) | (with_reducible refine And.intro ?_ ?_) | intro _ | (with_reducible refine fin2 hk ?_) | ((with_reducible refine eq_leaf ?_); exact rfl) | exact trivial))
    all_goals first
      | decide
      | rfl
      | skip
  · repeat' (first | ((with_reducible refine kok ?_); kernel_rfl) | ((with_reducible refine keq_mk ?_); kernel_rfl) | with_reducible rfl | ((conv => whnf); first | (with_reducible exact trivial) | ((with_reducible refine and_ff ?_ ?_); · exact rfl) | ((with_reducible refine and_tt ?_ ?_); · exact rfl) | (with_reducible refine And.intro ?_ ?_) | intro _ | (with_reducible refine fin2 hk ?_) | ((with_reducible refine eq_leaf ?_); exact rfl) | exact trivial))
    all_goals try exact ex_fits _ (by assumption)
    all_goals try ((first | with_reducible refine (?_ : (_ : Int) ≤ _) | with_reducible refine (?_ : (_ : Int) < _) | with_reducible refine (?_ : (_ : Nat) ≤ _) | with_reducible refine (?_ : (_ : Nat) < _)); clear hk; first | decide | omega)
    all_goals try (rename_i z; exact (nd (by rw [taskE, k_doubt4]) z).elim)
    clear hk
    conv => whnf
    refine ⟨4, ?_⟩
    repeat' (first | ((with_reducible refine kok ?_); kernel_rfl) | ((with_reducible refine keq_mk ?_); kernel_rfl) | with_reducible rfl | ((conv => whnf); first | (with_reducible exact trivial) | ((with_reducible refine and_ff ?_ ?_); · exact rfl) | ((with_reducible refine and_tt ?_ ?_); · exact rfl) | (with_reducible refine And.intro ?_ ?_) | intro _ | (with_reducible refine fin2 hk ?_) | ((with_reducible refine eq_leaf ?_); exact rfl) | exact trivial))
    all_goals first
      | decide
      | rfl
      | skip
  repeat' (first | ((with_reducible refine kok ?_); kernel_rfl) | ((with_reducible refine keq_mk ?_); kernel_rfl) | with_reducible rfl | ((conv => whnf); first | (with_reducible exact trivial) | ((with_reducible refine and_ff ?_ ?_); · exact rfl) | ((with_reducible refine and_tt ?_ ?_); · exact rfl) | (with_reducible refine And.intro ?_ ?_) | intro _ | (with_reducible refine fin2 hk ?_) | ((with_reducible refine eq_leaf ?_); exact rfl) | exact trivial))
  conv => whnf
  refine ⟨Nat, fun i => [(1, .ptr 0 0), (12, .own 9 3), (13, .own 10 3), (14, .int .i64 i)], fun _ => [some (.row [.rsl 7 exT.ns (smD exT.nm exT.sa), .rsl 5 exT.nx (imD exT.xa), .rsl 1 exT.nc (imD exT.ca), .int .i64 exT.age, .int .i64 exT.shear]), some (.buf 3 1 4 (lit [.int .i64 1000, .int .i64 1600, .int .i64 2200, .int .i64 7001])), some .dead, some .dead, some .dead, some .dead, some (.buf 24 1 4 (lit kWant)), some (.buf 46 3 4 (litN 3 [.int .i64 0, .int .i64 100000, .int .i64 1000, .int .i64 0, .int .i64 100000, .int .i64 1001, .int .i64 0, .int .i64 250000, .int .i64 1600, .int .i64 2, .int .i64 0, .int .i64 1000])), some (.buf 3 1 4 (lit [.int .i64 50, .int .i64 80, .int .i64 120, .int .i64 250])), some (.buf 50 2 3 (litN 2 [.int .i64 0, .int .i64 0, .int .i64 1, .int .i64 0, .int .i64 1, .int .i64 1])), some (.buf 55 4 3 (litN 4 [.int .i64 320, .int .i64 580, .int .i64 (-130), .int .i64 130, .int .i64 600, .int .i64 780, .int .i64 (-150), .int .i64 80, .int .i64 640, .int .i64 940, .int .i64 (-110), .int .i64 240]))], fun i => 3 - i, fun i => i ≤ 3, [], 0, fun _ => ⟨rfl, rfl⟩, ?_, fun i hi => ?_⟩
  · clear hk
    repeat' (first | ((with_reducible refine kok ?_); kernel_rfl) | ((with_reducible refine keq_mk ?_); kernel_rfl) | with_reducible rfl | ((conv => whnf); first | (with_reducible exact trivial) | ((with_reducible refine and_ff ?_ ?_); · exact rfl) | ((with_reducible refine and_tt ?_ ?_); · exact rfl) | (with_reducible refine And.intro ?_ ?_) | intro _ | (with_reducible refine fin2 hk ?_) | ((with_reducible refine eq_leaf ?_); exact rfl) | exact trivial))
    all_goals first
      | exact Nat.zero_le _
      | rfl
      | skip
  have hi : i = 0 ∨ i = 1 ∨ i = 2 ∨ i = 3 := by
    have hi : i ≤ 3 := hi
    omega
  rcases hi with rfl | rfl | rfl | rfl
  · repeat' (first | ((with_reducible refine kok ?_); kernel_rfl) | ((with_reducible refine keq_mk ?_); kernel_rfl) | with_reducible rfl | ((conv => whnf); first | (with_reducible exact trivial) | ((with_reducible refine and_ff ?_ ?_); · exact rfl) | ((with_reducible refine and_tt ?_ ?_); · exact rfl) | (with_reducible refine And.intro ?_ ?_) | intro _ | (with_reducible refine fin2 hk ?_) | ((with_reducible refine eq_leaf ?_); exact rfl) | exact trivial))
    all_goals try exact ex_fits _ (by assumption)
    all_goals try ((first | with_reducible refine (?_ : (_ : Int) ≤ _) | with_reducible refine (?_ : (_ : Int) < _) | with_reducible refine (?_ : (_ : Nat) ≤ _) | with_reducible refine (?_ : (_ : Nat) < _)); clear hk; first | decide | omega)
    all_goals try (rename_i z; exact (nd (by rw [taskE, k_says1]) z).elim)
    all_goals try (rename_i z; exact (n2 (by rw [taskE, k_says1]) (by rw [taskE, k_says1]) z).elim)
    clear hk
    conv => whnf
    refine ⟨1, ?_⟩
    repeat' (first | ((with_reducible refine kok ?_); kernel_rfl) | ((with_reducible refine keq_mk ?_); kernel_rfl) | with_reducible rfl | ((conv => whnf); first | (with_reducible exact trivial) | ((with_reducible refine and_ff ?_ ?_); · exact rfl) | ((with_reducible refine and_tt ?_ ?_); · exact rfl) | (with_reducible refine And.intro ?_ ?_) | intro _ | (with_reducible refine fin2 hk ?_) | ((with_reducible refine eq_leaf ?_); exact rfl) | exact trivial))
    all_goals first
      | decide
      | rfl
      | skip
  · repeat' (first | ((with_reducible refine kok ?_); kernel_rfl) | ((with_reducible refine keq_mk ?_); kernel_rfl) | with_reducible rfl | ((conv => whnf); first | (with_reducible exact trivial) | ((with_reducible refine and_ff ?_ ?_); · exact rfl) | ((with_reducible refine and_tt ?_ ?_); · exact rfl) | (with_reducible refine And.intro ?_ ?_) | intro _ | (with_reducible refine fin2 hk ?_) | ((with_reducible refine eq_leaf ?_); exact rfl) | exact trivial))
    all_goals try exact ex_fits _ (by assumption)
    all_goals try ((first | with_reducible refine (?_ : (_ : Int) ≤ _) | with_reducible refine (?_ : (_ : Int) < _) | with_reducible refine (?_ : (_ : Nat) ≤ _) | with_reducible refine (?_ : (_ : Nat) < _)); clear hk; first | decide | omega)
    all_goals try (rename_i z; exact (nd (by rw [taskE, k_says2]) z).elim)
    all_goals try (rename_i z; exact (n2 (by rw [taskE, k_says2]) (by rw [taskE, k_says2]) z).elim)
    clear hk
    conv => whnf
    refine ⟨2, ?_⟩
    repeat' (first | ((with_reducible refine kok ?_); kernel_rfl) | ((with_reducible refine keq_mk ?_); kernel_rfl) | with_reducible rfl | ((conv => whnf); first | (with_reducible exact trivial) | ((with_reducible refine and_ff ?_ ?_); · exact rfl) | ((with_reducible refine and_tt ?_ ?_); · exact rfl) | (with_reducible refine And.intro ?_ ?_) | intro _ | (with_reducible refine fin2 hk ?_) | ((with_reducible refine eq_leaf ?_); exact rfl) | exact trivial))
    all_goals first
      | decide
      | rfl
      | skip
  · repeat' (first | ((with_reducible refine kok ?_); kernel_rfl) | ((with_reducible refine keq_mk ?_); kernel_rfl) | with_reducible rfl | ((conv => whnf); first | (with_reducible exact trivial) | ((with_reducible refine and_ff ?_ ?_); · exact rfl) | ((with_reducible refine and_tt ?_ ?_); · exact rfl) | (with_reducible refine And.intro ?_ ?_) | intro _ | (with_reducible refine fin2 hk ?_) | ((with_reducible refine eq_leaf ?_); exact rfl) | exact trivial))
    all_goals try exact ex_fits _ (by assumption)
    all_goals try ((first | with_reducible refine (?_ : (_ : Int) ≤ _) | with_reducible refine (?_ : (_ : Int) < _) | with_reducible refine (?_ : (_ : Nat) ≤ _) | with_reducible refine (?_ : (_ : Nat) < _)); clear hk; first | decide | omega)
    all_goals try (rename_i z; exact (nd (by rw [taskE, k_says3]) z).elim)
    all_goals try (rename_i z; exact (n2 (by rw [taskE, k_says3]) (by rw [taskE, k_says3]) z).elim)
    clear hk
    conv => whnf
    refine ⟨3, ?_⟩
    repeat' (first | ((with_reducible refine kok ?_); kernel_rfl) | ((with_reducible refine keq_mk ?_); kernel_rfl) | with_reducible rfl | ((conv => whnf); first | (with_reducible exact trivial) | ((with_reducible refine and_ff ?_ ?_); · exact rfl) | ((with_reducible refine and_tt ?_ ?_); · exact rfl) | (with_reducible refine And.intro ?_ ?_) | intro _ | (with_reducible refine fin2 hk ?_) | ((with_reducible refine eq_leaf ?_); exact rfl) | exact trivial))
    all_goals first
      | decide
      | rfl
      | skip
  repeat' (first | ((with_reducible refine kok ?_); kernel_rfl) | ((with_reducible refine keq_mk ?_); kernel_rfl) | with_reducible rfl | ((conv => whnf); first | (with_reducible exact trivial) | ((with_reducible refine and_ff ?_ ?_); · exact rfl) | ((with_reducible refine and_tt ?_ ?_); · exact rfl) | (with_reducible refine And.intro ?_ ?_) | intro _ | (with_reducible refine fin2 hk ?_) | ((with_reducible refine eq_leaf ?_); exact rfl) | exact trivial))
  all_goals try exact ex_fits _ (by assumption)
  all_goals try ((first | with_reducible refine (?_ : (_ : Int) ≤ _) | with_reducible refine (?_ : (_ : Int) < _) | with_reducible refine (?_ : (_ : Nat) ≤ _) | with_reducible refine (?_ : (_ : Nat) < _)); clear hk; first | decide | omega)
  all_goals try (rename_i i j hi hj; exact absurd hi (Nat.not_lt_zero _))
  all_goals try (rename_i i h; exact absurd (show i < 0 from h) (Nat.not_lt_zero _))
  all_goals try (((with_reducible refine (?_ : (_ : Nat) ≤ 1099511627776)); clear hk; rw [taskE]; first | rw [k_blame1] | rw [k_blame2] | rw [k_bands]); exact Nat.le_of_ble_eq_true rfl)
  all_goals try (rename_i z; refine (nd ?_ z).elim; rw [taskE, k_blame1]; try rfl; done)
  all_goals try (rename_i z; refine (n2 ?_ ?_ z).elim <;> (rw [taskE, k_blame1]; try rfl; done))
  all_goals try (rename_i z; exfalso; clear hk; rw [taskE, k_blame1] at z; cases z; done)
  all_goals try (rename_i z; refine (nd ?_ z).elim; rw [taskE, k_blame2]; try rfl; done)
  all_goals try (rename_i z; refine (n2 ?_ ?_ z).elim <;> (rw [taskE, k_blame2]; try rfl; done))
  all_goals try (rename_i z; exfalso; clear hk; rw [taskE, k_blame2] at z; cases z; done)
  all_goals try (rename_i z; refine (nd ?_ z).elim; rw [taskE, k_at]; try rfl; done)
  all_goals try (rename_i z; refine (n2 ?_ ?_ z).elim <;> (rw [taskE, k_at]; try rfl; done))
  all_goals try (rename_i z; exfalso; clear hk; rw [taskE, k_at] at z; cases z; done)
  all_goals try (rename_i z; refine (nd ?_ z).elim; rw [taskE, k_bands]; try rfl; done)
  all_goals try (rename_i z; refine (n2 ?_ ?_ z).elim <;> (rw [taskE, k_bands]; try rfl; done))
  all_goals try (rename_i z; exfalso; clear hk; rw [taskE, k_bands] at z; cases z; done)
  all_goals try (rename_i z; refine (nb ?_ z).elim; rw [taskE, k_blame1]; exact same_li (l := [0]) rfl (by decide))
  all_goals try (rename_i z; refine (nb ?_ z).elim; rw [taskE, k_bands]; exact k_bandS)
  all_goals try (rename_i z; refine (nd ?_ z).elim; rw [im_imD]; exact k_over1.1)
  all_goals try (rename_i z; refine (n2 ?_ ?_ z).elim; rw [im_imD]; exact k_over1.2.1; rw [im_imD]; exact k_over1.2.2)
  all_goals try (rename_i z; refine (nd ?_ z).elim; rw [im_imD]; exact k_over2.1)
  all_goals try (rename_i z; refine (n2 ?_ ?_ z).elim; rw [im_imD]; exact k_over2.2.1; rw [im_imD]; exact k_over2.2.2)
  all_goals try (rename_i z; refine (nd ?_ z).elim; rw [im_imD]; exact k_over3)
  all_goals try (rename_i i j hi hj; have h1 : i = 0 := (by omega); have h2 : j = 0 := (by omega); subst h1; subst h2; rfl)
  all_goals try (rename_i i j hi hj; clear hk; have h1 : i = 0 ∨ i = 1 := (by omega); have h2 : j = 0 ∨ j = 1 ∨ j = 2 ∨ j = 3 ∨ j = 4 ∨ j = 5 := (by omega); rcases h1 with rfl | rfl <;> rcases h2 with rfl | rfl | rfl | rfl | rfl | rfl <;> rfl)
  all_goals first
    | exact bytC_wrL _
    | exact kB_byt
    | exact kX_byt
    | exact kX_teq
    | exact Nat.le_trans (wrL_le _) (Nat.le_of_ble_eq_true rfl)
    | exact Nat.le_trans (readR_small _ _).1 (Nat.le_of_ble_eq_true rfl)
    | exact Nat.le_trans (readR_small _ _).2.1 (Nat.le_of_ble_eq_true rfl)
    | exact Nat.le_trans (readR_small _ _).2.2 (Nat.le_of_ble_eq_true rfl)
    | (rename_i z; exact (nd k_check z).elim)
    | (rename_i z; exact (nd kS_check z).elim)
    | (rename_i z; exact (nd kX_lenI z).elim)
    | (rename_i z; exact (nd kS_str z).elim)
    | (rename_i z; exact (nf kX_cut z).elim)
    | (rename_i z; exact (nf kX_read z).elim)
    | (rw [taskE, kX_len]; decide)
    | skip
  all_goals skip
end Go.Proofs.Ytlecbjbjgfpfeaa
end
