/-
  The law WindBlamed is proved: if all sources but one measure a wind, and they do not agree for a band, this source is to blame; if it alone is, the wind is in the spans there, for any task, wind, source and ticks. No condition.
-/
import Derived.Test.YtbkehkiflfhpfaaMj
import Derived.Test.YtbkehkiflfhpfaaMf
section
set_option linter.unusedVariables false
set_option linter.unusedSimpArgs false
set_option maxRecDepth 100000
set_option maxHeartbeats 4000000
namespace Go.Proofs.Ytbkehkiflfhpfaa
open Go.V
noncomputable def lib46 : Lib := (37, mk rMeasured) :: lib45
theorem lib46_ok : LibOK Go.Proofs.Try.prog lib46 := .cons measured_ok lib45_ok
/-- Whether one of the first numbers of a list is this one. -/
def isAt (l : List Int) (x : Int) (k : Nat) : Bool := decide (l.getD k 0 = x)
theorem isAt_any {l : List Int} {x : Int} (h : x ∈ l) : anyBelow (isAt l x) l.length = true := by
  obtain ⟨k, hk, e⟩ := List.getElem_of_mem h
  exact anyBelow_iff.2 ⟨k, hk, decide_eq_true (by simp [hk, e])⟩
theorem isAt_eq (l : List Int) (x : Int) (k : Nat) : isAt l x k = decide (l.getD k 0 = x) := rfl
theorem wth_self (t : Task) : t.wth t.nx t.xa = t := rfl
theorem bandA0 (t : Task) (a now : Int) (i : Nat) : bandA t a now i 0 = lowS t i := rfl
theorem low_wth (t : Task) (n : Nat) (x : Nat → Nat → Int) (i : Nat) : lowS (t.wth n x) i = lowS t i := rfl
theorem bands_nc {t : Task} {a now : Int} (h : (bandsT t a now).2 = 0) : (bandsT t a now).1 = t.nc := (bandsT_nc h).2
attribute [local irreducible] checkBands overT coversT bandsT bandA checkS atT blameT fldX fldY wrongS isWind mA measT FldIs isAt
def rLBlamed : List V.D → Option (Prop × V.D) := fun ds => match ds with
  | [d, e, .agg [.int .i64 x0, .int .i64 x1, .int .i64 x2]] => some (TaskIs d ∧ (taskOf d).fits ∧ FldIs e, .tt)
  | _ => none
theorem lawBlamed_ok : PSound Go.Proofs.Try.prog 7 (mk rLBlamed) := by
  refine psound_mk Try.func7 (by kernel_rfl) rfl (ctx lib46_ok) ?_
  (intro ds p d h; unfold rLBlamed at h; split at h <;> first | (cases h; done) | skip; cases h; refine ⟨Nat.le_of_ble_eq_true rfl, fun hp k hk => ?_⟩)
  rename_i d e x0 x1 x2
  obtain ⟨ht, hf, he⟩ := hp
  refine ⟨[(taskOf d).D, (fldOf e).D, .agg [.int .i64 x0, .int .i64 x1, .int .i64 x2]], task_imp ht (fld_imp he fun hw => ⟨rfl, rfl, rfl, ?_⟩)⟩
  clear ht he
  generalize taskOf d = t at *
  generalize fldOf e = f at *
  generalize hM : measT f t x0 x1 = mm at *
  have M : mm.2 = true → Meas f t x0 x1 ∧ mm.1 = t.nx := fun h => by
    rw [← hM] at h ⊢
    exact meas_true hw h
  repeat' (first | ((with_reducible refine kok ?_); kernel_rfl) | ((with_reducible refine keq_mk ?_); kernel_rfl) | with_reducible rfl | ((conv => whnf); first | (with_reducible exact trivial) | ((with_reducible refine and_ff ?_ ?_); · exact rfl) | ((with_reducible refine and_tt ?_ ?_); · exact rfl) | (with_reducible refine And.intro ?_ ?_) | intro _ | (with_reducible refine fin2 hk ?_) | ((with_reducible refine eq_leaf ?_); exact rfl) | exact trivial))
  all_goals try exact hf _ (by assumption)
  all_goals try exact fldIs_mk hw
  all_goals try ((first | with_reducible refine (?_ : (_ : Int) ≤ _) | with_reducible refine (?_ : (_ : Int) < _)); decide)
  conv => whnf
  rename_i g1 g2 g3
  simp only [taskOf_agg, ↓Bool.not_eq_true', ↓Bool.not_eq_false', ↓decT, ↓decF, out_true, out_false, isin_true, isin_false, Int.toNat_natCast, Int.ofNat_lt, Nat.zero_add, Nat.add_zero, Nat.reduceAdd, fldOf_agg, hM] at g1 g2 g3
  obtain ⟨m1, m2⟩ := M (by simpa using g1)
  have F := fun i (hi : i < t.nc) => field_but m1 (now := x2) (by omega) hi
  have BN : (bandsT (t.wth t.nx (mA f t x0 t.nx)) x1 x2).2 = 0 → (bandsT (t.wth t.nx (mA f t x0 t.nx)) x1 x2).1 = t.nc := bands_nc
  have BL := blameT_len (t.wth t.nx (mA f t x0 t.nx))
  have hok := check_ok m1.ht
  have hnc := hok.nc
  have htk := m1.tk
  have hmild : t.mild := ⟨hok.shear, hok.age⟩
  clear M
  refine ⟨Nat, fun i => [(3, .ptr 0 0), (4, .ptr 1 0), (5, .ptr 2 0), (7, .ptr 3 0), (9, .rsl 6 (bandsT (t.wth t.nx (mA f t x0 t.nx)) x1 x2).1 (imD (bandA (t.wth t.nx (mA f t x0 t.nx)) x1 x2))), (10, .int .i64 (bandsT (t.wth t.nx (mA f t x0 t.nx)) x1 x2).2), (11, .int .i64 i)],
    fun i => [some (taskRow t), some (.row [.int .i16 f.x, .int .i16 f.y, .int .i16 f.rx, .int .i16 f.ry, .int .i16 f.tx, .int .i16 f.ty, .rsl 1 f.n (i8D f.w)]), some (.row [.int .i64 x0, .int .i64 x1, .int .i64 x2]), some (.row [.rsl 7 t.ns (smD t.nm t.sa), .rsl 5 t.nx (imD (mA f t x0 t.nx)), .rsl 1 t.nc (imD t.ca), .int .i64 t.age, .int .i64 t.shear])],
    fun i => t.nc - i, fun i => i ≤ t.nc, [], 0, fun _ => ⟨?_, ?_⟩, ?_, fun i hi => ?_⟩
  · conv => lhs; whnf
  · conv => lhs; whnf
  · clear hk
    repeat' (first | ((with_reducible refine kok ?_); kernel_rfl) | ((with_reducible refine keq_mk ?_); kernel_rfl) | with_reducible rfl | ((conv => whnf); first | (with_reducible exact trivial) | ((with_reducible refine and_ff ?_ ?_); · exact rfl) | ((with_reducible refine and_tt ?_ ?_); · exact rfl) | (with_reducible refine And.intro ?_ ?_) | intro _ | (with_reducible refine fin2 hk ?_) | ((with_reducible refine eq_leaf ?_); exact rfl) | exact trivial))
    all_goals try exact Nat.zero_le _
    all_goals simp only [taskOf_agg, ↓Bool.not_eq_true', ↓Bool.not_eq_false', ↓decT, ↓decF, out_true, out_false, isin_true, isin_false, Int.toNat_natCast, Int.ofNat_lt, Nat.zero_add, Nat.add_zero, Nat.reduceAdd, fldOf_agg, hM, m2, taskOf_wth, wth_self]
    all_goals simp only [hM, m2]
  have hi' : i ≤ t.nc := hi
  repeat' (first | ((with_reducible refine kok ?_); kernel_rfl) | ((with_reducible refine keq_mk ?_); kernel_rfl) | with_reducible rfl | ((conv => whnf); first | (with_reducible exact trivial) | ((with_reducible refine and_ff ?_ ?_); · exact rfl) | ((with_reducible refine and_tt ?_ ?_); · exact rfl) | (with_reducible refine And.intro ?_ ?_) | intro _ | (with_reducible refine fin2 hk ?_) | ((with_reducible refine eq_leaf ?_); exact rfl) | exact trivial))
  all_goals try exact hf _ (by assumption)
  all_goals try exact fldIs_mk hw
  all_goals try ((first | with_reducible refine (?_ : (_ : Int) ≤ _) | with_reducible refine (?_ : (_ : Int) < _) | with_reducible refine (?_ : (_ : Nat) ≤ _)); clear hk; first | omega | (simp only [taskOf_agg, ↓Bool.not_eq_true', ↓Bool.not_eq_false', ↓decT, ↓decF, out_true, out_false, isin_true, isin_false, Int.toNat_natCast, Int.ofNat_lt, Nat.zero_add, Nat.add_zero, Nat.reduceAdd, taskOf_wth, wth_shear, wth_age] at *; first | omega | (have h1 := hmild.1; have h2 := hmild.2; omega)))
  all_goals try conv => whnf
  · rename_i g4 g5
    simp only [taskOf_agg, ↓Bool.not_eq_true', ↓Bool.not_eq_false', ↓decT, ↓decF, out_true, out_false, isin_true, isin_false, Int.toNat_natCast, Int.ofNat_lt, Nat.zero_add, Nat.add_zero, Nat.reduceAdd, taskOf_wth] at g4 g5
    clear hk
    have := (F i g4).1
    exact g5 this
  · rename_i g4 g5
    simp only [taskOf_agg, ↓Bool.not_eq_true', ↓Bool.not_eq_false', ↓decT, ↓decF, out_true, out_false, isin_true, isin_false, Int.toNat_natCast, Int.ofNat_lt, Nat.zero_add, Nat.add_zero, Nat.reduceAdd, taskOf_wth] at g4 g5
    obtain ⟨f1, f2, f3, f4⟩ := F i g4
    refine ⟨Nat, fun k => [(3, .ptr 0 0), (4, .ptr 1 0), (5, .ptr 2 0), (7, .ptr 3 0), (9, .rsl 6 (bandsT (t.wth t.nx (mA f t x0 t.nx)) x1 x2).1 (imD (bandA (t.wth t.nx (mA f t x0 t.nx)) x1 x2))), (10, .int .i64 (bandsT (t.wth t.nx (mA f t x0 t.nx)) x1 x2).2), (11, .int .i64 i),
        (12, listD (blameT (t.wth t.nx (mA f t x0 t.nx)) i x1 x2).1), (13, .bool (blameT (t.wth t.nx (mA f t x0 t.nx)) i x1 x2).2.1), (15, .bool (anyBelow (isAt (blameT (t.wth t.nx (mA f t x0 t.nx)) i x1 x2).1 x0) k)), (16, .int .i64 k)],
      fun k => [some (taskRow t), some (.row [.int .i16 f.x, .int .i16 f.y, .int .i16 f.rx, .int .i16 f.ry, .int .i16 f.tx, .int .i16 f.ty, .rsl 1 f.n (i8D f.w)]), some (.row [.int .i64 x0, .int .i64 x1, .int .i64 x2]), some (.row [.rsl 7 t.ns (smD t.nm t.sa), .rsl 5 t.nx (imD (mA f t x0 t.nx)), .rsl 1 t.nc (imD t.ca), .int .i64 t.age, .int .i64 t.shear])],
      fun k => (blameT (t.wth t.nx (mA f t x0 t.nx)) i x1 x2).1.length - k, fun k => k ≤ (blameT (t.wth t.nx (mA f t x0 t.nx)) i x1 x2).1.length, [], 0, fun _ => ⟨?_, ?_⟩, ?_, fun k hk' => ?_⟩
    · conv => lhs; whnf
    · conv => lhs; whnf
    · clear hk
      repeat' (first | ((with_reducible refine kok ?_); kernel_rfl) | ((with_reducible refine keq_mk ?_); kernel_rfl) | with_reducible rfl | ((conv => whnf); first | (with_reducible exact trivial) | ((with_reducible refine and_ff ?_ ?_); · exact rfl) | ((with_reducible refine and_tt ?_ ?_); · exact rfl) | (with_reducible refine And.intro ?_ ?_) | intro _ | (with_reducible refine fin2 hk ?_) | ((with_reducible refine eq_leaf ?_); exact rfl) | exact trivial))
      all_goals first
        | exact Nat.zero_le _
        | trace_state
    have hk2 : k ≤ (blameT (t.wth t.nx (mA f t x0 t.nx)) i x1 x2).1.length := hk'
    repeat' (first | ((with_reducible refine kok ?_); kernel_rfl) | ((with_reducible refine keq_mk ?_); kernel_rfl) | with_reducible rfl | ((conv => whnf); first | (with_reducible exact trivial) | ((with_reducible refine and_ff ?_ ?_); · exact rfl) | ((with_reducible refine and_tt ?_ ?_); · exact rfl) | (with_reducible refine And.intro ?_ ?_) | intro _ | (with_reducible refine fin2 hk ?_) | ((with_reducible refine eq_leaf ?_); exact rfl) | exact trivial))
    all_goals try exact hf _ (by assumption)
    all_goals try exact fldIs_mk hw
    all_goals try ((first | with_reducible refine (?_ : (_ : Int) ≤ _) | with_reducible refine (?_ : (_ : Int) < _) | with_reducible refine (?_ : (_ : Nat) ≤ _)); clear hk; have bl := BL i x1 x2; have cl := cut_low hok g4; have cu := hok.cut i g4; first | omega | (simp only [taskOf_agg, ↓Bool.not_eq_true', ↓Bool.not_eq_false', ↓decT, ↓decF, out_true, out_false, isin_true, isin_false, Int.toNat_natCast, Int.ofNat_lt, Nat.zero_add, Nat.add_zero, Nat.reduceAdd, taskOf_wth, wth_shear, wth_age, bandA0, low_wth] at *; first | omega | (have h1 := hmild.1; have h2 := hmild.2; omega) | (have bn := BN (by assumption); omega)))
    all_goals try conv => whnf
    · rename_i g6 g7
      clear hk
      simp only [taskOf_agg, ↓Bool.not_eq_true', ↓Bool.not_eq_false', ↓decT, ↓decF, out_true, out_false, isin_true, isin_false, Int.toNat_natCast, Int.ofNat_lt, Nat.zero_add, Nat.add_zero, Nat.reduceAdd] at g6
      refine ⟨k + 1, ?_⟩
      repeat' (first | ((with_reducible refine kok ?_); kernel_rfl) | ((with_reducible refine keq_mk ?_); kernel_rfl) | with_reducible rfl | ((conv => whnf); first | (with_reducible exact trivial) | ((with_reducible refine and_ff ?_ ?_); · exact rfl) | ((with_reducible refine and_tt ?_ ?_); · exact rfl) | (with_reducible refine And.intro ?_ ?_) | intro _ | (with_reducible refine fin2 hk ?_) | ((with_reducible refine eq_leaf ?_); exact rfl) | exact trivial))
      all_goals first
        | omega
        | (simp only; omega)
        | (rw [anyBelow_succ, g7]; rfl)
    · rename_i g6 g7
      clear hk
      simp only [taskOf_agg, ↓Bool.not_eq_true', ↓Bool.not_eq_false', ↓decT, ↓decF, out_true, out_false, isin_true, isin_false, Int.toNat_natCast, Int.ofNat_lt, Nat.zero_add, Nat.add_zero, Nat.reduceAdd] at g6
      refine ⟨k + 1, ?_⟩
      repeat' (first | ((with_reducible refine kok ?_); kernel_rfl) | ((with_reducible refine keq_mk ?_); kernel_rfl) | with_reducible rfl | ((conv => whnf); first | (with_reducible exact trivial) | ((with_reducible refine and_ff ?_ ?_); · exact rfl) | ((with_reducible refine and_tt ?_ ?_); · exact rfl) | (with_reducible refine And.intro ?_ ?_) | intro _ | (with_reducible refine fin2 hk ?_) | ((with_reducible refine eq_leaf ?_); exact rfl) | exact trivial))
      all_goals first
        | omega
        | (simp only; omega)
        | (rw [anyBelow_succ, g7, isAt_eq]; rfl)
    all_goals try (refine ⟨i + 1, ?_⟩; clear hk F f1 f2 f3 f4; simp only [taskOf_agg, ↓Bool.not_eq_true', ↓Bool.not_eq_false', ↓decT, ↓decF, out_true, out_false, isin_true, isin_false, Int.toNat_natCast, Int.ofNat_lt, Nat.zero_add, Nat.add_zero, Nat.reduceAdd] at *; repeat' (first | ((with_reducible refine kok ?_); kernel_rfl) | ((with_reducible refine keq_mk ?_); kernel_rfl) | with_reducible rfl | ((conv => whnf); first | (with_reducible exact trivial) | ((with_reducible refine and_ff ?_ ?_); · exact rfl) | ((with_reducible refine and_tt ?_ ?_); · exact rfl) | (with_reducible refine And.intro ?_ ?_) | intro _ | (with_reducible refine fin2 hk ?_) | ((with_reducible refine eq_leaf ?_); exact rfl) | exact trivial)))
    all_goals try ((first | with_reducible refine (?_ : (_ : Nat) ≤ _) | with_reducible refine (?_ : (_ : Nat) < _)); omega)
    all_goals clear hk
    all_goals simp only [taskOf_agg, ↓Bool.not_eq_true', ↓Bool.not_eq_false', ↓decT, ↓decF, out_true, out_false, isin_true, isin_false, Int.toNat_natCast, Int.ofNat_lt, Nat.zero_add, Nat.add_zero, Nat.reduceAdd, Int.toNat_zero, Int.reduceToNat, ↓reduceIte, reduceCtorEq, Bool.or_eq_true, Bool.or_eq_false_iff, Bool.and_eq_true, Bool.and_eq_false_iff, im_imD, taskOf_wth, fldOf_agg, fldX_wth, fldY_wth, bandA0, low_wth] at *
    all_goals obtain rfl : k = (blameT (t.wth t.nx (mA f t x0 t.nx)) i x1 x2).1.length := by omega
    all_goals try (have bn := BN (by assumption); omega)
    all_goals try (have f5 := f4 (by assumption) (by omega); omega)
    all_goals try (have e := congrArg List.length (f3 (by assumption)); simp only [List.length_nil] at e; omega)
    all_goals try (have e := isAt_any (f2 (by assumption)); simp_all; done)
    all_goals clear f2 f3 f4 F BN BL
    all_goals simp_all
end Go.Proofs.Ytbkehkiflfhpfaa
end
section
set_option linter.unusedVariables false
set_option linter.unusedSimpArgs false
set_option maxRecDepth 100000
namespace Go.Proofs.Ytbkehkiflfhpfaa
open Go.V

theorem windBlamed_lifted (os : Os) (started : os.Started) (H : Type) (enc : TypeId × Value → H) :
    ReturnsInHanded {} Try.checked os 7 .any (Rows.windBlamedSpec.pre6 enc Go.Proofs.Try.prog Try.f7 Rows.windBlamedRow.domain false) (Rows.windBlamedSpec.post enc Go.Proofs.Try.prog Try.f7 false Rows.windBlamedRow.fresh Rows.windBlamedRow.handsOn Rows.windBlamedRow.again) := by
  refine returnsInHanded_of_change (C := Try.checked) own started (by kernel_rfl) Try.func7
    (ChangeSpec.witness6 (enc := enc) (C := Try.checked) false ⟨#[], #[.agg #[.slice none 0 0, .slice none 0 0, .slice none 0 0, .int .i64 0, .int .i64 0], .agg #[.int .i16 0, .int .i16 0, .int .i16 0, .int .i16 0, .int .i16 0, .int .i16 0, .slice none 0 0], .agg #[.int .i64 0, .int .i64 0, .int .i64 0]], []⟩ 8 (by kernel_rfl) (by kernel_rfl) (by kernel_rfl) (by kernel_rfl)) ?_
  intro W base args ds gs before hok hW _ _
  refine law_contract (l := [taskK, fldK, .agg [.int .i64, .int .i64, .int .i64]]) (tb := 4) laid_ok lawBlamed_ok (by kernel_rfl) (by kernel_rfl) rfl tbool (fun ds h => ?_) rfl (fun ds hd => ?_) W base args ds gs before hok hW
  · match ds, h with
    | [d, e, f], ⟨h1, h2, h3, _⟩ =>
      obtain ⟨g1, g2⟩ := task_of_kinds h1
      have g3 := fld_of_kinds h2
      obtain ⟨xs, rfl, hl, hx⟩ := h3
      match xs, hl with
      | [y0, y1, y2], _ =>
        obtain ⟨x0, rfl, _⟩ := hx 0 _ _ rfl rfl
        obtain ⟨x1, rfl, _⟩ := hx 1 _ _ rfl rfl
        obtain ⟨x2, rfl, _⟩ := hx 2 _ _ rfl rfl
        exact ⟨_, _, rfl, ⟨g1, g2, g3⟩, .inl rfl⟩
  · match ds, hd with
    | [a, b, c], _ => exact ⟨rfl, rfl, rfl⟩
theorem windBlamed_holds : Rows.WindBlamedSaid :=
  OpenClaim.holds_of_wide 7 Try.f7 rfl rfl rfl rfl rfl rfl rfl ⟨rfl, rfl, rfl, rfl, rfl⟩ rfl rfl rfl rfl rfl (by kernel_rfl) Try.func7 (by kernel_rfl)
    (of_decide_eq_true (by kernel_rfl)) (by unfold Func.isWrapper; first | (rw [if_pos (by decide +kernel)]; kernel_rfl) | (rw [if_neg (by decide +kernel)]; exact ⟨rfl, rfl⟩))
    (fun os started H enc _ => windBlamed_lifted os started H enc)
#print axioms windBlamed_holds
end Go.Proofs.Ytbkehkiflfhpfaa
end
