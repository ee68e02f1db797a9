/-
  Files of soundings: equal tasks, equal bytes (contracts).
-/
import Derived.Test.YtlecbjbjgfpfeaaMo
import Derived.Test.YtlecbjbjgfpfeaaMl
section
set_option linter.unusedVariables false
set_option linter.unusedSimpArgs false
set_option maxRecDepth 100000
set_option maxHeartbeats 4000000
namespace Go.Proofs.Ytlecbjbjgfpfeaa
open Go.V

def rSameT : List V.D → Option (Prop × V.D) := fun ds => match ds with
  | [d, d'] => some ((TaskIs d ∧ TaskIs d') ∧ TEq (taskOf d) (taskOf d') ∧ (taskOf d').ns ≤ 1099511627776 ∧ (taskOf d').nx ≤ 1099511627776 ∧ (taskOf d').nc ≤ 1099511627776, .tt)
  | _ => none
theorem sameT_ok : PSound Go.Proofs.Try.prog 11 (mk rSameT) := by
  refine psound_mk Try.func11 (by kernel_rfl) rfl (ctx lib5_ok) ?_
  (intro ds p d h; unfold rSameT at h; split at h <;> first | (cases h; done) | skip; cases h; refine ⟨Nat.le_of_ble_eq_true rfl, fun hp k hk => ?_⟩)
  rename_i d d'
  obtain ⟨⟨ht1, ht2⟩, he, hn⟩ := hp
  refine ⟨[(taskOf d).D, (taskOf d').D], task_imp ht1 (task_imp ht2 ?_)⟩
  clear ht1 ht2
  generalize taskOf d = t at *
  generalize taskOf d' = u at *
  obtain ⟨ns, nx, nc, nm, sa, xa, ca, age, shear⟩ := t
  obtain ⟨ns', nx', nc', nm', sa', xa', ca', age', shear'⟩ := u
  obtain ⟨e1, e2, e3, e4, e5, e6, e7, e8, e9⟩ := he
  dsimp only at e1 e2 e3 e4 e5 e6 e7 e8 e9 hn
  subst e1
  subst e2
  subst e3
  subst e8
  subst e9
  obtain ⟨n1, n2, n3⟩ := hn
  have hI : sameB 1 nc nc ca ca' = true := sameB_iff.2 ⟨rfl, fun x _ hx j hj => by
    obtain rfl : j = 0 := by omega
    exact e7 x hx⟩
  have hI' : ∀ {p : Prop}, (!sameB 1 nc nc ca ca') = true → p := fun h => by rw [hI] at h; cases h
  dsimp only [Task.D]
  repeat' (first | ((with_reducible refine kok ?_); kernel_rfl) | ((with_reducible refine keq_mk ?_); kernel_rfl) | with_reducible rfl | ((conv => whnf); first | (with_reducible exact trivial) | ((with_reducible refine and_ff ?_ ?_); · exact rfl) | ((with_reducible refine and_tt ?_ ?_); · exact rfl) | (with_reducible refine And.intro ?_ ?_) | intro _ | (with_reducible refine fin2 hk ?_) | ((with_reducible refine eq_leaf ?_); exact rfl) | exact trivial))
  all_goals try (
    exfalso
    clear hk
    rename_i q
    first
      | exact hI' q
      | (simp at q; done))
  · exact n3
  conv => whnf
  refine ⟨Nat, fun i => [(2, .ptr 0 0), (3, .ptr 1 0), (5, .int .i64 i)], fun _ => [some (.row [.rsl 7 ns (smD nm sa), .rsl 5 nx (imD xa), .rsl 1 nc (imD ca), .int .i64 age, .int .i64 shear]), some (.row [.rsl 7 ns (smD nm' sa'), .rsl 5 nx (imD xa'), .rsl 1 nc (imD ca'), .int .i64 age, .int .i64 shear])], fun i => ns - i, fun i => i ≤ ns, [], 0, fun _ => ⟨rfl, rfl⟩, ?_, fun i hi => ?_⟩
  · clear hk
    repeat' (first | ((with_reducible refine kok ?_); kernel_rfl) | ((with_reducible refine keq_mk ?_); kernel_rfl) | with_reducible rfl | ((conv => whnf); first | (with_reducible exact trivial) | ((with_reducible refine and_ff ?_ ?_); · exact rfl) | ((with_reducible refine and_tt ?_ ?_); · exact rfl) | (with_reducible refine And.intro ?_ ?_) | intro _ | (with_reducible refine fin2 hk ?_) | ((with_reducible refine eq_leaf ?_); exact rfl) | exact trivial))
    exact Nat.zero_le ns
  have hi : i ≤ ns := hi
  have e4' := e4 i
  have e5' := e5 i
  clear hI hI'
  repeat' (first | ((with_reducible refine kok ?_); kernel_rfl) | ((with_reducible refine keq_mk ?_); kernel_rfl) | with_reducible rfl | ((conv => whnf); first | (with_reducible exact trivial) | ((with_reducible refine and_ff ?_ ?_); · exact rfl) | ((with_reducible refine and_tt ?_ ?_); · exact rfl) | (with_reducible refine And.intro ?_ ?_) | intro _ | (with_reducible refine fin2 hk ?_) | ((with_reducible refine eq_leaf ?_); exact rfl) | exact trivial))
  all_goals try ((first | with_reducible refine (?_ : (_ : Int) ≤ _) | with_reducible refine (?_ : (_ : Int) < _) | with_reducible refine (?_ : (_ : Nat) ≤ _) | with_reducible refine (?_ : (_ : Nat) < _)); clear hk; simp only [taskOf_agg, ↓Bool.not_eq_true', ↓Bool.not_eq_false', ↓decT, ↓decF, out_true, out_false, isin_true, isin_false, Int.toNat_natCast, Int.ofNat_lt, Nat.zero_add, Nat.add_zero, Nat.reduceAdd] at *; omega)
  · exfalso
    clear hk
    rename_i g1 g2
    simp only [taskOf_agg, ↓Bool.not_eq_true', ↓Bool.not_eq_false', ↓decT, ↓decF, out_true, out_false, isin_true, isin_false, Int.toNat_natCast, Int.ofNat_lt, Nat.zero_add, Nat.add_zero, Nat.reduceAdd] at g1
    have g1 : i < ns := by omega
    have e4 := e4' g1
    have e5 := fun j => e5' j g1
    simp [e4, e5] at g2
  · clear hk
    conv => whnf
    refine ⟨i + 1, ?_⟩
    rename_i g1 g2
    simp only [taskOf_agg, ↓Bool.not_eq_true', ↓Bool.not_eq_false', ↓decT, ↓decF, out_true, out_false, isin_true, isin_false, Int.toNat_natCast, Int.ofNat_lt, Nat.zero_add, Nat.add_zero, Nat.reduceAdd] at g1
    repeat' (first | ((with_reducible refine kok ?_); kernel_rfl) | ((with_reducible refine keq_mk ?_); kernel_rfl) | with_reducible rfl | ((conv => whnf); first | (with_reducible exact trivial) | ((with_reducible refine and_ff ?_ ?_); · exact rfl) | ((with_reducible refine and_tt ?_ ?_); · exact rfl) | (with_reducible refine And.intro ?_ ?_) | intro _ | (with_reducible refine fin2 hk ?_) | ((with_reducible refine eq_leaf ?_); exact rfl) | exact trivial))
    all_goals (simp only; omega)
  conv => whnf
  refine ⟨Nat, fun i => [(2, .ptr 0 0), (3, .ptr 1 0), (6, .int .i64 i)], fun _ => [some (.row [.rsl 7 ns (smD nm sa), .rsl 5 nx (imD xa), .rsl 1 nc (imD ca), .int .i64 age, .int .i64 shear]), some (.row [.rsl 7 ns (smD nm' sa'), .rsl 5 nx (imD xa'), .rsl 1 nc (imD ca'), .int .i64 age, .int .i64 shear])], fun i => nx - i, fun i => i ≤ nx, [], 0, fun _ => ⟨rfl, rfl⟩, ?_, fun i hi => ?_⟩
  · clear hk
    repeat' (first | ((with_reducible refine kok ?_); kernel_rfl) | ((with_reducible refine keq_mk ?_); kernel_rfl) | with_reducible rfl | ((conv => whnf); first | (with_reducible exact trivial) | ((with_reducible refine and_ff ?_ ?_); · exact rfl) | ((with_reducible refine and_tt ?_ ?_); · exact rfl) | (with_reducible refine And.intro ?_ ?_) | intro _ | (with_reducible refine fin2 hk ?_) | ((with_reducible refine eq_leaf ?_); exact rfl) | exact trivial))
    exact Nat.zero_le nx
  have hi : i ≤ nx := hi
  have e6' := e6 i
  repeat' (first | ((with_reducible refine kok ?_); kernel_rfl) | ((with_reducible refine keq_mk ?_); kernel_rfl) | with_reducible rfl | ((conv => whnf); first | (with_reducible exact trivial) | ((with_reducible refine and_ff ?_ ?_); · exact rfl) | ((with_reducible refine and_tt ?_ ?_); · exact rfl) | (with_reducible refine And.intro ?_ ?_) | intro _ | (with_reducible refine fin2 hk ?_) | ((with_reducible refine eq_leaf ?_); exact rfl) | exact trivial))
  all_goals try ((first | with_reducible refine (?_ : (_ : Int) ≤ _) | with_reducible refine (?_ : (_ : Int) < _) | with_reducible refine (?_ : (_ : Nat) ≤ _) | with_reducible refine (?_ : (_ : Nat) < _)); clear hk; simp only [taskOf_agg, ↓Bool.not_eq_true', ↓Bool.not_eq_false', ↓decT, ↓decF, out_true, out_false, isin_true, isin_false, Int.toNat_natCast, Int.ofNat_lt, Nat.zero_add, Nat.add_zero, Nat.reduceAdd] at *; omega)
  · exfalso
    clear hk
    rename_i g1 g2
    simp only [taskOf_agg, ↓Bool.not_eq_true', ↓Bool.not_eq_false', ↓decT, ↓decF, out_true, out_false, isin_true, isin_false, Int.toNat_natCast, Int.ofNat_lt, Nat.zero_add, Nat.add_zero, Nat.reduceAdd] at g1
    have g1 : i < nx := by omega
    have e6 := fun j => e6' j g1
    simp [e6] at g2
  · clear hk
    conv => whnf
    refine ⟨i + 1, ?_⟩
    rename_i g1 g2
    simp only [taskOf_agg, ↓Bool.not_eq_true', ↓Bool.not_eq_false', ↓decT, ↓decF, out_true, out_false, isin_true, isin_false, Int.toNat_natCast, Int.ofNat_lt, Nat.zero_add, Nat.add_zero, Nat.reduceAdd] at g1
    repeat' (first | ((with_reducible refine kok ?_); kernel_rfl) | ((with_reducible refine keq_mk ?_); kernel_rfl) | with_reducible rfl | ((conv => whnf); first | (with_reducible exact trivial) | ((with_reducible refine and_ff ?_ ?_); · exact rfl) | ((with_reducible refine and_tt ?_ ?_); · exact rfl) | (with_reducible refine And.intro ?_ ?_) | intro _ | (with_reducible refine fin2 hk ?_) | ((with_reducible refine eq_leaf ?_); exact rfl) | exact trivial))
    all_goals (simp only; omega)
def rBytes : List V.D → Option (Prop × V.D) := fun ds => match ds with
  | [.rsl 1 n g, .rsl 1 m h] => some (BytC n g ∧ BytC m h ∧ n ≤ 1099511627776 ∧ m ≤ 1099511627776, .bool (decide (strF (toF g) 0 n = strF (toF h) 0 m)))
  | _ => none
theorem bytes_ok : PSound Go.Proofs.Try.prog 8 (mk rBytes) := by
  refine psound_mk Try.func8 (by kernel_rfl) rfl (ctx (.nil _)) ?_
  (intro ds p d h; unfold rBytes at h; split at h <;> first | (cases h; done) | skip; cases h; refine ⟨Nat.le_of_ble_eq_true rfl, fun hp k hk => ?_⟩)
  rename_i n g m h
  obtain ⟨hB, hB', hn, hm⟩ := hp
  refine ⟨[.rsl 1 n (bD (toF g)), .rsl 1 m (bD (toF h))], rfl, bytC_imp hB, rfl, bytC_imp hB', ?_⟩
  generalize toF g = f at *
  generalize toF h = f' at *
  repeat' (first | ((with_reducible refine kok ?_); kernel_rfl) | ((with_reducible refine keq_mk ?_); kernel_rfl) | with_reducible rfl | ((conv => whnf); first | (with_reducible exact trivial) | ((with_reducible refine and_ff ?_ ?_); · exact rfl) | ((with_reducible refine and_tt ?_ ?_); · exact rfl) | (with_reducible refine And.intro ?_ ?_) | intro _ | (with_reducible refine fin2 hk ?_) | ((with_reducible refine eq_leaf ?_); exact rfl) | exact trivial))
  have e : ∀ (f : Nat → Int) (n : Nat), strOfNums (List.map (fun i => numOf (bD f i 0)) (List.range n)) = strF f 0 n := fun f n => by
    unfold strF
    simp only [Nat.zero_add]
    rfl
  rw [e, e]
end Go.Proofs.Ytlecbjbjgfpfeaa
end
section
set_option linter.unusedVariables false
set_option linter.unusedSimpArgs false
set_option maxRecDepth 100000
set_option maxHeartbeats 4000000
namespace Go.Proofs.Ytlecbjbjgfpfeaa
open Go.V

noncomputable def lrf2 : Lib := (8, mk rBytes) :: (12, mk (rConst .tt)) :: (6, mk rWrite) :: (7, mk rWrite) :: (9, mk rRead) :: (10, mk rRead) :: (11, mk rSameT) :: lrf1
theorem lrf2_ok : LibOK Go.Proofs.Try.prog lrf2 := .cons bytes_ok (.cons awake_ok (.cons (psound_new fWriteN_ok (mk_det _)) (.cons fRefWrite_ok (.cons (psound_new fRead_ok (mk_det _)) (.cons fRefRead_ok (.cons sameT_ok lrf1_ok))))))
theorem TEq.refl (t : Task) : TEq t t := ⟨rfl, rfl, rfl, fun _ _ => rfl, fun _ _ _ _ => rfl, fun _ _ _ _ => rfl, fun _ _ => rfl, rfl, rfl⟩
theorem readR_small (n : Nat) (f : Nat → Int) : (readR n f).ns ≤ 6 ∧ (readR n f).nx ≤ 60 ∧ (readR n f).nc ≤ 20 := by
  unfold readR
  split
  · rename_i h
    unfold readE at h
    split at h
    · cases h
    split at h
    · have := small_nx h
      exact ⟨this.2.1, this.1, this.2.2.2⟩
    · cases h
  · exact ⟨by decide, by decide, by decide⟩
theorem taskIs_D (t : Task) : TaskIs t.D := ⟨fun i j hi hj => by cases j <;> rfl, fun i j hi hj => rfl, fun i j hi hj => rfl⟩
theorem taskOf_D (t : Task) : taskOf t.D = t := rfl
theorem wrL_le (t : Task) : (wrL t).length ≤ 2000 := by
  unfold wrL
  split
  · exact file_le (by assumption)
  · exact Nat.zero_le _
theorem bytC_wrL (t : Task) : BytC (wrL t).length (byL (wrL t)) := by
  refine ⟨fun i _ => rfl, ?_⟩
  unfold wrL
  split
  · exact (BL.file t).byt
  · exact fun i hi => absurd hi (by simp)
theorem bytC_byt {n : Nat} {g : Nat → Nat → V.D} (h : BytC n g) : Byt n (toF g) := h.2
attribute [local irreducible] checkS fileL bodyL srcsL sndsL cutsL hdL srcL sndL cutL sumL numL strL putsL wrL readE readR readT strF BytC
def rLFiles : List V.D → Option (Prop × V.D) := fun ds => match ds with
  | [d, .rsl 1 n g] => some ((TaskIs d ∧ (taskOf d).fits) ∧ BytC n g ∧ n ≤ 9223372036854775807, .tt)
  | _ => none
theorem lawFiles_ok : PSound Go.Proofs.Try.prog 3 (mk rLFiles) := by
  refine psound_mk Try.func3 (by kernel_rfl) rfl (ctx lrf2_ok) ?_
  (intro ds p d h; unfold rLFiles at h; split at h <;> first | (cases h; done) | skip; cases h; refine ⟨Nat.le_of_ble_eq_true rfl, fun hp k hk => ?_⟩)
  rename_i d n g
  obtain ⟨⟨ht, hf⟩, hB, hn⟩ := hp
  refine ⟨[(taskOf d).D, .rsl 1 n (bD (toF g))], task_imp ht ⟨rfl, bytC_imp hB, ?_⟩⟩
  clear ht
  have hB : BytC n (bD (toF g)) := bytC_bD (bytC_byt hB)
  generalize toF g = f at *
  generalize taskOf d = t at *
  have hw : ∀ t, (wrL t).length ≤ 1099511627776 := fun t => Nat.le_trans (wrL_le t) (Nat.le_of_ble_eq_true rfl)
  have r1 : ∀ n f, (readR n f).ns ≤ 1099511627776 := fun n f => Nat.le_trans (readR_small n f).1 (Nat.le_of_ble_eq_true rfl)
  have r2 : ∀ n f, (readR n f).nx ≤ 1099511627776 := fun n f => Nat.le_trans (readR_small n f).2.1 (Nat.le_of_ble_eq_true rfl)
  have r3 : ∀ n f, (readR n f).nc ≤ 1099511627776 := fun n f => Nat.le_trans (readR_small n f).2.2 (Nat.le_of_ble_eq_true rfl)
  repeat' (first | ((with_reducible refine kok ?_); kernel_rfl) | ((with_reducible refine keq_mk ?_); kernel_rfl) | with_reducible rfl | ((conv => whnf); first | (with_reducible exact trivial) | ((with_reducible refine and_ff ?_ ?_); · exact rfl) | ((with_reducible refine and_tt ?_ ?_); · exact rfl) | (with_reducible refine And.intro ?_ ?_) | intro _ | (with_reducible refine fin2 hk ?_) | ((with_reducible refine eq_leaf ?_); exact rfl) | exact trivial))
  all_goals first
    | exact hf _ (by assumption)
    | exact bytC_wrL _
    | exact hw _
    | exact hB
    | exact hn
    | exact r1 _ _
    | exact r2 _ _
    | exact r3 _ _
    | exact TEq.refl _
    | (exfalso; clear hk; rename_i q; simp at q; done)
    | skip
end Go.Proofs.Ytlecbjbjgfpfeaa
end
