/-
  The law WindBytes: what it answers (contract).
-/
import Derived.Test.YtlecbjbjgfpfeaaMp
section
set_option linter.unusedVariables false
set_option linter.unusedSimpArgs false
set_option maxRecDepth 100000
set_option maxHeartbeats 4000000
namespace Go.Proofs.Ytlecbjbjgfpfeaa
open Go.V

noncomputable def lrf3 : Lib := (8, mk rBytes) :: (12, mk (rConst .tt)) :: (11, mk rSameT) :: lrf1
theorem lrf3_ok : LibOK Go.Proofs.Try.prog lrf3 := .cons bytes_ok (.cons awake_ok (.cons sameT_ok lrf1_ok))
noncomputable def Lby : Libs := ⟨lrf3, [(6, frameC rWriteC), (9, newC (mk rRead))], [], []⟩
theorem Lby_ok : LibsOK Go.Proofs.Try.prog Lby := ⟨lrf3_ok, asGet_cons (csound_frame fWrite_ok) (asGet_cons (csound_new fRead_ok) (fun g s h => by cases h)), fun f r h => (by cases h), fun f r h => (by cases h)⟩
theorem TEq.symm {t u : Task} (h : TEq t u) : TEq u t := ⟨h.ns.symm, h.nx.symm, h.nc.symm, fun i hi => (h.nm i (by rw [← h.ns]; exact hi)).symm, fun i j hi hj => (h.sa i j (by rw [← h.ns]; exact hi) hj).symm, fun i j hi hj => (h.xa i j (by rw [← h.nx]; exact hi) hj).symm, fun i hi => (h.ca i (by rw [← h.nc]; exact hi)).symm, h.age.symm, h.shear.symm⟩
theorem bytC_file (t : Task) : BytC (fileL t).length (byL (fileL t)) := ⟨fun i _ => rfl, (BL.file t).byt⟩
/-- Write of Read is the same bytes. -/
theorem write_read {n : Nat} {f : Nat → Int} (hb : Byt n f) (h : readE n f = 0) : strF (toF (byL (fileL (readT f)))) 0 (fileL (readT f)).length = strF (toF (bD f)) 0 n := by
  obtain ⟨_, h2, _⟩ := read_form h
  obtain ⟨e1, e2⟩ := file_of_read hb h2
  rw [e1]
  unfold strF
  congr 1
  refine List.map_congr_left fun i hi => ?_
  have hi := List.mem_range.1 hi
  have h3 := e2 i (by rw [e1]; exact hi)
  rw [Nat.zero_add] at h3 ⊢
  exact h3.symm
theorem readR_check {n : Nat} {f : Nat → Int} (h : readE n f = 0) : checkE (readR n f) = 0 := by
  rw [readR_0 h]
  exact (read_form h).2.2
theorem readR_fits {n : Nat} {f : Nat → Int} (h : readE n f = 0) : (readR n f).fits := by
  rw [readR_0 h]
  obtain ⟨h1, h2, _⟩ := read_form h
  exact fun i hi => read_fits (form_n h2).1 h1 hi
theorem read_write {t : Task} (h : checkE t = 0) : readE (fileL t).length (toF (byL (fileL t))) = 0 := (read_file h).1
theorem read_writeT {t : Task} (h : checkE t = 0) : TEq t (readR (fileL t).length (toF (byL (fileL t)))) := by
  rw [readR_0 (read_write h)]
  exact (read_file h).2.symm
theorem file_pos (t : Task) : 2 ≤ (fileL t).length := by
  have := file_len t
  omega
/-- One byte set. -/
def setB (l : List Int) (k : Nat) (b : Int) (i' j' : Nat) : V.D := if i' = k ∧ 0 ≤ j' ∧ j' < 0 + (cellsD (.int .u8 b)).length then ((cellsD (.int .u8 b)).map bl).getD (j' - 0) .top else byL l i' j'
theorem setB_eq (l : List Int) (k : Nat) (b : Int) (i : Nat) : setB l k b i 0 = .int .u8 (if i = k then b else l.getD i 0) := by
  unfold setB
  by_cases h : i = k
  · rw [if_pos h, if_pos ⟨h, Nat.zero_le _, Nat.zero_lt_succ _⟩]
    rfl
  · rw [if_neg h, if_neg fun g => h g.1]
    rfl
theorem setB_to (l : List Int) (k : Nat) (b : Int) (i : Nat) : toF (setB l k b) i = if i = k then b else l.getD i 0 := by
  unfold toF
  rw [setB_eq]
  rfl
theorem bytC_set {l : List Int} {k : Nat} {b : Int} (h : BytC l.length (byL l)) (hb : 0 ≤ b ∧ b ≤ 255) : BytC l.length (setB l k b) := by
  refine ⟨fun i hi => ?_, fun i hi => ?_⟩
  · rw [setB_to, setB_eq]
  · rw [setB_to]
    split
    · omega
    · exact h.2 i hi
theorem read_set {l : List Int} {k : Nat} {b : Int} (h : BytC l.length (byL l)) (hb : 0 ≤ b ∧ b ≤ 255) (hk : k < l.length) (hne : l.getD k 0 ≠ b) (hr : readE l.length (toF (byL l)) = 0) : readE l.length (toF (setB l k b)) = 6 := by
  refine readE_changed h.2 (bytC_set h hb).2 hk ?_ (fun i _ hi => ?_) hr
  · rw [setB_to, if_pos rfl]
    exact hne
  · rw [setB_to, if_neg hi]
    rfl
attribute [local irreducible] checkS fileL bodyL srcsL sndsL cutsL hdL srcL sndL cutL sumL numL strL putsL readE readR readT strF BytC
def rLBytes : List V.D → Option (Prop × V.D) := fun ds => match ds with
  | [d, .rsl 1 n g, .agg [.int .u16 p, .int .u8 b]] => some ((TaskIs d ∧ (taskOf d).fits) ∧ (BytC n g ∧ n ≤ 9223372036854775807) ∧ (0 ≤ p ∧ p ≤ 65535) ∧ 0 ≤ b ∧ b ≤ 255, .tt)
  | _ => none
theorem lawBytes_ok : PSound Go.Proofs.Try.prog 4 (mk rLBytes) := by
  refine psound_mk Try.func4 (by kernel_rfl) rfl (ctxA Lby_ok) ?_
  (intro ds p d h; unfold rLBytes at h; split at h <;> first | (cases h; done) | skip; cases h; refine ⟨Nat.le_of_ble_eq_true rfl, fun hp k hk => ?_⟩)
  rename_i d n g p b
  obtain ⟨⟨ht, hf⟩, ⟨hB, hn⟩, hp, hb⟩ := hp
  refine ⟨[(taskOf d).D, .rsl 1 n (bD (toF g)), .agg [.int .u16 p, .int .u8 b]], task_imp ht ⟨rfl, bytC_imp hB, rfl, rfl, ?_⟩⟩
  clear ht
  have hy := bytC_byt hB
  have hB : BytC n (bD (toF g)) := bytC_bD hy
  generalize toF g = f at *
  generalize taskOf d = t at *
  have f0 := file_pos t
  have c0 : checkE t = 0 → readE (fileL t).length (toF (byL (fileL t))) = 0 := read_write
  have c1 : checkE t = 0 → TEq t (readR (fileL t).length (toF (byL (fileL t)))) := read_writeT
  have m1 : p.tmod ((fileL t).length : Int) < (fileL t).length := Int.tmod_lt_of_pos _ (by omega)
  have m2 : (p.tmod ((fileL t).length : Int)).toNat < (fileL t).length := by
    have := Int.tmod_nonneg ((fileL t).length : Int) hp.1
    omega
  have r1 : ∀ n f, (readR n f).ns ≤ 1099511627776 := fun n f => Nat.le_trans (readR_small n f).1 (Nat.le_of_ble_eq_true rfl)
  have r2 : ∀ n f, (readR n f).nx ≤ 1099511627776 := fun n f => Nat.le_trans (readR_small n f).2.1 (Nat.le_of_ble_eq_true rfl)
  have r3 : ∀ n f, (readR n f).nc ≤ 1099511627776 := fun n f => Nat.le_trans (readR_small n f).2.2 (Nat.le_of_ble_eq_true rfl)
  repeat' (first | ((with_reducible refine kok ?_); kernel_rfl) | ((with_reducible refine keq_mk ?_); kernel_rfl) | with_reducible rfl | ((conv => whnf); first | (with_reducible exact trivial) | ((with_reducible refine and_ff ?_ ?_); · exact rfl) | ((with_reducible refine and_tt ?_ ?_); · exact rfl) | (with_reducible refine And.intro ?_ ?_) | intro _ | (with_reducible refine fin2 hk ?_) | ((with_reducible refine eq_leaf ?_); exact rfl) | exact trivial))
  · exact hB
  · exact hn
  rotate_left
  · conv => whnf
    refine ⟨t, rfl, rfl, hf, fun h => ?_, fun h => ?_⟩
    · repeat' (first | ((with_reducible refine kok ?_); kernel_rfl) | ((with_reducible refine keq_mk ?_); kernel_rfl) | with_reducible rfl | ((conv => whnf); first | (with_reducible exact trivial) | ((with_reducible refine and_ff ?_ ?_); · exact rfl) | ((with_reducible refine and_tt ?_ ?_); · exact rfl) | (with_reducible refine And.intro ?_ ?_) | intro _ | (with_reducible refine fin2 hk ?_) | ((with_reducible refine eq_leaf ?_); exact rfl) | exact trivial))
      all_goals (
        exfalso
        clear hk
        simp only [taskOf_agg, ↓Bool.not_eq_true', ↓Bool.not_eq_false', ↓decT, ↓decF, out_true, out_false, isin_true, isin_false, Int.toNat_natCast, Int.ofNat_lt, Nat.zero_add, Nat.add_zero, Nat.reduceAdd] at *
        contradiction)
    · have c0 := c0 h
      have c1 := c1 h
      have c2 := file_le h
      repeat' (first | ((with_reducible refine kok ?_); kernel_rfl) | ((with_reducible refine keq_mk ?_); kernel_rfl) | with_reducible rfl | ((conv => whnf); first | (with_reducible exact trivial) | ((with_reducible refine and_ff ?_ ?_); · exact rfl) | ((with_reducible refine and_tt ?_ ?_); · exact rfl) | (with_reducible refine And.intro ?_ ?_) | intro _ | (with_reducible refine fin2 hk ?_) | ((with_reducible refine eq_leaf ?_); exact rfl) | exact trivial))
      all_goals first
        | exact bytC_file t
        | exact bytC_set (bytC_file t) hb
        | exact Nat.le_trans c2 (Nat.le_of_ble_eq_true rfl)
        | exact c1
        | exact r1 _ _
        | exact r2 _ _
        | exact r3 _ _
        | exact Int.tmod_nonneg _ hp.1
        | exact m1
        | exact m2
        | (clear hk c0 c1; simp only [taskOf_agg, ↓Bool.not_eq_true', ↓Bool.not_eq_false', ↓decT, ↓decF, out_true, out_false, isin_true, isin_false, Int.toNat_natCast, Int.ofNat_lt, Nat.zero_add, Nat.add_zero, Nat.reduceAdd] at *; omega)
        | (exfalso
           clear hk
           rename_i q
           first
             | (rw [c0] at q; exact absurd q (by decide))
             | (have q := of_decide_eq_true q; omega)
             | (rename_i q0
                exact absurd (read_set (bytC_file t) hb m2 (of_decide_eq_false q0) c0) (of_decide_eq_false q)))
        | skip
  rename_i q
  have q : readE n f = 0 := of_decide_eq_true q
  have q2 : n ≤ 2000 := (read_form q).1
  have q3 : (fileL (readR n f)).length ≤ 2000 := file_le (readR_check q)
  have q4 : strF (toF (byL (fileL (readR n f)))) 0 (fileL (readR n f)).length = strF (toF (bD f)) 0 n := by
    rw [readR_0 q]
    exact write_read hy q
  conv => whnf
  refine ⟨readR n (toF (bD f)), rfl, rfl, readR_fits q, fun h => absurd (readR_check q) h, fun _ => ?_⟩
  repeat' (first | ((with_reducible refine kok ?_); kernel_rfl) | ((with_reducible refine keq_mk ?_); kernel_rfl) | with_reducible rfl | ((conv => whnf); first | (with_reducible exact trivial) | ((with_reducible refine and_ff ?_ ?_); · exact rfl) | ((with_reducible refine and_tt ?_ ?_); · exact rfl) | (with_reducible refine And.intro ?_ ?_) | intro _ | (with_reducible refine fin2 hk ?_) | ((with_reducible refine eq_leaf ?_); exact rfl) | exact trivial))
  · exact bytC_file _
  · exact hB
  · exact Nat.le_trans q3 (Nat.le_of_ble_eq_true rfl)
  · exact Nat.le_trans q2 (Nat.le_of_ble_eq_true rfl)
  · exfalso
    clear hk
    rename_i g
    have g : (!decide (strF (toF (byL (fileL (readR n f)))) 0 (fileL (readR n f)).length = strF (toF (bD f)) 0 n)) = true := g
    rw [q4] at g
    simp at g
  clear q q2 q3 q4
  conv => whnf
  refine ⟨t, rfl, rfl, hf, fun h => ?_, fun h => ?_⟩
  · repeat' (first | ((with_reducible refine kok ?_); kernel_rfl) | ((with_reducible refine keq_mk ?_); kernel_rfl) | with_reducible rfl | ((conv => whnf); first | (with_reducible exact trivial) | ((with_reducible refine and_ff ?_ ?_); · exact rfl) | ((with_reducible refine and_tt ?_ ?_); · exact rfl) | (with_reducible refine And.intro ?_ ?_) | intro _ | (with_reducible refine fin2 hk ?_) | ((with_reducible refine eq_leaf ?_); exact rfl) | exact trivial))
    all_goals (
      exfalso
      clear hk
      simp only [taskOf_agg, ↓Bool.not_eq_true', ↓Bool.not_eq_false', ↓decT, ↓decF, out_true, out_false, isin_true, isin_false, Int.toNat_natCast, Int.ofNat_lt, Nat.zero_add, Nat.add_zero, Nat.reduceAdd] at *
      contradiction)
  · have c0 := c0 h
    have c1 := c1 h
    have c2 := file_le h
    repeat' (first | ((with_reducible refine kok ?_); kernel_rfl) | ((with_reducible refine keq_mk ?_); kernel_rfl) | with_reducible rfl | ((conv => whnf); first | (with_reducible exact trivial) | ((with_reducible refine and_ff ?_ ?_); · exact rfl) | ((with_reducible refine and_tt ?_ ?_); · exact rfl) | (with_reducible refine And.intro ?_ ?_) | intro _ | (with_reducible refine fin2 hk ?_) | ((with_reducible refine eq_leaf ?_); exact rfl) | exact trivial))
    all_goals first
      | exact bytC_file t
      | exact bytC_set (bytC_file t) hb
      | exact Nat.le_trans c2 (Nat.le_of_ble_eq_true rfl)
      | exact c1
      | exact r1 _ _
      | exact r2 _ _
      | exact r3 _ _
      | exact Int.tmod_nonneg _ hp.1
      | exact m1
      | exact m2
      | (clear hk c0 c1; simp only [taskOf_agg, ↓Bool.not_eq_true', ↓Bool.not_eq_false', ↓decT, ↓decF, out_true, out_false, isin_true, isin_false, Int.toNat_natCast, Int.ofNat_lt, Nat.zero_add, Nat.add_zero, Nat.reduceAdd] at *; omega)
      | (exfalso
         clear hk
         rename_i q
         first
           | (rw [c0] at q; exact absurd q (by decide))
           | (have q := of_decide_eq_true q; omega)
           | (rename_i q0
              exact absurd (read_set (bytC_file t) hb m2 (of_decide_eq_false q0) c0) (of_decide_eq_false q)))
      | skip
end Go.Proofs.Ytlecbjbjgfpfeaa
end
