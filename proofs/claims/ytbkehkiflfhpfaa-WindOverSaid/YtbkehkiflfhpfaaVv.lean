/-
  A small logic of our own, part 12d: functions.
-/
import Derived.Test.YtbkehkiflfhpfaaVu
set_option linter.unusedVariables false
set_option linter.unusedSimpArgs false
namespace Go.V

section
variable {P : Program} {C : Cx} {T : RT} {N : Nat} {S : Nat → Prop} {w : World} {μ : Mu} {H : HL}

theorem initE_get (ds : List D) (j : Nat) : initE ds j = ds.getD j .top := by
  induction ds generalizing j with
  | nil => rfl
  | cons d r ih => cases j with
    | zero => rfl
    | succ j => simpa [initE] using ih j
theorem init_env {ds : List D} {vs : List Value} (hRL : RL S w μ ds vs) (n : Nat) (dfs : List Deferred) : EnvR S w μ (initE ds) { tmps := vs.toArray ++ Array.replicate (n - vs.toArray.size) undef, defers := dfs } := fun j => by
  have hl := hRL.1
  show R S w μ (initE ds j) _
  rw [initE_get]
  rcases Nat.lt_or_ge j ds.length with hj | hj
  · have hj' : j < vs.length := by omega
    have := hRL.2 j ds[j] vs[j] (by simp [hj]) (by simp [hj'])
    have e1 : ds.getD j .top = ds[j] := by simp [List.getElem?_eq_getElem hj]
    have e2 : (vs.toArray ++ Array.replicate (n - vs.toArray.size) undef).getD j undef = vs[j] := by
      simp only [Array.getD_eq_getD_getElem?, Array.getElem?_append, List.size_toArray, hj', if_true, List.getElem?_toArray, List.getElem?_eq_getElem hj', Option.getD_some]
    rw [e1]
    simp only [e2]
    exact this
  · rw [List.getD_eq_getElem?_getD, List.getElem?_eq_none hj]
    exact .top _

theorem run_loadVar {t : Nat} {b off : Nat} {v : Value} (h : (Instr.loadAt t (.pointer (some ⟨b, off, none⟩))).run P w = .ok v w) : (loadVar t ⟨b, off, none⟩).run P w = .ok v w := by
  simpa [Instr.loadAt, Instr.sureAddr] using h
theorem R_ptr_form {T : Ty} {d : D} {v : Value} {H : HL} {k : D → Prop} (h : vload T d H k) (hR : R S w μ d v) : ∃ b off, v = .pointer (some ⟨b, off, none⟩) := by
  cases hR <;> simp only [V.vload] at h <;> exact ⟨_, _, rfl⟩

def resOne (tmps : Array Value) : ResultVar → Sem Value
  | .tmp t => Pure.pure (tmps.getD t undef)
  | .cell a t => do loadVar t (← asAddr (tmps.getD a undef))
theorem results_eq (fn : Func) (tmps : Array Value) : results fn tmps = (do let vs ← fn.results.mapM (resOne tmps); Pure.pure (if h : vs.size = 1 then vs[0] else .tuple vs)) := rfl
theorem vres_sound (hC : COK P C) {a : Act} {H : HL} {e : Env} (hr : RelL S w μ H) (he : EnvR S w μ e a) : ∀ (rs : List ResultVar) {k : List D → Prop}, vres C rs e H k →
    ∃ ds vs, (rs.mapM (resOne a.tmps)).run P w = .ok vs w ∧ RL S w μ ds vs ∧ k ds
  | [], k, h => ⟨[], [], by simp, ⟨rfl, fun i d v h => by simp at h⟩, h⟩
  | r :: rs, k, h => by
    cases r with
    | tmp t =>
      have h : fz (e t) (fun d => vres C rs e H fun ds => k (d :: ds)) := h
      rw [fz_iff] at h
      obtain ⟨ds, vs, g1, g2, g3⟩ := vres_sound hC hr he rs h
      refine ⟨e t :: ds, a.tmps.getD t undef :: vs, ?_, .cons (he t) g2, g3⟩
      simp only [List.mapM_cons, resOne, Sem.run_bind, Sem.run_pure, Result.andThen_ok, g1]
    | cell x t =>
      have h : vload (C.ty t) (e x) H (fun d => vres C rs e H fun ds => k (d :: ds)) := h
      obtain ⟨b, off, hv⟩ := R_ptr_form h (he x)
      obtain ⟨d, v, k1, k2, k3⟩ := sound_load (P := P) (hC.ty t) hr (he x) h
      obtain ⟨ds, vs, g1, g2, g3⟩ := vres_sound hC hr he rs k3
      refine ⟨d :: ds, v :: vs, ?_, .cons k2 g2, g3⟩
      rw [hv] at k1
      simp only [List.mapM_cons, resOne, Sem.run_bind, hv, asAddr, Sem.run_pure, Result.andThen_ok, run_loadVar k1, g1]

/-- What is no object's, and is not only read, may turn. -/
theorem put_other (hr : RelL S w μ H) {D : Nat} {ob : Obj} (hs : ¬ S D) (ho : ∀ o ob v, hget H o = some ob → μ o = some v → blk v ≠ some D) : RelL S (w.putObj D ob) μ H ∧ ∀ {d v}, R S w μ d v → R S (w.putObj D ob) μ d v := by
  have hst : ∀ b, S b → (w.putObj D ob).heap[b]? = w.heap[b]? := fun b hb => World.putObj_heap_other (fun e => hs (e ▸ hb))
  refine ⟨⟨⟨fun o ob' ho' => ?_, hr.1.sep, fun b hb => ⟨by rw [World.putObj_size]; exact (hr.1.stat b hb).1, (hr.1.stat b hb).2⟩⟩, hr.2⟩, fun h => h.keep (fun _ h => h) hst (.refl _)⟩
  obtain ⟨mv, h1, h2⟩ := hr.1.obs o ob' ho'
  exact ⟨mv, h1, h2.keep (fun _ h => h) hst (.refl _) fun b hb => World.putObj_heap_other (fun e => ho o ob' mv ho' h1 (by rw [hb, e]))⟩
theorem DfL.put {B : Option Nat} {Hp : Hp} {df : List D} {ds : List Deferred} (h : DfL B S w μ Hp df ds) {D : Nat} {ob : Obj} (hn : ∀ d ∈ ds, d.target ≠ .collected D) (hR : ∀ {d v}, R S w μ d v → R S (w.putObj D ob) μ d v) : DfL B S (w.putObj D ob) μ Hp df ds := by
  induction h with
  | nil => exact .nil
  | fn f fs cs vf vc h1 _ ih => exact .fn f fs cs vf vc (hR h1) (ih fun d hd => hn d (List.mem_cons_of_mem _ hd))
  | mark b D' h0 h1 h2 h3 h4 h5 h6 _ ih =>
    refine .mark b D' h0 h1 (by rw [World.putObj_size]; exact h2) ?_ h4 h5 h6 (ih fun d hd => hn d (List.mem_cons_of_mem _ hd))
    rw [World.putObj_heap_other (fun e => hn _ List.mem_cons_self (by rw [e]))]
    exact h3

def resV (vs : List Value) : Value := if h : vs.toArray.size = 1 then vs.toArray[0] else .tuple vs.toArray
/-- How a function ends. -/
def Fin (fin : List D → HL → Prop) (finP : D → HL → Prop) (S : Nat → Prop) (w : World) (μ : Mu) (H : HL) (e : Ending) (w' : World) : Prop := ∃ S' μ' H', RelL S' w' μ' H' ∧ Tr S w μ (hget H) S' w' μ' (hget H') ∧
  ((∃ ds vs, fin ds H' ∧ RL S' w' μ' ds vs ∧ e = .returned (resV vs)) ∨ ∃ d v, finP d H' ∧ R S' w' μ' d v ∧ e = .panicked [{ v, recovered := false }])

theorem leave_sound (hC : CallsOK P C T) {fn : Func} {tmps : Array Value} {e : Env} {fin : List D → HL → Prop} {finP : D → HL → Prop} {S0 : Nat → Prop} {w0 : World} {μ0 : Mu} {H0 : HL} {n : Nat} : ∀ (ds : List Deferred) (df : List D) (md : Md) (H : HL) (S : Nat → Prop) (w : World) (μ : Mu) (u : FrameMode),
    vleave C fn.results.toList e fin finP df md H → RelL S w μ H → EnvR S w μ e { tmps := tmps, defers := [] } → DfL (some w0.heap.size) S w μ (hget H) df ds → MdR S w μ md u → Tr S0 w0 μ0 (hget H0) S w μ (hget H) →
    LeavesInM (FW none) n P fn tmps (Fin fin finP S0 w0 μ0 H0) ds u w
  | [], df, md, H, S, w, μ, u, h, hr, he, hdf, hmd, t => by
    cases hdf
    cases md with
    | ret =>
      have hmd : u = .returning := hmd
      subst hmd
      have h : vres C fn.results.toList e H (fun ds => fin ds H) := h
      obtain ⟨ds, vs, g1, g2, g3⟩ := vres_sound hC.ok hr he _ h
      refine ⟨resV vs, ?_, S, μ, H, hr, t, .inl ⟨ds, vs, g3, g2, rfl⟩⟩
      rw [results_eq]
      simp only [Sem.run_bind]
      rw [Array.mapM_eq_mapM_toList]
      simp only [Sem.run_map]
      rw [g1]
      rfl
    | pan d =>
      obtain ⟨v, rfl, hv⟩ := hmd
      exact ⟨S, μ, H, hr, t, .inr ⟨d, v, h, hv, rfl⟩⟩
  | d :: ds, df, md, H, S, w, μ, u, h, hr, he, hdf, hmd, t => by
    have hu : u ≠ .run := fun e => by
      subst e
      cases md with
      | ret => have hmd : FrameMode.run = .returning := hmd; cases hmd
      | pan d => obtain ⟨v, e, _⟩ := hmd; cases e
    refine ⟨hu, ?_⟩
    cases hdf with
    | fn f fs cs vf vc h1 hdf' =>
      rename_i df
      have h : (match C.dfr f with
        | some dr => dr md (fs ++ cs) H fun md H => fzh H fun H => vleave C fn.results.toList e fin finP df md H
        | none => False) := h
      cases hd : C.dfr f with
      | none => rw [hd] at h; exact h.elim
      | some dr =>
        rw [hd] at h
        simp only at h
        have hs := hC.dfr f dr hd
        cases h1 with
        | fn _ _ _ _ _ hl1 hl2 hR1 hR2 =>
          have hRL : RL S w μ (fs ++ cs) (vf ++ vc).toList := by
            refine ⟨by simp [hl1, hl2], fun i d v h1 h2 => ?_⟩
            rw [Array.toList_append] at h2
            rw [List.getElem?_append] at h1 h2
            simp only [Array.length_toList, hl1] at h1 h2
            split at h1
            · rename_i hlt; rw [if_pos hlt] at h2; exact hR1 i d v h1 (by simpa using h2)
            · rename_i hlt; rw [if_neg hlt] at h2; exact hR2 _ d v h1 (by simpa using h2)
          have hcalls := hs.calls md _ H _ h S w μ _ u (n - 1) hr hRL hmd
          rw [Array.toArray_toList] at hcalls
          refine .inr ⟨fun h => absurd h Bool.false_ne_true, .func f, vc, f, vf ++ vc, rfl, hs.enters _ _, fun _ _ => trivial, hcalls.mono ?_⟩
          rintro e' u' w' ⟨⟨v, rfl⟩, S', μ', md', H', k1, k2, k3, k4⟩
          rw [fzh_iff] at k1
          exact leave_sound hC ds df md' H' S' w' μ' (settle u') k1 k3 (fun j => (he j).tr hr.1 k4) (hdf'.tr hr.1 k4) k2 (t.trans k4)
    | mark b D hb0 hb1 hlt hD hS hob hne hdf' =>
      injection hb0 with hb0
      obtain ⟨p1, p2⟩ := put_other (ob := .deferred none) hr hS hob
      refine .inl ⟨D, _, rfl, run_takeDeferred hD, leave_sound hC ds df md H S _ μ u h p1 (fun j => p2 (he j)) (hdf'.put hne p2) ?_ ?_⟩
      · cases md with
        | ret => exact hmd
        | pan d => obtain ⟨v, e, hv⟩ := hmd; exact ⟨v, e, p2 hv⟩
      · exact ⟨t.os, t.tape, t.output, by rw [World.putObj_size]; exact t.size, fun b hb hno => (World.putObj_heap_other (by omega)).trans (t.block b hb hno), t.sub, t.new, t.mu, t.blks, t.off, t.dom⟩

/-- A function's body: how it ends. -/
theorem body_sound (hC : CallsOK P C T) {f : Nat} {fn : Func} {code : Code} (hf : P.funcs[f]? = some fn) (hb : fn.body = some code) {fin : List D → HL → Prop} {finP : D → HL → Prop} {ds : List D} (h : vbody C fn code fin finP ds H) (hle : ds.length ≤ fn.ntmps)
    {vs : List Value} (hT : T S w μ (hget H)) (hr : RelL S w μ H) (hRL : RL S w μ ds vs) : Calls P f vs.toArray w (Fin fin finP S w μ H) := by
  refine (callsIn_FW (r := none) (n := 0)).1 (callsIn_of_wp_marks (F := FW none) hf hb trivial ?_)
  have hl := hRL.1
  have hst : RelSt none fn.ntmps (some w.heap.size) S w μ ⟨initE ds, H, some []⟩ { tmps := vs.toArray ++ Array.replicate (fn.ntmps - vs.toArray.size) undef, defers := [] } :=
    ⟨hr, init_env hRL _ _, by simp; omega, .nil, .inl rfl⟩
  refine wpIn_mono (sound_vc hC (.inl ⟨_, rfl⟩) code none 0 _ ⟨initE ds, H, some []⟩ S w μ _ hst (fun b e => by injection e with e; omega) hT h) ?_
  rintro x a' w' ⟨S', μ', s', x', q1, q2, q3, q4⟩
  cases hsd : s'.df with
  | none => simp only [hsd] at q1
  | some df =>
    simp only [hsd] at q1
    have hdf := q3.df
    rw [hsd] at hdf
    have he : EnvR S' w' μ' s'.e { tmps := a'.tmps, defers := [] } := q3.env
    cases x' with
    | normal => cases x <;> first | exact q2.elim | exact leave_sound hC _ df .ret s'.H S' w' μ' .returning q1 q3.rel he hdf rfl q4
    | ret => cases x <;> first | exact q2.elim | exact leave_sound hC _ df .ret s'.H S' w' μ' .returning q1 q3.rel he hdf rfl q4
    | exit i => exact q1.elim
    | panic d =>
      cases x <;> try exact q2.elim
      obtain ⟨v, rfl, hv⟩ := q2
      exact leave_sound hC _ df (.pan d) s'.H S' w' μ' _ q1 q3.rel he hdf ⟨v, rfl, hv⟩ q4

theorem sound_viewal {H : HL} (hr : Rel S w μ (hget H)) : ∀ (ds : List D) (vs : List Value) {k : List D → Prop}, RL S w μ ds vs → viewal H ds k → ∃ ds', k ds' ∧ (ds'.all noRef = true → RL (withH S μ (hget H)) w Mu0 ds' vs)
  | [], vs, k, hl, h => ⟨[], h, fun _ => ⟨hl.1, fun i d v h1 => by simp at h1⟩⟩
  | d :: ds, [], k, hl, h => by have := hl.1; simp at this
  | d :: ds, v :: vs, k, hl, h => by
    obtain ⟨hd, hl'⟩ := hl.cons_inv
    have h : viewa H d (fun d => viewal H ds fun r => k (d :: r)) := h
    obtain ⟨d', h1, h2⟩ := sound_viewa hr hd h
    obtain ⟨ds', h3, h4⟩ := sound_viewal hr ds vs hl' h1
    refine ⟨d' :: ds', h3, fun hn => ?_⟩
    simp only [List.all_cons, Bool.and_eq_true] at hn
    exact .cons (h2 hn.1) (h4 hn.2)

theorem enters_of {f : Nat} {fn : Func} {code : Code} (hf : P.funcs[f]? = some fn) (hname : (fn.name == "runtime.NumGoroutine") = false) (hb : fn.body = some code) : Enters P f := fun args w => by
  have hn : fn.name ≠ "runtime.NumGoroutine" := by simpa using hname
  simp [callFunc, hf, hn, hb, mark]

/-- A function that only reads: what it returns. -/
theorem vfun_calls {f : Nat} {fn : Func} {code : Code} (hf : P.funcs[f]? = some fn) (hb : fn.body = some code) (hC : CallsOK P C fun _ _ _ _ => True) {ds : List D} {k : D → Prop} (hle : ds.length ≤ fn.ntmps) (h : vfun C fn code k ds)
    (S : Nat → Prop) (w : World) (vs : List Value) (hS : ∀ b, S b → b < w.heap.size) (hRL : RL S w Mu0 ds vs) : Calls P f vs.toArray w fun e w' => ∃ v S' d, e = .returned v ∧ k d ∧ R S' w' Mu0 d v ∧ Grow S w S' w' := by
  have hr0 : RelL S w Mu0 [] := ⟨⟨fun o ob ho => by simp [hget] at ho, fun o o' ob ob' v v' b ho => by simp [hget] at ho, fun b hb => ⟨hS b hb, fun o ob v ho => by simp [hget] at ho⟩⟩, fun _ _ => rfl⟩
  refine (body_sound hC hf hb h hle trivial hr0 hRL).mono ?_
  rintro e w' ⟨S', μ', H', hr, t, ⟨ds1, vs1, h1, h2, rfl⟩ | ⟨d, v, h1, _⟩⟩
  · unfold finPure at h1
    obtain ⟨ds2, g4, g5⟩ := sound_viewal hr.1 ds1 vs1 h2 h1
    cases hn : ds2.all noRef with
    | false => simp [hn] at g4
    | true =>
      simp only [hn, cond_true] at g4
      have g6 := g5 hn
      have hgrow : Grow S w (withH S' μ' (hget H')) w' := ⟨t.os, t.tape, t.output, t.size, fun b hb => t.block b hb fun o ob v ho => by simp [hget] at ho, fun b hb => .inl (t.sub b hb), fun b hb => by
        rcases hb with hb | ⟨o, ob, v, ho, hv, hbv⟩
        · exact t.new b hb
        · rcases t.blks o ob v b ho hv hbv with h1 | ⟨o', ob', v', h1, _⟩
          · exact .inr h1
          · simp [hget] at h1, fun b hb => by
        rcases hb with hb | ⟨o, ob, v, ho, hv, hbv⟩
        · exact (hr.1.stat b hb).1
        · obtain ⟨mv, m1, m2⟩ := hr.1.obs o ob ho
          rw [hv] at m1; injection m1 with m1; subst m1
          exact m2.blk_lt hbv⟩
      split at g4
      · rename_i d
        obtain ⟨d0, k1, k2⟩ := g4
        match vs1, g6 with
        | [v], g6 => exact ⟨_, _, d0, rfl, k1, by simpa [resV] using k2 _ _ _ g6.cons_inv.1, hgrow⟩
        | [], g6 => have := g6.1; simp at this
        | _ :: _ :: _, g6 => have := g6.1; simp at this
      · rename_i hne
        obtain ⟨d0, k1, k2⟩ := g4
        have : ¬ vs1.toArray.size = 1 := fun h1 => by
          have h2 := g6.1
          simp only [List.size_toArray] at h1
          match ds2, h2 with
          | [d], _ => exact hne d rfl
          | [], h2 => simp at h2; omega
          | _ :: _ :: _, h2 => simp at h2; omega
        refine ⟨_, _, d0, rfl, k1, ?_, hgrow⟩
        unfold resV
        rw [dif_neg this]
        exact k2 _ _ _ (.tup _ _ (by simpa using g6.1) fun i d v a b => g6.2 i d v a (by simpa using b))
  · exact h1.elim
theorem psound_of {f : Nat} {fn : Func} {code : Code} {r : PRule} (hf : P.funcs[f]? = some fn) (hname : (fn.name == "runtime.NumGoroutine") = false) (hb : fn.body = some code) (hC : CallsOK P C fun _ _ _ _ => True) (hdet : ∀ ds, Det (r ds))
    (h : ∀ ds k, r ds k → ds.length ≤ fn.ntmps ∧ ∃ ds', impAL noGh ds ds' (vfun C fn code k ds')) : PSound P f r := by
  refine ⟨hdet, enters_of hf hname hb, fun ds k hk S w vs hS hRL => ?_⟩
  obtain ⟨hle, ds', hi⟩ := h ds k hk
  obtain ⟨g1, g2⟩ := impAL_sound (gs := noGh) (fun o ho => by cases ho) hRL hi
  exact vfun_calls hf hb hC (by have := g1.1; have := hRL.1; omega) g2 S w vs hS g1

theorem inlC_calls (hC : CallsOK P C T) {f : Nat} {fn : Func} {code : Code} (hf : P.funcs[f]? = some fn) (hb : fn.body = some code) {ds : List D} {K : Res → HL → Prop} (h : inlC C fn code ds H K) {vs : List Value} (hT : T S w μ (hget H)) (hr : RelL S w μ H) (hRL : RL S w μ ds vs) :
    Calls P f vs.toArray w (CallPost S w μ H K) := by
  unfold inlC at h
  cases hq : Nat.ble ds.length fn.ntmps with
  | false => rw [hq] at h; exact h.elim
  | true =>
    rw [hq, cond_true] at h
    refine (body_sound hC hf hb h (Nat.le_of_ble_eq_true hq) hT hr hRL).mono ?_
    rintro e w' ⟨S', μ', H', hr', t, ⟨ds1, vs1, h1, h2, rfl⟩ | ⟨d, v, h1, h2, rfl⟩⟩
    · unfold finCall at h1
      split at h1
      · rename_i d
        match vs1, h2 with
        | [v], h2 => exact ⟨S', μ', .ret d, H', h1, by simpa [ResR, resV] using h2.cons_inv.1, hr', t⟩
        | [], h2 => have := h2.1; simp at this
        | _ :: _ :: _, h2 => have := h2.1; simp at this
      · rename_i hne
        have : ¬ vs1.toArray.size = 1 := fun h3 => by
          have h4 := h2.1
          simp only [List.size_toArray] at h3
          match ds1, h4 with
          | [d], _ => exact hne d rfl
          | [], h4 => simp at h4; omega
          | _ :: _ :: _, h4 => simp at h4; omega
        refine ⟨S', μ', .ret (.tup ds1), H', h1, ?_, hr', t⟩
        show R S' w' μ' (.tup ds1) (resV vs1)
        unfold resV
        rw [dif_neg this]
        exact .tup _ _ (by simpa using h2.1) fun i d v a b => h2.2 i d v a (by simpa using b)
    · exact ⟨S', μ', .pan d, H', h1, ⟨v, rfl, h2⟩, hr', t⟩
theorem csound_of {f : Nat} {fn : Func} {code : Code} (hf : P.funcs[f]? = some fn) (hname : (fn.name == "runtime.NumGoroutine") = false) (hb : fn.body = some code) (hC : CallsOK P C fun _ _ _ _ => True) : CSound P f (inlC C fn code) :=
  ⟨enters_of hf hname hb, fun _ _ _ h _ _ _ _ hr hRL => inlC_calls hC hf hb h trivial hr hRL⟩
theorem CallsOK.withY (hC : CallsOK P C T) {T' : RT} {ol : Nat} {h : CRule} (hT : RTok T') (hy : YSound P T' ol h) : CallsOK P { C with yld := some (ol, h) } T' :=
  ⟨⟨hC.ok.ty, hC.ok.zero, hC.ok.eq⟩, hC.mixed, hC.pure, hC.call, hC.iter, hC.dfr, fun ol' h' e => by
    simp only [Option.some.injEq, Prod.mk.injEq] at e
    obtain ⟨rfl, rfl⟩ := e
    exact hy, hT⟩
theorem isound_of {f : Nat} {fn : Func} {code : Code} (hf : P.funcs[f]? = some fn) (hname : (fn.name == "runtime.NumGoroutine") = false) (hb : fn.body = some code) (hC : CallsOK P C T) : ISound P f (inlI C fn code) :=
  ⟨enters_of hf hname hb, fun ol h T' hT hy ds H K hk S w μ vs hTw hr hRL => inlC_calls (hC.withY hT hy) hf hb hk hTw hr hRL⟩

theorem DfL.none_nil {Hp : Hp} {ds : List Deferred} (h : DfL none S w μ Hp [] ds) : ds = [] := by
  cases h with
  | nil => rfl
  | mark b D h0 => cases h0

theorem dsound_of {f : Nat} {fn : Func} {code : Code} (hf : P.funcs[f]? = some fn) (hname : (fn.name == "runtime.NumGoroutine") = false) (hb : fn.body = some code) (hres : fn.results = #[]) (hC : CallsOK P C fun _ _ _ _ => True) : DSound P f (inlD C fn code) := by
  refine ⟨enters_of hf hname hb, fun md ds H K h S w μ vs u n hr hRL hmd => ?_⟩
  unfold inlD at h
  split at h
  · rename_i id ops rest
    split at h
    · rename_i o1 o2 hops
      cases hq : (recOp o1 && Nat.ble ds.length fn.ntmps) with
      | false => rw [hq] at h; exact h.elim
      | true =>
        rw [hq, cond_true] at h
        simp only [Bool.and_eq_true] at hq
        obtain ⟨hro, hle⟩ := hq
        have hle := Nat.le_of_ble_eq_true hle
        split at h
        · rename_i hg2
          split at h
          · rename_i t hop2
            rw [fz_iff] at h
            obtain ⟨ops⟩ := ops
            simp only at hops
            subst hops
            have hC' : CallsOK P { C with iter := fun _ => none } fun _ _ _ _ => True := ⟨⟨hC.ok.ty, hC.ok.zero, hC.ok.eq⟩, hC.mixed, hC.pure, hC.call, (fun f i e => by cases e), hC.dfr, hC.yld, hC.step⟩
            have hl := hRL.1
            have hrec : o1.guard = none ∧ ∃ ats, o1.op = .call { callee := .builtin .recover, args := #[], argTypes := ats } := by
              unfold recOp at hro
              split at hro
              · rename_i hg
                split at hro
                · rename_i c hop
                  obtain ⟨callee, args, ats⟩ := c
                  split at hro
                  · rename_i hcal
                    simp only at hcal
                    subst hcal
                    have := nilB_eq hro
                    have : args = #[] := by simpa using this
                    subst this
                    exact ⟨hg, ats, hop⟩
                  · cases hro
                · cases hro
              · cases hro
            obtain ⟨hg1, ats, hop1⟩ := hrec
            obtain ⟨v0, u0, hv0, hrd, hset⟩ : ∃ v0 u0, R S w μ (recD md) v0 ∧ (∀ (c₀ : Frame) (cs : List Frame), c₀.mode = u → (recoverD (c₀ :: cs) = some (v0, { c₀ with mode := u0 } :: cs) ∨ (recoverD (c₀ :: cs) = none ∧ v0 = .nilIface ∧ u0 = u))) ∧ settle u0 = .returning := by
              cases md with
              | ret =>
                have hmd : u = .returning := hmd
                subst hmd
                refine ⟨.nilIface, .returning, .nilI, fun c₀ cs hc => .inr ⟨?_, rfl, rfl⟩, rfl⟩
                simp [recoverD, hc]
              | pan d =>
                obtain ⟨v, rfl, hv⟩ := hmd
                refine ⟨v, .panicking [{ v, recovered := true }], hv, fun c₀ cs hc => .inl ?_, by simp [settle]⟩
                simp [recoverD, hc]
            refine callsDIn_of_wpSIn (F := FW none) hf hb trivial fun c₀ cs hc => ?_
            have hN : (vs.toArray ++ Array.replicate (fn.ntmps - vs.toArray.size) undef).size = fn.ntmps := by simp; omega
            have he0 : EnvR S w μ (initE ds) { tmps := vs.toArray ++ Array.replicate (fn.ntmps - vs.toArray.size) undef, defers := [] } := init_env hRL _ _
            obtain ⟨e1, h1, he1⟩ := sound_put he0 hN hv0 h
            obtain ⟨e2, h2, he2⟩ := sound_put he1 (by rw [V.Act.put_size]; exact hN) (he1 t) h1
            refine wpSIn_seq (wpSIn_region ?_)
            -- the first region
            have fin : ∀ (cs' : List Frame), cs' = { c₀ with mode := u0 } :: cs →
                wpOpsSIn (FW none) n P #[o1, o2] (Exit.thenS (rest.wpSIn (FW none) n P (bodyPostS P fn c₀ cs fun e u' w' => (∃ v, e = Ending.returned v) ∧ ∃ S' μ' md' H', K md' H' ∧ MdR S' w' μ' md' (settle u') ∧ RelL S' w' μ' H' ∧ Tr S w μ (hget H) S' w' μ' (hget H')))
                  (bodyPostS P fn c₀ cs fun e u' w' => (∃ v, e = Ending.returned v) ∧ ∃ S' μ' md' H', K md' H' ∧ MdR S' w' μ' md' (settle u') ∧ RelL S' w' μ' H' ∧ Tr S w μ (hget H) S' w' μ' (hget H'))) [1]
                  (({ tmps := vs.toArray ++ Array.replicate (fn.ntmps - vs.toArray.size) undef, defers := [] } : Act).put o1.dst v0) cs' w := fun cs' hcs => by
              subst hcs
              simp only [wpOpsSIn, List.getElem?_toArray, List.getElem?_cons_succ, List.getElem?_cons_zero]
              refine ⟨fun _ _ => trivial, ?_⟩
              have hw2 : Region.wanted o2 (yielded #[o1, o2] (({ tmps := vs.toArray ++ Array.replicate (fn.ntmps - vs.toArray.size) undef, defers := [] } : Act).put o1.dst v0).tmps) = true := by simp [Region.wanted, hg2]
              rw [if_pos hw2]
              have hrun2 : ∀ (a : Act), (execOp a.eval o2).run P w = .ok (.value (a.tmps.getD t undef)) w := fun a => by simp [execOp, hop2, Act.eval]
              rw [hrun2]
              simp only [Exit.thenS]
              refine wpSIn_of_wpIn rfl ?_
              have hst : RelSt none fn.ntmps none S w μ ⟨e2, H, some []⟩ ((({ tmps := vs.toArray ++ Array.replicate (fn.ntmps - vs.toArray.size) undef, defers := [] } : Act).put o1.dst v0).put o2.dst ((({ tmps := vs.toArray ++ Array.replicate (fn.ntmps - vs.toArray.size) undef, defers := [] } : Act).put o1.dst v0).tmps.getD t undef)) :=
                ⟨hr, he2, by rw [V.Act.put_size, V.Act.put_size]; exact hN, by rw [V.Act.put_defers, V.Act.put_defers]; exact .nil, .inl rfl⟩
              refine wpIn_mono (sound_vc hC' (.inr fun _ => rfl) rest none n _ _ S w μ _ hst (fun b e => by cases e) trivial h2) ?_
              rintro x a' w' ⟨S', μ', s', x', q1, q2, q3, q4⟩
              have out : (match s'.df with | some [] => K .ret s'.H | _ => False) → a'.defers = [] ∧ ∃ u', ({ c₀ with mode := u0 } :: cs : List Frame) = { c₀ with mode := u' } :: cs ∧ ∃ v, (results fn a'.tmps).run P w' = .ok v w' ∧ (∃ v', Ending.returned v = Ending.returned v') ∧ ∃ S' μ' md' H', K md' H' ∧ MdR S' w' μ' md' (settle u') ∧ RelL S' w' μ' H' ∧ Tr S w μ (hget H) S' w' μ' (hget H') := fun q => by
                have hdf := q3.df
                cases hsd : s'.df with
                | none => rw [hsd] at q; exact q.elim
                | some df =>
                  cases df with
                  | cons _ _ => rw [hsd] at q; exact q.elim
                  | nil =>
                    rw [hsd] at q hdf
                    have hd0 := DfL.none_nil hdf
                    refine ⟨hd0, u0, rfl, .tuple #[], ?_, ⟨_, rfl⟩, S', μ', .ret, s'.H, q, hset, q3.rel, q4⟩
                    simp [results, hres]
              cases x' with
              | normal => cases x <;> first | exact q2.elim | exact out q1
              | ret => cases x <;> first | exact q2.elim | exact out q1
              | exit i => exact q1.elim
              | panic d => exact q1.elim
            have hrange : List.range (#[o1, o2] : Array Oper).size = [0, 1] := rfl
            rw [hrange]
            simp only [wpOpsSIn, List.getElem?_toArray, List.getElem?_cons_zero]
            refine ⟨fun _ _ => trivial, ?_⟩
            have hw1 : Region.wanted o1 (yielded #[o1, o2] (vs.toArray ++ Array.replicate (fn.ntmps - vs.toArray.size) undef)) = true := by simp [Region.wanted, hg1]
            rw [if_pos hw1]
            have hrun1 : ∀ (a : Act), (execOp a.eval o1).run P w = .ok .recover w := fun a => by simp [execOp, hop1, resolve, invoke, builtin]
            rw [hrun1]
            simp only
            rcases hrd c₀ cs hc with h3 | ⟨h3, rfl, rfl⟩
            · rw [h3]
              exact fin _ rfl
            · rw [h3]
              have hf1 := fin (c₀ :: cs) (by cases c₀; simp only at hc; rw [hc])
              simp only [wpOpsSIn, List.getElem?_toArray, List.getElem?_cons_succ, List.getElem?_cons_zero, h3] at hf1 ⊢
              exact hf1
          · exact h.elim
        · exact h.elim
    · exact h.elim
  · exact h.elim
end
end Go.V
