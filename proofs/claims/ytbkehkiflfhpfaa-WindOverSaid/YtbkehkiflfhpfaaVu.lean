/-
  A small logic of our own, part 12c: code.
-/
import Derived.Test.YtbkehkiflfhpfaaVt
set_option linter.unusedVariables false
set_option linter.unusedSimpArgs false
namespace Go.V

section
variable {P : Program} {C : Cx} {T : RT} {N : Nat} {S : Nat → Prop} {w : World} {μ : Mu} {B : Option Nat} {H : HL}

/-- A loop's record is turned. -/
theorem turn_lp (hr : RelL S w μ H) {o l : Nat} {r0 : Loop} {p p' : Pj} {x x' : Loop} (ho : hget H o = some (.lp r0 p)) (hm : μ o = some (.func (.yield l) #[] #[])) (hl : w.heap[l]? = some (.loop x)) (hx : lpR r0 p' x') :
    RelL S (w.putObj l (.loop x')) μ (H.set o (some (.lp r0 p'))) ∧ Tr S w μ (hget H) S (w.putObj l (.loop x')) μ (hget (H.set o (some (.lp r0 p')))) := by
  have hoid := lt_of_hget ho
  have hlt := (Array.getElem?_eq_some_iff.1 hl).1
  have hput := hr.1.put (o := o) (ob := .lp r0 p') (mv := .func (.yield l) #[] #[]) (w' := w.putObj l (.loop x')) rfl rfl rfl (by simp)
    (fun b hb' hno => World.putObj_heap_other (fun e => hno _ _ ho hm (by simp [blk, e])))
    (fun v hv => by rw [hm] at hv; injection hv with hv; subst hv; exact .refl _)
    (fun b hb' => .inr ⟨_, _, ho, hm, hb'⟩)
    ⟨l, x', rfl, World.putObj_heap_same hlt, hx⟩ (fun e => by rw [ho] at e; cases e)
  have hupd : updM μ o (.func (.yield l) #[] #[]) = μ := by
    funext o'
    unfold updM
    split
    · rename_i h; rw [h, hm]
    · rfl
  rw [hupd] at hput
  rw [hget_set _ _ _ hoid]
  exact ⟨⟨by rw [hget_set _ _ _ hoid]; exact hput.1, fun o' ho' => hr.2 o' (by simpa using ho')⟩, hput.2⟩
theorem lp_at (hr : RelL S w μ H) {o l : Nat} {r0 : Loop} {p : Pj} (ho : hget H o = some (.lp r0 p)) (hm : μ o = some (.func (.yield l) #[] #[])) : ∃ x, w.heap[l]? = some (.loop x) ∧ lpR r0 p x := by
  obtain ⟨mv, h1, l', x, h2, h3, h4⟩ := hr.1.obs o _ ho
  rw [hm] at h1
  injection h1 with h1
  rw [← h1] at h2
  injection h2 with h2
  injection h2 with h2
  subst h2
  exact ⟨x, h3, h4⟩
theorem mark_keep {μ μ' : Mu} (h : MuLe μ μ') {o l : Nat} (hm : μ o = some (.func (.yield l) #[] #[])) : μ' o = some (.func (.yield l) #[] #[]) := by
  obtain ⟨v', h1, h2⟩ := h o _ hm
  rcases h2 with rfl | ⟨A, m, c, A', m', c', e, _⟩ | ⟨r, ks, ys, e, _⟩
  · exact h1
  · cases e
  · injection e with e; cases e
theorem lpIs_iff {ol : Nat} {r0 : Loop} {p : Pj} {k : Prop} (h : lpIs H ol r0 p k) : hget H ol = some (.lp r0 p) ∧ k := by
  unfold lpIs at h
  split at h
  · rename_i r q ho
    obtain ⟨⟨rfl, rfl⟩, hk⟩ := h
    exact ⟨ho, hk⟩
  · exact h.elim

theorem bind_env {tmps : Array Value} (hN : tmps.size = N) : ∀ (ps : List Nat) (ds : List D) (vs : List Value) (e : Env) (k : Env → Prop) (a : Array Value), a.size = N → EnvR S w μ e { tmps := a, defers := [] } → RL S w μ ds vs → bindE N ps ds e k →
    ∃ e1, k e1 ∧ EnvR S w μ e1 { tmps := (ps.zip vs).foldl (fun t (x : Nat × Value) => t.setIfInBounds x.1 x.2) a, defers := [] } ∧ ((ps.zip vs).foldl (fun t (x : Nat × Value) => t.setIfInBounds x.1 x.2) a).size = N ∧ ps.length = vs.length
  | [], [], vs, e, k, a, ha, he, hr, h => by
    have : vs = [] := by have := hr.1; simpa using this.symm
    subst this
    exact ⟨e, h, he, ha, rfl⟩
  | [], d :: ds, vs, e, k, a, ha, he, hr, h => h.elim
  | p :: ps, [], vs, e, k, a, ha, he, hr, h => h.elim
  | p :: ps, d :: ds, [], e, k, a, ha, he, hr, h => by have := hr.1; simp at this
  | p :: ps, d :: ds, v :: vs, e, k, a, ha, he, hr, h => by
    have h : (bif Nat.blt p N then bindE N ps ds (upd e p d) k else False) := h
    cases hq : Nat.blt p N with
    | false => rw [hq] at h; exact h.elim
    | true =>
      rw [hq, cond_true] at h
      obtain ⟨hd, hr'⟩ := hr.cons_inv
      have hp := (blt_iff _ _).1 hq
      have he' : EnvR S w μ (upd e p d) { tmps := a.setIfInBounds p v, defers := [] } := fun j => by
        simp only [V.upd]
        cases hj : Nat.beq j p with
        | true =>
          obtain rfl := Nat.eq_of_beq_eq_true hj
          simp only [cond_true]
          have : j < a.size := by omega
          simpa [Array.getD, this] using hd
        | false =>
          have hne : p ≠ j := fun e => by subst e; rw [Nat.beq_refl] at hj; cases hj
          simp only [cond_false]
          have := he j
          rw [Array.getD_eq_getD_getElem?] at this ⊢
          rwa [Array.getElem?_setIfInBounds_ne hne]
      obtain ⟨e1, g1, g2, g3, g4⟩ := bind_env hN ps ds vs _ k _ (by simpa using ha) he' hr' h
      exact ⟨e1, g1, g2, g3, by simp [g4]⟩

/-- What code's conditions are good for. -/
def Sound (P : Program) (T : RT) (N : Nat) (B : Option Nat) (c : Code) (v : VK) : Prop :=
  ∀ (r : Option Nat) (n : Nat) (K : VX → St → Prop) (s : St) (S : Nat → Prop) (w : World) (μ : Mu) (a : Act), RelSt r N B S w μ s a → (∀ b, B = some b → b ≤ w.heap.size) → T S w μ (hget s.H) → v K s → c.wpIn (FW r) n P (PostC S w μ (hget s.H) r N B K) a w

/-- A call of yield: one round, out of the walks of the loop's assignments and of its body. -/
theorem yield_sound (hT : RTok T) {asg body : Code} {va vb : VK} (ha : Sound P T N B asg va) (hb : Sound P T N B body vb) {ps : Array Nat} {e : Env} {a0 : Array Value} {S0 : Nat → Prop} {w0 : World} {μ0 : Mu} {H0 : Hp} {ol l fn : Nat} {dd : Nat}
    (hN : a0.size = N) (he : EnvR S0 w0 μ0 e { tmps := a0, defers := [] }) (hr0 : Rel S0 w0 μ0 H0) (ht0 : T S0 w0 μ0 H0) (hb0 : ∀ b, B = some b → b ≤ w0.heap.size) (hm0 : μ0 ol = some (.func (.yield l) #[] #[]))
    {r0 : Loop} (hrec : r0 = { state := .ready, pending := none, fn := fn, tmps := a0, params := ps, assign := asg, body := body, defers := dd }) :
    YSound P (fun S w μ H => Tr S0 w0 μ0 H0 S w μ H) ol (vcYield N ol e r0 ps.toList va vb) := by
  intro ds H K h S w μ vs hTr hr hRL l' hl'
  have hm := mark_keep hTr.mu hm0
  rw [hm] at hl'
  simp only [Option.some.injEq, Value.func.injEq, Fn.yield.injEq, and_true] at hl'
  subst hl'
  obtain ⟨hlp, h⟩ := lpIs_iff h
  obtain ⟨x, hx, hxr⟩ := lp_at hr hlp hm
  have hxe : x = r0 := by rw [hxr, hrec]
  subst hxe
  have he1 : EnvR S w μ e { tmps := a0, defers := [] } := fun j => (he j).tr hr0 hTr
  obtain ⟨e1, h1, h2, h3, h4⟩ := bind_env hN ps.toList ds vs e _ a0 hN he1 hRL h
  have hfold : (ps.zip vs.toArray).foldl (fun t (x : Nat × Value) => t.setIfInBounds x.1 x.2) a0 = (ps.toList.zip vs).foldl (fun t (x : Nat × Value) => t.setIfInBounds x.1 x.2) a0 := by
    rw [← Array.foldl_toList, Array.toList_zip]
  have hy := run_yield (P := P) (args := vs.toArray) hx (by rw [hrec]; simp [← h4])
  have htw : T S w μ (hget H) := hT _ _ _ _ _ _ _ _ ht0 hTr
  have hbw : ∀ b, B = some b → b ≤ w.heap.size := fun b e => Nat.le_trans (hb0 b e) hTr.size
  refine ⟨_, _, _, _, hy, fun n => ?_⟩
  rw [hrec]
  simp only
  refine roundIn_of_wpIn (F := FW none) trivial ?_
  show asg.wpIn (FW (some l)) n P _ _ w
  rw [hfold]
  have hst : RelSt (some l) N B S w μ ⟨e1, H, none⟩ { tmps := (ps.toList.zip vs).foldl (fun t (x : Nat × Value) => t.setIfInBounds x.1 x.2) a0, defers := [] } := ⟨hr, h2, h3, trivial, .inr rfl⟩
  refine wpIn_mono (ha (some l) n _ ⟨e1, H, none⟩ S w μ _ hst hbw htw h1) ?_
  rintro x a1 w1 ⟨S1, μ1, s1, x1, k1, k2, k3, k4⟩
  cases x1 <;> simp only [lpBody] at k1
  cases x <;> try exact k2.elim
  obtain ⟨hl1, k1⟩ := lpIs_iff k1
  have hm1 := mark_keep k4.mu hm
  obtain ⟨y1, hy1, hyr1⟩ := lp_at k3.rel hl1 hm1
  obtain ⟨t1, t2⟩ := turn_lp (p' := .busy) k3.rel hl1 hm1 hy1 (x' := { y1 with state := .busy }) (by rw [hyr1]; rfl)
  refine ⟨w1.putObj l (.loop { y1 with state := .busy }), run_beginRound hy1 (by rw [hyr1]), ?_⟩
  show body.wpIn (FW (some l)) n P _ _ _
  have hst1 : RelSt (some l) N B S1 (w1.putObj l (.loop { y1 with state := .busy })) μ1 ⟨s1.e, s1.H.set ol (some (.lp _ .busy)), none⟩ a1 := ⟨t1, fun j => (k3.env j).tr k3.rel.1 t2, k3.size, trivial, .inr rfl⟩
  refine wpIn_mono (hb (some l) n _ _ S1 _ μ1 _ hst1 (fun b e => Nat.le_trans (hbw b e) (k4.trans t2).size) (hT _ _ _ _ _ _ _ _ htw (k4.trans t2)) k1) ?_
  rintro x2 a2 w2 ⟨S2, μ2, s2, x3, q1, q2, q3, q4⟩
  have hm2 := mark_keep q4.mu hm1
  have tr2 := (k4.trans t2).trans q4
  cases x3 with
  | panic d => exact q1.elim
  | normal =>
    cases x2 <;> try exact q2.elim
    obtain ⟨hl2, q1⟩ := lpIs_iff q1
    obtain ⟨y2, hy2, hyr2⟩ := lp_at q3.rel hl2 hm2
    obtain ⟨u1, u2⟩ := turn_lp (p' := .ready) q3.rel hl2 hm2 hy2 (x' := { y2 with state := if (none : Option Code).isNone then .ready else .done, pending := none }) (by rw [hyr2]; rfl)
    exact ⟨_, _, run_endRound none hy2, S2, μ2, .ret .tt, _, q1, .tt, u1, tr2.trans u2⟩
  | ret =>
    cases x2 <;> try exact q2.elim
    obtain ⟨hl2, q1⟩ := lpIs_iff q1
    obtain ⟨y2, hy2, hyr2⟩ := lp_at q3.rel hl2 hm2
    obtain ⟨u1, u2⟩ := turn_lp (p' := .ret) q3.rel hl2 hm2 hy2 (x' := { y2 with state := if (some Code.ret).isNone then .ready else .done, pending := some .ret }) (by rw [hyr2]; rfl)
    exact ⟨_, _, run_endRound (some .ret) hy2, S2, μ2, .ret .ff, _, q1, .ff, u1, tr2.trans u2⟩
  | exit i =>
    cases x2 <;> try exact q2.elim
    rename_i i'
    have q2 : i = i' := q2
    subst q2
    obtain ⟨hl2, q1⟩ := lpIs_iff q1
    obtain ⟨y2, hy2, hyr2⟩ := lp_at q3.rel hl2 hm2
    obtain ⟨u1, u2⟩ := turn_lp (p' := .exit i) q3.rel hl2 hm2 hy2 (x' := { y2 with state := if (some (Code.exit i)).isNone then .ready else .done, pending := some (.exit i) }) (by rw [hyr2]; rfl)
    exact ⟨_, _, run_endRound (some (.exit i)) hy2, S2, μ2, .ret .ff, _, q1, .ff, u1, tr2.trans u2⟩

/-- A range over a function. -/
theorem sound_range (hC : CallsOK P C T) (hB : (∃ b, B = some b) ∨ ∀ g, C.iter g = none) {f : Operand} {ps : Array Tmp} {asg body : Code} {va vb : VK} (iha : Sound P T N B asg va) (ihb : Sound P T N B body vb) {r : Option Nat} {n : Nat} {K : VX → St → Prop} {s : St} {a : Act}
    (hst : RelSt r N B S w μ s a) (hb : ∀ b, B = some b → b ≤ w.heap.size) (hT : T S w μ (hget s.H)) (h : vcRange C N f ps va vb K s) : (Code.rangeFunc f ps asg body).wpIn (FW r) n P (PostC S w μ (hget s.H) r N B K) a w := by
  rw [vcRange_eq] at h
  split at h
  · rename_i g fs cs hd
    split at h
    · rename_i it hit
      split at h
      · rename_i df hsd
        rw [fzh_iff] at h
        obtain ⟨hr, he, hN, hdf, hro⟩ := hst
        have hrn : r = none := hro.resolve_right (by rw [hsd]; exact fun e => by cases e)
        subst hrn
        obtain ⟨b, rfl⟩ : ∃ b, B = some b := hB.resolve_right (fun h => by rw [h g] at hit; cases hit)
        have hi := hC.iter g it hit
        have hf := he.ev f
        rw [hd] at hf
        generalize hvf : a.eval f = fv at hf
        refine wpIn_rangeFunc (F := FW none) fun fn _ => ?_
        cases hf with
        | fn _ _ _ vf vc hl1 hl2 hR1 hR2 =>
          obtain ⟨l, hl⟩ : ∃ l, l = w.heap.size + 1 := ⟨_, rfl⟩
          obtain ⟨r0, hrec⟩ : ∃ r0 : Loop, r0 = { state := .ready, pending := none, fn := fn, tmps := a.tmps, params := ps, assign := asg, body := body, defers := w.heap.size } := ⟨_, rfl⟩
          obtain ⟨w1, hw1⟩ : ∃ w1, w1 = (w.alloc (.deferred (some []))).alloc (.loop r0) := ⟨_, rfl⟩
          obtain ⟨μ1, hμ1⟩ : ∃ μ1, μ1 = updM μ s.H.length (.func (.yield l) #[] #[]) := ⟨_, rfl⟩
          obtain ⟨H1, hH1d⟩ : ∃ H1 : HL, H1 = s.H ++ [some (.lp r0 .ready)] := ⟨_, rfl⟩
          have hz := hr.2 s.H.length (Nat.le_refl _)
          have hsize1 : w1.heap.size = w.heap.size + 2 := by rw [hw1]; simp
          have hblk1 : ∀ b, b < w.heap.size → w1.heap[b]? = w.heap[b]? := fun b hb => by rw [hw1]; exact (RowKit.Below.heap_alloc _ _ b (by simp; omega)).trans (RowKit.Below.heap_alloc w _ b hb)
          have hl1' : w1.heap[l]? = some (.loop r0) := by
            have := World.alloc_heap_new (w.alloc (.deferred (some []))) (.loop r0)
            rw [hw1, hl]; simpa using this
          have hD1 : w1.heap[w.heap.size]? = some (.deferred (some [])) := by rw [hw1]; exact (RowKit.Below.heap_alloc _ _ _ (by simp)).trans (World.alloc_heap_new w _)
          have hput := hr.1.put (o := s.H.length) (ob := .lp r0 .ready) (mv := .func (.yield l) #[] #[]) (w' := w1) (by rw [hw1]; rfl) (by rw [hw1]; rfl) (by rw [hw1]; rfl) (by rw [hsize1]; omega) (fun b hb _ => hblk1 b hb)
            (fun v hv => by rw [hz] at hv; cases hv) (fun b hb => by simp only [blk, Option.some.injEq] at hb; exact .inl (by omega))
            ⟨l, r0, rfl, hl1', by rw [hrec]; rfl⟩ (fun _ => hz)
          have hH1 : hget H1 = updH (hget s.H) s.H.length (.lp r0 .ready) := by rw [hH1d]; exact hget_push _ _
          have hr1 : RelL S w1 μ1 H1 := ⟨by rw [hH1, hμ1]; exact hput.1, fun o ho => by
            rw [hH1d] at ho
            have : o ≠ s.H.length := by simp at ho; omega
            rw [hμ1]
            simp only [updM, this, if_false]
            exact hr.2 o (by simp at ho; omega)⟩
          have t1 : Tr S w μ (hget s.H) S w1 μ1 (hget H1) := by rw [hH1, hμ1]; exact hput.2
          have hm1 : μ1 s.H.length = some (.func (.yield l) #[] #[]) := by rw [hμ1]; simp [updM]
          have he1 : EnvR S w1 μ1 s.e a := fun j => (he j).tr hr.1 t1
          have hT1 := hC.step _ _ _ _ _ _ _ _ hT t1
          have hb1 : ∀ b', some b = some b' → b' ≤ w1.heap.size := fun b' e => Nat.le_trans (hb b' e) t1.size
          have hys := yield_sound (P := P) (T := T) (N := N) (B := some b) hC.step iha ihb (ps := ps) (e := s.e) (a0 := a.tmps) (S0 := S) (w0 := w1) (μ0 := μ1) (H0 := hget H1) (ol := s.H.length) (l := l) (fn := fn) (dd := w.heap.size) hN
            (fun j => he1 j) hr1.1 hT1 hb1 hm1 (r0 := r0) hrec
          have hRL : RL S w1 μ1 (fs ++ [.yld s.H.length] ++ cs) (vf ++ #[Value.func (.yield l) #[] #[]] ++ vc).toList := by
            have hR1' : ∀ (i : Nat) d v, fs[i]? = some d → vf[i]? = some v → R S w1 μ1 d v := fun i d v a b => (hR1 i d v a b).tr hr.1 t1
            have hR2' : ∀ (i : Nat) d v, cs[i]? = some d → vc[i]? = some v → R S w1 μ1 d v := fun i d v a b => (hR2 i d v a b).tr hr.1 t1
            refine ⟨by simp [hl1, hl2], fun i d v h1 h2 => ?_⟩
            simp only [Array.toList_append, List.append_assoc, List.singleton_append] at h1 h2
            rw [List.getElem?_append] at h1 h2
            simp only [Array.length_toList, hl1] at h1 h2
            split at h1
            · rename_i hlt
              rw [if_pos hlt] at h2
              exact hR1' i d v h1 (by simpa using h2)
            · rename_i hlt
              rw [if_neg hlt] at h2
              cases hq : i - vf.size with
              | zero =>
                rw [hq] at h1 h2
                simp at h1 h2
                subst h1; subst h2
                exact .yld _ l hm1
              | succ q =>
                rw [hq] at h1 h2
                exact hR2' q d v (by simpa using h1) (by simpa using h2)
          have hcalls := hi.calls s.H.length _ (fun S' w' μ' H' => Tr S w1 μ1 (hget H1) S' w' μ' H') (fun _ _ _ _ _ _ _ _ h1 h2 => Tr.trans h1 h2) hys _ _ _ (by have := h r0; rw [← hH1d] at this; exact this) S w1 μ1 _ (.refl ..) hr1 hRL
          rw [Array.toArray_toList] at hcalls
          have hmk : DfL (some b) S w1 μ1 (hget H1) df ({ target := .collected w.heap.size, args := #[] } :: a.defers) := by
            rw [hsd] at hdf
            have hdf : DfL (some b) S w μ (hget s.H) df a.defers := hdf
            refine .mark b w.heap.size rfl (hb b rfl) (by rw [hsize1]; omega) hD1 (fun hs => absurd (hr.1.stat _ hs).1 (by omega)) (fun o ob v ho hv hbv => ?_) (fun d hd e => ?_) (hdf.tr hr.1 t1)
            · rw [hH1] at ho
              by_cases e : o = s.H.length
              · subst e
                rw [hm1] at hv
                injection hv with hv
                subst hv
                rw [hl] at hbv; simp [blk] at hbv
              · simp only [updH, e, if_false] at ho
                rw [hμ1] at hv
                simp only [updM, e, if_false] at hv
                obtain ⟨mv, m1, m2⟩ := hr.1.obs o ob ho
                rw [hv] at m1; injection m1 with m1; subst m1
                exact absurd (m2.blk_lt hbv) (by omega)
            · exact absurd (hdf.marks d hd _ e) (by omega)
          have hen : (Instr.enterLoop fn a.tmps ps asg body none).run P w = .ok (l, [{ target := .collected w.heap.size, args := #[] }]) w1 := by rw [hw1, hl, hrec]; exact run_enterLoop_outer _ _ _ _ _
          have hres : (resolve a.eval (rangeCall f l) 0).run P w1 = .ok { target := .fn (.func g) vc, args := vf ++ #[Value.func (.yield l) #[] #[]] } w1 := by
            have hev : a.eval (.const (.func (.yield l) #[] #[])) = Value.func (.yield l) #[] #[] := rfl
            simp only [resolve, hvf, Deferred.ofValue, Sem.run_pure]
            simp [hev]
          have hinv : (invoke (.fn (.func g) vc) (vf ++ #[Value.func (.yield l) #[] #[]])).run P w1 = .ok (.enter g (vf ++ #[Value.func (.yield l) #[] #[]] ++ vc)) w1 := hi.enters _ _
          suffices hfin : CallsIn (FW none) (n - 1) P g (vf ++ #[Value.func (.yield l) #[] #[]] ++ vc) w1 (rangePost (FW none) n P l (PostC S w μ (hget s.H) none N (some b) K) { a with defers := [{ target := .collected w.heap.size, args := #[] }] ++ a.defers }) from
            ⟨l, _, w1, _, w1, g, _, w1, hen, hres, fun _ _ => trivial, hinv, fun h => absurd h Bool.false_ne_true, hfin⟩
          refine callsIn_FW.2 (Calls.mono hcalls ?_)
          rintro e' w2 ⟨S2, μ2, res, H2, k1, k2, k3, k4⟩
          have tt := t1.trans k4
          have hdf2 := hmk.tr hr1.1 k4
          have he2 : EnvR S2 w2 μ2 s.e { a with defers := [{ target := .collected w.heap.size, args := #[] }] ++ a.defers } := fun j => (he1 j).tr hr1.1 k4
          cases res with
          | pan d =>
            cases e' with
            | panicked ch =>
              simp only [lpOut_eq, fzh_iff] at k1
              exact ⟨S2, μ2, _, .panic d, k1, k2, ⟨k3, he2, hN, hdf2, .inl rfl⟩, tt⟩
            | _ => exact k2.elim
          | ret d =>
            cases e' with
            | returned v =>
              simp only [lpOut_eq] at k1
              have hm2 := mark_keep k4.mu hm1
              cases ho : hget H2 s.H.length with
              | none => rw [ho] at k1; exact k1.elim
              | some ob =>
                rw [ho] at k1
                cases ob <;> simp only at k1
                rename_i r2 p2
                obtain ⟨y, hy, hyr⟩ := lp_at k3 ho hm2
                have out : ∀ (x' : VX) (x : Exit), y.state ≠ .busy → K x' ⟨s.e, H2.set s.H.length (some (.lp r2 .gone)), some df⟩ → XR S2 (w2.putObj l (.loop { y with state := .exhausted })) μ2 x' x →
                    (Instr.endLoop l).run P w2 = .ok y.pending (w2.putObj l (.loop { y with state := .exhausted })) ∧ PostC S w μ (hget s.H) none N (some b) K x { a with defers := [{ target := .collected w.heap.size, args := #[] }] ++ a.defers } (w2.putObj l (.loop { y with state := .exhausted })) := fun x' x hb' hk hx => by
                  obtain ⟨u1, u2⟩ := turn_lp (p' := .gone) k3 ho hm2 hy (x' := { y with state := .exhausted }) trivial
                  exact ⟨run_endLoop hy hb', S2, μ2, _, x', hk, hx, ⟨u1, fun j => (he2 j).tr k3.1 u2, hN, hdf2.tr k3.1 u2, .inl rfl⟩, tt.trans u2⟩
                cases p2 <;> simp only [fzh_iff] at k1
                · obtain ⟨o1, o2⟩ := out .normal .normal (by rw [hyr]; simp) k1 trivial
                  refine ⟨_, _, o1, ?_⟩
                  rw [hyr]
                  rw [hyr] at o2
                  exact o2
                · obtain ⟨o1, o2⟩ := out .ret .ret (by rw [hyr]; simp) k1 trivial
                  refine ⟨_, _, o1, ?_⟩
                  rw [hyr]
                  rw [hyr] at o2
                  exact wpIn_ret o2
                · rename_i i
                  obtain ⟨o1, o2⟩ := out (.exit i) (.exit i) (by rw [hyr]; simp) k1 rfl
                  refine ⟨_, _, o1, ?_⟩
                  rw [hyr]
                  rw [hyr] at o2
                  exact wpIn_exit o2
            | _ => exact k2.elim
      · exact h.elim
    · exact h.elim
  · exact h.elim

theorem sound_vc (hC : CallsOK P C T) (hB : (∃ b, B = some b) ∨ ∀ g, C.iter g = none) : ∀ (c : Code), Sound P T N B c (vc C N c) := by
  intro c
  induction c with
  | skip => exact fun r n K s S w μ a hst hb hT h => wpIn_skip ⟨S, μ, s, .normal, h, trivial, hst, .refl ..⟩
  | ret => exact fun r n K s S w μ a hst hb hT h => wpIn_ret ⟨S, μ, s, .ret, h, trivial, hst, .refl ..⟩
  | exit i => exact fun r n K s S w μ a hst hb hT h => wpIn_exit ⟨S, μ, s, .exit i, h, rfl, hst, .refl ..⟩
  | seq x y ihx ihy =>
    intro r n K s S w μ a hst hb hT h
    refine wpIn_seq (wpIn_mono (ihx r n _ s S w μ a hst hb hT h) (fun e a' w' hq => ?_))
    obtain ⟨S', μ', s', x', h1, h2, h3, h4⟩ := hq
    cases x' with
    | normal =>
      cases e <;> try exact h2.elim
      exact wpIn_mono (ihy r n K s' S' w' μ' a' h3 (fun b e => Nat.le_trans (hb b e) h4.size) (hC.step _ _ _ _ _ _ _ _ hT h4) h1) (fun e a w hq => PostC.from h4 hq)
    | _ => cases e <;> first | exact h2.elim | exact ⟨S', μ', s', _, h1, h2, h3, h4⟩
  | cond c x y ihx ihy =>
    intro r n K s S w μ a hst hb hT h
    have h : vcCond c (vc C N x) (vc C N y) K s := h
    rw [vcCond_eq] at h
    have he := hst.env
    have hc := he.ev c
    split at h
    · rename_i hd
      rw [hd] at hc
      generalize hv : a.eval c = v at hc
      cases hc
      exact wpIn_cond_true hv (ihx r n K s S w μ a hst hb hT h)
    · rename_i hd
      rw [hd] at hc
      generalize hv : a.eval c = v at hc
      cases hc
      exact wpIn_cond_false hv (ihy r n K s S w μ a hst hb hT h)
    · rename_i b hd
      rw [hd] at hc
      have hc' := hc
      generalize hv : a.eval c = v at hc'
      cases hc'
      have ref : ∀ d, R S w μ d (a.eval c) → RelSt r N B S w μ ⟨refE c s.e d, s.H, s.df⟩ a := fun d hR => ⟨hst.rel, by
        cases c with
        | tmp i => exact he.upd hR
        | _ => exact he, hst.size, hst.df, hst.round⟩
      cases b with
      | true => exact wpIn_cond_true hv (ihx r n K ⟨refE c s.e .tt, s.H, s.df⟩ S w μ a (ref .tt (R_tt_of hc rfl)) hb hT (h.1 rfl))
      | false => exact wpIn_cond_false hv (ihy r n K ⟨refE c s.e .ff, s.H, s.df⟩ S w μ a (ref .ff (R_ff_of hc rfl)) hb hT (h.2 rfl))
    · exact h.elim
  | block id x ih =>
    intro r n K s S w μ a hst hb hT h
    refine wpIn_block (wpIn_mono (ih r n _ s S w μ a hst hb hT h) (fun e a' w' hq => ?_))
    obtain ⟨S', μ', s', x', h1, h2, h3, h4⟩ := hq
    cases x' with
    | exit i =>
      cases e <;> try exact h2.elim
      have h2 : i = _ := h2
      subst h2
      have h1 : (bif Nat.beq i id then K .normal s' else K (.exit i) s') := h1
      simp only [Exit.inBlock]
      cases hi : Nat.beq i id with
      | true =>
        rw [hi, cond_true] at h1
        rw [if_pos (Nat.eq_of_beq_eq_true hi)]
        exact ⟨S', μ', s', .normal, h1, trivial, h3, h4⟩
      | false =>
        rw [hi, cond_false] at h1
        rw [if_neg (fun e => by subst e; rw [Nat.beq_refl] at hi; cases hi)]
        exact ⟨S', μ', s', .exit i, h1, rfl, h3, h4⟩
    | _ => cases e <;> first | exact h2.elim | exact ⟨S', μ', s', _, h1, h2, h3, h4⟩
  | region id ops draw =>
    intro r n K s S w μ a hst hb hT h
    cases draw with
    | true => exact sound_draw hC hst h
    | false =>
      have := sound_ops (n := n) hC ops.toList 0 s S w μ a rfl hst hT h
      refine wpIn_region ?_
      rwa [← List.range_eq_range', Array.length_toList] at this
  | loop x ih =>
    intro r n K s S w μ a hst hb hT h
    have h : fzh s.H (fun H => vcLoop1 (vc C N x) K ⟨s.e, H, s.df⟩) := h
    rw [fzh_iff] at h
    obtain ⟨G, sl, hp, m, I, gh, g0, h1, h2, h3⟩ := h
    obtain ⟨hr, he, hN, hdf, hro⟩ := hst
    obtain ⟨μ1, r1, t1, hgs⟩ := add_ghosts gh hr
    have he1 : EnvR S w μ1 s.e a := fun j => (he j).tr hr.1 t1
    have h0 : ∀ o, (s.H ++ ghosts gh).length ≤ o → μ1 o = none := r1.2
    refine wpIn_loop_ghost (fun g a' w' => I g ∧ ∃ S' μ', RelSt r N B S' w' μ' ⟨envOf (sl g), hp g, s.df⟩ a' ∧ Tr S w μ1 (hget (s.H ++ ghosts gh)) S' w' μ' (hget (hp g))) m g0 ?_ fun g a' w' ⟨hI, S', μ', k1, k2⟩ => ?_
    · obtain ⟨μ', g1, g2, g3⟩ := cut_state (s := ⟨s.e, s.H ++ ghosts gh, s.df⟩) ⟨r1, he1, hN, hdf.tr hr.1 t1, hro⟩ (.refl ..) h0 (lenB_len (h1 g0).2) hgs (h1 g0).1 h2
      exact ⟨g3, S, μ', g1, g2⟩
    · have tt := t1.trans k2
      refine wpIn_mono (ih r n _ ⟨envOf (sl g), hp g, s.df⟩ S' w' μ' a' k1 (fun b e => Nat.le_trans (hb b e) tt.size) (hC.step _ _ _ _ _ _ _ _ hT tt) (h3 g hI)) (fun e a2 w2 hq => ?_)
      obtain ⟨S2, μ2, s2, x2, q1, q2, q3, q4⟩ := hq
      cases x2 with
      | normal =>
        cases e <;> try exact q2.elim
        obtain ⟨g', hdf2, q1⟩ := q1
        obtain ⟨μ3, r1, r2, r3⟩ := cut_state q3 (k2.trans q4) h0 (lenB_len (h1 g').2) (gs := noGh) (fun o ho => by cases ho) (by rw [hdf2]; exact (h1 g').1) q1
        rw [hdf2] at r1
        exact ⟨g', ⟨r3.1, S2, μ3, r1, r2⟩, r3.2⟩
      | _ => cases e <;> first | exact q2.elim | exact ⟨S2, μ2, s2, _, q1, q2, q3, tt.trans q4⟩
  | rangeFunc f ps asg body iha ihb => exact fun r n K s S w μ a hst hb hT h => sound_range hC hB iha ihb hst hb hT h
  | _ => intro r n K s S w μ a hst hb hT h; exact h.elim
end
end Go.V
