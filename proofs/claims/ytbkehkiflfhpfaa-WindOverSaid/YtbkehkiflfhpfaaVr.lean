/-
  A small logic of our own, part 9b: what an operation is on abstract values, hangs on the heap's objects alone, not on how long its list is.
-/
import Derived.Test.YtbkehkiflfhpfaaVi
set_option linter.unusedVariables false
set_option linter.unusedSimpArgs false
namespace Go.V

section
variable {H H' : HL}
theorem vload_congr (h : hget H = hget H') (T : Ty) (d : D) (k : D → Prop) : vload T d H k = vload T d H' k := by cases d <;> simp only [vload, h]
theorem vidx_congr (h : hget H = hget H') (T : Ty) (d i : D) (k : D → Prop) : vidx T d i H k = vidx T d i H' k := by
  cases i <;> simp only [vidx]
  cases T <;> simp only
  cases d <;> simp only [h]
theorem vconv_congr (h : hget H = hget H') (C : Cx) (s t : Ty) (d : D) (k : D → Prop) : vconv C s t d H k = vconv C s t d H' k := by
  unfold vconv
  rw [h]
theorem vmap_congr (h : hget H = hget H') (T : Ty) (m : D) (k : Nat → Mp → Prop) : vmap T m H k = vmap T m H' k := by
  unfold vmap
  rw [h]
theorem vlookup_congr (h : hget H = hget H') (T : Ty) (m x : D) (ok : Bool) (k : D → Prop) : vlookup T m x ok H k = vlookup T m x ok H' k := by
  unfold vlookup
  rw [vmap_congr h]
theorem vbuiltin_congr (h : hget H = hget H') (C : Cx) (b : Builtin) (ts : List Nat) (ty : Nat) (ds : List D) (k : D → Prop) : vbuiltin C b ts ty ds H k = vbuiltin C b ts ty ds H' k := by
  have e : ∀ T d (K : Nat → Mp → Prop), vmap T d H K = vmap T d H' K := fun T d K => vmap_congr h T d K
  unfold vbuiltin
  simp only [h, e]
theorem vrd_congr (h : hget H = hget H') (C : Cx) (o : Oper) (e : Env) (k : D → Prop) : vrd C o e H k = vrd C o e H' k := by
  have e1 : ∀ T d (K : D → Prop), vload T d H K = vload T d H' K := fun T d K => vload_congr h T d K
  have e2 : ∀ T d i (K : D → Prop), vidx T d i H K = vidx T d i H' K := fun T d i K => vidx_congr h T d i K
  have e3 : ∀ s t d (K : D → Prop), vconv C s t d H K = vconv C s t d H' K := fun s t d K => vconv_congr h C s t d K
  have e4 : ∀ T m x ok (K : D → Prop), vlookup T m x ok H K = vlookup T m x ok H' K := fun T m x ok K => vlookup_congr h T m x ok K
  have e5 : ∀ b ts ty ds (K : D → Prop), vbuiltin C b ts ty ds H K = vbuiltin C b ts ty ds H' K := fun b ts ty ds K => vbuiltin_congr h C b ts ty ds K
  unfold vrd
  simp only [e1, e2, e3, e4, e5]
theorem hide_congr (h : hget H = hget H') (d : D) : hide H d = hide H' d := by
  unfold hide
  rw [h]
theorem view_congr (h : hget H = hget H') (d : D) (k : D → Prop) : view H d k = view H' d k := by
  have e : hide H = hide H' := funext fun d => hide_congr h d
  unfold view
  rw [h, e]
theorem viewl_congr (h : hget H = hget H') : ∀ (l : List D) (k : List D → Prop), viewl H l k = viewl H' l k
  | [], k => rfl
  | d :: r, k => by
    show view H d (fun d => viewl H r fun r => k (d :: r)) = view H' d (fun d => viewl H' r fun r => k (d :: r))
    rw [view_congr h]
    congr 1
    funext d
    exact viewl_congr h r _
theorem viewa_congr (h : hget H = hget H') (d : D) (k : D → Prop) : viewa H d k = viewa H' d k := by
  have e : ∀ l (K : List D → Prop), viewl H l K = viewl H' l K := fun l K => viewl_congr h l K
  cases d <;> simp only [viewa, e] <;> exact view_congr h _ _
theorem viewal_congr (h : hget H = hget H') : ∀ (l : List D) (k : List D → Prop), viewal H l k = viewal H' l k
  | [], k => rfl
  | d :: r, k => by
    show viewa H d (fun d => viewal H r fun r => k (d :: r)) = viewa H' d (fun d => viewal H' r fun r => k (d :: r))
    rw [viewa_congr h]
    congr 1
    funext d
    exact viewal_congr h r _
theorem vsr_congr (h : hget H = hget H') (C : Cx) (o : Oper) (e : Env) (k : D → Prop) : vsr C o e H k = vsr C o e H' k := by
  have e1 : ∀ (K : D → Prop), vrd C o e H K = vrd C o e H' K := fun K => vrd_congr h C o e K
  have e2 : ∀ l (K : List D → Prop), viewal H l K = viewal H' l K := fun l K => viewal_congr h l K
  have e3 : ∀ r ds (K : D → Prop), vcallp r ds H K = vcallp r ds H' K := fun r ds K => by unfold vcallp; rw [e2]
  unfold vsr
  simp only [e1, e3]

def pad (q : Nat) (H : HL) : HL := H ++ List.replicate q none
theorem pad_get (q : Nat) (H : HL) : hget (pad q H) = hget H := by
  funext o
  unfold hget pad
  simp only [List.getD_eq_getElem?_getD, List.getElem?_append]
  split
  · rfl
  · rename_i h
    rw [List.getElem?_eq_none (l := H) (by omega)]
    simp only [List.getElem?_replicate]
    split <;> rfl
theorem pad_len (q : Nat) (H : HL) : (pad q H).length = H.length + q := by simp [pad]
theorem pad_set {q : Nat} {H : HL} {o : Nat} (h : o < H.length) (x : Option Ob) : (pad q H).set o x = pad q (H.set o x) := by
  unfold pad
  rw [List.set_append, if_pos h]
theorem pad_new {q : Nat} {H : HL} {o : Nat} (h : o < H.length) (x : Ob) : hnew (pad q H) o x = pad q (hnew H o x) := by
  unfold hnew
  have h1 : Nat.blt o H.length = true := (blt_iff _ _).2 h
  have h2 : Nat.blt o (pad q H).length = true := (blt_iff _ _).2 (by rw [pad_len]; omega)
  rw [h1, h2, cond_true, cond_true, pad_set h]

theorem vstore_pad {T : Ty} {d x : D} {q : Nat} {k k' : HL → Prop} (hk : ∀ H', k H' → k' (pad q H')) (h : vstore T d x H k) : vstore T d x (pad q H) k' := by
  unfold vstore at h ⊢
  rw [pad_get]
  cases hq : ((cellsD x).all one && Nat.beq (cellsD x).length (tsz T) && T.known) with
  | false => rw [hq] at h; exact h.elim
  | true =>
    rw [hq] at h
    simp only [cond_true] at h ⊢
    cases d <;> simp only at h ⊢
    · rename_i o off
      cases ho : hget H o with
      | none => rw [ho] at h; exact h.elim
      | some ob =>
        rw [ho] at h
        cases ob <;> simp only at h ⊢
        rename_i cs
        cases hb : Nat.ble (off + (cellsD x).length) cs.length with
        | false => rw [hb] at h; exact h.elim
        | true =>
          rw [hb] at h
          simp only [cond_true] at h ⊢
          rw [pad_set (lt_of_hget ho)]
          exact hk _ h
    · rename_i o n s i j
      cases ho : hget H o with
      | none => rw [ho] at h; exact h.elim
      | some ob =>
        rw [ho] at h
        cases ob <;> simp only at h ⊢
        rename_i e size m g
        cases hb : (Nat.beq s size && Nat.ble (j + (cellsD x).length) s && (cellsD x).all okb) with
        | false => rw [hb] at h; exact h.elim
        | true =>
          rw [hb] at h
          simp only [cond_true] at h ⊢
          rw [pad_set (lt_of_hget ho)]
          exact ⟨h.1, hk _ h.2⟩

theorem vmap_pad {T : Ty} {m : D} {q : Nat} {k k' : Nat → Mp → Prop} (hk : ∀ o M, o < H.length → k o M → k' o M) (h : vmap T m H k) : vmap T m (pad q H) k' := by
  unfold vmap at h ⊢
  rw [pad_get]
  cases T <;> simp only at h ⊢
  cases m <;> simp only at h ⊢
  rename_i o
  cases ho : hget H o with
  | none => rw [ho] at h; exact h.elim
  | some ob =>
    rw [ho] at h
    cases ob <;> simp only at h ⊢
    rename_i ks ek _ _ M
    cases hq : (ksEq M.ks ks && ekEq M.ek ek) with
    | false => rw [hq] at h; exact h.elim
    | true => rw [hq] at h; exact hk _ _ (lt_of_hget ho) h
theorem vkey_mono {ks : KS} {d : D} {k k' : Value → Prop} (hk : ∀ v, k v → k' v) (h : vkey ks d k) : vkey ks d k' := by
  unfold vkey at h ⊢
  cases ks <;> cases d <;> simp only at h ⊢
  · exact ⟨h.1, hk _ h.2⟩
  · rename_i q _ n
    cases hq : (keq _ _ && keq q .i64) with
    | false => rw [hq] at h; exact h.elim
    | true => rw [hq] at h; exact ⟨h.1, hk _ h.2⟩
  · rename_i m cs
    cases hq : (cs.all isI64 && Nat.beq cs.length m) with
    | false => rw [hq] at h; exact h.elim
    | true =>
      rw [hq] at h
      simp only [cond_true, rngL_iff] at h ⊢
      exact ⟨h.1, hk _ h.2⟩
theorem velem_mono {ek : EK} {d : D} {k k' : (Nat → Int) → Prop} (hk : ∀ v, k v → k' v) (h : velem ek d k) : velem ek d k' := by
  unfold velem at h ⊢
  cases ek <;> cases d <;> simp only at h ⊢ <;> try exact hk _ h
  rename_i m cs
  cases hq : (cs.all isI64 && Nat.beq cs.length m) with
  | false => rw [hq] at h; exact h.elim
  | true => rw [hq] at h; exact hk _ h
theorem vsrc_congr (h : hget H = hget H') (es : Nat) (x : D) (k : Nat → (Nat → Nat → D) → Prop) : vsrc es H x k = vsrc es H' x k := by
  unfold vsrc
  rw [h]
theorem vsrc_mono {es : Nat} {x : D} {k k' : Nat → (Nat → Nat → D) → Prop} (hk : ∀ m g, k m g → k' m g) (h : vsrc es H x k) : vsrc es H x k' := by
  obtain ⟨m, gx, h1, h2⟩ := Det2.vsrc h
  exact h2 _ (hk _ _ h1)
theorem vappend_pad {T : Ty} {nid : Nat} {s x : D} {q : Nat} {k k' : D → HL → Prop} (hn : nid < H.length) (hk : ∀ d H', k d H' → k' d (pad q H')) (h : vappend T nid s x H k) : vappend T nid s x (pad q H) k' := by
  unfold vappend at h ⊢
  cases T <;> simp only at h ⊢
  rename_i el es eb
  rw [vsrc_congr (pad_get q H)]
  refine vsrc_mono (fun m gx h2 => ?_) h
  clear h
  have h := h2
  clear h2
  cases s <;> simp only at h ⊢
  · rename_i o n
    rw [pad_get]
    cases ho : hget H o with
    | none => rw [ho] at h; exact h.elim
    | some ob =>
      rw [ho] at h
      cases ob <;> simp only at h ⊢
      rename_i e s0 n0 g
      cases hq : (Nat.beq e el && Nat.beq s0 es && Nat.blt 0 eb && ownNe x o) with
      | false => rw [hq] at h; exact h.elim
      | true =>
        rw [hq] at h
        simp only [cond_true] at h ⊢
        rw [pad_set (lt_of_hget ho)]
        exact ⟨h.1, hk _ _ h.2⟩
  · cases hq : Nat.blt 0 eb with
    | false => rw [hq] at h; exact h.elim
    | true =>
      rw [hq] at h
      simp only [cond_true] at h ⊢
      rw [pad_new hn]
      exact ⟨h.1, hk _ _ h.2⟩

/-- A writer, on a longer list. -/
theorem vwr_pad {C : Cx} {nid : Nat} {o : Oper} {e : Env} {q : Nat} {k k' : D → HL → Prop} (hn : nid < H.length) (hk : ∀ d H', k d H' → k' d (pad q H')) (h : vwr C nid o e H k) : vwr C nid o e (pad q H) k' := by
  unfold vwr at h ⊢
  cases hop : o.op <;> simp only [hop] at h ⊢
  case alloc t =>
    cases hz : C.zero t with
    | none => rw [hz] at h; exact h.elim
    | some cs => rw [hz] at h; simp only at h ⊢; rw [pad_new hn]; exact hk _ _ h
  case box t x =>
    rw [fz_iff] at h ⊢
    cases h1 : (cellsD (ev e x)).all one with
    | false => rw [h1] at h; exact h.elim
    | true => rw [h1] at h; simp only [cond_true] at h ⊢; rw [pad_new hn]; exact hk _ _ h
  case buildSlice t len ps =>
    cases hT : C.ty t <;> rw [hT] at h <;> simp only at h ⊢
    rename_i el es eb
    cases hq0 : (Nat.ble (len * es) 16777216 && Nat.ble len 16777216) with
    | false => rw [hq0] at h; exact h.elim
    | true =>
      rw [hq0] at h
      simp only [cond_true, fzp_iff] at h ⊢
      obtain ⟨cs, h1, h2⟩ := Det.vfill (place := fun i => some (i * es, es)) (evs e ps) (List.replicate (len * es) .top) _ h
      refine h2 _ ?_
      rw [fzl_iff] at h1 ⊢
      cases hq : (cs.all okb && Nat.beq cs.length (len * es)) with
      | false => rw [hq] at h1; exact h1.elim
      | true => rw [hq] at h1; simp only [cond_true] at h1 ⊢; rw [pad_new hn]; exact hk _ _ h1
  case store t x y =>
    rw [fz_iff] at h ⊢
    exact vstore_pad (fun H' h => hk _ _ h) h
  case makeMap t r =>
    cases r <;> simp only at h ⊢
    unfold vmakeMap at h ⊢
    cases hT : C.ty t <;> rw [hT] at h <;> simp only at h ⊢
    rw [pad_new hn]
    exact hk _ _ h
  case mapEntry t m x => exact vmap_pad (fun o M ho h => vkey_mono (fun v h => by rw [pad_set ho]; exact hk _ _ h) h) h
  case entryStore t m x y =>
    refine vmap_pad (fun o M ho h => ?_) h
    cases hs : ev e x <;> rw [hs] at h <;> simp only at h ⊢
    cases hq : Nat.beq _ o with
    | false => rw [hq] at h; exact h.elim
    | true =>
      rw [hq] at h
      simp only [cond_true] at h ⊢
      exact velem_mono (fun g h => by rw [pad_set ho]; exact ⟨h.1, hk _ _ h.2⟩) h
  case mapUpdate t m x y => exact vmap_pad (fun o M ho h => vkey_mono (fun v h => velem_mono (fun g h => by rw [pad_set ho]; exact hk _ _ h) h) h) h
  case insert t m x y => exact vmap_pad (fun o M ho h => vkey_mono (fun v h => velem_mono (fun g h => by rw [pad_set ho]; exact hk _ _ h) h) h) h
  case call c =>
    split at h
    · split at h
      · rename_i s x t t' hargs hats
        cases hq : Nat.beq t t' with
        | false => rw [hq] at h; exact h.elim
        | true =>
          rw [hq] at h
          simp only [cond_true] at h
          have := vappend_pad hn hk h
          simp only [*, cond_true]
      · exact h.elim
    · exact h.elim
end
end Go.V
