/-
  A small logic of our own, part 9: regions that draw their order.
-/
import Derived.Test.YtbkehkiflfhpfaaVh
set_option linter.unusedVariables false
set_option linter.unusedSimpArgs false
namespace Go.V

section det
variable {α β : Type}
theorem Det.of_iff {F : (α → Prop) → Prop} {x : α} (h : ∀ k, F k ↔ k x) : Det F := fun k hk => ⟨x, (h k).1 hk, fun k' hk' => (h k').2 hk'⟩
theorem Det.fls : Det (fun _ : α → Prop => False) := fun _ h => h.elim
theorem Det.ret (x : α) : Det (fun k : α → Prop => k x) := .of_iff fun _ => Iff.rfl
theorem Det.and {F : (α → Prop) → Prop} (p : Prop) (h : Det F) : Det (fun k => p ∧ F k) := fun k ⟨hp, hk⟩ => let ⟨x, h1, h2⟩ := h k hk; ⟨x, h1, fun k' h' => ⟨hp, h2 k' h'⟩⟩
theorem Det.iff {F : (α → Prop) → Prop} (b : Bool) (h : Det F) : Det (fun k => bif b then F k else False) := by
  cases b
  · exact Det.fls
  · exact h
theorem Det.bind {F : (α → Prop) → Prop} {G : α → (β → Prop) → Prop} (h : Det F) (g : ∀ x, Det (G x)) : Det (fun k => F fun x => G x k) := fun k hk => by
  obtain ⟨x, h1, h2⟩ := h _ hk
  obtain ⟨y, h3, h4⟩ := g x k h1
  exact ⟨y, h3, fun k' hk' => h2 _ (h4 k' hk')⟩
theorem Det.map {F : (α → Prop) → Prop} (h : Det F) (f : α → β) : Det (fun k : β → Prop => F fun x => k (f x)) := h.bind (G := fun x k => k (f x)) fun x => .ret _
theorem Det.fz (d : D) : Det (V.fz d) := .of_iff (fz_iff d)
theorem Det.fzl (d : List D) : Det (V.fzl d) := .of_iff (fzl_iff d)
theorem Det.fzp (d : List (Nat × D)) : Det (V.fzp d) := .of_iff (fzp_iff d)
theorem Det.fits (q : IntKind) (n : Int) : Det (V.fits q n) := by
  unfold V.fits
  cases q <;> first | exact .ret _ | exact (Det.ret _).and _
theorem Det.vfill {place : Nat → Option (Nat × Nat)} : ∀ (ps : List (Nat × D)) (cs : List D), Det fun K => vfill place K cs ps
  | [], cs => .ret _
  | (i, d) :: r, cs => by
    simp only [V.vfill_cons, V.vfillB]
    cases place i with
    | none => exact .fls
    | some os => exact (Det.vfill r _).iff _
theorem Det.vbuild (T : Ty) (z : List D) (ps : List (Nat × D)) : Det (V.vbuild T z ps) := by
  unfold V.vbuild
  cases T <;> first | exact Det.fls | exact Det.vfill _ _
theorem Det.vfrom (T : Ty) (n : Nat) (g : Nat → D) : Det (V.vfrom T n g) := by
  unfold V.vfrom
  cases aggSize T with
  | some c => exact ((Det.fzl _).map D.agg).iff _
  | none => exact (Det.fz _).iff _
theorem Det.vload (T : Ty) (d : D) (H : HL) : Det (V.vload T d H) := by
  unfold V.vload
  cases d <;> first | exact Det.fls | exact Det.vfrom _ _ _ | skip
  case ptr o off =>
    simp only
    cases hget H o with
    | none => exact .fls
    | some ob => cases ob with
      | row cs => exact .vfrom _ _ _
      | buf _ _ _ _ => exact .fls
      | mp _ => exact .fls
      | lp _ _ => exact .fls
  case optr o n s i j =>
    simp only
    cases hget H o with
    | none => exact .fls
    | some ob => cases ob with
      | row cs => exact .fls
      | mp _ => exact .fls
      | lp _ _ => exact .fls
      | buf _ _ _ _ => exact ((Det.vfrom _ _ _).iff _).and _
theorem Det.vfield (T : Ty) (d : D) (f : Nat) : Det (V.vfield T d f) := by
  unfold V.vfield
  cases T <;> first | exact Det.fls | skip
  simp only
  rename_i sz fs
  cases fs[f]? with
  | none => exact .fls
  | some x => cases d <;> first | exact Det.fls | exact .ret _ | exact (Det.ret _).iff _
theorem Det.vidx (T : Ty) (d i : D) (H : HL) : Det (V.vidx T d i H) := by
  unfold V.vidx
  cases i <;> first | exact Det.fls | skip
  cases T <;> first | exact Det.fls | skip
  · cases d <;> first | exact Det.fls | skip
    · exact ((Det.ret _).iff _).and _
    · exact (Det.ret _).and _
  · cases d <;> first | exact Det.fls | skip
    · exact ((Det.ret _).iff _).and _
    · simp only
      rename_i o n
      cases hget H o with
      | none => exact .fls
      | some ob => cases ob with
        | row _ => exact .fls
        | mp _ => exact .fls
        | lp _ _ => exact .fls
        | buf _ _ _ _ => exact ((Det.ret _).iff _).and _
theorem Det.vindex (C : Cx) (T : Ty) (d i : D) : Det (V.vindex C T d i) := by
  unfold V.vindex
  cases i <;> first | exact Det.fls | skip
  cases T <;> first | exact Det.fls | skip
  · cases d <;> first | exact Det.fls | exact (Det.ret _).and _
  · simp only
    split
    · exact ((Det.ret _).and _).iff _
    · exact .fls
theorem Det.vslice (T : Ty) (d : D) (lo hi : Option D) : Det (V.vslice T d lo hi) := by
  unfold V.vslice
  split
  · split
    · exact ((Det.ret _).iff _).and _
    · exact .fls
  · exact .fls
theorem Det.vbin (op : BinOp) (x y : D) : Det (V.vbin op x y) := by
  cases op <;> unfold V.vbin <;> simp only
  case eql => cases deq x y <;> first | exact .fls | exact .ret _
  case neq => cases deq x y <;> first | exact .fls | exact .ret _
  all_goals
    cases x <;> first | exact Det.fls | skip
    cases y <;> first | exact Det.fls | skip
    simp only
    first
      | exact ((Det.fits _ _).and _).iff _
      | exact ((Det.ret _).and _).iff _
      | exact (Det.fits _ _).iff _
      | exact (Det.ret _).iff _
      | exact (Det.fits _ _).and _
      | exact (Det.ret _).and _
      | exact Det.fls.iff _
theorem Det.vbo (C : Cx) (t : Nat) (op : BinOp) (x y : D) : Det (V.vbo C t op x y) := by
  unfold V.vbo
  split
  · unfold V.veqop
    split
    · split
      · split <;> first | exact .ret _ | exact .fls
      · split <;> first | exact .ret _ | exact .fls
      · exact .fls
    · exact .fls
  · exact (Det.vbin _ _ _).iff _
theorem Det.vconv (C : Cx) (s t : Ty) (d : D) (H : HL) : Det (V.vconv C s t d H) := by
  unfold V.vconv
  split
  · split
    · exact .fits _ _
    · exact .fls
  · split
    · exact .ret _
    · exact .fls
  · split
    · split
      · exact (Det.ret _).and _
      · split
        · exact (Det.ret _).and _
        · exact .fls
      · exact .ret _
      · exact .fls
    · exact .fls
  · exact .fls
theorem Det.vmap (T : Ty) (m : D) (H : HL) {γ : Type} {G : Nat → Mp → (γ → Prop) → Prop} (h : ∀ o M, Det (G o M)) : Det fun k => V.vmap T m H fun o M => G o M k := by
  unfold V.vmap
  cases T <;> simp only <;> try exact Det.fls
  cases m <;> simp only <;> try exact Det.fls
  rename_i o
  cases hget H o with
  | none => exact .fls
  | some ob => cases ob <;> simp only <;> first | exact Det.fls | exact (h _ _).iff _
theorem Det.rngL {γ : Type} {F : (γ → Prop) → Prop} (h : Det F) : ∀ cs, Det fun k => V.rngL cs (F k)
  | [] => h
  | d :: r => (Det.rngL h r).and _
theorem Det.vkey (ks : KS) (d : D) {γ : Type} {G : Value → (γ → Prop) → Prop} (h : ∀ v, Det (G v)) : Det fun k => V.vkey ks d fun v => G v k := by
  unfold V.vkey
  cases ks <;> cases d <;> simp only <;> first
    | exact Det.fls
    | exact (h _).and _
    | exact ((h _).and _).iff _
    | exact (Det.rngL (h _) _).iff _
theorem Det.velem (ek : EK) (d : D) {γ : Type} {G : (Nat → Int) → (γ → Prop) → Prop} (h : ∀ v, Det (G v)) : Det fun k => V.velem ek d fun v => G v k := by
  unfold V.velem
  cases ek <;> cases d <;> simp only <;> first
    | exact Det.fls
    | exact h _
    | exact (h _).iff _
theorem Det.fza (d : D) : Det (V.fza d) := .of_iff (fza_iff d)
theorem Det.vlookup (T : Ty) (m key : D) (ok : Bool) (H : HL) : Det (V.vlookup T m key ok H) := by
  unfold V.vlookup
  exact .vmap _ _ _ fun o M => .vkey _ _ fun v => by cases ok <;> exact .ret _
theorem Det.vbuiltin (C : Cx) (b : Builtin) (ts : List Nat) (ty : Nat) (ds : List D) (H : HL) : Det (V.vbuiltin C b ts ty ds H) := by
  unfold V.vbuiltin
  split
  · split
    · split
      · split
        · exact .ret _
        · split
          · exact (Det.ret _).and _
          · exact .fls
        · exact .ret _
        · exact .fls
      · split
        · exact .ret _
        · exact .fls
      · exact .vmap _ _ _ fun _ _ => .ret _
      · exact .fls
    · exact .fls
  · exact (Det.ret _).iff _
  · exact (Det.ret _).iff _
  · exact .fls

theorem Det.vrd (C : Cx) (o : Oper) (e : Env) (H : HL) : Det (V.vrd C o e H) := by
  unfold V.vrd
  cases o.op <;> (try simp only) <;> (try exact Det.fls)
  case move x => exact .fz _
  case assign x => exact .fz _
  case pick c a b => cases ev e c <;> first | exact Det.fls | exact .fz _
  case build t ps => cases C.zero t with
    | none => exact .fls
    | some z => exact (Det.fzp _).bind fun ps => (Det.vbuild _ _ _).bind (G := fun cs (k : D → Prop) => V.fzl cs fun cs => k (D.agg cs)) fun cs => (Det.fzl _).map D.agg
  case load t x => exact .vload _ _ _
  case nilCheck x => cases ev e x <;> first | exact Det.fls | exact .ret _
  case binOp op t x y yt => exact .vbo _ _ _ _ _
  case index t x i => exact .vindex _ _ _ _
  case slice t x lo hi mx =>
    cases mx <;> first | exact Det.fls | exact .vslice _ _ _ _
  case unOp op t x => cases op <;> cases ev e x <;> first | exact Det.fls | exact .ret _ | exact .fits _ _
  case convert s t x => exact .vconv _ _ _ _ _
  case makeFunc f fs cs => cases f <;> first | exact Det.fls | exact (Det.fzl _).bind fun fs => (Det.fzl _).map _
  case fieldAddr t x f => exact .vfield _ _ _
  case indexAddr t x i => exact .vidx _ _ _ _
  case makeInterface t x => exact ((Det.fz _).map _).iff _
  case typeAssert x xt t ok =>
    cases ok <;> simp only <;> try exact Det.fls
    refine Det.iff _ ?_
    cases ev e x <;> simp only <;> first | exact Det.fls | exact (Det.fz _).iff _
  case lookup t x i ok => exact (Det.vlookup _ _ _ _ _).bind fun d => .fza d
  case extract x i =>
    cases ev e x <;> simp only <;> try exact Det.fls
    rename_i l
    cases l[i]? with
    | none => exact .fls
    | some d => exact .fz _
  case call c =>
    cases c.callee <;> simp only <;> try exact Det.fls
    exact (Det.fzl _).bind fun ds => .vbuiltin _ _ _ _ _ _

theorem Det.view (H : HL) (d : D) : Det (V.view H d) := by
  unfold V.view
  cases d <;> simp only <;> try exact .fz _
  case own o n =>
    cases hget H o with
    | none => exact .fls
    | some ob => cases ob with
      | row _ => exact .fls
      | mp _ => exact .fls
      | lp _ _ => exact .fls
      | buf _ _ _ _ => exact (Det.ret _).and _
  case ptr o off =>
    cases hget H o with
    | none => exact .fls
    | some ob => cases ob with
      | row _ => exact .ret _
      | buf _ _ _ _ => exact .fls
      | mp _ => exact .fls
      | lp _ _ => exact .fls
theorem Det.viewl (H : HL) : ∀ ds, Det (V.viewl H ds)
  | [] => .ret _
  | d :: r => (Det.view H d).bind fun d => (Det.viewl H r).map _
theorem Det.viewa (H : HL) (d : D) : Det (V.viewa H d) := by
  unfold V.viewa
  cases d <;> simp only <;> try exact .view H _
  case agg cs => exact (Det.viewl H cs).map _
  case fn f fs cs => exact (Det.viewl H fs).bind fun fs => (Det.viewl H cs).map _
theorem Det.viewal (H : HL) : ∀ ds, Det (V.viewal H ds)
  | [] => .ret _
  | d :: r => (Det.viewa H d).bind fun d => (Det.viewal H r).map _
theorem Det.vcallp {r : PRule} (hr : ∀ ds, Det (r ds)) (ds : List D) (H : HL) : Det (V.vcallp r ds H) := by
  unfold V.vcallp
  cases ds.all noRef with
  | true => exact (hr ds).bind fun d => .fz d
  | false => exact (Det.viewal H ds).bind fun ds => ((hr ds).bind fun d => (Det.fz d).bind fun d => (Det.ret d).iff _).iff _

theorem Det.vsr {P : Program} {C : Cx} {T : RT} (hC : CallsOK P C T) (o : Oper) (e : Env) (H : HL) : Det (V.vsr C o e H) := by
  unfold V.vsr
  split
  · split
    · split
      · rename_i g fs cs hd
        cases hp : C.pure g with
        | none => exact .fls
        | some r => exact (Det.fzl _).bind fun ds => .vcallp (hC.pure g r hp).det _ _
      · exact .fls
    · exact .vrd _ _ _ _
  · exact .vrd _ _ _ _

/-- A writer's value and heap are one thing. -/
def Det2 (F : (D → HL → Prop) → Prop) : Prop := ∀ k, F k → ∃ d H, k d H ∧ ∀ k', k' d H → F k'
theorem Det.vstore (T : Ty) (d x : D) (H : HL) : Det (V.vstore T d x H) := by
  unfold V.vstore
  refine Det.iff _ ?_
  cases d <;> simp only <;> try exact Det.fls
  · rename_i o off
    cases hget H o with
    | none => exact .fls
    | some ob => cases ob with
      | row cs => exact (Det.ret _).iff _
      | buf _ _ _ _ => exact .fls
      | mp _ => exact .fls
      | lp _ _ => exact .fls
  · rename_i o n s i j
    cases hget H o with
    | none => exact .fls
    | some ob => cases ob with
      | row cs => exact .fls
      | mp _ => exact .fls
      | lp _ _ => exact .fls
      | buf _ _ _ _ => exact ((Det.ret _).and _).iff _
theorem Det2.fls : Det2 fun _ => False := fun _ h => h.elim
theorem Det2.vsrc {es : Nat} {H : HL} {x : D} {K : Nat → (Nat → Nat → D) → Prop} (h : V.vsrc es H x K) : ∃ m gx, K m gx ∧ ∀ K' : Nat → (Nat → Nat → D) → Prop, K' m gx → V.vsrc es H x K' := by
  cases x <;> first | exact h.elim | skip
  · rename_i s' m g
    simp only [V.vsrc] at h ⊢
    cases hs : Nat.beq s' es with
    | false => rw [hs] at h; exact h.elim
    | true => rw [hs] at h; exact ⟨m, g, h.2, fun K' hK => ⟨h.1, hK⟩⟩
  · rename_i o m
    simp only [V.vsrc] at h ⊢
    cases ho : hget H o with
    | none => rw [ho] at h; exact h.elim
    | some ob => cases ob with
      | row _ => rw [ho] at h; exact h.elim
      | mp _ => rw [ho] at h; exact h.elim
      | lp _ _ => rw [ho] at h; exact h.elim
      | buf e' s' m' g =>
        rw [ho] at h
        simp only at h ⊢
        cases hs : Nat.beq s' es with
        | false => rw [hs] at h; exact h.elim
        | true => rw [hs] at h; exact ⟨m, g, h.2, fun K' hK => ⟨h.1, hK⟩⟩
theorem Det2.vappend (T : Ty) (nid : Nat) (s x : D) (H : HL) : Det2 (V.vappend T nid s x H) := by
  intro k h
  cases T <;> first | exact h.elim | skip
  rename_i el es eb
  obtain ⟨m, gx, h2, h1⟩ := Det2.vsrc h
  cases s <;> first | exact h2.elim | skip
  · rename_i o n
    simp only at h2
    cases ho : hget H o with
    | none => rw [ho] at h2; exact h2.elim
    | some ob => cases ob with
      | row _ => rw [ho] at h2; exact h2.elim
      | mp _ => rw [ho] at h2; exact h2.elim
      | lp _ _ => rw [ho] at h2; exact h2.elim
      | buf e s0 n0 g =>
        rw [ho] at h2
        simp only at h2
        cases hq : (Nat.beq e el && Nat.beq s0 es && Nat.blt 0 eb && ownNe x o) with
        | false => rw [hq] at h2; exact h2.elim
        | true =>
          rw [hq] at h2
          exact ⟨_, _, h2.2, fun k' hk' => h1 _ (by simp only; rw [ho]; simp only; rw [hq]; exact ⟨h2.1, hk'⟩)⟩
  · simp only at h2
    cases hq : Nat.blt 0 eb with
    | false => rw [hq] at h2; exact h2.elim
    | true =>
      rw [hq] at h2
      exact ⟨_, _, h2.2, fun k' hk' => h1 _ (by simp only; rw [hq]; exact ⟨h2.1, hk'⟩)⟩
theorem Det2.vwr (C : Cx) (nid : Nat) (o : Oper) (e : Env) (H : HL) : Det2 (V.vwr C nid o e H) := by
  have of : ∀ {F : (D × HL → Prop) → Prop}, Det F → ∀ k : D → HL → Prop, F (fun p => k p.1 p.2) → ∃ d H, k d H ∧ ∀ k' : D → HL → Prop, k' d H → F (fun p => k' p.1 p.2) := fun h k hk => by
    obtain ⟨⟨d, H⟩, h1, h2⟩ := h _ hk
    exact ⟨d, H, h1, fun k' h' => h2 _ h'⟩
  intro k
  unfold V.vwr
  cases o.op <;> (try simp only) <;> (try exact fun h => h.elim)
  case alloc t =>
    cases C.zero t with
    | none => exact fun h => h.elim
    | some cs => exact fun h => ⟨_, _, h, fun k' h' => h'⟩
  case box t x => exact of (F := fun k => V.fz (ev e x) fun d => bif (cellsD d).all one then k (.ptr nid 0, hnew H nid (.row (cellsD d))) else False) ((Det.fz _).bind fun d => (Det.ret _).iff _) k
  case buildSlice t len ps =>
    cases C.ty t <;> simp only <;> try exact fun h => h.elim
    rename_i el es eb
    exact of (F := fun k => bif Nat.ble (len * es) 16777216 && Nat.ble len 16777216 then V.fzp (evs e ps) fun ps => V.vfill (fun i => some (i * es, es)) (fun cs => V.fzl cs fun cs =>
        bif cs.all okb && Nat.beq cs.length (len * es) then k (.own nid len, hnew H nid (.buf el es len fun i j => cs.getD (i * es + j) .top)) else False) (List.replicate (len * es) .top) ps else False)
      (Det.iff _ ((Det.fzp (evs e ps)).bind fun ps => (Det.vfill (place := fun i => some (i * es, es)) ps (List.replicate (len * es) .top)).bind (G := fun cs (k : D × HL → Prop) => V.fzl cs fun cs => bif cs.all okb && Nat.beq cs.length (len * es) then k (D.own nid len, hnew H nid (.buf el es len fun i j => cs.getD (i * es + j) D.top)) else False)
        fun cs => (Det.fzl _).bind fun cs => (Det.ret _).iff _)) k
  case makeMap t r =>
    cases r <;> simp only <;> try exact fun h => h.elim
    unfold V.vmakeMap
    cases C.ty t <;> simp only <;> first | exact fun h => h.elim | exact fun h => ⟨_, _, h, fun k' h' => h'⟩
  case mapEntry t m x => exact of (F := fun k => V.vmapEntry (C.ty t) (ev e m) (ev e x) H fun d H => k (d, H)) (.vmap _ _ _ fun o M => .vkey _ _ fun v => .ret _) k
  case entryStore t m x y => exact of (F := fun k => V.ventryStore (C.ty t) (ev e m) (ev e x) (ev e y) H fun d H => k (d, H)) (.vmap _ _ _ fun o M => by
    cases ev e x <;> simp only <;> first | exact Det.fls | exact (Det.velem _ _ fun g => (Det.ret _).and _).iff _) k
  case mapUpdate t m x y => exact of (F := fun k => V.vmapUpdate (C.ty t) (ev e m) (ev e x) (ev e y) H fun d H => k (d, H)) (.vmap _ _ _ fun o M => .vkey _ _ fun v => .velem _ _ fun g => .ret _) k
  case insert t m x y => exact of (F := fun k => V.vmapUpdate (C.ty t) (ev e m) (ev e x) (ev e y) H fun d H => k (d, H)) (.vmap _ _ _ fun o M => .vkey _ _ fun v => .velem _ _ fun g => .ret _) k
  case store t x y => exact of (F := fun k => V.fz (ev e y) fun d => V.vstore (C.ty t) (ev e x) d H fun H => k (.top, H)) ((Det.fz _).bind fun d => (Det.vstore _ _ _ _).map _) k
  case call c =>
    intro h
    split at h
    · split at h
      · rename_i s x t t' hargs hats
        cases hq : Nat.beq t t' with
        | false => rw [hq] at h; exact h.elim
        | true =>
          rw [hq] at h
          obtain ⟨d, H', h1, h2⟩ := Det2.vappend _ _ _ _ _ _ h
          exact ⟨d, H', h1, fun k' hk' => h2 k' hk'⟩
      · exact h.elim
    · exact h.elim
end det
end Go.V
