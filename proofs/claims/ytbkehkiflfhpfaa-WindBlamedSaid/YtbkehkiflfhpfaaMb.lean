/-
  A small logic of our own, part 7: calls of functions that only read, sequences of operations, code, loops, functions.
-/
import Derived.Test.YtbkehkiflfhpfaaMa
section
set_option linter.unusedVariables false
set_option linter.unusedSimpArgs false
namespace Go.V

/-- What a callee that only reads leaves. -/
structure Grow (S : Nat → Prop) (w : World) (S' : Nat → Prop) (w' : World) : Prop where
  os : w'.os = w.os
  tape : w'.tape = w.tape
  output : w'.output = w.output
  size : w.heap.size ≤ w'.heap.size
  block : ∀ b, b < w.heap.size → w'.heap[b]? = w.heap[b]?
  sub : ∀ b, S b → S' b
  new : ∀ b, S' b → S b ∨ w.heap.size ≤ b
  lt : ∀ b, S' b → b < w'.heap.size

def RL (S : Nat → Prop) (w : World) (μ : Mu) (ds : List D) (vs : List Value) : Prop := ds.length = vs.length ∧ ∀ (i : Nat) d v, ds[i]? = some d → vs[i]? = some v → R S w μ d v

/-- What a transformer asks for is one thing. -/
def Det {α : Type} (F : (α → Prop) → Prop) : Prop := ∀ k, F k → ∃ x, k x ∧ ∀ k', k' x → F k'

/-- The contract of a function that only reads (it may make memory): what it does on abstract values. -/
structure PSound (P : Program) (f : Nat) (c : PRule) : Prop where
  det : ∀ ds, Det (c ds)
  enters : ∀ args w, (callFunc f args).run P w = .ok (.enter f args) w
  calls : ∀ ds k, c ds k → ∀ S w (vs : List Value), (∀ b, S b → b < w.heap.size) → RL S w Mu0 ds vs →
    Calls P f vs.toArray w fun e w' => ∃ v S' d, e = .returned v ∧ k d ∧ R S' w' Mu0 d v ∧ Grow S w S' w'

def noRef : D → Bool
  | .agg cs => cs.all noRef1
  | .fn _ fs cs => fs.all noRef1 && cs.all noRef1
  | d => noRef1 d
def flat1 : D → Bool
  | .tt | .ff | .int _ _ | .bool _ | .str _ | .nilI | .nilS => true
  | _ => false
def flat : D → Bool
  | .agg cs | .tup cs => cs.all (fun d => flat1 d || (match d with | .agg cs => cs.all flat1 | _ => false))
  | d => flat1 d

/-- How an object of the abstract heap looks to a callee that only reads. -/
def hide (H : HL) (d : D) : D := match d with
  | .own o n => match hget H o with
    | some (.buf _ s m g) => bif Nat.beq n m then .rsl s m g else .top
    | _ => .top
  | d => bif noRef1 d then d else .top
def view (H : HL) (d : D) (k : D → Prop) : Prop := match d with
  | .own o n => match hget H o with
    | some (.buf _ s m g) => n = m ∧ k (.rsl s m g)
    | _ => False
  | .ptr o off => match hget H o with
    | some (.row cs) => k (.eptr (cs.length - off) fun j => hide H (cs.getD (off + j) .top))
    | _ => False
  | d => fz d k
def viewl (H : HL) (l : List D) : (List D → Prop) → Prop := @List.rec D (fun _ => (List D → Prop) → Prop) (fun k => k []) (fun d _ ih k => view H d fun d => ih fun r => k (d :: r)) l
def viewa (H : HL) (d : D) (k : D → Prop) : Prop := match d with
  | .agg cs => viewl H cs fun cs => k (.agg cs)
  | .fn f fs cs => viewl H fs fun fs => viewl H cs fun cs => k (.fn f fs cs)
  | d => view H d k
def viewal (H : HL) (l : List D) : (List D → Prop) → Prop := @List.rec D (fun _ => (List D → Prop) → Prop) (fun k => k []) (fun d _ ih k => viewa H d fun d => ih fun r => k (d :: r)) l

def vcallp (c : PRule) (ds : List D) (H : HL) (k : D → Prop) : Prop :=
  bif ds.all noRef then c ds fun d => fz d k
  else viewal H ds fun ds => bif ds.all noRef then c ds fun d => fz d fun d => bif flat d then k d else False else False

section
variable {P : Program} {C : Cx} {o : Oper} {a : Act} {w : World} {S : Nat → Prop} {μ : Mu} {H : HL} {e : Env}

theorem noRef_R {d : D} {v : Value} (h : R S w μ d v) (hn : noRef d = true) : R S w Mu0 d v := by
  cases h with
  | agg cs vs hl hr => exact .agg cs vs hl fun i d v h1 h2 => noRef1_R (hr i d v h1 h2) (List.all_eq_true.1 hn d (List.mem_of_getElem? h1))
  | fn f fs cs vf vc h1 h2 h3 h4 =>
    simp only [noRef, Bool.and_eq_true] at hn
    exact .fn f fs cs vf vc h1 h2 (fun i d v g1 g2 => noRef1_R (h3 i d v g1 g2) (List.all_eq_true.1 hn.1 d (List.mem_of_getElem? g1)))
      fun i d v g1 g2 => noRef1_R (h4 i d v g1 g2) (List.all_eq_true.1 hn.2 d (List.mem_of_getElem? g1))
  | top v => cases hn
  | _ => exact noRef1_R (μ := μ) (by first | exact .tt | exact .ff | exact .int _ _ | exact .bool _ | exact .str _ | exact .nilI | exact .nilS | (constructor <;> assumption)) hn

theorem flat1_R {S' : Nat → Prop} {w' : World} {d : D} {v : Value} (h : R S w μ d v) (hn : flat1 d = true) : R S' w' Mu0 d v := by
  cases h <;> first | (cases hn; done) | exact .tt | exact .ff | exact .int _ _ | exact .bool _ | exact .str _ | exact .nilI | exact .nilS
theorem flat_R {S' : Nat → Prop} {w' : World} {d : D} {v : Value} (h : R S w μ d v) (hn : flat d = true) : R S' w' Mu0 d v := by
  have key : ∀ {d : D} {v : Value}, R S w μ d v → (flat1 d || (match d with | .agg cs => cs.all flat1 | _ => false)) = true → R S' w' Mu0 d v := fun {d v} h hn => by
    simp only [Bool.or_eq_true] at hn
    rcases hn with hn | hn
    · exact flat1_R h hn
    · cases h with
      | agg cs vs hl hr => exact .agg cs vs hl fun i d v h1 h2 => flat1_R (hr i d v h1 h2) (List.all_eq_true.1 hn d (List.mem_of_getElem? h1))
      | _ => cases hn
  cases h with
  | agg cs vs hl hr => exact .agg cs vs hl fun i d v h1 h2 => key (hr i d v h1 h2) (List.all_eq_true.1 hn d (List.mem_of_getElem? h1))
  | tup cs vs hl hr => exact .tup cs vs hl fun i d v h1 h2 => key (hr i d v h1 h2) (List.all_eq_true.1 hn d (List.mem_of_getElem? h1))
  | top v => cases hn
  | _ => exact flat1_R (S := S) (w := w) (μ := μ) (by first | exact .tt | exact .ff | exact .int _ _ | exact .bool _ | exact .str _ | exact .nilI | exact .nilS | (constructor <;> assumption)) hn

/-- The static memory with all objects' own. -/
def withH (S : Nat → Prop) (μ : Mu) (H : Hp) (b : Nat) : Prop := S b ∨ ∃ o ob v, H o = some ob ∧ μ o = some v ∧ blk v = some b

theorem R.up {d : D} {v : Value} (h : R S w μ d v) {S' : Nat → Prop} (hS : ∀ b, S b → S' b) : R S' w μ d v := h.keep hS (fun _ _ => rfl) (.refl _)

theorem own_view (hr : Rel S w μ (hget H)) {oid e s m : Nat} {g : Nat → Nat → D} {v : Value} (ho : hget H oid = some (.buf e s m g)) (hd : R S w μ (.own oid m) v) : R (withH S μ (hget H)) w Mu0 (.rsl s m g) v := by
  cases hd with
  | own _ _ A m' c _ hm hn h1c hv =>
    obtain ⟨mv, h1, xs, hown, hx⟩ := hr.obs oid _ ho
    rw [hm] at h1
    injection h1 with h1
    have hmm : m = m' := by
      rcases hown.2 with ⟨e1, e2⟩ | ⟨b, cap, cur, e1, _⟩
      · rw [← h1] at e1; injection e1 with _ e1 _; omega
      · rw [← h1] at e1; injection e1 with _ e1 _; exact e1.symm
    obtain rfl := hv hmm
    subst hmm
    refine .rsl s m g A c (fun i j => xs.getD (i * s + j) undef) ?_ (fun h0 => ?_) (fun i j hi hj => ?_)
    · rcases hown.2 with ⟨e1, e2⟩ | ⟨b, cap, cur, e1, _, _, hc, _⟩
      · omega
      · rw [← h1] at e1; injection e1 with _ _ e1; omega
    · rcases hown.2 with ⟨e1, e2⟩ | ⟨b, cap, cur, e1, _⟩
      · omega
      · have e2 := e1
        rw [← h1] at e1
        injection e1 with e1 _ _
        subst e1
        refine ⟨b, 0, rfl, .inr ⟨oid, _, _, ho, hm, rfl⟩, fun i j hi hj => ?_⟩
        obtain ⟨u, hu, hu1, _⟩ := hx i j hi hj
        rw [Nat.zero_add]
        exact ⟨by rw [own_cell hown e2 _ _ hu]; simp [hu], by simpa [hu] using hu1⟩
    · obtain ⟨u, hu, _, hur⟩ := hx i j hi hj
      simp only [List.getD_eq_getElem?_getD, hu, Option.getD_some]
      exact hur.up fun b hb => .inl hb

theorem hide_R (hr : Rel S w μ (hget H)) {d : D} {v : Value} (hd : R S w μ d v) : R (withH S μ (hget H)) w Mu0 (hide H d) v := by
  unfold hide
  split
  · rename_i o n
    split
    · rename_i e s m g ho
      cases hb : Nat.beq n m with
      | false => exact .top v
      | true =>
        obtain rfl := Nat.eq_of_beq_eq_true hb
        exact own_view hr ho hd
    · exact .top v
  · cases hn : noRef1 d with
    | false => exact .top v
    | true => exact (noRef1_R hd hn).up fun b hb => .inl hb

theorem sound_view (hr : Rel S w μ (hget H)) {d : D} {v : Value} (hd : R S w μ d v) {k : D → Prop} (h : view H d k) : ∃ d', k d' ∧ (noRef d' = true → R (withH S μ (hget H)) w Mu0 d' v) := by
  have plain : ∀ d, R S w μ d v → k d → ∃ d', k d' ∧ (noRef d' = true → R (withH S μ (hget H)) w Mu0 d' v) := fun d hd hk => ⟨d, hk, fun hn => (noRef_R hd hn).up fun b hb => .inl hb⟩
  cases d <;> simp only [view, fz_iff] at h <;> try exact plain _ hd h
  case own o n =>
    cases ho : hget H o with
    | none => simp [ho] at h
    | some ob =>
      cases ob with
      | row _ => simp [ho] at h
      | mp _ => simp [ho] at h
      | lp _ _ => simp [ho] at h
      | dead => simp [ho] at h
      | buf e s m g =>
        simp only [ho] at h
        obtain ⟨rfl, h⟩ := h
        exact ⟨_, h, fun _ => own_view hr ho hd⟩
  case ptr o off =>
    cases ho : hget H o with
    | none => simp [ho] at h
    | some ob =>
      cases ob with
      | buf _ _ _ _ => simp [ho] at h
      | mp _ => simp [ho] at h
      | lp _ _ => simp [ho] at h
      | dead => simp [ho] at h
      | row cs =>
        simp only [ho] at h
        refine ⟨_, h, fun _ => ?_⟩
        cases hd with
        | ptr _ _ b hm =>
          obtain ⟨mv, h1, b', cells, T, e, hheap, hlen, hcs, hone⟩ := hr.obs o _ ho
          rw [hm] at h1
          injection h1 with h1
          subst h1
          injection e with e
          injection e with e
          injection e with e
          subst e
          refine .eptr _ _ b off (fun j => cells.getD (off + j) undef) (.inr ⟨o, _, _, ho, hm, rfl⟩) (fun j hj => ?_) (fun j hj => ?_)
          · have hlt : off + j < cells.size := by omega
            exact ⟨by simp [row_cell hheap, Array.getD, hlt], hone (off + j) _ (by simp [Array.getD, hlt])⟩
          · have hlt : off + j < cells.size := by omega
            have hlt' : off + j < cs.length := by omega
            have hc := hcs (off + j) cs[off + j] cells[off + j] (by simp [hlt']) (by simp [hlt])
            have e1 : cs.getD (off + j) .top = cs[off + j] := by simp [List.getElem?_eq_getElem hlt']
            have e2 : cells.getD (off + j) undef = cells[off + j] := by simp [Array.getD, hlt]
            rw [e1, e2]
            exact hide_R hr hc

theorem noRef_of1 {d : D} (h : noRef1 d = true) : noRef d = true := by cases d <;> first | exact h | cases h

theorem sound_viewl (hr : Rel S w μ (hget H)) : ∀ (ds : List D) (vs : List Value) {k : List D → Prop}, RL S w μ ds vs → viewl H ds k → ∃ ds', k ds' ∧ (ds'.all noRef1 = true → RL (withH S μ (hget H)) w Mu0 ds' vs) ∧ ds'.length = ds.length
  | [], vs, k, hl, h => ⟨[], h, fun _ => ⟨hl.1, fun i d v h1 => by simp at h1⟩, rfl⟩
  | d :: ds, vs, k, hl, h => by
    match vs, hl with
    | v :: vs, hl =>
      have h : view H d (fun d => viewl H ds fun r => k (d :: r)) := h
      obtain ⟨d', h1, h2⟩ := sound_view hr (hl.2 0 d v rfl rfl) h
      obtain ⟨ds', h3, h4, h5⟩ := sound_viewl hr ds vs ⟨by simpa using hl.1, fun i d v a b => hl.2 (i + 1) d v (by simpa using a) (by simpa using b)⟩ h1
      refine ⟨d' :: ds', h3, fun hn => ?_, by simp [h5]⟩
      simp only [List.all_cons, Bool.and_eq_true] at hn
      obtain ⟨g1, g2⟩ := h4 hn.2
      refine ⟨by simp [g1], fun i x u hx hu => ?_⟩
      cases i with
      | zero => simp at hx hu; subst hx; subst hu; exact h2 (noRef_of1 hn.1)
      | succ i => exact g2 i x u (by simpa using hx) (by simpa using hu)

theorem sound_viewa (hr : Rel S w μ (hget H)) {d : D} {v : Value} (hd : R S w μ d v) {k : D → Prop} (h : viewa H d k) : ∃ d', k d' ∧ (noRef d' = true → R (withH S μ (hget H)) w Mu0 d' v) := by
  have toL : ∀ {cs : List D} {vs : Array Value}, cs.length = vs.size → (∀ (i : Nat) d v, cs[i]? = some d → vs[i]? = some v → R S w μ d v) → RL S w μ cs vs.toList := fun h1 h2 => ⟨by simpa using h1, fun i d v a b => h2 i d v a (by simpa using b)⟩
  cases d
  case agg cs =>
    simp only [viewa] at h
    cases hd with
    | agg _ vs hl hR =>
      obtain ⟨cs', h1, h2, h3⟩ := sound_viewl hr cs vs.toList (toL hl hR) h
      refine ⟨_, h1, fun hn => ?_⟩
      obtain ⟨g1, g2⟩ := h2 hn
      exact .agg _ _ (by simpa using g1) fun i d v a b => g2 i d v a (by simpa using b)
  case fn f fs cs =>
    simp only [viewa] at h
    cases hd with
    | fn _ _ _ vf vc hl1 hl2 hR1 hR2 =>
      obtain ⟨fs', h1, h2, h3⟩ := sound_viewl hr fs vf.toList (toL hl1 hR1) h
      obtain ⟨cs', h4, h5, h6⟩ := sound_viewl hr cs vc.toList (toL hl2 hR2) h1
      refine ⟨_, h4, fun hn => ?_⟩
      simp only [noRef, Bool.and_eq_true] at hn
      obtain ⟨g1, g2⟩ := h2 hn.1
      obtain ⟨g3, g4⟩ := h5 hn.2
      exact .fn f _ _ _ _ (by simpa using g1) (by simpa using g3) (fun i d v a b => g2 i d v a (by simpa using b)) fun i d v a b => g4 i d v a (by simpa using b)
  all_goals exact sound_view hr hd (by simpa only [viewa] using h)
end
end Go.V
end
section
set_option linter.unusedVariables false
set_option linter.unusedSimpArgs false
namespace Go.V

def fzhB (x : Option Ob) (ih : (HL → Prop) → Prop) (k : HL → Prop) : Prop := match x with
  | none => ih fun r => k (none :: r)
  | some (.row cs) => fzl cs fun cs => ih fun r => k (some (.row cs) :: r)
  | some (.buf e s n g) => ih fun r => k (some (.buf e s n g) :: r)
  | some (.mp m) => ih fun r => k (some (.mp m) :: r)
  | some (.lp l p) => ih fun r => k (some (.lp l p) :: r)
  | some .dead => ih fun r => k (some .dead :: r)
def fzh (l : HL) : (HL → Prop) → Prop := @List.rec (Option Ob) (fun _ => (HL → Prop) → Prop) (fun k => k []) (fun x _ ih => fzhB x ih) l
theorem fzh_iff : ∀ (l : HL) (k : HL → Prop), fzh l k ↔ k l
  | [], k => Iff.rfl
  | none :: r, k => by show fzh r (fun r => k (none :: r)) ↔ _; rw [fzh_iff r]
  | some (.row cs) :: r, k => by show fzl cs (fun cs => fzh r fun r => k (some (.row cs) :: r)) ↔ _; rw [fzl_iff, fzh_iff r]
  | some (.buf e s n g) :: r, k => by show fzh r (fun r => k (some (.buf e s n g) :: r)) ↔ _; rw [fzh_iff r]
  | some (.mp m) :: r, k => by show fzh r (fun r => k (some (.mp m) :: r)) ↔ _; rw [fzh_iff r]
  | some (.lp l p) :: r, k => by show fzh r (fun r => k (some (.lp l p) :: r)) ↔ _; rw [fzh_iff r]
  | some .dead :: r, k => by show fzh r (fun r => k (some .dead :: r)) ↔ _; rw [fzh_iff r]

abbrev RT := (Nat → Prop) → World → Mu → Hp → Prop
theorem uponIn_mono {F : Fence} {n : Nat} {P : Program} {o : Oper} {a : Act} {next next' : Act → World → Prop} {Q Q' : Exit → Act → World → Prop} (hn : ∀ a w, next a w → next' a w) (hq : ∀ x a w, Q x a w → Q' x a w) (r : Result Next) (h : o.uponIn F n P a next Q r) : o.uponIn F n P a next' Q' r := by
  have hout : LetsOut Q → LetsOut Q' := fun ⟨a, w, h⟩ => ⟨a, w, hq _ _ _ h⟩
  cases r with
  | ok x w' =>
    cases x <;> simp only [Oper.uponIn] at h ⊢ <;>
      first
        | exact hn _ _ h
        | exact ⟨h.1, CallsIn.mono h.2 (fun e w'' he => by cases e <;> first | exact hn _ _ he | exact hq _ _ _ he | exact hout he)⟩
        | exact ⟨h.1, RowsIn.mono h.2 (fun _ _ he => hn _ _ he)⟩
        | exact ⟨h.1, RoundIn.mono h.2 (fun e w'' he => by cases e <;> first | exact hn _ _ he | exact hq _ _ _ he | exact hout he)⟩
  | halt x w' => cases x <;> simp only [Oper.uponIn] at h ⊢ <;> first | exact h | exact hq _ _ _ h
theorem wpIn_post {F : Fence} {n : Nat} {P : Program} {o : Oper} {a : Act} {w : World} {next next' : Act → World → Prop} {Q Q' : Exit → Act → World → Prop} (hn : ∀ a w, next a w → next' a w) (hq : ∀ x a w, Q x a w → Q' x a w) (h : o.wpIn F n P a w next Q) : o.wpIn F n P a w next' Q' :=
  ⟨h.1, uponIn_mono hn hq _ h.2⟩
theorem wpOpsIn_mono {F : Fence} {n : Nat} {P : Program} {ops : Array Oper} {Q Q' : Exit → Act → World → Prop} (hq : ∀ x a w, Q x a w → Q' x a w) : ∀ {l : List Nat} {a : Act} {w : World}, wpOpsIn F n P ops Q l a w → wpOpsIn F n P ops Q' l a w
  | [], a, w, h => hq _ _ _ h
  | i :: r, a, w, h => by
    rw [wpOpsIn_cons] at h ⊢
    unfold wpOpIn at h ⊢
    cases ho : ops[i]? with
    | none => simp only [ho] at h ⊢; exact wpOpsIn_mono hq h
    | some o =>
      simp only [ho] at h ⊢
      by_cases hw : Region.wanted o (yielded ops a.tmps) = true
      · rw [if_pos hw] at h ⊢
        exact wpIn_post (fun a w => wpOpsIn_mono hq) hq h
      · rw [if_neg hw] at h ⊢
        exact ⟨h.1, wpOpsIn_mono hq h.2⟩
/-- The temporaries; the heap; the deferred calls (none: a round's frame, which has none). -/
structure St where
  e : Env
  H : HL
  df : Option (List D)

/-- A reading operation, or a call of a function that only reads. -/
def vsr (C : Cx) (o : Oper) (e : Env) (H : HL) (k : D → Prop) : Prop := match o.op with
  | .call c => match c.callee with
    | .value f => match ev e f with
      | .fn f fs cs => match C.pure f with
        | some r => fzl (c.args.toList.map (ev e)) fun ds => vcallp r (fs ++ ds ++ cs) H k
        | none => False
      | _ => False
    | _ => vrd C o e H k
  | _ => vrd C o e H k
def isWr : Op → Bool
  | .alloc _ | .box _ _ | .buildSlice _ _ _ | .store _ _ _ | .makeMap _ _ | .mapEntry _ _ _ | .entryStore _ _ _ _ | .mapUpdate _ _ _ _ | .insert _ _ _ _ => true
  | .call c => match c.callee with
    | .builtin .append => true
    | _ => false
  | _ => false
def vstep (C : Cx) (nid : Nat) (o : Oper) (e : Env) (H : HL) (k : D → HL → Prop) : Prop := bif isWr o.op then vwr C nid o e H k else vsr C o e H fun d => k d H

def gslot (ops : List Oper) (j : Nat) : Option Nat := match ops[j]? with
  | some o => o.dst
  | none => none
def vput (N : Nat) (e : Env) (dst : Option Nat) (d : D) (k : Env → Prop) : Prop := match dst with
  | none => k e
  | some i => bif Nat.ble N i then False else k (upd e i d)

/-- A number, as it is. -/
def fzn (n : Nat) : (Nat → Prop) → Prop := @Nat.rec (fun _ => (Nat → Prop) → Prop) (fun k => k 0) (fun _ ih k => ih fun m => k (m + 1)) n
theorem fzn_eq : ∀ (n : Nat) (k : Nat → Prop), fzn n k = k n
  | 0, _ => rfl
  | n + 1, k => fzn_eq n fun m => k (m + 1)
theorem fzl_eq (l : List D) (k : List D → Prop) : fzl l k = k l := propext (fzl_iff l k)
theorem fzh_eq (l : HL) (k : HL → Prop) : fzh l k = k l := propext (fzh_iff l k)
def fzw (b : Bool) (k : D → HL → Prop) (d : D) (H : HL) : Prop := bif b then fzh H fun H => k d H else k d H
theorem fzw_eq (b : Bool) (k : D → HL → Prop) : fzw b k = k := by
  funext d H
  cases b
  · rfl
  · exact fzh_eq _ _
def vstepN (C : Cx) (o : Oper) (e : Env) (H : HL) (k : D → HL → Prop) : Prop := fzn H.length fun n => vstep C n o e H (fzw (isWr o.op) k)
theorem vstepN_eq (C : Cx) (o : Oper) (e : Env) (H : HL) (k : D → HL → Prop) : vstepN C o e H k = vstep C H.length o e H k := by
  unfold vstepN
  rw [fzn_eq, fzw_eq]

/-- What follows a call that may turn objects, or panic. -/
def vcret (K : VX → St → Prop) (s : St) (kn : D → HL → Option (List D) → Prop) (r : Res) (H' : HL) : Prop := match s with
  | ⟨e0, H0, df0⟩ => match r with
    | .ret d => fz d fun d => fzh H' fun H' => kn d H' df0
    | .pan d => fzh H' fun H' => K (.panic d) ⟨e0, H', df0⟩
theorem vcret_eq (K : VX → St → Prop) (s : St) (kn : D → HL → Option (List D) → Prop) (r : Res) (H' : HL) : vcret K s kn r H' = (match r with
  | .ret d => fz d fun d => fzh H' fun H' => kn d H' s.df
  | .pan d => fzh H' fun H' => K (.panic d) ⟨s.e, H', s.df⟩) := by cases s; rfl
/-- One operation: a reader, a writer, a call, a panic, a defer statement. -/
def vopB (C : Cx) (o : Oper) (K : VX → St → Prop) (s : St) (kn : D → HL → Option (List D) → Prop) : Prop := match s with
  | ⟨e0, H0, df0⟩ => match o.op with
    | .panic x => match ev e0 x with
      | .iface t d => K (.panic (.iface t d)) ⟨e0, H0, df0⟩
      | _ => False
    | .defer c => match c.callee with
      | .value f => match c.args.toList with
        | [] => match df0 with
          | some df => match ev e0 f with
            | .fn g fs cs => kn .top H0 (some (.fn g fs cs :: df))
            | _ => False
          | none => False
        | _ => False
      | _ => False
    | .call c => match c.callee with
      | .value f => match ev e0 f with
        | .fn g fs cs => match C.call g with
          | some r => fzl (fs ++ c.args.toList.map (ev e0) ++ cs) fun ds => fzh H0 fun H => r ds H (vcret K ⟨e0, H, df0⟩ kn)
          | none => vstepN C o e0 H0 fun d H => kn d H df0
        | .yld o' => match C.yld with
          | some (ol, h) => bif Nat.beq o' ol then fzl (c.args.toList.map (ev e0)) fun ds => fzh H0 fun H => h ds H (vcret K ⟨e0, H, df0⟩ kn) else False
          | none => False
        | _ => False
      | _ => vstepN C o e0 H0 fun d H => kn d H df0
    | _ => vstepN C o e0 H0 fun d H => kn d H df0
theorem vopB_eq (C : Cx) (o : Oper) (K : VX → St → Prop) (s : St) (kn : D → HL → Option (List D) → Prop) : vopB C o K s kn = (match o.op with
  | .panic x => match ev s.e x with
    | .iface t d => K (.panic (.iface t d)) s
    | _ => False
  | .defer c => match c.callee with
    | .value f => match c.args.toList with
      | [] => match s.df with
        | some df => match ev s.e f with
          | .fn g fs cs => kn .top s.H (some (.fn g fs cs :: df))
          | _ => False
        | none => False
      | _ => False
    | _ => False
  | .call c => match c.callee with
    | .value f => match ev s.e f with
      | .fn g fs cs => match C.call g with
        | some r => fzl (c.args.toList.map (ev s.e)) fun ds => r (fs ++ ds ++ cs) s.H (vcret K s kn)
        | none => vstep C s.H.length o s.e s.H fun d H => kn d H s.df
      | .yld o' => match C.yld with
        | some (ol, h) => bif Nat.beq o' ol then fzl (c.args.toList.map (ev s.e)) fun ds => h ds s.H (vcret K s kn) else False
        | none => False
      | _ => False
    | _ => vstep C s.H.length o s.e s.H fun d H => kn d H s.df
  | _ => vstep C s.H.length o s.e s.H fun d H => kn d H s.df) := by
  cases s
  simp only [vopB, vstepN_eq, fzl_eq, fzh_eq]
def vopsR (C : Cx) (N : Nat) (o : Oper) (K : VX → St → Prop) (ih : St → Prop) (s : St) : Prop := match s with
  | ⟨e0, H0, df0⟩ => vopB C o K ⟨e0, H0, df0⟩ fun d H df => vput N e0 o.dst d fun e => ih ⟨e, H, df⟩
theorem vopsR_eq (C : Cx) (N : Nat) (o : Oper) (K : VX → St → Prop) (ih : St → Prop) (s : St) : vopsR C N o K ih s = (vopB C o K s fun d H df => vput N s.e o.dst d fun e => ih ⟨e, H, df⟩) := by cases s; rfl
def vopsS (N : Nat) (o : Oper) (ih : St → Prop) (s : St) : Prop := match s with
  | ⟨e0, H0, df0⟩ => vput N e0 o.dst (.tup []) fun e => ih ⟨e, H0, df0⟩
theorem vopsS_eq (N : Nat) (o : Oper) (ih : St → Prop) (s : St) : vopsS N o ih s = (vput N s.e o.dst (.tup []) fun e => ih ⟨e, s.H, s.df⟩) := by cases s; rfl
def vopsB (C : Cx) (N : Nat) (ops : List Oper) (K : VX → St → Prop) (o : Oper) (ih : St → Prop) (s : St) : Prop := match s with
  | ⟨e0, H0, df0⟩ => match o.guard with
      | none => vopsR C N o K ih ⟨e0, H0, df0⟩
      | some (j, want) => match gslot ops j with
        | none => False
        | some g => match e0 g with
          | .tt => bif want then vopsR C N o K ih ⟨e0, H0, df0⟩ else vopsS N o ih ⟨e0, H0, df0⟩
          | .ff => bif want then vopsS N o ih ⟨e0, H0, df0⟩ else vopsR C N o K ih ⟨e0, H0, df0⟩
          | .bool b =>
            (b = true → bif want then vopsR C N o K ih ⟨upd e0 g .tt, H0, df0⟩ else vopsS N o ih ⟨upd e0 g .tt, H0, df0⟩) ∧
            (b = false → bif want then vopsS N o ih ⟨upd e0 g .ff, H0, df0⟩ else vopsR C N o K ih ⟨upd e0 g .ff, H0, df0⟩)
          | .tup _ => vopsS N o ih ⟨e0, H0, df0⟩
          | _ => False
theorem vopsB_eq (C : Cx) (N : Nat) (ops : List Oper) (K : VX → St → Prop) (o : Oper) (ih : St → Prop) (s : St) : vopsB C N ops K o ih s = (match o.guard with
    | none => vopsR C N o K ih s
    | some (j, want) => match gslot ops j with
      | none => False
      | some g => match s.e g with
        | .tt => bif want then vopsR C N o K ih s else vopsS N o ih s
        | .ff => bif want then vopsS N o ih s else vopsR C N o K ih s
        | .bool b =>
          (b = true → bif want then vopsR C N o K ih ⟨upd s.e g .tt, s.H, s.df⟩ else vopsS N o ih ⟨upd s.e g .tt, s.H, s.df⟩) ∧
          (b = false → bif want then vopsS N o ih ⟨upd s.e g .ff, s.H, s.df⟩ else vopsR C N o K ih ⟨upd s.e g .ff, s.H, s.df⟩)
        | .tup _ => vopsS N o ih s
        | _ => False) := by cases s; rfl
def vops (C : Cx) (N : Nat) (ops : List Oper) (K : VX → St → Prop) (l : List Oper) : St → Prop := @List.rec Oper (fun _ => St → Prop) (K .normal) (fun o _ ih => vopsB C N ops K o ih) l
theorem vops_cons (C : Cx) (N : Nat) (ops : List Oper) (K : VX → St → Prop) (o : Oper) (r : List Oper) (s : St) : vops C N ops K (o :: r) s = vopsB C N ops K o (vops C N ops K r) s := rfl

/-- Every reading of the one is one of the other. -/
def Imp (d d' : D) : Prop := ∀ S w v, R S w Mu0 d v → R S w Mu0 d' v
theorem Imp.refl (d : D) : Imp d d := fun _ _ _ h => h
theorem Imp.rsl {s n : Nat} {g g' : Nat → Nat → D} (h : ∀ i j, i < n → j < s → g i j = g' i j) : Imp (.rsl s n g) (.rsl s n g') := fun S w v hr => by
  cases hr with
  | rsl _ _ _ A c val h1 h2 h3 => exact .rsl s n g' A c val h1 h2 fun i j hi hj => by rw [← h i j hi hj]; exact h3 i j hi hj

section
variable {P : Program} {C : Cx} {T : RT} {o : Oper} {a : Act} {w : World} {S : Nat → Prop} {μ : Mu} {H : HL} {e : Env} {r : Option Nat} {N : Nat} {B : Option Nat}

def ResR (S : Nat → Prop) (w : World) (μ : Mu) : Res → Ending → Prop
  | .ret d, .returned v => R S w μ d v
  | .pan d, .panicked ch => ∃ v, ch = [{ v, recovered := false }] ∧ R S w μ d v
  | _, _ => False
def CallPost (S : Nat → Prop) (w : World) (μ : Mu) (H : HL) (K : Res → HL → Prop) : Ending → World → Prop := fun e w' => ∃ S' μ' r H', K r H' ∧ ResR S' w' μ' r e ∧ RelL S' w' μ' H' ∧ Tr S w μ (hget H) S' w' μ' (hget H')
def Enters (P : Program) (f : Nat) : Prop := ∀ args w, (callFunc f args).run P w = .ok (.enter f args) w
structure CSound (P : Program) (f : Nat) (c : CRule) : Prop where
  enters : Enters P f
  calls : ∀ ds H K, c ds H K → ∀ S w μ (vs : List Value), RelL S w μ H → RL S w μ ds vs → Calls P f vs.toArray w (CallPost S w μ H K)
/-- A call of yield: one round. -/
def YSound (P : Program) (T : RT) (ol : Nat) (h : CRule) : Prop :=
  ∀ ds H K, h ds H K → ∀ S w μ (vs : List Value), T S w μ (hget H) → RelL S w μ H → RL S w μ ds vs → ∀ l, μ ol = some (.func (.yield l) #[] #[]) →
    ∃ fn tmps assign body, (Instr.yield l vs.toArray).run P w = .ok (.round l fn tmps assign body) w ∧ ∀ n, RoundIn (FW none) n P l fn tmps assign body w (CallPost S w μ H K)
def RTok (T : RT) : Prop := ∀ S w μ H S' w' μ' H', T S w μ H → Tr S w μ H S' w' μ' H' → T S' w' μ' H'
structure ISound (P : Program) (f : Nat) (i : IRule) : Prop where
  enters : Enters P f
  calls : ∀ ol h T, RTok T → YSound P T ol h → ∀ ds H K, i ol h ds H K → ∀ S w μ (vs : List Value), T S w μ (hget H) → RelL S w μ H → RL S w μ ds vs → Calls P f vs.toArray w (CallPost S w μ H K)
def MdR (S : Nat → Prop) (w : World) (μ : Mu) : Md → FrameMode → Prop
  | .ret, u => u = .returning
  | .pan d, u => ∃ v, u = .panicking [{ v, recovered := false }] ∧ R S w μ d v
structure DSound (P : Program) (f : Nat) (c : DRule) : Prop where
  enters : Enters P f
  calls : ∀ md ds H K, c md ds H K → ∀ S w μ (vs : List Value) u n, RelL S w μ H → RL S w μ ds vs → MdR S w μ md u →
    CallsDIn (FW none) n P f vs.toArray u w fun e u' w' => (∃ v, e = .returned v) ∧ ∃ S' μ' md' H', K md' H' ∧ MdR S' w' μ' md' (settle u') ∧ RelL S' w' μ' H' ∧ Tr S w μ (hget H) S' w' μ' (hget H')
structure CallsOK (P : Program) (C : Cx) (T : RT) : Prop where
  ok : COK P C
  mixed : P.follows .mixedOrders = true
  pure : ∀ f r, C.pure f = some r → PSound P f r
  call : ∀ f c, C.call f = some c → CSound P f c
  iter : ∀ f i, C.iter f = some i → ISound P f i
  dfr : ∀ f d, C.dfr f = some d → DSound P f d
  yld : ∀ ol h, C.yld = some (ol, h) → YSound P T ol h
  step : RTok T

theorem run_call {f : Operand} {xs : Array Operand} {ts : Array Nat} {g : Nat} {vf vc : Array Value} (hop : o.op = .call { callee := .value f, args := xs, argTypes := ts }) (hf : a.eval f = .func (.func g) vf vc)
    (he : ∀ args w, (callFunc g args).run P w = .ok (.enter g args) w) : (execOp a.eval o).run P w = .ok (.enter g (vf ++ xs.map a.eval ++ vc)) w := by
  simp [execOp, hop, resolve, hf, Deferred.ofValue, invoke, he]

theorem args_RL {fs cs : List D} {vf vc : Array Value} {xs : Array Operand} (he : EnvR S w μ e a) (hl1 : fs.length = vf.size) (hl2 : cs.length = vc.size) (hR1 : ∀ (i : Nat) d v, fs[i]? = some d → vf[i]? = some v → R S w μ d v)
    (hR2 : ∀ (i : Nat) d v, cs[i]? = some d → vc[i]? = some v → R S w μ d v) : RL S w μ (fs ++ xs.toList.map (ev e) ++ cs) (vf ++ xs.map a.eval ++ vc).toList := by
  refine ⟨by simp [hl1, hl2], fun i d v h1 h2 => ?_⟩
  simp only [Array.toList_append, Array.toList_map] at h2
  rw [List.getElem?_append] at h1 h2
  simp only [List.length_append, List.length_map, Array.length_toList] at h1 h2
  rw [hl1] at h1
  split at h1
  · rename_i hi
    rw [if_pos hi] at h2
    rw [List.getElem?_append] at h1 h2
    simp only [Array.length_toList] at h2
    rw [hl1] at h1
    split at h1
    · rename_i hi'
      rw [if_pos hi'] at h2
      exact hR1 i d v h1 (by simpa using h2)
    · rename_i hi'
      rw [if_neg hi'] at h2
      simp only [List.getElem?_map] at h1 h2
      cases hx : xs.toList[i - vf.size]? with
      | none => simp [hx] at h1
      | some x =>
        simp only [hx, Option.map_some, Option.some.injEq] at h1 h2
        subst h1; subst h2
        exact he.ev x
  · rename_i hi
    rw [if_neg hi] at h2
    exact hR2 _ d v h1 (by simpa using h2)

theorem sound_pcall {f : Operand} {xs : Array Operand} {ts : Array Nat} {g : Nat} {fs cs : List D} {r : PRule} {k : D → Prop} (hs : PSound P g r) (he : EnvR S w μ e a) (hr : RelL S w μ H)
    (hop : o.op = .call { callee := .value f, args := xs, argTypes := ts }) (hd : ev e f = .fn g fs cs) (h : vcallp r (fs ++ xs.toList.map (ev e) ++ cs) H k) : Does P o a w (PostR S w μ H k) := by
  have hf := he.ev f
  rw [hd] at hf
  generalize hvf : a.eval f = fv at hf
  cases hf with
  | fn _ _ _ vf vc hl1 hl2 hR1 hR2 =>
    have hRL := args_RL (xs := xs) he hl1 hl2 hR1 hR2
    intro r n K Q' hK
    refine ⟨fun _ _ => trivial, ?_⟩
    rw [run_at (fun c e => by rw [hop] at e; cases e), run_call hop hvf hs.enters, Oper.uponIn_enter]
    refine ⟨fun h => (by cases h), callsIn_FW.2 ?_⟩
    unfold vcallp at h
    cases hn : (fs ++ xs.toList.map (ev e) ++ cs).all noRef with
    | true =>
      simp only [hn, cond_true, fz_iff] at h
      have hRL0 : RL S w Mu0 (fs ++ xs.toList.map (ev e) ++ cs) (vf ++ xs.map a.eval ++ vc).toList := ⟨hRL.1, fun i d v h1 h2 => noRef_R (hRL.2 i d v h1 h2) (List.all_eq_true.1 hn d (List.mem_of_getElem? h1))⟩
      have hc := hs.calls _ _ h S w _ (fun b hb => (hr.1.stat b hb).1) hRL0
      rw [Array.toArray_toList] at hc
      refine hc.mono ?_
      rintro _ w' ⟨v, S', d, rfl, hk, hR, hg⟩
      obtain ⟨g1, g2⟩ := hr.1.grow hg.os hg.tape hg.output hg.size hg.block hg.sub hg.new hg.lt
      exact hK v w' ⟨S', μ, d, H, ⟨rfl, hk⟩, hR.of0, ⟨g1, hr.2⟩, g2⟩
    | false =>
      simp only [hn, cond_false] at h
      have sview : ∀ (ds : List D) (vs : List Value) {k : List D → Prop}, RL S w μ ds vs → viewal H ds k → ∃ ds', k ds' ∧ (ds'.all noRef = true → RL (withH S μ (hget H)) w Mu0 ds' vs) := by
        intro ds
        induction ds with
        | nil => exact fun vs k hl h => ⟨[], h, fun _ => ⟨hl.1, fun i d v h1 => by simp at h1⟩⟩
        | cons d ds ih =>
          intro vs k hl h
          match vs, hl with
          | v :: vs, hl =>
            have h : viewa H d (fun d => viewal H ds fun r => k (d :: r)) := h
            obtain ⟨d', h1, h2⟩ := sound_viewa hr.1 (hl.2 0 d v rfl rfl) h
            obtain ⟨ds', h3, h4⟩ := ih vs ⟨by simpa using hl.1, fun i d v a b => hl.2 (i + 1) d v (by simpa using a) (by simpa using b)⟩ h1
            refine ⟨d' :: ds', h3, fun hn => ?_⟩
            simp only [List.all_cons, Bool.and_eq_true] at hn
            obtain ⟨g1, g2⟩ := h4 hn.2
            refine ⟨by simp [g1], fun i x u hx hu => ?_⟩
            cases i with
            | zero => simp at hx hu; subst hx; subst hu; exact h2 hn.1
            | succ i => exact g2 i x u (by simpa using hx) (by simpa using hu)
      obtain ⟨ds', h1, h2⟩ := sview _ _ hRL h
      cases hn' : ds'.all noRef with
      | false => simp [hn'] at h1
      | true =>
        simp only [hn', cond_true, fz_iff] at h1
        have hc := hs.calls _ _ h1 (withH S μ (hget H)) w _ (fun b hb => by
          rcases hb with hb | ⟨o', ob, v, ho', hv, hbv⟩
          · exact (hr.1.stat b hb).1
          · obtain ⟨mv, m1, m2⟩ := hr.1.obs o' ob ho'
            rw [hv] at m1
            injection m1 with m1
            subst m1
            exact m2.blk_lt hbv) (h2 hn')
        rw [Array.toArray_toList] at hc
        refine hc.mono ?_
        rintro _ w' ⟨v, S', d, rfl, hk, hR, hg⟩
        cases hfl : flat d with
        | false => simp [hfl] at hk
        | true =>
          simp only [hfl, cond_true] at hk
          obtain ⟨g1, g2⟩ := hr.1.grow hg.os hg.tape hg.output hg.size hg.block (S' := S) (fun _ h => h) (fun _ h => .inl h) (fun b hb => Nat.lt_of_lt_of_le (hr.1.stat b hb).1 hg.size)
          exact hK v w' ⟨S, μ, d, H, ⟨rfl, hk⟩, (flat_R hR hfl).of0, ⟨g1, hr.2⟩, g2⟩

theorem sound_sr {k : D → Prop} (hC : CallsOK P C T) (he : EnvR S w μ e a) (hr : RelL S w μ H) (h : vsr C o e H k) : Does P o a w (PostR S w μ H k) := by
  unfold vsr at h
  split at h
  · rename_i c hop
    obtain ⟨callee, args, ats⟩ := c
    split at h
    · rename_i f hcal
      simp only at hcal
      subst hcal
      split at h
      · rename_i g fs cs hd
        cases hp : C.pure g with
        | none => simp [hp] at h
        | some r =>
          simp only [hp, fzl_iff] at h
          exact sound_pcall (hC.pure g r hp) he hr hop hd h
      · exact h.elim
    · exact sound_rd hC.ok he hr h
  · exact sound_rd hC.ok he hr h

theorem Does.mono {Q Q' : Value → World → Prop} (h : Does P o a w Q) (hq : ∀ v w', Q v w' → Q' v w') : Does P o a w Q' := fun r n K Q2 hK => h r n K Q2 fun v w' q => hK v w' (hq v w' q)

theorem sound_step {nid : Nat} {k : D → HL → Prop} (hC : CallsOK P C T) (he : EnvR S w μ e a) (hr : RelL S w μ H) (hno : μ nid = none) (hle : nid ≤ H.length) (h : vstep C nid o e H k) : Does P o a w (Post S w μ H k) := by
  unfold vstep at h
  cases hw : isWr o.op with
  | true =>
    rw [hw] at h
    exact sound_wr hC.ok he hr hno hle h
  | false =>
    rw [hw] at h
    refine (sound_sr hC he hr h).mono fun v w' ⟨S', μ', d, H', ⟨e, hk⟩, g1, g2, g3⟩ => ?_
    subst e
    exact ⟨S', μ', d, H', hk, g1, g2, g3⟩

/-- The deferred calls of an activation: closures without arguments, and marks of loops whose rounds have deferred nothing. -/
inductive DfL (B : Option Nat) (S : Nat → Prop) (w : World) (μ : Mu) (H : Hp) : List D → List Deferred → Prop
  | nil : DfL B S w μ H [] []
  | fn {df ds} (f fs cs) (vf vc : Array Value) : R S w μ (.fn f fs cs) (.func (.func f) vf vc) → DfL B S w μ H df ds → DfL B S w μ H (.fn f fs cs :: df) ({ target := .fn (.func f) vc, args := vf } :: ds)
  | mark {df ds} (b D : Nat) : B = some b → b ≤ D → D < w.heap.size → w.heap[D]? = some (.deferred (some [])) → ¬ S D → (∀ o ob v, H o = some ob → μ o = some v → blk v ≠ some D) → (∀ d ∈ ds, d.target ≠ .collected D) → DfL B S w μ H df ds → DfL B S w μ H df ({ target := .collected D, args := #[] } :: ds)
def DfR (B : Option Nat) (S : Nat → Prop) (w : World) (μ : Mu) (H : Hp) : Option (List D) → List Deferred → Prop
  | none, _ => True
  | some df, ds => DfL B S w μ H df ds
theorem DfL.tr {H : Hp} {S' : Nat → Prop} {w' : World} {μ' : Mu} {H' : Hp} {df : List D} {ds : List Deferred} (h : DfL B S w μ H df ds) (hr : Rel S w μ H) (t : Tr S w μ H S' w' μ' H') : DfL B S' w' μ' H' df ds := by
  induction h with
  | nil => exact .nil
  | fn f fs cs vf vc h1 _ ih => exact .fn f fs cs vf vc (h1.tr hr t) ih
  | mark b D h0 h1 h2 h3 h4 h5 h6 _ ih =>
    refine .mark b D h0 h1 (Nat.lt_of_lt_of_le h2 t.size) ((t.block D h2 h5).trans h3) (fun h => ?_) (fun o ob v ho hv hb => ?_) h6 ih
    · rcases t.new D h with h6 | h6 | ⟨o', ob', v', e1, e2, e3⟩
      · exact h4 h6
      · omega
      · exact h5 o' ob' v' e1 e2 e3
    · rcases t.blks o ob v D ho hv hb with h6 | ⟨o', ob', v', e1, e2, e3⟩
      · omega
      · exact h5 o' ob' v' e1 e2 e3
theorem DfL.marks {H : Hp} {df : List D} {ds : List Deferred} (h : DfL B S w μ H df ds) : ∀ d ∈ ds, ∀ D, d.target = .collected D → D < w.heap.size := by
  induction h with
  | nil => intro d hd; cases hd
  | fn f fs cs vf vc _ _ ih =>
    intro d hd D e
    rcases List.mem_cons.1 hd with rfl | hd
    · cases e
    · exact ih d hd D e
  | mark b D h0 h1 h2 h3 h4 h5 h6 _ ih =>
    intro d hd D' e
    rcases List.mem_cons.1 hd with rfl | hd
    · injection e with e; omega
    · exact ih d hd D' e
theorem DfR.tr {H : Hp} {S' : Nat → Prop} {w' : World} {μ' : Mu} {H' : Hp} {df : Option (List D)} {ds : List Deferred} (h : DfR B S w μ H df ds) (hr : Rel S w μ H) (t : Tr S w μ H S' w' μ' H') : DfR B S' w' μ' H' df ds := by
  cases df with
  | none => trivial
  | some df => exact DfL.tr h hr t

structure RelSt (r : Option Nat) (N : Nat) (B : Option Nat) (S : Nat → Prop) (w : World) (μ : Mu) (s : St) (a : Act) : Prop where
  rel : RelL S w μ s.H
  env : EnvR S w μ s.e a
  size : a.tmps.size = N
  df : DfR B S w μ (hget s.H) s.df a.defers
  round : r = none ∨ s.df = none

def XR (S : Nat → Prop) (w : World) (μ : Mu) : VX → Exit → Prop
  | .normal, .normal => True
  | .exit i, .exit j => i = j
  | .ret, .ret => True
  | .panic d, .panic ch => ∃ v, ch = [{ v, recovered := false }] ∧ R S w μ d v
  | _, _ => False
def PostC (S : Nat → Prop) (w : World) (μ : Mu) (H : Hp) (r : Option Nat) (N : Nat) (B : Option Nat) (K : VX → St → Prop) : Exit → Act → World → Prop := fun x a' w' =>
  ∃ S' μ' s' x', K x' s' ∧ XR S' w' μ' x' x ∧ RelSt r N B S' w' μ' s' a' ∧ Tr S w μ H S' w' μ' (hget s'.H)

theorem PostC.from {H : Hp} {S1 : Nat → Prop} {w1 : World} {μ1 : Mu} {H1 : Hp} {K : VX → St → Prop} (t : Tr S w μ H S1 w1 μ1 H1) {x : Exit} {a' : Act} {w' : World} (h : PostC S1 w1 μ1 H1 r N B K x a' w') : PostC S w μ H r N B K x a' w' :=
  let ⟨S', μ', s', x', h1, h2, h3, h4⟩ := h
  ⟨S', μ', s', x', h1, h2, h3, t.trans h4⟩

theorem EnvR.put {a : Act} (he : EnvR S w μ e a) {i : Nat} (hi : i < a.tmps.size) {d : D} {v : Value} (hd : R S w μ d v) : EnvR S w μ (upd e i d) (a.put (some i) v) := fun j => by
  simp only [upd, Act.put]
  cases hj : Nat.beq j i with
  | true =>
    obtain rfl := Nat.eq_of_beq_eq_true hj
    simp only [cond_true]
    simpa [Array.getD, hi] using hd
  | false =>
    have hne : i ≠ j := fun e => by subst e; rw [Nat.beq_refl] at hj; cases hj
    simp only [cond_false]
    have := he j
    rw [Array.getD_eq_getD_getElem?] at this ⊢
    rwa [Array.getElem?_setIfInBounds_ne hne]

theorem Act.put_size (a : Act) (dst : Option Nat) (v : Value) : (a.put dst v).tmps.size = a.tmps.size := by cases dst <;> simp [Act.put]
theorem Act.put_defers (a : Act) (dst : Option Nat) (v : Value) : (a.put dst v).defers = a.defers := by cases dst <;> rfl

theorem sound_put {a : Act} {dst : Option Nat} {d : D} {v : Value} {k : Env → Prop} (he : EnvR S w μ e a) (hN : a.tmps.size = N) (hd : R S w μ d v) (h : vput N e dst d k) : ∃ e', k e' ∧ EnvR S w μ e' (a.put dst v) := by
  unfold vput at h
  cases dst with
  | none => exact ⟨e, h, he⟩
  | some i =>
    simp only at h
    cases hb : Nat.ble N i with
    | true => simp [hb] at h
    | false =>
      simp only [hb, cond_false] at h
      have : i < a.tmps.size := by
        rcases Nat.lt_or_ge i N with h1 | h1
        · omega
        · rw [Nat.ble_eq_true_of_le h1] at hb; cases hb
      exact ⟨_, h, he.put this hd⟩

theorem R_tt_of {b : Bool} {v : Value} (h : R S w μ (.bool b) v) (hb : b = true) : R S w μ .tt v := by subst hb; cases h; exact .tt
theorem R_ff_of {b : Bool} {v : Value} (h : R S w μ (.bool b) v) (hb : b = false) : R S w μ .ff v := by subst hb; cases h; exact .ff

theorem EnvR.upd {a : Act} (he : EnvR S w μ e a) {i : Nat} {d : D} (hd : R S w μ d (a.tmps.getD i undef)) : EnvR S w μ (upd e i d) a := fun j => by
  simp only [V.upd]
  cases hj : Nat.beq j i with
  | true => obtain rfl := Nat.eq_of_beq_eq_true hj; exact hd
  | false => exact he j

theorem R_undef : R S w μ (.tup []) undef := .tup [] #[] rfl fun i d v h => by simp at h
theorem wanted_no {ops : Array Oper} {j : Nat} {want : Bool} {g : Nat} (hg : o.guard = some (j, want)) (hs : gslot ops.toList j = some g) (hv : ∃ vs, a.tmps.getD g undef = .tuple vs) : Region.wanted o (yielded ops a.tmps) = false := by
  obtain ⟨vs, hv⟩ := hv
  have h1 : ((ops[j]?).bind (·.dst)) = some g := by
    unfold gslot at hs
    simp only [Array.getElem?_toList] at hs
    cases ho : ops[j]? with
    | none => simp [ho] at hs
    | some o' => simpa [ho] using hs
  have h2 : ∀ b, a.tmps[g]? ≠ some (.bool b) := fun b hb => by
    rw [Array.getD_eq_getD_getElem?, hb] at hv
    simp at hv
  have h3 : yielded ops a.tmps j = none := by
    unfold yielded
    rw [h1, Option.bind_some]
    split
    · rename_i b hb; exact absurd hb (h2 b)
    · rfl
  simp [Region.wanted, hg, h3]
theorem wanted_of {ops : Array Oper} {j : Nat} {want : Bool} {g : Nat} (hg : o.guard = some (j, want)) (hs : gslot ops.toList j = some g) {b : Bool} (hv : a.tmps.getD g undef = .bool b) : Region.wanted o (yielded ops a.tmps) = (b == want) := by
  have h1 : ((ops[j]?).bind (·.dst)) = some g := by
    unfold gslot at hs
    simp only [Array.getElem?_toList] at hs
    cases ho : ops[j]? with
    | none => simp [ho] at hs
    | some o' => simpa [ho] using hs
  have h2 : a.tmps[g]? = some (.bool b) := by
    rw [Array.getD_eq_getD_getElem?] at hv
    cases hx : a.tmps[g]? with
    | none => rw [hx] at hv; cases hv
    | some v => rw [hx] at hv; simpa using hv
  simp [Region.wanted, hg, yielded, h1, h2]

/-- One operation, whatever it is. -/
theorem sound_opB (hC : CallsOK P C T) {K : VX → St → Prop} {s : St} {kn : D → HL → Option (List D) → Prop} (hst : RelSt r N B S w μ s a) (hT : T S w μ (hget s.H)) (h : vopB C o K s kn) (n : Nat) {K' : Act → World → Prop}
    (hK : ∀ (S' : Nat → Prop) μ' d H' df' v w' ds', kn d H' df' → R S' w' μ' d v → RelL S' w' μ' H' → Tr S w μ (hget s.H) S' w' μ' (hget H') → DfR B S' w' μ' (hget H') df' ds' → (r = none ∨ df' = none) → K' ({ a with defers := ds' }.put o.dst v) w') :
    o.wpIn (FW r) n P a w K' (PostC S w μ (hget s.H) r N B K) := by
  obtain ⟨hr, he, hN, hdf, hro⟩ := hst
  have step : (vstep C s.H.length o s.e s.H fun d H => kn d H s.df) → o.wpIn (FW r) n P a w K' (PostC S w μ (hget s.H) r N B K) := fun h => by
    refine sound_step hC he hr (hr.2 _ (Nat.le_refl _)) (Nat.le_refl _) h r n K' _ fun v w' ⟨S', μ', d, H', hk, hR, hr', t⟩ => ?_
    exact hK S' μ' d H' s.df v w' a.defers hk hR hr' t (hdf.tr hr.1 t) hro
  have call : ∀ {g : Nat} {vs : List Value} {K0 : Res → HL → Prop}, (execOp a.eval o).run P w = .ok (.enter g vs.toArray) w → (∀ x, o.op ≠ .defer x) → Calls P g vs.toArray w (CallPost S w μ s.H K0) → (∀ res H', K0 res H' → vcret K s kn res H') → o.wpIn (FW r) n P a w K' (PostC S w μ (hget s.H) r N B K) := fun {g vs K0} hrun hnd hcalls hK0 => by
    refine ⟨fun _ _ => trivial, ?_⟩
    rw [run_at hnd, hrun, Oper.uponIn_enter]
    refine ⟨fun h => (by cases h), callsIn_FW.2 (hcalls.mono ?_)⟩
    rintro e' w' ⟨S', μ', res, H', k1, k2, k3, k4⟩
    have k1 := hK0 _ _ k1
    cases res with
    | ret d =>
      cases e' with
      | returned v =>
        simp only [vcret_eq, fz_iff, fzh_iff] at k1
        exact hK S' μ' d H' s.df v w' a.defers k1 k2 k3 k4 (hdf.tr hr.1 k4) hro
      | _ => exact k2.elim
    | pan d =>
      cases e' with
      | panicked ch =>
        simp only [vcret_eq, fzh_iff] at k1
        exact ⟨S', μ', _, .panic d, k1, k2, ⟨k3, fun i => (he i).tr hr.1 k4, hN, hdf.tr hr.1 k4, hro⟩, k4⟩
      | _ => exact k2.elim
  rw [vopB_eq] at h
  split at h
  · rename_i x hop
    split at h
    · rename_i t d hd
      have hx := he.ev x
      rw [hd] at hx
      generalize hv : a.eval x = v at hx
      cases hx with
      | iface _ _ u hu =>
        refine ⟨fun _ _ => trivial, ?_⟩
        rw [run_at (fun c e => by rw [hop] at e; cases e)]
        have hrun : (execOp a.eval o).run P w = .halt (.panic (.iface t u)) w := by
          simp [execOp, hop, hv, Instr.panic, goPanic, Sem.run]
        rw [hrun, Oper.uponIn_panic]
        exact ⟨S, μ, s, _, h, ⟨_, rfl, .iface _ _ _ hu⟩, ⟨hr, he, hN, hdf, hro⟩, .refl ..⟩
    · exact h.elim
  · rename_i c hop
    split at h
    · rename_i f hcal
      split at h
      · rename_i hargs
        split at h
        · rename_i df hsd
          split at h
          · rename_i g fs cs hd
            have hf := he.ev f
            rw [hd] at hf
            generalize hv : a.eval f = fv at hf
            have hf' := hf
            cases hf with
            | fn _ _ _ vf vc hl1 hl2 hR1 hR2 =>
              rcases hro with rfl | hro
              · have hargs' : c.args = #[] := by simpa using hargs
                refine ⟨fun _ _ => trivial, ?_⟩
                have hrun : (o.semAt (FW none).round a.eval).run P w = .ok (.defer { target := .fn (.func g) vc, args := vf }) w := by
                  show (o.semAt none a.eval).run P w = _
                  rw [Oper.semAt_none]
                  simp [execOp, hop, resolve, hcal, hv, Deferred.ofValue, hargs']
                rw [hrun, Oper.uponIn_defer]
                rw [hsd] at hdf
                exact hK S μ _ _ _ undef w _ h (.top _) hr (.refl ..) (.fn g fs cs vf vc hf' hdf) (.inl rfl)
              · rw [hsd] at hro; cases hro
          · exact h.elim
        · exact h.elim
      · exact h.elim
    · exact h.elim
  · rename_i c hop
    obtain ⟨callee, args, ats⟩ := c
    split at h
    · rename_i f hcal
      simp only at hcal
      subst hcal
      split at h
      · rename_i g fs cs hd
        split at h
        · rename_i cr hcr
          rw [fzl_iff] at h
          have hs := hC.call g cr hcr
          have hf := he.ev f
          rw [hd] at hf
          generalize hvf : a.eval f = fv at hf
          cases hf with
          | fn _ _ _ vf vc hl1 hl2 hR1 hR2 =>
            have hRL := args_RL (xs := args) he hl1 hl2 hR1 hR2
            have hrun := run_call (P := P) (w := w) hop hvf hs.enters
            exact call (g := g) (vs := (vf ++ args.map a.eval ++ vc).toList) (by rw [Array.toArray_toList]; exact hrun) (fun c e => by rw [hop] at e; cases e) (hs.calls _ _ _ h S w μ _ hr hRL) (fun _ _ h => h)
        · exact step h
      · rename_i o' hd
        split at h
        · rename_i ol hh hy
          cases hq : Nat.beq o' ol with
          | false => rw [hq] at h; exact h.elim
          | true =>
            obtain rfl := Nat.eq_of_beq_eq_true hq
            rw [hq, cond_true, fzl_iff] at h
            have hf := he.ev f
            rw [hd] at hf
            generalize hvf : a.eval f = fv at hf
            cases hf with
            | yld _ l hl =>
              have hRL : RL S w μ (args.toList.map (ev s.e)) (args.map a.eval).toList := by
                have := args_RL (xs := args) (fs := []) (cs := []) (vf := #[]) (vc := #[]) he rfl rfl (fun i d v h => by simp at h) (fun i d v h => by simp at h)
                simpa using this
              obtain ⟨fn, tmps, assign, body, y1, y2⟩ := hC.yld _ _ hy _ _ _ h S w μ _ hT hr hRL l hl
              rw [Array.toArray_toList] at y1
              refine ⟨fun _ _ => trivial, ?_⟩
              rw [run_at (fun c e => by rw [hop] at e; cases e)]
              have hrun : (execOp a.eval o).run P w = .ok (.round l fn tmps assign body) w := by
                simp [execOp, hop, resolve, hvf, Deferred.ofValue, invoke, y1]
              rw [hrun, Oper.uponIn_round]
              refine ⟨fun h => (by cases h), (show RoundIn (FW none) (n - 1) P l fn tmps assign body w _ from RoundIn.mono (y2 (n - 1)) ?_)⟩
              rintro e' w' ⟨S', μ', res, H', k1, k2, k3, k4⟩
              cases res with
              | ret d =>
                cases e' with
                | returned v =>
                  simp only [vcret_eq, fz_iff, fzh_iff] at k1
                  exact hK S' μ' d H' s.df v w' a.defers k1 k2 k3 k4 (hdf.tr hr.1 k4) hro
                | _ => exact k2.elim
              | pan d =>
                cases e' with
                | panicked ch =>
                  simp only [vcret_eq, fzh_iff] at k1
                  exact ⟨S', μ', _, .panic d, k1, k2, ⟨k3, fun i => (he i).tr hr.1 k4, hN, hdf.tr hr.1 k4, hro⟩, k4⟩
                | _ => exact k2.elim
        · exact h.elim
      · exact h.elim
    · exact step h
  · exact step h

theorem sound_ops (hC : CallsOK P C T) {ops : Array Oper} {K : VX → St → Prop} {n : Nat} : ∀ (l : List Oper) (i : Nat) (s : St) (S : Nat → Prop) (w : World) (μ : Mu) (a : Act), ops.toList.drop i = l → RelSt r N B S w μ s a → T S w μ (hget s.H) →
    vops C N ops.toList K l s → wpOpsIn (FW r) n P ops (PostC S w μ (hget s.H) r N B K) (List.range' i l.length) a w
  | [], i, s, S, w, μ, a, _, hst, _, h => ⟨S, μ, s, .normal, h, trivial, hst, .refl ..⟩
  | o :: rest, i, s, S, w, μ, a, hl, hst, hT, h => by
    have hi : ops[i]? = some o := by
      have : (ops.toList.drop i)[0]? = some o := by rw [hl]; rfl
      simpa using this
    have hl' : ops.toList.drop (i + 1) = rest := by
      have : (ops.toList.drop i).drop 1 = rest := by rw [hl]; rfl
      rwa [List.drop_drop] at this
    have hrange : List.range' i (o :: rest).length = i :: List.range' (i + 1) rest.length := by simp [List.range'_succ]
    rw [hrange, wpOpsIn_cons]
    unfold wpOpIn
    simp only [hi]
    have step : ∀ {s' : St}, s'.H = s.H → s'.df = s.df → EnvR S w μ s'.e a → vopsR C N o K (vops C N ops.toList K rest) s' → Region.wanted o (yielded ops a.tmps) = true →
        if Region.wanted o (yielded ops a.tmps) = true then o.wpIn (FW r) n P a w (wpOpsIn (FW r) n P ops (PostC S w μ (hget s.H) r N B K) (List.range' (i + 1) rest.length)) (PostC S w μ (hget s.H) r N B K) else (∀ f, o.about P w a.eval = some f → (FW r).fn f) ∧ wpOpsIn (FW r) n P ops (PostC S w μ (hget s.H) r N B K) (List.range' (i + 1) rest.length) (a.put o.dst undef) w := fun {s'} e1 e2 he h hw => by
      rw [vopsR_eq] at h
      rw [if_pos hw]
      rw [← e1]
      have hst' : RelSt r N B S w μ s' a := ⟨by rw [e1]; exact hst.rel, he, hst.size, by rw [e1, e2]; exact hst.df, by rw [e2]; exact hst.round⟩
      refine sound_opB hC hst' (by rw [e1]; exact hT) h n fun S' μ' d H' df' v w' ds' hk hR hr' t hdf' hro' => ?_
      have he' : EnvR S' w' μ' s'.e { a with defers := ds' } := fun j => (he j).tr hst'.rel.1 t
      obtain ⟨e', hk', he''⟩ := sound_put he' hst.size hR hk
      refine wpOpsIn_mono (fun x a w hq => PostC.from t hq) (sound_ops hC rest (i + 1) ⟨e', H', df'⟩ S' w' μ' _ hl' ⟨hr', he'', by rw [V.Act.put_size]; exact hst.size, by rw [V.Act.put_defers]; exact hdf', hro'⟩ (hC.step _ _ _ _ _ _ _ _ (by rw [e1]; exact hT) t) hk')
    have skip : ∀ {s' : St}, s'.H = s.H → s'.df = s.df → EnvR S w μ s'.e a → vopsS N o (vops C N ops.toList K rest) s' → Region.wanted o (yielded ops a.tmps) = false →
        if Region.wanted o (yielded ops a.tmps) = true then o.wpIn (FW r) n P a w (wpOpsIn (FW r) n P ops (PostC S w μ (hget s.H) r N B K) (List.range' (i + 1) rest.length)) (PostC S w μ (hget s.H) r N B K) else (∀ f, o.about P w a.eval = some f → (FW r).fn f) ∧ wpOpsIn (FW r) n P ops (PostC S w μ (hget s.H) r N B K) (List.range' (i + 1) rest.length) (a.put o.dst undef) w := fun {s'} e1 e2 he h hw => by
      rw [vopsS_eq] at h
      rw [if_neg (by rw [hw]; exact Bool.false_ne_true)]
      refine ⟨fun _ _ => trivial, ?_⟩
      obtain ⟨e', hk', he'⟩ := sound_put he hst.size R_undef h
      have := sound_ops hC (n := n) rest (i + 1) ⟨e', s'.H, s'.df⟩ S w μ (a.put o.dst undef) hl' ⟨by rw [e1]; exact hst.rel, he', by rw [V.Act.put_size]; exact hst.size, by rw [V.Act.put_defers]; simp only [e1, e2]; exact hst.df, by simp only [e2]; exact hst.round⟩ (by rw [e1]; exact hT) hk'
      simpa only [e1] using this
    rw [vops_cons] at h
    have he := hst.env
    rw [vopsB_eq] at h
    split at h
    · rename_i hg
      exact step rfl rfl he h (by simp [Region.wanted, hg])
    · rename_i j want hg
      split at h
      · exact h.elim
      · rename_i g hs
        have hgv := he g
        split at h
        · rename_i hd
          rw [hd] at hgv
          have hv : a.tmps.getD g undef = .bool true := by generalize a.tmps.getD g undef = v at hgv; cases hgv; rfl
          have hw := wanted_of (o := o) hg hs hv
          cases want
          · exact skip rfl rfl he h (by simpa using hw)
          · exact step rfl rfl he h (by simpa using hw)
        · rename_i hd
          rw [hd] at hgv
          have hv : a.tmps.getD g undef = .bool false := by generalize a.tmps.getD g undef = v at hgv; cases hgv; rfl
          have hw := wanted_of (o := o) hg hs hv
          cases want
          · exact step rfl rfl he h (by simpa using hw)
          · exact skip rfl rfl he h (by simpa using hw)
        · rename_i b hd
          rw [hd] at hgv
          have hv : a.tmps.getD g undef = .bool b := by generalize a.tmps.getD g undef = v at hgv; cases hgv; rfl
          have hw := wanted_of (o := o) hg hs hv
          cases hb : b with
          | true =>
            have he1 := he.upd (R_tt_of hgv hb)
            have h1 := h.1 hb
            rw [hb] at hw
            cases want
            · exact skip (s' := ⟨upd s.e g .tt, s.H, s.df⟩) rfl rfl he1 h1 (by simpa using hw)
            · exact step (s' := ⟨upd s.e g .tt, s.H, s.df⟩) rfl rfl he1 h1 (by simpa using hw)
          | false =>
            have he1 := he.upd (R_ff_of hgv hb)
            have h1 := h.2 hb
            rw [hb] at hw
            cases want
            · exact step (s' := ⟨upd s.e g .ff, s.H, s.df⟩) rfl rfl he1 h1 (by simpa using hw)
            · exact skip (s' := ⟨upd s.e g .ff, s.H, s.df⟩) rfl rfl he1 h1 (by simpa using hw)
        · rename_i cs hd
          rw [hd] at hgv
          have hv : ∃ vs, a.tmps.getD g undef = .tuple vs := by generalize a.tmps.getD g undef = v at hgv; cases hgv; exact ⟨_, rfl⟩
          exact skip rfl rfl he h (wanted_no (o := o) hg hs hv)
        · exact h.elim
end
end Go.V
end
section
set_option linter.unusedVariables false
set_option linter.unusedSimpArgs false
namespace Go.V

section det
variable {α β : Type}
theorem Det.of_iff {F : (α → Prop) → Prop} {x : α} (h : ∀ k, F k ↔ k x) : Det F := fun k hk => ⟨x, (h k).1 hk, fun k' hk' => (h k').2 hk'⟩
theorem Det.fls : Det (fun _ : α → Prop => False) := fun _ h => h.elim
theorem Det.ret (x : α) : Det (fun k : α → Prop => k x) := .of_iff fun _ => Iff.rfl
theorem Det.and {F : (α → Prop) → Prop} (p : Prop) (h : Det F) : Det (fun k => p ∧ F k) := fun k ⟨hp, hk⟩ => let ⟨x, h1, h2⟩ := h k hk; ⟨x, h1, fun k' h' => ⟨hp, h2 k' h'⟩⟩
theorem Det.iff {F : (α → Prop) → Prop} (b : Bool) (h : Det F) : Det (fun k => bif b then F k else False) := by
  cases b
  · exact Det.fls
  · exact h
theorem Det.bind {F : (α → Prop) → Prop} {G : α → (β → Prop) → Prop} (h : Det F) (g : ∀ x, Det (G x)) : Det (fun k => F fun x => G x k) := fun k hk => by
  obtain ⟨x, h1, h2⟩ := h _ hk
  obtain ⟨y, h3, h4⟩ := g x k h1
  exact ⟨y, h3, fun k' hk' => h2 _ (h4 k' hk')⟩
theorem Det.map {F : (α → Prop) → Prop} (h : Det F) (f : α → β) : Det (fun k : β → Prop => F fun x => k (f x)) := h.bind (G := fun x k => k (f x)) fun x => .ret _
theorem Det.fz (d : D) : Det (V.fz d) := .of_iff (fz_iff d)
theorem Det.fzl (d : List D) : Det (V.fzl d) := .of_iff (fzl_iff d)
theorem Det.fzp (d : List (Nat × D)) : Det (V.fzp d) := .of_iff (fzp_iff d)
theorem Det.fits (q : IntKind) (n : Int) : Det (V.fits q n) := by
  unfold V.fits
  cases q <;> first | exact .ret _ | exact (Det.ret _).and _
theorem Det.vfill {place : Nat → Option (Nat × Nat)} : ∀ (ps : List (Nat × D)) (cs : List D), Det fun K => vfill place K cs ps
  | [], cs => .ret _
  | (i, d) :: r, cs => by
    simp only [V.vfill_cons, V.vfillB]
    cases place i with
    | none => exact .fls
    | some os => exact (Det.vfill r _).iff _
theorem Det.vbuild (T : Ty) (z : List D) (ps : List (Nat × D)) : Det (V.vbuild T z ps) := by
  unfold V.vbuild
  cases T <;> first | exact Det.fls | exact Det.vfill _ _
theorem Det.vfrom (T : Ty) (n : Nat) (g : Nat → D) : Det (V.vfrom T n g) := by
  unfold V.vfrom
  cases aggSize T with
  | some c => exact ((Det.fzl _).map D.agg).iff _
  | none => exact (Det.fz _).iff _
theorem Det.vload (T : Ty) (d : D) (H : HL) : Det (V.vload T d H) := by
  unfold V.vload
  cases d <;> first | exact Det.fls | exact Det.vfrom _ _ _ | skip
  case ptr o off =>
    simp only
    cases hget H o with
    | none => exact .fls
    | some ob => cases ob with
      | row cs => exact .vfrom _ _ _
      | buf _ _ _ _ => exact .fls
      | mp _ => exact .fls
      | lp _ _ => exact .fls
      | dead => exact .fls
  case optr o n s i j =>
    simp only
    cases hget H o with
    | none => exact .fls
    | some ob => cases ob with
      | row cs => exact .fls
      | mp _ => exact .fls
      | lp _ _ => exact .fls
      | dead => exact .fls
      | buf _ _ _ _ => exact ((Det.vfrom _ _ _).iff _).and _
theorem Det.vfield (T : Ty) (d : D) (f : Nat) : Det (V.vfield T d f) := by
  unfold V.vfield
  cases T <;> first | exact Det.fls | skip
  simp only
  rename_i sz fs
  cases fs[f]? with
  | none => exact .fls
  | some x => cases d <;> first | exact Det.fls | exact .ret _ | exact (Det.ret _).iff _
theorem Det.vidx (T : Ty) (d i : D) (H : HL) : Det (V.vidx T d i H) := by
  unfold V.vidx
  cases i <;> first | exact Det.fls | skip
  cases T <;> first | exact Det.fls | skip
  · cases d <;> first | exact Det.fls | skip
    · exact ((Det.ret _).iff _).and _
    · exact (Det.ret _).and _
  · cases d <;> first | exact Det.fls | skip
    · exact ((Det.ret _).iff _).and _
    · simp only
      rename_i o n
      cases hget H o with
      | none => exact .fls
      | some ob => cases ob with
        | row _ => exact .fls
        | mp _ => exact .fls
        | lp _ _ => exact .fls
        | dead => exact .fls
        | buf _ _ _ _ => exact ((Det.ret _).iff _).and _
theorem Det.vindex (C : Cx) (T : Ty) (d i : D) : Det (V.vindex C T d i) := by
  unfold V.vindex
  cases i <;> first | exact Det.fls | skip
  cases T <;> first | exact Det.fls | skip
  · cases d <;> first | exact Det.fls | exact (Det.ret _).and _
  · simp only
    split
    · exact ((Det.ret _).and _).iff _
    · exact .fls
theorem Det.vslice (T : Ty) (d : D) (lo hi : Option D) : Det (V.vslice T d lo hi) := by
  unfold V.vslice
  split
  · split
    · exact ((Det.ret _).iff _).and _
    · exact .fls
  · exact .fls
theorem Det.vbin (op : BinOp) (x y : D) : Det (V.vbin op x y) := by
  cases op <;> unfold V.vbin <;> simp only
  case eql => cases deq x y <;> first | exact .fls | exact .ret _
  case neq => cases deq x y <;> first | exact .fls | exact .ret _
  all_goals
    cases x <;> first | exact Det.fls | skip
    cases y <;> first | exact Det.fls | skip
    simp only
    first
      | exact ((Det.fits _ _).and _).iff _
      | exact ((Det.ret _).and _).iff _
      | exact (Det.fits _ _).iff _
      | exact (Det.ret _).iff _
      | exact (Det.fits _ _).and _
      | exact (Det.ret _).and _
      | exact Det.fls.iff _
theorem Det.vbo (C : Cx) (t : Nat) (op : BinOp) (x y : D) : Det (V.vbo C t op x y) := by
  unfold V.vbo
  split
  · unfold V.veqop
    split
    · split
      · split <;> first | exact .ret _ | exact .fls
      · split <;> first | exact .ret _ | exact .fls
      · exact .fls
    · exact .fls
  · exact (Det.vbin _ _ _).iff _
theorem Det.vconv (C : Cx) (s t : Ty) (d : D) (H : HL) : Det (V.vconv C s t d H) := by
  unfold V.vconv
  split
  · split
    · exact .fits _ _
    · exact .fls
  · split
    · exact .ret _
    · exact .fls
  · split
    · split
      · exact (Det.ret _).and _
      · split
        · exact (Det.ret _).and _
        · exact .fls
      · exact .ret _
      · exact .fls
    · exact .fls
  · exact .fls
theorem Det.vmap (T : Ty) (m : D) (H : HL) {γ : Type} {G : Nat → Mp → (γ → Prop) → Prop} (h : ∀ o M, Det (G o M)) : Det fun k => V.vmap T m H fun o M => G o M k := by
  unfold V.vmap
  cases T <;> simp only <;> try exact Det.fls
  cases m <;> simp only <;> try exact Det.fls
  rename_i o
  cases hget H o with
  | none => exact .fls
  | some ob => cases ob <;> simp only <;> first | exact Det.fls | exact (h _ _).iff _
theorem Det.rngL {γ : Type} {F : (γ → Prop) → Prop} (h : Det F) : ∀ cs, Det fun k => V.rngL cs (F k)
  | [] => h
  | d :: r => (Det.rngL h r).and _
theorem Det.vkey (ks : KS) (d : D) {γ : Type} {G : Value → (γ → Prop) → Prop} (h : ∀ v, Det (G v)) : Det fun k => V.vkey ks d fun v => G v k := by
  unfold V.vkey
  cases ks <;> cases d <;> simp only <;> first
    | exact Det.fls
    | exact (h _).and _
    | exact ((h _).and _).iff _
    | exact (Det.rngL (h _) _).iff _
theorem Det.velem (ek : EK) (d : D) {γ : Type} {G : (Nat → Int) → (γ → Prop) → Prop} (h : ∀ v, Det (G v)) : Det fun k => V.velem ek d fun v => G v k := by
  unfold V.velem
  cases ek <;> cases d <;> simp only <;> first
    | exact Det.fls
    | exact h _
    | exact (h _).iff _
theorem Det.fza (d : D) : Det (V.fza d) := .of_iff (fza_iff d)
theorem Det.vlookup (T : Ty) (m key : D) (ok : Bool) (H : HL) : Det (V.vlookup T m key ok H) := by
  unfold V.vlookup
  exact .vmap _ _ _ fun o M => .vkey _ _ fun v => by cases ok <;> exact .ret _
theorem Det.vbuiltin (C : Cx) (b : Builtin) (ts : List Nat) (ty : Nat) (ds : List D) (H : HL) : Det (V.vbuiltin C b ts ty ds H) := by
  unfold V.vbuiltin
  split
  · split
    · split
      · split
        · exact .ret _
        · split
          · exact (Det.ret _).and _
          · exact .fls
        · exact .ret _
        · exact .fls
      · split
        · exact .ret _
        · exact .fls
      · exact .vmap _ _ _ fun _ _ => .ret _
      · exact .fls
    · exact .fls
  · exact (Det.ret _).iff _
  · exact (Det.ret _).iff _
  · exact .fls

theorem Det.vrd (C : Cx) (o : Oper) (e : Env) (H : HL) : Det (V.vrd C o e H) := by
  unfold V.vrd
  cases o.op <;> (try simp only) <;> (try exact Det.fls)
  case move x => exact .fz _
  case assign x => exact .fz _
  case pick c a b => cases ev e c <;> first | exact Det.fls | exact .fz _
  case build t ps => cases C.zero t with
    | none => exact .fls
    | some z => exact (Det.fzp _).bind fun ps => (Det.vbuild _ _ _).bind (G := fun cs (k : D → Prop) => V.fzl cs fun cs => k (D.agg cs)) fun cs => (Det.fzl _).map D.agg
  case load t x => exact .vload _ _ _
  case nilCheck x => cases ev e x <;> first | exact Det.fls | exact .ret _
  case binOp op t x y yt => exact .vbo _ _ _ _ _
  case index t x i => exact .vindex _ _ _ _
  case slice t x lo hi mx =>
    cases mx <;> first | exact Det.fls | exact .vslice _ _ _ _
  case unOp op t x => cases op <;> cases ev e x <;> first | exact Det.fls | exact .ret _ | exact .fits _ _
  case convert s t x => exact .vconv _ _ _ _ _
  case makeFunc f fs cs => cases f <;> first | exact Det.fls | exact (Det.fzl _).bind fun fs => (Det.fzl _).map _
  case fieldAddr t x f => exact .vfield _ _ _
  case indexAddr t x i => exact .vidx _ _ _ _
  case makeInterface t x => exact ((Det.fz _).map _).iff _
  case typeAssert x xt t ok =>
    cases ok <;> simp only <;> try exact Det.fls
    refine Det.iff _ ?_
    cases ev e x <;> simp only <;> first | exact Det.fls | exact (Det.fz _).iff _
  case lookup t x i ok => exact (Det.vlookup _ _ _ _ _).bind fun d => .fza d
  case extract x i =>
    cases ev e x <;> simp only <;> try exact Det.fls
    rename_i l
    cases l[i]? with
    | none => exact .fls
    | some d => exact .fz _
  case call c =>
    cases c.callee <;> simp only <;> try exact Det.fls
    exact (Det.fzl _).bind fun ds => .vbuiltin _ _ _ _ _ _

theorem Det.view (H : HL) (d : D) : Det (V.view H d) := by
  unfold V.view
  cases d <;> simp only <;> try exact .fz _
  case own o n =>
    cases hget H o with
    | none => exact .fls
    | some ob => cases ob with
      | row _ => exact .fls
      | mp _ => exact .fls
      | lp _ _ => exact .fls
      | dead => exact .fls
      | buf _ _ _ _ => exact (Det.ret _).and _
  case ptr o off =>
    cases hget H o with
    | none => exact .fls
    | some ob => cases ob with
      | row _ => exact .ret _
      | buf _ _ _ _ => exact .fls
      | mp _ => exact .fls
      | lp _ _ => exact .fls
      | dead => exact .fls
theorem Det.viewl (H : HL) : ∀ ds, Det (V.viewl H ds)
  | [] => .ret _
  | d :: r => (Det.view H d).bind fun d => (Det.viewl H r).map _
theorem Det.viewa (H : HL) (d : D) : Det (V.viewa H d) := by
  unfold V.viewa
  cases d <;> simp only <;> try exact .view H _
  case agg cs => exact (Det.viewl H cs).map _
  case fn f fs cs => exact (Det.viewl H fs).bind fun fs => (Det.viewl H cs).map _
theorem Det.viewal (H : HL) : ∀ ds, Det (V.viewal H ds)
  | [] => .ret _
  | d :: r => (Det.viewa H d).bind fun d => (Det.viewal H r).map _
theorem Det.vcallp {r : PRule} (hr : ∀ ds, Det (r ds)) (ds : List D) (H : HL) : Det (V.vcallp r ds H) := by
  unfold V.vcallp
  cases ds.all noRef with
  | true => exact (hr ds).bind fun d => .fz d
  | false => exact (Det.viewal H ds).bind fun ds => ((hr ds).bind fun d => (Det.fz d).bind fun d => (Det.ret d).iff _).iff _

theorem Det.vsr {P : Program} {C : Cx} {T : RT} (hC : CallsOK P C T) (o : Oper) (e : Env) (H : HL) : Det (V.vsr C o e H) := by
  unfold V.vsr
  split
  · split
    · split
      · rename_i g fs cs hd
        cases hp : C.pure g with
        | none => exact .fls
        | some r => exact (Det.fzl _).bind fun ds => .vcallp (hC.pure g r hp).det _ _
      · exact .fls
    · exact .vrd _ _ _ _
  · exact .vrd _ _ _ _

/-- A writer's value and heap are one thing. -/
def Det2 (F : (D → HL → Prop) → Prop) : Prop := ∀ k, F k → ∃ d H, k d H ∧ ∀ k', k' d H → F k'
theorem Det.vstore (T : Ty) (d x : D) (H : HL) : Det (V.vstore T d x H) := by
  unfold V.vstore
  refine Det.iff _ ?_
  cases d <;> simp only <;> try exact Det.fls
  · rename_i o off
    cases hget H o with
    | none => exact .fls
    | some ob => cases ob with
      | row cs => exact (Det.ret _).iff _
      | buf _ _ _ _ => exact .fls
      | mp _ => exact .fls
      | lp _ _ => exact .fls
      | dead => exact .fls
  · rename_i o n s i j
    cases hget H o with
    | none => exact .fls
    | some ob => cases ob with
      | row cs => exact .fls
      | mp _ => exact .fls
      | lp _ _ => exact .fls
      | dead => exact .fls
      | buf _ _ _ _ => exact ((Det.ret _).and _).iff _
theorem Det2.fls : Det2 fun _ => False := fun _ h => h.elim
theorem Det2.vsrc {es : Nat} {H : HL} {x : D} {K : Nat → (Nat → Nat → D) → Prop} (h : V.vsrc es H x K) : ∃ m gx, K m gx ∧ ∀ K' : Nat → (Nat → Nat → D) → Prop, K' m gx → V.vsrc es H x K' := by
  cases x <;> first | exact h.elim | skip
  · rename_i s' m g
    simp only [V.vsrc] at h ⊢
    cases hs : Nat.beq s' es with
    | false => rw [hs] at h; exact h.elim
    | true => rw [hs] at h; exact ⟨m, g, h.2, fun K' hK => ⟨h.1, hK⟩⟩
  · rename_i o m
    simp only [V.vsrc] at h ⊢
    cases ho : hget H o with
    | none => rw [ho] at h; exact h.elim
    | some ob => cases ob with
      | row _ => rw [ho] at h; exact h.elim
      | mp _ => rw [ho] at h; exact h.elim
      | lp _ _ => rw [ho] at h; exact h.elim
      | dead => rw [ho] at h; exact h.elim
      | buf e' s' m' g =>
        rw [ho] at h
        simp only at h ⊢
        cases hs : Nat.beq s' es with
        | false => rw [hs] at h; exact h.elim
        | true => rw [hs] at h; exact ⟨m, g, h.2, fun K' hK => ⟨h.1, hK⟩⟩
theorem Det2.vappend (T : Ty) (nid : Nat) (s x : D) (H : HL) : Det2 (V.vappend T nid s x H) := by
  intro k h
  cases T <;> first | exact h.elim | skip
  rename_i el es eb
  obtain ⟨m, gx, h2, h1⟩ := Det2.vsrc h
  cases s <;> first | exact h2.elim | skip
  · rename_i o n
    simp only at h2
    cases ho : hget H o with
    | none => rw [ho] at h2; exact h2.elim
    | some ob => cases ob with
      | row _ => rw [ho] at h2; exact h2.elim
      | mp _ => rw [ho] at h2; exact h2.elim
      | lp _ _ => rw [ho] at h2; exact h2.elim
      | dead => rw [ho] at h2; exact h2.elim
      | buf e s0 n0 g =>
        rw [ho] at h2
        simp only at h2
        cases hq : (Nat.beq e el && Nat.beq s0 es && Nat.blt 0 eb && ownNe x o) with
        | false => rw [hq] at h2; exact h2.elim
        | true =>
          rw [hq] at h2
          exact ⟨_, _, h2.2, fun k' hk' => h1 _ (by simp only; rw [ho]; simp only; rw [hq]; exact ⟨h2.1, hk'⟩)⟩
  · simp only at h2
    cases hq : Nat.blt 0 eb with
    | false => rw [hq] at h2; exact h2.elim
    | true =>
      rw [hq] at h2
      exact ⟨_, _, h2.2, fun k' hk' => h1 _ (by simp only; rw [hq]; exact ⟨h2.1, hk'⟩)⟩
theorem Det2.vwr (C : Cx) (nid : Nat) (o : Oper) (e : Env) (H : HL) : Det2 (V.vwr C nid o e H) := by
  have of : ∀ {F : (D × HL → Prop) → Prop}, Det F → ∀ k : D → HL → Prop, F (fun p => k p.1 p.2) → ∃ d H, k d H ∧ ∀ k' : D → HL → Prop, k' d H → F (fun p => k' p.1 p.2) := fun h k hk => by
    obtain ⟨⟨d, H⟩, h1, h2⟩ := h _ hk
    exact ⟨d, H, h1, fun k' h' => h2 _ h'⟩
  intro k
  unfold V.vwr
  cases o.op <;> (try simp only) <;> (try exact fun h => h.elim)
  case alloc t =>
    cases C.zero t with
    | none => exact fun h => h.elim
    | some cs => exact fun h => ⟨_, _, h, fun k' h' => h'⟩
  case box t x => exact of (F := fun k => V.fz (ev e x) fun d => bif (cellsD d).all one then k (.ptr nid 0, hnew H nid (.row (cellsD d))) else False) ((Det.fz _).bind fun d => (Det.ret _).iff _) k
  case buildSlice t len ps =>
    cases C.ty t <;> simp only <;> try exact fun h => h.elim
    rename_i el es eb
    exact of (F := fun k => bif Nat.ble (len * es) 16777216 && Nat.ble len 16777216 then V.fzp (evs e ps) fun ps => V.vfill (fun i => some (i * es, es)) (fun cs => V.fzl cs fun cs =>
        bif cs.all okb && Nat.beq cs.length (len * es) then k (.own nid len, hnew H nid (.buf el es len fun i j => cs.getD (i * es + j) .top)) else False) (List.replicate (len * es) .top) ps else False)
      (Det.iff _ ((Det.fzp (evs e ps)).bind fun ps => (Det.vfill (place := fun i => some (i * es, es)) ps (List.replicate (len * es) .top)).bind (G := fun cs (k : D × HL → Prop) => V.fzl cs fun cs => bif cs.all okb && Nat.beq cs.length (len * es) then k (D.own nid len, hnew H nid (.buf el es len fun i j => cs.getD (i * es + j) D.top)) else False)
        fun cs => (Det.fzl _).bind fun cs => (Det.ret _).iff _)) k
  case makeMap t r =>
    cases r <;> simp only <;> try exact fun h => h.elim
    unfold V.vmakeMap
    cases C.ty t <;> simp only <;> first | exact fun h => h.elim | exact fun h => ⟨_, _, h, fun k' h' => h'⟩
  case mapEntry t m x => exact of (F := fun k => V.vmapEntry (C.ty t) (ev e m) (ev e x) H fun d H => k (d, H)) (.vmap _ _ _ fun o M => .vkey _ _ fun v => .ret _) k
  case entryStore t m x y => exact of (F := fun k => V.ventryStore (C.ty t) (ev e m) (ev e x) (ev e y) H fun d H => k (d, H)) (.vmap _ _ _ fun o M => by
    cases ev e x <;> simp only <;> first | exact Det.fls | exact (Det.velem _ _ fun g => (Det.ret _).and _).iff _) k
  case mapUpdate t m x y => exact of (F := fun k => V.vmapUpdate (C.ty t) (ev e m) (ev e x) (ev e y) H fun d H => k (d, H)) (.vmap _ _ _ fun o M => .vkey _ _ fun v => .velem _ _ fun g => .ret _) k
  case insert t m x y => exact of (F := fun k => V.vmapUpdate (C.ty t) (ev e m) (ev e x) (ev e y) H fun d H => k (d, H)) (.vmap _ _ _ fun o M => .vkey _ _ fun v => .velem _ _ fun g => .ret _) k
  case store t x y => exact of (F := fun k => V.fz (ev e y) fun d => V.vstore (C.ty t) (ev e x) d H fun H => k (.top, H)) ((Det.fz _).bind fun d => (Det.vstore _ _ _ _).map _) k
  case call c =>
    intro h
    split at h
    · split at h
      · rename_i s x t t' hargs hats
        cases hq : Nat.beq t t' with
        | false => rw [hq] at h; exact h.elim
        | true =>
          rw [hq] at h
          obtain ⟨d, H', h1, h2⟩ := Det2.vappend _ _ _ _ _ _ h
          exact ⟨d, H', h1, fun k' hk' => h2 k' hk'⟩
      · exact h.elim
    · exact h.elim
end det
end Go.V
end
section
set_option linter.unusedVariables false
set_option linter.unusedSimpArgs false
namespace Go.V

section
variable {H H' : HL}
theorem vload_congr (h : hget H = hget H') (T : Ty) (d : D) (k : D → Prop) : vload T d H k = vload T d H' k := by cases d <;> simp only [vload, h]
theorem vidx_congr (h : hget H = hget H') (T : Ty) (d i : D) (k : D → Prop) : vidx T d i H k = vidx T d i H' k := by
  cases i <;> simp only [vidx]
  cases T <;> simp only
  cases d <;> simp only [h]
theorem vconv_congr (h : hget H = hget H') (C : Cx) (s t : Ty) (d : D) (k : D → Prop) : vconv C s t d H k = vconv C s t d H' k := by
  unfold vconv
  rw [h]
theorem vmap_congr (h : hget H = hget H') (T : Ty) (m : D) (k : Nat → Mp → Prop) : vmap T m H k = vmap T m H' k := by
  unfold vmap
  rw [h]
theorem vlookup_congr (h : hget H = hget H') (T : Ty) (m x : D) (ok : Bool) (k : D → Prop) : vlookup T m x ok H k = vlookup T m x ok H' k := by
  unfold vlookup
  rw [vmap_congr h]
theorem vbuiltin_congr (h : hget H = hget H') (C : Cx) (b : Builtin) (ts : List Nat) (ty : Nat) (ds : List D) (k : D → Prop) : vbuiltin C b ts ty ds H k = vbuiltin C b ts ty ds H' k := by
  have e : ∀ T d (K : Nat → Mp → Prop), vmap T d H K = vmap T d H' K := fun T d K => vmap_congr h T d K
  unfold vbuiltin
  simp only [h, e]
theorem vrd_congr (h : hget H = hget H') (C : Cx) (o : Oper) (e : Env) (k : D → Prop) : vrd C o e H k = vrd C o e H' k := by
  have e1 : ∀ T d (K : D → Prop), vload T d H K = vload T d H' K := fun T d K => vload_congr h T d K
  have e2 : ∀ T d i (K : D → Prop), vidx T d i H K = vidx T d i H' K := fun T d i K => vidx_congr h T d i K
  have e3 : ∀ s t d (K : D → Prop), vconv C s t d H K = vconv C s t d H' K := fun s t d K => vconv_congr h C s t d K
  have e4 : ∀ T m x ok (K : D → Prop), vlookup T m x ok H K = vlookup T m x ok H' K := fun T m x ok K => vlookup_congr h T m x ok K
  have e5 : ∀ b ts ty ds (K : D → Prop), vbuiltin C b ts ty ds H K = vbuiltin C b ts ty ds H' K := fun b ts ty ds K => vbuiltin_congr h C b ts ty ds K
  unfold vrd
  simp only [e1, e2, e3, e4, e5]
theorem hide_congr (h : hget H = hget H') (d : D) : hide H d = hide H' d := by
  unfold hide
  rw [h]
theorem view_congr (h : hget H = hget H') (d : D) (k : D → Prop) : view H d k = view H' d k := by
  have e : hide H = hide H' := funext fun d => hide_congr h d
  unfold view
  rw [h, e]
theorem viewl_congr (h : hget H = hget H') : ∀ (l : List D) (k : List D → Prop), viewl H l k = viewl H' l k
  | [], k => rfl
  | d :: r, k => by
    show view H d (fun d => viewl H r fun r => k (d :: r)) = view H' d (fun d => viewl H' r fun r => k (d :: r))
    rw [view_congr h]
    congr 1
    funext d
    exact viewl_congr h r _
theorem viewa_congr (h : hget H = hget H') (d : D) (k : D → Prop) : viewa H d k = viewa H' d k := by
  have e : ∀ l (K : List D → Prop), viewl H l K = viewl H' l K := fun l K => viewl_congr h l K
  cases d <;> simp only [viewa, e] <;> exact view_congr h _ _
theorem viewal_congr (h : hget H = hget H') : ∀ (l : List D) (k : List D → Prop), viewal H l k = viewal H' l k
  | [], k => rfl
  | d :: r, k => by
    show viewa H d (fun d => viewal H r fun r => k (d :: r)) = viewa H' d (fun d => viewal H' r fun r => k (d :: r))
    rw [viewa_congr h]
    congr 1
    funext d
    exact viewal_congr h r _
theorem vsr_congr (h : hget H = hget H') (C : Cx) (o : Oper) (e : Env) (k : D → Prop) : vsr C o e H k = vsr C o e H' k := by
  have e1 : ∀ (K : D → Prop), vrd C o e H K = vrd C o e H' K := fun K => vrd_congr h C o e K
  have e2 : ∀ l (K : List D → Prop), viewal H l K = viewal H' l K := fun l K => viewal_congr h l K
  have e3 : ∀ r ds (K : D → Prop), vcallp r ds H K = vcallp r ds H' K := fun r ds K => by unfold vcallp; rw [e2]
  unfold vsr
  simp only [e1, e3]

def pad (q : Nat) (H : HL) : HL := H ++ List.replicate q none
theorem pad_get (q : Nat) (H : HL) : hget (pad q H) = hget H := by
  funext o
  unfold hget pad
  simp only [List.getD_eq_getElem?_getD, List.getElem?_append]
  split
  · rfl
  · rename_i h
    rw [List.getElem?_eq_none (l := H) (by omega)]
    simp only [List.getElem?_replicate]
    split <;> rfl
theorem pad_len (q : Nat) (H : HL) : (pad q H).length = H.length + q := by simp [pad]
theorem pad_set {q : Nat} {H : HL} {o : Nat} (h : o < H.length) (x : Option Ob) : (pad q H).set o x = pad q (H.set o x) := by
  unfold pad
  rw [List.set_append, if_pos h]
theorem pad_new {q : Nat} {H : HL} {o : Nat} (h : o < H.length) (x : Ob) : hnew (pad q H) o x = pad q (hnew H o x) := by
  unfold hnew
  have h1 : Nat.blt o H.length = true := (blt_iff _ _).2 h
  have h2 : Nat.blt o (pad q H).length = true := (blt_iff _ _).2 (by rw [pad_len]; omega)
  rw [h1, h2, cond_true, cond_true, pad_set h]

theorem vstore_pad {T : Ty} {d x : D} {q : Nat} {k k' : HL → Prop} (hk : ∀ H', k H' → k' (pad q H')) (h : vstore T d x H k) : vstore T d x (pad q H) k' := by
  unfold vstore at h ⊢
  rw [pad_get]
  cases hq : ((cellsD x).all one && Nat.beq (cellsD x).length (tsz T) && T.known) with
  | false => rw [hq] at h; exact h.elim
  | true =>
    rw [hq] at h
    simp only [cond_true] at h ⊢
    cases d <;> simp only at h ⊢
    · rename_i o off
      cases ho : hget H o with
      | none => rw [ho] at h; exact h.elim
      | some ob =>
        rw [ho] at h
        cases ob <;> simp only at h ⊢
        rename_i cs
        cases hb : Nat.ble (off + (cellsD x).length) cs.length with
        | false => rw [hb] at h; exact h.elim
        | true =>
          rw [hb] at h
          simp only [cond_true] at h ⊢
          rw [pad_set (lt_of_hget ho)]
          exact hk _ h
    · rename_i o n s i j
      cases ho : hget H o with
      | none => rw [ho] at h; exact h.elim
      | some ob =>
        rw [ho] at h
        cases ob <;> simp only at h ⊢
        rename_i e size m g
        cases hb : (Nat.beq s size && Nat.ble (j + (cellsD x).length) s && (cellsD x).all okb) with
        | false => rw [hb] at h; exact h.elim
        | true =>
          rw [hb] at h
          simp only [cond_true] at h ⊢
          rw [pad_set (lt_of_hget ho)]
          exact ⟨h.1, hk _ h.2⟩

theorem vmap_pad {T : Ty} {m : D} {q : Nat} {k k' : Nat → Mp → Prop} (hk : ∀ o M, o < H.length → k o M → k' o M) (h : vmap T m H k) : vmap T m (pad q H) k' := by
  unfold vmap at h ⊢
  rw [pad_get]
  cases T <;> simp only at h ⊢
  cases m <;> simp only at h ⊢
  rename_i o
  cases ho : hget H o with
  | none => rw [ho] at h; exact h.elim
  | some ob =>
    rw [ho] at h
    cases ob <;> simp only at h ⊢
    rename_i ks ek _ _ M
    cases hq : (ksEq M.ks ks && ekEq M.ek ek) with
    | false => rw [hq] at h; exact h.elim
    | true => rw [hq] at h; exact hk _ _ (lt_of_hget ho) h
theorem vkey_mono {ks : KS} {d : D} {k k' : Value → Prop} (hk : ∀ v, k v → k' v) (h : vkey ks d k) : vkey ks d k' := by
  unfold vkey at h ⊢
  cases ks <;> cases d <;> simp only at h ⊢
  · exact ⟨h.1, hk _ h.2⟩
  · rename_i q _ n
    cases hq : (keq _ _ && keq q .i64) with
    | false => rw [hq] at h; exact h.elim
    | true => rw [hq] at h; exact ⟨h.1, hk _ h.2⟩
  · rename_i m cs
    cases hq : (cs.all isI64 && Nat.beq cs.length m) with
    | false => rw [hq] at h; exact h.elim
    | true =>
      rw [hq] at h
      simp only [cond_true, rngL_iff] at h ⊢
      exact ⟨h.1, hk _ h.2⟩
theorem velem_mono {ek : EK} {d : D} {k k' : (Nat → Int) → Prop} (hk : ∀ v, k v → k' v) (h : velem ek d k) : velem ek d k' := by
  unfold velem at h ⊢
  cases ek <;> cases d <;> simp only at h ⊢ <;> try exact hk _ h
  rename_i m cs
  cases hq : (cs.all isI64 && Nat.beq cs.length m) with
  | false => rw [hq] at h; exact h.elim
  | true => rw [hq] at h; exact hk _ h
theorem vsrc_congr (h : hget H = hget H') (es : Nat) (x : D) (k : Nat → (Nat → Nat → D) → Prop) : vsrc es H x k = vsrc es H' x k := by
  unfold vsrc
  rw [h]
theorem vsrc_mono {es : Nat} {x : D} {k k' : Nat → (Nat → Nat → D) → Prop} (hk : ∀ m g, k m g → k' m g) (h : vsrc es H x k) : vsrc es H x k' := by
  obtain ⟨m, gx, h1, h2⟩ := Det2.vsrc h
  exact h2 _ (hk _ _ h1)
theorem vappend_pad {T : Ty} {nid : Nat} {s x : D} {q : Nat} {k k' : D → HL → Prop} (hn : nid < H.length) (hk : ∀ d H', k d H' → k' d (pad q H')) (h : vappend T nid s x H k) : vappend T nid s x (pad q H) k' := by
  unfold vappend at h ⊢
  cases T <;> simp only at h ⊢
  rename_i el es eb
  rw [vsrc_congr (pad_get q H)]
  refine vsrc_mono (fun m gx h2 => ?_) h
  clear h
  have h := h2
  clear h2
  cases s <;> simp only at h ⊢
  · rename_i o n
    rw [pad_get]
    cases ho : hget H o with
    | none => rw [ho] at h; exact h.elim
    | some ob =>
      rw [ho] at h
      cases ob <;> simp only at h ⊢
      rename_i e s0 n0 g
      cases hq : (Nat.beq e el && Nat.beq s0 es && Nat.blt 0 eb && ownNe x o) with
      | false => rw [hq] at h; exact h.elim
      | true =>
        rw [hq] at h
        simp only [cond_true] at h ⊢
        rw [pad_set (lt_of_hget ho)]
        exact ⟨h.1, hk _ _ h.2⟩
  · cases hq : Nat.blt 0 eb with
    | false => rw [hq] at h; exact h.elim
    | true =>
      rw [hq] at h
      simp only [cond_true] at h ⊢
      rw [pad_new hn]
      exact ⟨h.1, hk _ _ h.2⟩

/-- A writer, on a longer list. -/
theorem vwr_pad {C : Cx} {nid : Nat} {o : Oper} {e : Env} {q : Nat} {k k' : D → HL → Prop} (hn : nid < H.length) (hk : ∀ d H', k d H' → k' d (pad q H')) (h : vwr C nid o e H k) : vwr C nid o e (pad q H) k' := by
  unfold vwr at h ⊢
  cases hop : o.op <;> simp only [hop] at h ⊢
  case alloc t =>
    cases hz : C.zero t with
    | none => rw [hz] at h; exact h.elim
    | some cs => rw [hz] at h; simp only at h ⊢; rw [pad_new hn]; exact hk _ _ h
  case box t x =>
    rw [fz_iff] at h ⊢
    cases h1 : (cellsD (ev e x)).all one with
    | false => rw [h1] at h; exact h.elim
    | true => rw [h1] at h; simp only [cond_true] at h ⊢; rw [pad_new hn]; exact hk _ _ h
  case buildSlice t len ps =>
    cases hT : C.ty t <;> rw [hT] at h <;> simp only at h ⊢
    rename_i el es eb
    cases hq0 : (Nat.ble (len * es) 16777216 && Nat.ble len 16777216) with
    | false => rw [hq0] at h; exact h.elim
    | true =>
      rw [hq0] at h
      simp only [cond_true, fzp_iff] at h ⊢
      obtain ⟨cs, h1, h2⟩ := Det.vfill (place := fun i => some (i * es, es)) (evs e ps) (List.replicate (len * es) .top) _ h
      refine h2 _ ?_
      rw [fzl_iff] at h1 ⊢
      cases hq : (cs.all okb && Nat.beq cs.length (len * es)) with
      | false => rw [hq] at h1; exact h1.elim
      | true => rw [hq] at h1; simp only [cond_true] at h1 ⊢; rw [pad_new hn]; exact hk _ _ h1
  case store t x y =>
    rw [fz_iff] at h ⊢
    exact vstore_pad (fun H' h => hk _ _ h) h
  case makeMap t r =>
    cases r <;> simp only at h ⊢
    unfold vmakeMap at h ⊢
    cases hT : C.ty t <;> rw [hT] at h <;> simp only at h ⊢
    rw [pad_new hn]
    exact hk _ _ h
  case mapEntry t m x => exact vmap_pad (fun o M ho h => vkey_mono (fun v h => by rw [pad_set ho]; exact hk _ _ h) h) h
  case entryStore t m x y =>
    refine vmap_pad (fun o M ho h => ?_) h
    cases hs : ev e x <;> rw [hs] at h <;> simp only at h ⊢
    cases hq : Nat.beq _ o with
    | false => rw [hq] at h; exact h.elim
    | true =>
      rw [hq] at h
      simp only [cond_true] at h ⊢
      exact velem_mono (fun g h => by rw [pad_set ho]; exact ⟨h.1, hk _ _ h.2⟩) h
  case mapUpdate t m x y => exact vmap_pad (fun o M ho h => vkey_mono (fun v h => velem_mono (fun g h => by rw [pad_set ho]; exact hk _ _ h) h) h) h
  case insert t m x y => exact vmap_pad (fun o M ho h => vkey_mono (fun v h => velem_mono (fun g h => by rw [pad_set ho]; exact hk _ _ h) h) h) h
  case call c =>
    split at h
    · split at h
      · rename_i s x t t' hargs hats
        cases hq : Nat.beq t t' with
        | false => rw [hq] at h; exact h.elim
        | true =>
          rw [hq] at h
          simp only [cond_true] at h
          have := vappend_pad hn hk h
          simp only [*, cond_true]
      · exact h.elim
    · exact h.elim
end
end Go.V
end
section
set_option linter.unusedVariables false
set_option linter.unusedSimpArgs false
namespace Go.V

/-- What is found by computing alone. -/
def KOK (b : Bool) : Prop := b = true
theorem kok {b : Bool} (h : b = true) : KOK b := h
def KEq {α : Type} (a b : α) : Prop := a = b
theorem keq_mk {α : Type} {a b : α} (h : a = b) : KEq a b := h
def gate (b : Bool) (X : Prop) : Prop := KOK b ∧ X
theorem gate_eq (b : Bool) (X : Prop) : gate b X = (bif b then X else False) := by cases b <;> simp [gate, KOK]
def memB (i : Nat) : List Nat → Bool
  | [] => false
  | j :: r => bif Nat.beq i j then true else memB i r
theorem memB_iff (i : Nat) : ∀ l, memB i l = true ↔ i ∈ l
  | [] => by simp [memB]
  | j :: r => by
    simp only [memB, List.mem_cons]
    cases h : Nat.beq i j with
    | true => obtain rfl := Nat.eq_of_beq_eq_true h; simp
    | false =>
      have : i ≠ j := fun e => by subst e; rw [Nat.beq_refl] at h; cases h
      simp [this, memB_iff i r]

def resE (l : List Nat) (e : Env) : Env := fun j => bif memB j l then e j else .top
def resH (fp : List Nat) : Nat → HL → HL
  | _, [] => []
  | i, x :: r => (bif memB i fp then x else none) :: resH fp (i + 1) r
def mergeH (ws : List Nat) : Nat → HL → HL → HL
  | _, [], _ => []
  | _, _ :: _, [] => []
  | i, x :: r, y :: s => (bif memB i ws then y else x) :: mergeH ws (i + 1) r s
def keysOK (l : List Nat) : Nat → HL → Bool
  | _, [] => true
  | i, none :: r => keysOK l (i + 1) r
  | i, some _ :: r => memB i l && keysOK l (i + 1) r
def lenEq : HL → HL → Bool
  | [], [] => true
  | _ :: r, _ :: s => lenEq r s
  | _, _ => false
def allSome (H : HL) : List Nat → Bool
  | [] => true
  | i :: r => (match hget H i with | some _ => true | none => false) && allSome H r

theorem resH_get (fp : List Nat) : ∀ (H : HL) (i o : Nat), (resH fp i H).getD o none = bif memB (i + o) fp then H.getD o none else none
  | [], i, o => by simp [resH]
  | x :: r, i, 0 => by simp [resH]
  | x :: r, i, o + 1 => by
    have := resH_get fp r (i + 1) o
    simp only [resH, List.getD_cons_succ]
    rw [this, show i + 1 + o = i + (o + 1) by omega]
theorem resH_len (fp : List Nat) : ∀ (H : HL) (i : Nat), (resH fp i H).length = H.length
  | [], i => rfl
  | x :: r, i => by simp [resH, resH_len fp r]
theorem lenEq_len : ∀ {H H' : HL}, lenEq H H' = true → H'.length = H.length
  | [], [], _ => rfl
  | x :: r, y :: s, h => by simp [lenEq_len (H := r) (H' := s) (by simpa [lenEq] using h)]
  | [], _ :: _, h => by simp [lenEq] at h
  | _ :: _, [], h => by simp [lenEq] at h
theorem mergeH_get (ws : List Nat) : ∀ (H H' : HL) (i o : Nat), H'.length = H.length → (mergeH ws i H H').getD o none = bif memB (i + o) ws then H'.getD o none else H.getD o none
  | [], [], i, o, _ => by simp [mergeH]
  | x :: r, y :: s, i, 0, _ => by
    simp only [mergeH, List.getD_cons_zero, Nat.add_zero]
  | x :: r, y :: s, i, o + 1, h => by
    have := mergeH_get ws r s (i + 1) o (by simpa using h)
    simp only [mergeH, List.getD_cons_succ]
    rw [this, show i + 1 + o = i + (o + 1) by omega]
  | [], _ :: _, _, _, h => by simp at h
  | _ :: _, [], _, _, h => by simp at h
theorem mergeH_len (ws : List Nat) : ∀ (H H' : HL) (i : Nat), H'.length = H.length → (mergeH ws i H H').length = H.length
  | [], [], i, _ => rfl
  | x :: r, y :: s, i, h => by simp [mergeH, mergeH_len ws r s (i + 1) (by simpa using h)]
  | [], _ :: _, _, h => by simp at h
  | _ :: _, [], _, h => by simp at h
theorem keysOK_spec {l : List Nat} : ∀ {H : HL} {i : Nat}, keysOK l i H = true → ∀ o, H.getD o none ≠ none → i + o ∈ l
  | [], i, _, o, h => by simp at h
  | none :: r, i, hk, 0, h => by simp at h
  | some _ :: r, i, hk, 0, h => by
    simp only [keysOK, Bool.and_eq_true] at hk
    exact (memB_iff _ _).1 hk.1
  | none :: r, i, hk, o + 1, h => by
    have := keysOK_spec (H := r) (i := i + 1) (by simpa [keysOK] using hk) o (by simpa using h)
    rwa [show i + (o + 1) = i + 1 + o by omega]
  | some _ :: r, i, hk, o + 1, h => by
    simp only [keysOK, Bool.and_eq_true] at hk
    have := keysOK_spec (H := r) (i := i + 1) hk.2 o (by simpa using h)
    rwa [show i + (o + 1) = i + 1 + o by omega]
theorem allSome_spec {H : HL} : ∀ {l : List Nat}, allSome H l = true → ∀ o ∈ l, hget H o ≠ none
  | i :: r, h, o, ho => by
    simp only [allSome, Bool.and_eq_true] at h
    rcases List.mem_cons.1 ho with rfl | ho
    · intro e; rw [e] at h; simp at h
    · exact allSome_spec h.2 o ho
/-- The heap behind a call: what the call looks at, and what is new, is as the call leaves it. -/
def mergeC (fp : List Nat) : Nat → HL → HL → HL
  | _, [], s => s
  | _, _ :: _, [] => []
  | i, x :: r, y :: s => (bif memB i fp then y else x) :: mergeC fp (i + 1) r s
theorem mergeC_get (fp : List Nat) : ∀ (H H' : HL) (i o : Nat), H.length ≤ H'.length → (mergeC fp i H H').getD o none = if o < H.length then (bif memB (i + o) fp then H'.getD o none else H.getD o none) else H'.getD o none
  | [], s, i, o, _ => by simp [mergeC]
  | x :: r, y :: s, i, 0, _ => by simp [mergeC]
  | x :: r, y :: s, i, o + 1, h => by
    have := mergeC_get fp r s (i + 1) o (by simpa using h)
    simp only [mergeC, List.getD_cons_succ, List.length_cons]
    rw [this, show i + 1 + o = i + (o + 1) by omega]
    by_cases ho : o < r.length
    · rw [if_pos ho, if_pos (by omega)]
    · rw [if_neg ho, if_neg (by omega)]
  | _ :: _, [], _, _, h => by simp at h
theorem mergeC_len (fp : List Nat) : ∀ (H H' : HL) (i : Nat), H.length ≤ H'.length → (mergeC fp i H H').length = H'.length
  | [], s, i, _ => by simp [mergeC]
  | x :: r, y :: s, i, h => by simp [mergeC, mergeC_len fp r s (i + 1) (by simpa using h)]
  | _ :: _, [], _, h => by simp at h

/-- The objects that a value names. -/
def idl : Nat → D → List Nat
  | 0, _ => []
  | f + 1, d => match d with
    | .ptr o _ => [o]
    | .own o _ => [o]
    | .optr o _ _ _ _ => [o]
    | .map o => [o]
    | .yld o => [o]
    | .stamp o _ => [o]
    | .agg l => l.flatMap (idl f)
    | .tup l => l.flatMap (idl f)
    | .fn _ a b => a.flatMap (idl f) ++ b.flatMap (idl f)
    | .iface _ d => idl f d
    | _ => []
def obl : Option Ob → List Nat
  | some (.row cs) => cs.flatMap (idl 3)
  | _ => []
def foot (o : Oper) (e : Env) (H : HL) : List Nat := match o.op with
  | .load _ x => idl 1 (ev e x)
  | .store _ x _ => idl 1 (ev e x)
  | .indexAddr _ x _ => idl 1 (ev e x)
  | .convert _ _ x => idl 1 (ev e x)
  | .slice _ x _ _ _ => idl 1 (ev e x)
  | .lookup _ x _ _ => idl 1 (ev e x)
  | .mapEntry _ x _ => idl 1 (ev e x)
  | .entryStore _ x _ _ => idl 1 (ev e x)
  | .mapUpdate _ x _ _ => idl 1 (ev e x)
  | .insert _ x _ _ => idl 1 (ev e x)
  | .call c => match c.callee with
    | .value f => let l := (f :: c.args.toList).flatMap fun x => idl 3 (ev e x); let l2 := l.flatMap fun o => obl (hget H o); l ++ l2 ++ l2.flatMap fun o => obl (hget H o)
    | _ => c.args.toList.flatMap fun x => idl 3 (ev e x)
  | _ => []
def fznl (l : List Nat) : (List Nat → Prop) → Prop := @List.rec Nat (fun _ => (List Nat → Prop) → Prop) (fun k => k []) (fun n _ ih k => ih fun r => k (n :: r)) l
theorem fznl_iff : ∀ (l : List Nat) (k : List Nat → Prop), fznl l k ↔ k l
  | [], k => Iff.rfl
  | d :: r, k => by show fznl r (fun r => k (d :: r)) ↔ _; rw [fznl_iff]

/-- Does operation j surely come ahead of i? -/
def reach : Nat → List Oper → Nat → Nat → Bool
  | 0, _, _, _ => false
  | f + 1, ops, j, i => match ops[i]? with
    | some o => o.after.toList.any (fun e => Region.binds .any e && Nat.beq e.on j) || o.after.toList.any (fun e => Region.binds .any e && reach f ops j e.on)
    | none => false
def disj : List Nat → List Nat → Bool
  | [], _ => true
  | i :: r, l => (bif memB i l then false else true) && disj r l
theorem disj_spec : ∀ {l l' : List Nat}, disj l l' = true → ∀ o ∈ l, o ∉ l'
  | i :: r, l', h, o, ho => by
    simp only [disj, Bool.and_eq_true] at h
    rcases List.mem_cons.1 ho with rfl | ho
    · intro hm; rw [(memB_iff _ _).2 hm] at h; simp at h
    · exact disj_spec h.2 o ho
/-- What was walked: an operation's number, what it looks at, what it writes. -/
abbrev Hist := List (Nat × List Nat × List Nat)
def Pair (ops : List Oper) (j : Nat) (fj wj : List Nat) (k : Nat) (fp ws : List Nat) : Prop :=
  reach 5 ops j k = true ∨ ((∀ o, o ∈ wj → o ∉ fp ∧ o ∉ ws) ∧ ∀ o, o ∈ fj → o ∉ ws)
def indep (ops : List Oper) (k : Nat) (fp ws : List Nat) : Hist → Bool
  | [] => true
  | x :: r => ((disj x.2.2 fp && disj x.2.2 ws && disj x.2.1 ws) || reach 5 ops x.1 k) && indep ops k fp ws r
theorem indep_spec {ops : List Oper} {k : Nat} {fp ws : List Nat} : ∀ {h : Hist}, indep ops k fp ws h = true → ∀ x ∈ h, Pair ops x.1 x.2.1 x.2.2 k fp ws
  | [], _, x, hx => by cases hx
  | y :: r, h, x, hx => by
    simp only [indep, Bool.and_eq_true, Bool.or_eq_true] at h
    rcases List.mem_cons.1 hx with rfl | hx
    · rcases h.1 with ⟨⟨h1, h2⟩, h3⟩ | h1
      · exact .inr ⟨fun o ho => ⟨disj_spec h1 o ho, disj_spec h2 o ho⟩, fun o ho => disj_spec h3 o ho⟩
      · exact .inl h1
    · exact indep_spec h.2 x hx

/-- A call that may turn objects, or panic. -/
def lateC (C : Cx) (o : Oper) (e : Env) : Option (CRule × List D) := match o.op with
  | .call c => match c.callee with
    | .value f => match ev e f with
      | .fn g fs cs => match C.call g with
        | some r => some (r, fs ++ c.args.toList.map (ev e) ++ cs)
        | none => none
      | _ => none
    | _ => none
  | _ => none
def nilB : List Nat → Bool
  | [] => true
  | _ => false
/-- The temporaries that no operation of the region writes. -/
def panE (ops : List Oper) (e : Env) : Env := fun j => bif ops.any (fun o => match o.dst with | some d => Nat.beq d j | none => false) then .top else e j
abbrev Ih := Nat → Hist → St → Prop
def vdrun (C : Cx) (N : Nat) (oa : Array Oper) (ops : List Oper) (nid i : Nat) (hist : Hist) (o : Oper) (s : St) (K : Hist → St → Prop) : Prop := match s with
  | ⟨e0, H0, df0⟩ =>
    fznl (foot o e0 H0) fun fp => bif isWr o.op then
      vwr C nid o (resE (o.looksAt oa) e0) (resH fp 0 H0) fun d HR => fzh HR fun HR =>
        gate (lenEq H0 HR && keysOK (nid :: fp) 0 HR && allSome H0 fp && indep ops i fp (nid :: fp) hist) (
          vput N e0 o.dst d fun e => fzh (mergeH (nid :: fp) 0 H0 HR) fun H => K ((i, fp, nid :: fp) :: hist) ⟨e, H, df0⟩)
    else vsr C o (resE (o.looksAt oa) e0) (resH fp 0 H0) fun d =>
      gate (indep ops i fp [] hist) (vput N e0 o.dst d fun e => K ((i, fp, []) :: hist) ⟨e, H0, df0⟩)
theorem vdrun_eq (C : Cx) (N : Nat) (oa : Array Oper) (ops : List Oper) (nid i : Nat) (hist : Hist) (o : Oper) (s : St) (K : Hist → St → Prop) : vdrun C N oa ops nid i hist o s K = (fznl (foot o s.e s.H) fun fp => bif isWr o.op then
    vwr C nid o (resE (o.looksAt oa) s.e) (resH fp 0 s.H) fun d HR =>
      bif lenEq s.H HR && keysOK (nid :: fp) 0 HR && allSome s.H fp && indep ops i fp (nid :: fp) hist then
        vput N s.e o.dst d fun e => fzh (mergeH (nid :: fp) 0 s.H HR) fun H => K ((i, fp, nid :: fp) :: hist) ⟨e, H, s.df⟩
      else False
  else vsr C o (resE (o.looksAt oa) s.e) (resH fp 0 s.H) fun d =>
    bif indep ops i fp [] hist then vput N s.e o.dst d fun e => K ((i, fp, []) :: hist) ⟨e, s.H, s.df⟩ else False) := by cases s; simp only [vdrun, gate_eq, fzh_eq]
def vdskip (N : Nat) (i : Nat) (hist : Hist) (o : Oper) (s : St) (K : Hist → St → Prop) : Prop := match s with
  | ⟨e0, H0, df0⟩ => vput N e0 o.dst (.tup []) fun e => K ((i, [], []) :: hist) ⟨e, H0, df0⟩
theorem vdskip_eq (N : Nat) (i : Nat) (hist : Hist) (o : Oper) (s : St) (K : Hist → St → Prop) : vdskip N i hist o s K = (vput N s.e o.dst (.tup []) fun e => K ((i, [], []) :: hist) ⟨e, s.H, s.df⟩) := by cases s; rfl
def vdcallB (N : Nat) (ops : List Oper) (E0 : Env) (K : VX → St → Prop) (i : Nat) (o : Oper) (ih : Hist → St → Prop) (hist : Hist) (s : St) (fp : List Nat) (r : Res) (H' : HL) : Prop := match s with
  | ⟨e0, H0, df0⟩ =>
    fzh H' fun H' => bif Nat.ble H0.length H'.length && keysOK fp 0 (H'.take H0.length) then (match r with
      | .ret d => fz d fun d => vput N e0 o.dst d fun e => fzh (mergeC fp 0 H0 H') fun H2 => ih ((i, fp, fp) :: hist) ⟨e, H2, df0⟩
      | .pan d => bif hist.all (fun x => nilB x.2.2 || reach 5 ops x.1 i) then fzh (mergeC fp 0 H0 H') fun H2 => K (.panic d) ⟨panE ops E0, H2, df0⟩ else False) else False
theorem vdcallB_eq (N : Nat) (ops : List Oper) (E0 : Env) (K : VX → St → Prop) (i : Nat) (o : Oper) (ih : Hist → St → Prop) (hist : Hist) (s : St) (fp : List Nat) (r : Res) (H' : HL) : vdcallB N ops E0 K i o ih hist s fp r H' = (fzh H' fun H' => bif Nat.ble s.H.length H'.length && keysOK fp 0 (H'.take s.H.length) then (match r with
    | .ret d => fz d fun d => vput N s.e o.dst d fun e => fzh (mergeC fp 0 s.H H') fun H2 => ih ((i, fp, fp) :: hist) ⟨e, H2, s.df⟩
    | .pan d => bif hist.all (fun x => nilB x.2.2 || reach 5 ops x.1 i) then fzh (mergeC fp 0 s.H H') fun H2 => K (.panic d) ⟨panE ops E0, H2, s.df⟩ else False) else False) := by cases s; rfl
def histLt (n : Nat) (hist : Hist) : Bool := hist.all fun x => x.2.1.all (fun o => Nat.blt o n) && x.2.2.all fun o => Nat.blt o n
def vdcall (C : Cx) (N : Nat) (oa : Array Oper) (ops : List Oper) (E0 : Env) (K : VX → St → Prop) (i : Nat) (o : Oper) (rest : List (Nat × Oper)) (ih : Hist → St → Prop) (hist : Hist) (s : St) : Prop := match s with
  | ⟨e0, H0, df0⟩ =>
    gate (rest.all (fun x => reach 5 ops i x.1)) (
      fznl (foot o e0 H0) fun fp => gate (allSome H0 fp && indep ops i fp fp hist && histLt H0.length hist) (match lateC C o (resE (o.looksAt oa) e0) with
        | some (r, ds) => fzl ds fun ds => fzh (resH fp 0 H0) fun H => r ds H (vdcallB N ops E0 K i o ih hist ⟨e0, H0, df0⟩ fp)
        | none => False))
theorem vdcall_eq (C : Cx) (N : Nat) (oa : Array Oper) (ops : List Oper) (E0 : Env) (K : VX → St → Prop) (i : Nat) (o : Oper) (rest : List (Nat × Oper)) (ih : Hist → St → Prop) (hist : Hist) (s : St) : vdcall C N oa ops E0 K i o rest ih hist s = (bif rest.all (fun x => reach 5 ops i x.1) then
    fznl (foot o s.e s.H) fun fp => bif allSome s.H fp && indep ops i fp fp hist && histLt s.H.length hist then (match lateC C o (resE (o.looksAt oa) s.e) with
      | some (r, ds) => fzl ds fun ds => r ds (resH fp 0 s.H) (vdcallB N ops E0 K i o ih hist s fp)
      | none => False) else False
  else False) := by
  cases s
  simp only [vdcall, fzh_eq, gate_eq]
def more (o : Oper) (c : Nat) : Nat := bif isWr o.op then c + 1 else c
def vdone (C : Cx) (N : Nat) (oa : Array Oper) (ops : List Oper) (E0 : Env) (K : VX → St → Prop) (x : Nat × Oper) (rest : List (Nat × Oper)) (ih : Ih) (c : Nat) (hist : Hist) (s : St) : Prop := match s with
  | ⟨e0, H0, df0⟩ => match lateC C x.2 e0 with
    | some _ => vdcall C N oa ops E0 K x.1 x.2 rest (fun h ⟨e0, H0, df0⟩ => ih c h ⟨e0, H0, df0⟩) hist ⟨e0, H0, df0⟩
    | none => vdrun C N oa ops c x.1 hist x.2 ⟨e0, H0, df0⟩ fun h ⟨e0, H0, df0⟩ => ih (more x.2 c) h ⟨e0, H0, df0⟩
theorem vdone_eq (C : Cx) (N : Nat) (oa : Array Oper) (ops : List Oper) (E0 : Env) (K : VX → St → Prop) (x : Nat × Oper) (rest : List (Nat × Oper)) (ih : Ih) (c : Nat) (hist : Hist) (s : St) : vdone C N oa ops E0 K x rest ih c hist s = (match lateC C x.2 s.e with
  | some _ => vdcall C N oa ops E0 K x.1 x.2 rest (fun h s => ih c h s) hist s
  | none => vdrun C N oa ops c x.1 hist x.2 s fun h s => ih (more x.2 c) h s) := by cases s; rfl
def vdrB (C : Cx) (N : Nat) (oa : Array Oper) (ops : List Oper) (E0 : Env) (K : VX → St → Prop) (x : Nat × Oper) (rest : List (Nat × Oper)) (ih : Ih) (c : Nat) (hist : Hist) (s : St) : Prop := match s with
  | ⟨e0, H0, df0⟩ => match x.2.guard with
      | none => vdone C N oa ops E0 K x rest ih c hist ⟨e0, H0, df0⟩
      | some (j, want) => match gslot ops j with
        | none => False
        | some g => match e0 g with
          | .tt => bif want then vdone C N oa ops E0 K x rest ih c hist ⟨e0, H0, df0⟩ else vdskip N x.1 hist x.2 ⟨e0, H0, df0⟩ fun h ⟨e0, H0, df0⟩ => ih (more x.2 c) h ⟨e0, H0, df0⟩
          | .ff => bif want then vdskip N x.1 hist x.2 ⟨e0, H0, df0⟩ fun h ⟨e0, H0, df0⟩ => ih (more x.2 c) h ⟨e0, H0, df0⟩ else vdone C N oa ops E0 K x rest ih c hist ⟨e0, H0, df0⟩
          | .bool b =>
            (b = true → bif want then vdone C N oa ops E0 K x rest ih c hist ⟨upd e0 g .tt, H0, df0⟩ else vdskip N x.1 hist x.2 ⟨upd e0 g .tt, H0, df0⟩ fun h ⟨e0, H0, df0⟩ => ih (more x.2 c) h ⟨e0, H0, df0⟩) ∧
            (b = false → bif want then vdskip N x.1 hist x.2 ⟨upd e0 g .ff, H0, df0⟩ fun h ⟨e0, H0, df0⟩ => ih (more x.2 c) h ⟨e0, H0, df0⟩ else vdone C N oa ops E0 K x rest ih c hist ⟨upd e0 g .ff, H0, df0⟩)
          | .tup _ => vdskip N x.1 hist x.2 ⟨e0, H0, df0⟩ fun h ⟨e0, H0, df0⟩ => ih (more x.2 c) h ⟨e0, H0, df0⟩
          | _ => False
theorem vdrB_eq (C : Cx) (N : Nat) (oa : Array Oper) (ops : List Oper) (E0 : Env) (K : VX → St → Prop) (x : Nat × Oper) (rest : List (Nat × Oper)) (ih : Ih) (c : Nat) (hist : Hist) (s : St) : vdrB C N oa ops E0 K x rest ih c hist s = (match x.2.guard with
    | none => vdone C N oa ops E0 K x rest ih c hist s
    | some (j, want) => match gslot ops j with
      | none => False
      | some g => match s.e g with
        | .tt => bif want then vdone C N oa ops E0 K x rest ih c hist s else vdskip N x.1 hist x.2 s fun h s => ih (more x.2 c) h s
        | .ff => bif want then vdskip N x.1 hist x.2 s fun h s => ih (more x.2 c) h s else vdone C N oa ops E0 K x rest ih c hist s
        | .bool b =>
          (b = true → bif want then vdone C N oa ops E0 K x rest ih c hist ⟨upd s.e g .tt, s.H, s.df⟩ else vdskip N x.1 hist x.2 ⟨upd s.e g .tt, s.H, s.df⟩ fun h s => ih (more x.2 c) h s) ∧
          (b = false → bif want then vdskip N x.1 hist x.2 ⟨upd s.e g .ff, s.H, s.df⟩ fun h s => ih (more x.2 c) h s else vdone C N oa ops E0 K x rest ih c hist ⟨upd s.e g .ff, s.H, s.df⟩)
        | .tup _ => vdskip N x.1 hist x.2 s fun h s => ih (more x.2 c) h s
        | _ => False) := by cases s; rfl
def vdr (C : Cx) (N : Nat) (oa : Array Oper) (ops : List Oper) (E0 : Env) (K : VX → St → Prop) (l : List (Nat × Oper)) : Ih := @List.rec (Nat × Oper) (fun _ => Ih) (fun _ _ s => K .normal s) (fun x rest ih => vdrB C N oa ops E0 K x rest ih) l
theorem vdr_cons (C : Cx) (N : Nat) (oa : Array Oper) (ops : List Oper) (E0 : Env) (K : VX → St → Prop) (x : Nat × Oper) (rest : List (Nat × Oper)) (c : Nat) (hist : Hist) (s : St) :
    vdr C N oa ops E0 K (x :: rest) c hist s = vdrB C N oa ops E0 K x rest (vdr C N oa ops E0 K rest) c hist s := rfl

structure Rec where
  e : Env
  H : HL
  e1 : Env
  ex : Bool
  cl : Bool
  d : D
  fp : List Nat
  ws : List Nat
  HR : HL
  e2 : Env
  H2 : HL

structure RecOK (C : Cx) (N : Nat) (oa : Array Oper) (nid : Nat) (o : Oper) (r : Rec) : Prop where
  ref : ∀ j S w μ v, R S w μ (r.e j) v → R S w μ (r.e1 j) v
  guard : ∀ (a : Act), (∀ j, j ∈ o.looksAt oa → ∃ S w μ, R S w μ (r.e j) (a.tmps.getD j undef)) → Region.wanted o (yielded oa a.tmps) = r.ex
  upd : ∀ j, r.e2 j = if o.dst = some j then r.d else r.e1 j
  dst : ∀ j, o.dst = some j → j < N
  run : (r.cl = false ∧ r.ex = false ∧ r.d = .tup [] ∧ r.ws = [] ∧ r.H2 = r.H) ∨
    (r.cl = false ∧ r.ex = true ∧ isWr o.op = false ∧ (∀ k : D → Prop, k r.d → vsr C o (resE (o.looksAt oa) r.e1) (resH r.fp 0 r.H) k) ∧ r.ws = [] ∧ r.H2 = r.H) ∨
    (r.cl = false ∧ r.ex = true ∧ isWr o.op = true ∧ (∀ k : D → HL → Prop, k r.d r.HR → vwr C nid o (resE (o.looksAt oa) r.e1) (resH r.fp 0 r.H) k) ∧ r.ws = nid :: r.fp ∧ r.HR.length = r.H.length ∧
      (∀ o, hget r.HR o ≠ none → o ∈ r.ws) ∧ (∀ o ∈ r.fp, hget r.H o ≠ none) ∧ r.H2 = mergeH r.ws 0 r.H r.HR) ∨
    (r.cl = true ∧ r.H.length ≤ r.H2.length ∧ ∀ o, o ∉ r.ws → hget r.H2 o = hget r.H o)

/-- How many writers come ahead. -/
def rank : List (Nat × Oper) → Nat → Nat
  | _, 0 => 0
  | [], _ + 1 => 0
  | x :: l, m + 1 => more x.2 (rank l m)

/-- What the walk has found, up to an operation. -/
structure Wk (C : Cx) (N : Nat) (oa : Array Oper) (lo : List (Nat × Oper)) (B : Nat) (m : Nat) (st : Nat → St) (T : Nat → Rec) (hist : Hist) : Prop where
  chain : ∀ p, p < m → (T p).e = (st p).e ∧ (T p).H = (st p).H ∧ (T p).e2 = (st (p + 1)).e ∧ (T p).H2 = (st (p + 1)).H ∧ (st (p + 1)).df = (st p).df
  ok : ∀ p i o, p < m → lo[p]? = some (i, o) → RecOK C N oa (B + rank lo p) o (T p)
  pair : ∀ p q i k o o', p < q → q < m → lo[p]? = some (i, o) → lo[q]? = some (k, o') → Pair oa.toList i (T p).fp (T p).ws k (T q).fp (T q).ws
  hist : ∀ p i o, p < m → lo[p]? = some (i, o) → ∃ ws, (i, (T p).fp, ws) ∈ hist ∧ ((T p).cl = false → ws = (T p).ws)
  late : ∀ p q i k o o', p < m → p < q → (T p).cl = true → lo[p]? = some (i, o) → lo[q]? = some (k, o') → reach 5 oa.toList i k = true

section
variable {P : Program} {C : Cx} {RTT : RT} {N : Nat} {oa : Array Oper} {ops : List Oper} {o : Oper}

theorem vput_spec {e : Env} {dst : Option Nat} {d : D} {k : Env → Prop} (h : vput N e dst d k) : ∃ e', k e' ∧ (∀ j, e' j = if dst = some j then d else e j) ∧ ∀ j, dst = some j → j < N := by
  unfold vput at h
  cases dst with
  | none => exact ⟨e, h, fun j => by simp, fun j h => by cases h⟩
  | some i =>
    simp only at h
    cases hb : Nat.ble N i with
    | true => simp [hb] at h
    | false =>
      simp only [hb, cond_false] at h
      refine ⟨_, h, fun j => ?_, fun j hj => ?_⟩
      · simp only [V.upd, Option.some.injEq]
        cases hj : Nat.beq j i with
        | true => obtain rfl := Nat.eq_of_beq_eq_true hj; simp
        | false =>
          have : i ≠ j := fun e => by subst e; rw [Nat.beq_refl] at hj; cases hj
          simp [this]
      · injection hj with hj
        subst hj
        rcases Nat.lt_or_ge i N with h1 | h1
        · exact h1
        · rw [Nat.ble_eq_true_of_le h1] at hb; cases hb

/-- A record that was made at this state. -/
def RecAt (C : Cx) (N : Nat) (oa : Array Oper) (ops : List Oper) (nid i : Nat) (o : Oper) (hist : Hist) (e : Env) (H : HL) (r : Rec) : Prop :=
  r.e = e ∧ r.H = H ∧ r.cl = false ∧ RecOK C N oa nid o r ∧ ∀ x ∈ hist, Pair ops x.1 x.2.1 x.2.2 i r.fp r.ws

theorem vdrun_spec (hC : CallsOK P C RTT) {nid i : Nat} {hist : Hist} {e : Env} {s : St} {K : Hist → St → Prop} (href : ∀ j S w μ v, R S w μ (e j) v → R S w μ (s.e j) v)
    (hg : ∀ (a : Act), (∀ j, j ∈ o.looksAt oa → ∃ S w μ, R S w μ (e j) (a.tmps.getD j undef)) → Region.wanted o (yielded oa a.tmps) = true) (h : vdrun C N oa ops nid i hist o s K) :
    ∃ r : Rec, RecAt C N oa ops nid i o hist e s.H r ∧ K ((i, r.fp, r.ws) :: hist) ⟨r.e2, r.H2, s.df⟩ := by
  rw [vdrun_eq] at h
  rw [fznl_iff] at h
  generalize foot o s.e s.H = fp at h
  cases hw : isWr o.op with
  | true =>
    simp only [hw, cond_true] at h
    obtain ⟨d, HR, h1, h2⟩ := Det2.vwr C nid o _ _ _ h
    cases hq : (lenEq s.H HR && keysOK (nid :: fp) 0 HR && allSome s.H fp && indep ops i fp (nid :: fp) hist) with
    | false => simp [hq] at h1
    | true =>
      simp only [hq, cond_true] at h1
      simp only [Bool.and_eq_true] at hq
      obtain ⟨e2, k1, k2, k3⟩ := vput_spec h1
      rw [fzh_iff] at k1
      exact ⟨⟨e, s.H, s.e, true, false, d, fp, nid :: fp, HR, e2, mergeH (nid :: fp) 0 s.H HR⟩, ⟨rfl, rfl, rfl, ⟨href, hg, k2, k3, .inr (.inr (.inl ⟨rfl, rfl, hw, h2, rfl, lenEq_len hq.1.1.1, fun o ho => by
        have := keysOK_spec hq.1.1.2 o ho; rwa [Nat.zero_add] at this, allSome_spec hq.1.2, rfl⟩))⟩, indep_spec hq.2⟩, k1⟩
  | false =>
    simp only [hw, cond_false] at h
    obtain ⟨d, h1, h2⟩ := Det.vsr hC o _ _ _ h
    cases hq : indep ops i fp [] hist with
    | false => simp [hq] at h1
    | true =>
      simp only [hq, cond_true] at h1
      obtain ⟨e2, k1, k2, k3⟩ := vput_spec h1
      exact ⟨⟨e, s.H, s.e, true, false, d, fp, [], s.H, e2, s.H⟩, ⟨rfl, rfl, rfl, ⟨href, hg, k2, k3, .inr (.inl ⟨rfl, rfl, hw, h2, rfl, rfl⟩)⟩, indep_spec hq⟩, k1⟩

theorem vdskip_spec {nid i : Nat} {hist : Hist} {e : Env} {s : St} {K : Hist → St → Prop} (href : ∀ j S w μ v, R S w μ (e j) v → R S w μ (s.e j) v)
    (hg : ∀ (a : Act), (∀ j, j ∈ o.looksAt oa → ∃ S w μ, R S w μ (e j) (a.tmps.getD j undef)) → Region.wanted o (yielded oa a.tmps) = false) (h : vdskip N i hist o s K) :
    ∃ r : Rec, RecAt C N oa ops nid i o hist e s.H r ∧ K ((i, r.fp, r.ws) :: hist) ⟨r.e2, r.H2, s.df⟩ := by
  rw [vdskip_eq] at h
  obtain ⟨e2, k1, k2, k3⟩ := vput_spec h
  exact ⟨⟨e, s.H, s.e, false, false, .tup [], [], [], s.H, e2, s.H⟩, ⟨rfl, rfl, rfl, ⟨href, hg, k2, k3, .inl ⟨rfl, rfl, rfl, rfl, rfl⟩⟩, fun x _ => .inr ⟨fun o _ => ⟨List.not_mem_nil, List.not_mem_nil⟩, fun o _ => List.not_mem_nil⟩⟩, k1⟩

theorem looksAt_guard {j : Nat} {want : Bool} {g : Nat} (hg : o.guard = some (j, want)) (hs : gslot oa.toList j = some g) : g ∈ o.looksAt oa := by
  have h1 : ((oa[j]?).bind (·.dst)) = some g := by
    unfold gslot at hs
    simp only [Array.getElem?_toList] at hs
    cases ho : oa[j]? with
    | none => simp [ho] at hs
    | some o' => simpa [ho] using hs
  simp [Oper.looksAt, hg, h1]

/-- One operation in the walk: a record, or a call whose turn it is. -/
theorem vdr_step (hC : CallsOK P C RTT) {E0 : Env} {K : VX → St → Prop} {i : Nat} {rest : List (Nat × Oper)} {ih : Ih} {c : Nat} {hist : Hist} {s : St} (h : vdrB C N oa oa.toList E0 K (i, o) rest ih c hist s) :
    (∃ r : Rec, RecAt C N oa oa.toList c i o hist s.e s.H r ∧ ih (more o c) ((i, r.fp, r.ws) :: hist) ⟨r.e2, r.H2, s.df⟩) ∨
    (∃ e1, (∀ j S w μ v, R S w μ (s.e j) v → R S w μ (e1 j) v) ∧ (∀ (a : Act), (∀ j, j ∈ o.looksAt oa → ∃ S w μ, R S w μ (s.e j) (a.tmps.getD j undef)) → Region.wanted o (yielded oa a.tmps) = true) ∧
      isWr o.op = false ∧ vdcall C N oa oa.toList E0 K i o rest (fun h s => ih c h s) hist ⟨e1, s.H, s.df⟩) := by
  have same : ∀ j (S : Nat → Prop) w μ v, R S w μ (s.e j) v → R S w μ (s.e j) v := fun _ _ _ _ _ h => h
  have one : ∀ {e1 : Env}, (∀ j (S : Nat → Prop) w μ v, R S w μ (s.e j) v → R S w μ (e1 j) v) → (∀ (a : Act), (∀ j, j ∈ o.looksAt oa → ∃ S w μ, R S w μ (s.e j) (a.tmps.getD j undef)) → Region.wanted o (yielded oa a.tmps) = true) →
      vdone C N oa oa.toList E0 K (i, o) rest ih c hist ⟨e1, s.H, s.df⟩ → (∃ r : Rec, RecAt C N oa oa.toList c i o hist s.e s.H r ∧ ih (more o c) ((i, r.fp, r.ws) :: hist) ⟨r.e2, r.H2, s.df⟩) ∨
    (∃ e1, (∀ j S w μ v, R S w μ (s.e j) v → R S w μ (e1 j) v) ∧ (∀ (a : Act), (∀ j, j ∈ o.looksAt oa → ∃ S w μ, R S w μ (s.e j) (a.tmps.getD j undef)) → Region.wanted o (yielded oa a.tmps) = true) ∧
      isWr o.op = false ∧ vdcall C N oa oa.toList E0 K i o rest (fun h s => ih c h s) hist ⟨e1, s.H, s.df⟩) := fun {e1} href hg h => by
    rw [vdone_eq] at h
    cases hl : lateC C o e1 with
    | none =>
      simp only [hl] at h
      exact .inl (vdrun_spec (e := s.e) (s := ⟨e1, s.H, s.df⟩) hC href hg h)
    | some x =>
      simp only [hl] at h
      refine .inr ⟨e1, href, hg, ?_, h⟩
      unfold lateC at hl
      cases hop : o.op <;> rw [hop] at hl <;> simp only [reduceCtorEq] at hl <;> try rfl
      rename_i cc
      unfold isWr
      simp only
      split at hl
      · rename_i f hcal; rw [hcal]
      · cases hl
  rw [vdrB_eq] at h
  cases hg : o.guard with
  | none =>
    simp only [hg] at h
    exact one same (fun a _ => by simp [Region.wanted, hg]) h
  | some jw =>
    obtain ⟨j, want⟩ := jw
    simp only [hg] at h
    cases hs : gslot oa.toList j with
    | none => simp [hs] at h
    | some g =>
      simp only [hs] at h
      have hmem := looksAt_guard hg hs
      have wtt : s.e g = .tt ∨ s.e g = .bool true → ∀ (a : Act), (∀ j, j ∈ o.looksAt oa → ∃ S w μ, R S w μ (s.e j) (a.tmps.getD j undef)) → Region.wanted o (yielded oa a.tmps) = want := fun hd a ha => by
        obtain ⟨S, w, μ, hR⟩ := ha g hmem
        have hv : a.tmps.getD g undef = .bool true := by
          generalize a.tmps.getD g undef = v at hR
          rcases hd with hd | hd <;> rw [hd] at hR <;> cases hR <;> rfl
        rw [wanted_of (o := o) hg hs hv]; cases want <;> rfl
      have wff : s.e g = .ff ∨ s.e g = .bool false → ∀ (a : Act), (∀ j, j ∈ o.looksAt oa → ∃ S w μ, R S w μ (s.e j) (a.tmps.getD j undef)) → Region.wanted o (yielded oa a.tmps) = !want := fun hd a ha => by
        obtain ⟨S, w, μ, hR⟩ := ha g hmem
        have hv : a.tmps.getD g undef = .bool false := by
          generalize a.tmps.getD g undef = v at hR
          rcases hd with hd | hd <;> rw [hd] at hR <;> cases hR <;> rfl
        rw [wanted_of (o := o) hg hs hv]; cases want <;> rfl
      split at h
      · rename_i hd
        cases want
        · exact .inl (vdskip_spec same (wtt (.inl hd)) h)
        · exact one same (wtt (.inl hd)) h
      · rename_i hd
        cases want
        · exact one same (wff (.inl hd)) h
        · exact .inl (vdskip_spec same (wff (.inl hd)) h)
      · rename_i b hd
        have ref : ∀ d, (∀ (S : Nat → Prop) w μ v, R S w μ (.bool b) v → R S w μ d v) → ∀ j (S : Nat → Prop) w μ v, R S w μ (s.e j) v → R S w μ (V.upd s.e g d j) v := fun d hR j S w μ v h0 => by
          simp only [V.upd]
          cases hj : Nat.beq j g with
          | true => rw [Nat.eq_of_beq_eq_true hj, hd] at h0; exact hR S w μ v h0
          | false => exact h0
        cases b with
        | true =>
          have h1 := h.1 rfl
          have href := ref .tt fun S w μ v h => by cases h; exact .tt
          cases want
          · exact .inl (vdskip_spec (s := ⟨V.upd s.e g .tt, s.H, s.df⟩) href (wtt (.inr hd)) h1)
          · exact one href (wtt (.inr hd)) h1
        | false =>
          have h1 := h.2 rfl
          have href := ref .ff fun S w μ v h => by cases h; exact .ff
          cases want
          · exact one href (wff (.inr hd)) h1
          · exact .inl (vdskip_spec (s := ⟨V.upd s.e g .ff, s.H, s.df⟩) href (wff (.inr hd)) h1)
      · rename_i cs hd
        exact .inl (vdskip_spec same (fun a ha => by
          obtain ⟨S, w, μ, hR⟩ := ha g hmem
          refine wanted_no (o := o) hg hs ?_
          generalize a.tmps.getD g undef = v at hR
          rw [hd] at hR
          cases hR
          exact ⟨_, rfl⟩) h)
      · exact h.elim

theorem more_radd (o : Oper) (c r : Nat) : more o (c + r) = c + more o r := by
  unfold more
  cases isWr o.op <;> simp <;> omega
theorem more_add (o : Oper) (c r : Nat) : more o c + r = c + more o r := by
  unfold more
  cases isWr o.op <;> simp <;> omega
theorem rank_succ : ∀ (lo : List (Nat × Oper)) (p i : Nat) (o : Oper), lo[p]? = some (i, o) → rank lo (p + 1) = more o (rank lo p)
  | [], p, i, o, h => by simp at h
  | x :: l, 0, i, o, h => by
    simp only [List.getElem?_cons_zero, Option.some.injEq] at h
    subst h
    cases l <;> rfl
  | x :: l, p + 1, i, o, h => by
    have := rank_succ l p i o (by simpa using h)
    simp only [rank]
    rw [this]
    unfold more
    cases isWr x.2.op <;> cases isWr o.op <;> rfl

/-- Where the walk stands: at the end, or at a call whose turn it is. -/
def Kont (C : Cx) (N : Nat) (oa : Array Oper) (E0 : Env) (K : VX → St → Prop) (lo : List (Nat × Oper)) (B : Nat) (m : Nat) (st : Nat → St) (hist : Hist) : Prop :=
  (m = lo.length ∧ K .normal (st m)) ∨ ∃ i o rest e1, lo.drop m = (i, o) :: rest ∧ (∀ j S w μ v, R S w μ ((st m).e j) v → R S w μ (e1 j) v) ∧
    (∀ (a : Act), (∀ j, j ∈ o.looksAt oa → ∃ S w μ, R S w μ ((st m).e j) (a.tmps.getD j undef)) → Region.wanted o (yielded oa a.tmps) = true) ∧
    isWr o.op = false ∧ vdcall C N oa oa.toList E0 K i o rest (fun h s => vdr C N oa oa.toList E0 K rest (B + rank lo m) h s) hist ⟨e1, (st m).H, (st m).df⟩

theorem getElem?_of_drop {α : Type} {l : List α} {p : Nat} {x : α} {r : List α} (h : l.drop p = x :: r) : l[p]? = some x ∧ l.drop (p + 1) = r := by
  constructor
  · have : (l.drop p)[0]? = some x := by rw [h]; rfl
    simpa using this
  · have : (l.drop p).drop 1 = r := by rw [h]; rfl
    rwa [List.drop_drop] at this

/-- One record more. -/
theorem Wk.push {lo : List (Nat × Oper)} {B p : Nat} {st : Nat → St} {T : Nat → Rec} {hist : Hist} (hW : Wk C N oa lo B p st T hist) {i : Nat} {o : Oper} (hlo : lo[p]? = some (i, o)) {r : Rec} (he : r.e = (st p).e) (hH : r.H = (st p).H) (hok : RecOK C N oa (B + rank lo p) o r)
    (hpair : ∀ x ∈ hist, Pair oa.toList x.1 x.2.1 x.2.2 i r.fp r.ws) (ws : List Nat) (hws : r.cl = false → ws = r.ws) (hlate : r.cl = true → ∀ q k o', p < q → lo[q]? = some (k, o') → reach 5 oa.toList i k = true) :
    Wk C N oa lo B (p + 1) (fun k => if k = p + 1 then ⟨r.e2, r.H2, (st p).df⟩ else st k) (fun k => if k = p then r else T k) ((i, r.fp, ws) :: hist) := by
  have hT : ∀ k, k < p → (if k = p then r else T k) = T k := fun k hk => by rw [if_neg (by omega)]
  have hS : ∀ k, k ≤ p → (if k = p + 1 then (⟨r.e2, r.H2, (st p).df⟩ : St) else st k) = st k := fun k hk => by rw [if_neg (by omega)]
  refine ⟨fun q hq => ?_, fun q k o' hq h => ?_, fun q q' k k' o1 o2 hlt hq h1 h2 => ?_, fun q k o' hq h => ?_, fun q q' k k' o1 o2 hq hlt hcl h1 h2 => ?_⟩
  · rcases Nat.lt_succ_iff_lt_or_eq.1 hq with h | rfl
    · have := hW.chain q h
      rw [hT q h, hS q (by omega), hS (q + 1) (by omega)]
      exact this
    · rw [if_pos rfl, hS q (Nat.le_refl _), if_pos rfl]
      exact ⟨he, hH, rfl, rfl, rfl⟩
  · rcases Nat.lt_succ_iff_lt_or_eq.1 hq with h1 | rfl
    · rw [hT q h1]; exact hW.ok q k o' h1 h
    · rw [hlo] at h
      simp only [Option.some.injEq, Prod.mk.injEq] at h
      obtain ⟨rfl, rfl⟩ := h
      simp only [if_true]
      exact hok
  · rcases Nat.lt_succ_iff_lt_or_eq.1 hq with h | rfl
    · rw [hT q (by omega), hT q' h]; exact hW.pair q q' k k' o1 o2 hlt h h1 h2
    · rw [hT q hlt]
      simp only [if_true]
      rw [hlo] at h2
      simp only [Option.some.injEq, Prod.mk.injEq] at h2
      obtain ⟨rfl, rfl⟩ := h2
      obtain ⟨ws', hm, hc⟩ := hW.hist q k o1 hlt h1
      cases hcl : (T q).cl with
      | true => exact .inl (hW.late q q' k _ o1 _ hlt hlt hcl h1 hlo)
      | false =>
        have := hpair _ hm
        rw [hc hcl] at this
        exact this
  · rcases Nat.lt_succ_iff_lt_or_eq.1 hq with h1 | rfl
    · rw [hT q h1]
      obtain ⟨ws', hm, hc⟩ := hW.hist q k o' h1 h
      exact ⟨ws', List.mem_cons_of_mem _ hm, hc⟩
    · rw [hlo] at h
      simp only [Option.some.injEq, Prod.mk.injEq] at h
      obtain ⟨rfl, rfl⟩ := h
      simp only [if_true]
      exact ⟨ws, List.mem_cons_self, hws⟩
  · rcases Nat.lt_succ_iff_lt_or_eq.1 hq with h | rfl
    · rw [hT q h] at hcl; exact hW.late q q' k k' o1 o2 h hlt hcl h1 h2
    · simp only [if_true] at hcl
      rw [hlo] at h1
      simp only [Option.some.injEq, Prod.mk.injEq] at h1
      obtain ⟨rfl, rfl⟩ := h1
      exact hlate hcl q' k' o2 hlt h2

/-- On to the next call, or to the end. -/
theorem vdr_seg (hC : CallsOK P C RTT) {E0 : Env} {K : VX → St → Prop} {lo : List (Nat × Oper)} {B : Nat} : ∀ (l : List (Nat × Oper)) (p : Nat) (st : Nat → St) (T : Nat → Rec) (hist : Hist), lo.drop p = l → p ≤ lo.length → Wk C N oa lo B p st T hist →
    vdr C N oa oa.toList E0 K l (B + rank lo p) hist (st p) → ∃ m st' T' hist', p ≤ m ∧ (∀ q, q ≤ p → st' q = st q) ∧ (∀ q, q < p → T' q = T q) ∧ Wk C N oa lo B m st' T' hist' ∧ (∀ q, p ≤ q → q < m → (T' q).cl = false) ∧ m ≤ lo.length ∧ Kont C N oa E0 K lo B m st' hist'
  | [], p, st, T, hist, hl, hp, hW, h => by
    have : lo.length ≤ p := by
      have := congrArg List.length hl
      simp at this
      omega
    exact ⟨p, st, T, hist, Nat.le_refl _, fun _ _ => rfl, fun _ _ => rfl, hW, fun q h1 h2 => absurd h1 (by omega), hp, .inl ⟨by omega, h⟩⟩
  | (i, o) :: rest, p, st, T, hist, hl, hp, hW, h => by
    rw [vdr_cons] at h
    obtain ⟨hlo, hdrop⟩ := getElem?_of_drop hl
    have hplt : p < lo.length := (List.getElem?_eq_some_iff.1 hlo).1
    rcases vdr_step hC h with ⟨r, ⟨h1, h2, h3, h4, h5⟩, h6⟩ | ⟨e1, h1, h2, h3, h4⟩
    · have hW' := hW.push hlo h1 h2 h4 h5 r.ws (fun _ => rfl) (fun hc => by rw [h3] at hc; cases hc)
      have hst : (fun k => if k = p + 1 then (⟨r.e2, r.H2, (st p).df⟩ : St) else st k) (p + 1) = ⟨r.e2, r.H2, (st p).df⟩ := by simp
      obtain ⟨m, st', T', hist', g1, g2, g3, g4, g5, g6, g7⟩ := vdr_seg hC rest (p + 1) _ _ _ hdrop (by omega) hW' (by rw [if_pos rfl, rank_succ lo p i o hlo, ← more_radd]; exact h6)
      refine ⟨m, st', T', hist', by omega, fun q hq => ?_, fun q hq => ?_, g4, fun q h1 h2 => ?_, g6, g7⟩
      · rw [g2 q (by omega), if_neg (by omega)]
      · rw [g3 q (by omega), if_neg (by omega)]
      · rcases Nat.eq_or_lt_of_le h1 with rfl | h1
        · rw [g3 _ (by omega), if_pos rfl]; exact h3
        · exact g5 q (by omega) h2
    · exact ⟨p, st, T, hist, Nat.le_refl _, fun _ _ => rfl, fun _ _ => rfl, hW, fun q h1 h2 => absurd h1 (by omega), hp, .inr ⟨i, o, rest, e1, hl, h1, h2, h3, h4⟩⟩
end
end Go.V
end
section
set_option linter.unusedVariables false
set_option linter.unusedSimpArgs false
namespace Go.V

section
variable {P : Program} {C : Cx} {RTT : RT} {N : Nat} {oa : Array Oper} {o : Oper} {S S' : Nat → Prop} {w w' : World} {μ μ' : Mu} {r : Option Nat} {B0 : Option Nat}

theorem RelL.sub {HX HR : HL} (h : RelL S w μ HX) (hl : HR.length = HX.length) (hs : ∀ o ob, hget HR o = some ob → hget HX o = some ob) : RelL S w μ HR :=
  ⟨⟨fun o ob ho => h.1.obs o ob (hs o ob ho), fun o o' ob ob' v v' b h1 h2 => h.1.sep o o' ob ob' v v' b (hs _ _ h1) (hs _ _ h2), fun b hb => ⟨(h.1.stat b hb).1, fun o ob v ho => (h.1.stat b hb).2 o ob v (hs _ _ ho)⟩⟩, fun o ho => h.2 o (by omega)⟩

/-- What a step does to a part of the heap, it does to the whole. -/
theorem frame {HX HR HR' HX' : HL} {ws : List Nat} (hr : RelL S w μ HX) (hl : HR.length = HX.length) (hl' : HR'.length = HX'.length) (hs : ∀ o ob, hget HR o = some ob → hget HX o = some ob ∧ o ∈ ws)
    (hws : ∀ o, o ∈ ws → hget HX o ≠ none → hget HR o ≠ none) (hk : ∀ o, hget HR' o ≠ none → o ∈ ws) (h1 : ∀ o, o ∈ ws → hget HX' o = hget HR' o) (h2 : ∀ o, o ∉ ws → hget HX' o = hget HX o)
    (g : RelL S' w' μ' HR') (t : Tr S w μ (hget HR) S' w' μ' (hget HR')) : RelL S' w' μ' HX' ∧ Tr S w μ (hget HX) S' w' μ' (hget HX') := by
  have hr0 : RelL S w μ HR := hr.sub hl fun o ob ho => (hs o ob ho).1
  have hst := hr0.1.static t
  have none_of : ∀ o, o ∉ ws → hget HR o = none := fun o ho => by
    cases hx : hget HR o with
    | none => rfl
    | some ob => exact absurd (hs o ob hx).2 ho
  have outμ : ∀ o ob, o ∉ ws → hget HX o = some ob → ∃ mv, μ o = some mv ∧ μ' o = some mv ∧ ObR S w μ mv ob := fun o ob ho hx => by
    obtain ⟨mv, m1, m2⟩ := hr.1.obs o ob hx
    exact ⟨mv, m1, (t.off o mv (none_of o ho) m1).2, m2⟩
  have hsep : ∀ o ob mv o2 ob2 v2 b, o ∉ ws → hget HX o = some ob → μ o = some mv → blk mv = some b → hget HR o2 = some ob2 → μ o2 = some v2 → blk v2 ≠ some b := fun o ob mv o2 ob2 v2 b ho hx hm hb h3 h4 h5 => by
    obtain ⟨g1, g2⟩ := hs o2 ob2 h3
    exact hr.1.sep o o2 ob ob2 mv v2 b hx g1 (fun e => ho (e ▸ g2)) hm h4 hb h5
  have mixed : ∀ o1 o2 ob1 ob2 v1 v2 b, o1 ∈ ws → o2 ∉ ws → hget HR' o1 = some ob1 → hget HX o2 = some ob2 → μ' o1 = some v1 → μ' o2 = some v2 → blk v1 = some b → blk v2 ≠ some b := fun o1 o2 ob1 ob2 v1 v2 b ho1 ho2 x1 x2 m1 m2 hb hb2 => by
    obtain ⟨mv, n1, n2, n3⟩ := outμ o2 ob2 ho2 x2
    rw [n2] at m2
    injection m2 with m2
    subst m2
    rcases t.blks o1 ob1 v1 b x1 m1 hb with hge | ⟨o3, ob3, v3, e1, e2, e3⟩
    · exact absurd (n3.blk_lt hb2) (by omega)
    · exact hsep o2 ob2 _ o3 ob3 v3 b ho2 x2 n1 hb2 e1 e2 e3
  refine ⟨⟨⟨fun o ob ho => ?_, fun o1 o2 ob1 ob2 v1 v2 b x1 x2 hne m1 m2 hb => ?_, fun b hb => ⟨(g.1.stat b hb).1, fun o ob v ho hv hbv => ?_⟩⟩, fun o ho => g.2 o (by omega)⟩,
    ⟨t.os, t.tape, t.output, t.size, fun b hb hno => t.block b hb fun o ob v h3 => hno o ob v (hs o ob h3).1, t.sub, fun b hb => (t.new b hb).imp_right fun h => h.imp_right fun ⟨o, ob, v, e1, e2, e3⟩ => ⟨o, ob, v, (hs o ob e1).1, e2, e3⟩, t.mu, fun o ob v b ho hv hbv => ?_, fun o v h3 h4 => ?_, fun o h3 => ?_⟩⟩
  · by_cases hw : o ∈ ws
    · rw [h1 o hw] at ho
      exact g.1.obs o ob ho
    · rw [h2 o hw] at ho
      obtain ⟨mv, n1, n2, n3⟩ := outμ o ob hw ho
      exact ⟨mv, n2, n3.keep t.sub hst t.mu fun b hb => t.block b (n3.blk_lt hb) fun o2 ob2 v2 h3 h4 => hsep o ob mv o2 ob2 v2 b hw ho n1 hb h3 h4⟩
  · by_cases w1 : o1 ∈ ws
    · rw [h1 o1 w1] at x1
      by_cases w2 : o2 ∈ ws
      · rw [h1 o2 w2] at x2
        exact g.1.sep o1 o2 ob1 ob2 v1 v2 b x1 x2 hne m1 m2 hb
      · rw [h2 o2 w2] at x2
        exact mixed o1 o2 ob1 ob2 v1 v2 b w1 w2 x1 x2 m1 m2 hb
    · rw [h2 o1 w1] at x1
      by_cases w2 : o2 ∈ ws
      · rw [h1 o2 w2] at x2
        intro hb2
        exact mixed o2 o1 ob2 ob1 v2 v1 b w2 w1 x2 x1 m2 m1 hb2 hb
      · rw [h2 o2 w2] at x2
        obtain ⟨mv1, n1, n2, _⟩ := outμ o1 ob1 w1 x1
        obtain ⟨mv2, n3, n4, _⟩ := outμ o2 ob2 w2 x2
        rw [n2] at m1; injection m1 with m1; subst m1
        rw [n4] at m2; injection m2 with m2; subst m2
        exact hr.1.sep o1 o2 ob1 ob2 _ _ b x1 x2 hne n1 n3 hb
  · by_cases hw : o ∈ ws
    · rw [h1 o hw] at ho
      exact (g.1.stat b hb).2 o ob v ho hv hbv
    · rw [h2 o hw] at ho
      obtain ⟨mv, n1, n2, n3⟩ := outμ o ob hw ho
      rw [n2] at hv; injection hv with hv; subst hv
      rcases t.new b hb with h3 | h3 | ⟨o3, ob3, v3, e1, e2, e3⟩
      · exact (hr.1.stat b h3).2 o ob _ ho n1 hbv
      · exact absurd (n3.blk_lt hbv) (by omega)
      · exact hsep o ob _ o3 ob3 v3 b hw ho n1 hbv e1 e2 e3
  · by_cases hw : o ∈ ws
    · rw [h1 o hw] at ho
      rcases t.blks o ob v b ho hv hbv with hge | ⟨o3, ob3, v3, e1, e2, e3⟩
      · exact .inl hge
      · exact .inr ⟨o3, ob3, v3, (hs _ _ e1).1, e2, e3⟩
    · rw [h2 o hw] at ho
      obtain ⟨mv, n1, n2, n3⟩ := outμ o ob hw ho
      rw [n2] at hv; injection hv with hv; subst hv
      exact .inr ⟨o, ob, _, ho, n1, hbv⟩
  · have hn : hget HR o = none := by
      cases hx : hget HR o with
      | none => rfl
      | some ob => rw [(hs o ob hx).1] at h3; cases h3
    obtain ⟨g1, g2⟩ := t.off o v hn h4
    refine ⟨?_, g2⟩
    by_cases hw : o ∈ ws
    · rw [h1 o hw]; exact g1
    · rw [h2 o hw]; exact h3
  · rcases t.dom o h3 with h4 | ⟨h4, h5⟩
    · exact .inl (by rw [h1 o (hk o h4)]; exact h4)
    · by_cases hx : hget HX o = none
      · exact .inr ⟨h4, hx⟩
      · have hw : o ∉ ws := fun hw => hws o hw hx h5
        exact .inl (by rw [h2 o hw]; exact hx)


def dstNe (x y : Oper) : Bool := match x.dst, y.dst with
  | some a, some b => !Nat.beq a b
  | _, _ => true
/-- The operations, in the order of the walk. -/
def loOf (oa : Array Oper) (idx : List Nat) : List (Nat × Oper) := idx.filterMap fun i => (oa.toList[i]?).map fun o => (i, o)
theorem loOf_get {idx : List Nat} {p i : Nat} {o : Oper} (h : (loOf oa idx)[p]? = some (i, o)) : oa[i]? = some o := by
  have hm := List.mem_of_getElem? h
  unfold loOf at hm
  rw [List.mem_filterMap] at hm
  obtain ⟨j, _, hj⟩ := hm
  cases hx : oa.toList[j]? with
  | none => simp [hx] at hj
  | some x =>
    simp only [hx, Option.map_some, Option.some.injEq, Prod.mk.injEq] at hj
    obtain ⟨rfl, rfl⟩ := hj
    simpa using hx
/-- The temporaries of a region are told apart, or its operations come in an order; no operation comes ahead of what it waits for. -/
def tmpP (oa : Array Oper) : List (Nat × Oper) → List (Nat × Oper) → Bool
  | _, [] => true
  | pre, x :: r => x.2.after.toList.all (fun e => !Region.binds .any e || pre.any fun y => Nat.beq y.1 e.on) &&
      (pre.all fun y => !Nat.beq y.1 x.1 && dstNe y.2 x.2 && (y.2.apart oa x.2 || reach 5 oa.toList y.1 x.1)) && tmpP oa (x :: pre) r
def tmpOK (oa : Array Oper) (lo : List (Nat × Oper)) : Bool := tmpP oa [] lo && (List.range oa.toList.length).all fun i => lo.any fun x => Nat.beq x.1 i
def TP (oa : Array Oper) (x y : Nat × Oper) : Prop := x.1 ≠ y.1 ∧ (∀ d, x.2.dst = some d → y.2.dst ≠ some d) ∧ (x.2.apart oa y.2 = true ∨ reach 5 oa.toList x.1 y.1 = true)
theorem tmpP_spec : ∀ {l pre : List (Nat × Oper)}, tmpP oa pre l = true → ∀ (q : Nat) y, l[q]? = some y → (∀ e ∈ y.2.after, Region.binds .any e = true → (∃ x ∈ pre, x.1 = e.on) ∨ ∃ p x, p < q ∧ l[p]? = some x ∧ x.1 = e.on) ∧
    (∀ x ∈ pre, TP oa x y) ∧ ∀ (p : Nat) x, p < q → l[p]? = some x → TP oa x y
  | [], pre, _, q, y, hy => by simp at hy
  | z :: r, pre, h, q, y, hy => by
    simp only [tmpP, Bool.and_eq_true] at h
    obtain ⟨⟨h1, h2⟩, h3⟩ := h
    have hd : ∀ x ∈ pre, TP oa x z := fun x hx => by
      have := List.all_eq_true.1 h2 x hx
      simp only [Bool.and_eq_true, Bool.or_eq_true, Bool.not_eq_true'] at this
      refine ⟨fun e => ?_, fun d hd hd' => ?_, this.2⟩
      · rw [e, Nat.beq_refl] at this; cases this.1.1
      · have h4 := this.1.2
        simp [dstNe, hd, hd'] at h4
    cases q with
    | zero =>
      simp only [List.getElem?_cons_zero, Option.some.injEq] at hy
      subst hy
      refine ⟨fun e he hb => ?_, hd, fun p x hp => absurd hp (by omega)⟩
      have := List.all_eq_true.1 h1 e (by simpa using he)
      simp only [hb, Bool.not_true, Bool.false_or, List.any_eq_true] at this
      obtain ⟨x, hx, e1⟩ := this
      exact .inl ⟨x, hx, Nat.eq_of_beq_eq_true e1⟩
    | succ q =>
      obtain ⟨g1, g2, g3⟩ := tmpP_spec h3 q y (by simpa using hy)
      refine ⟨fun e he hb => ?_, fun x hx => g2 x (List.mem_cons_of_mem _ hx), fun p x hp hx => ?_⟩
      · rcases g1 e he hb with ⟨x, hx, e1⟩ | ⟨p, x, hp, hx, e1⟩
        · rcases List.mem_cons.1 hx with rfl | hx
          · exact .inr ⟨0, x, by omega, rfl, e1⟩
          · exact .inl ⟨x, hx, e1⟩
        · exact .inr ⟨p + 1, x, by omega, by simpa using hx, e1⟩
      · cases p with
        | zero =>
          simp only [List.getElem?_cons_zero, Option.some.injEq] at hx
          subst hx
          exact g2 _ List.mem_cons_self
        | succ p => exact g3 p x (by omega) (by simpa using hx)

section
variable {lo : List (Nat × Oper)}
theorem tmpOK_edge (h : tmpOK oa lo = true) {q k : Nat} {y : Oper} (hy : lo[q]? = some (k, y)) : ∀ e ∈ y.after, Region.binds .any e = true → ∃ (p : Nat) (x : Nat × Oper), p < q ∧ lo[p]? = some x ∧ x.1 = e.on := fun e he hb => by
  simp only [tmpOK, Bool.and_eq_true] at h
  rcases (tmpP_spec h.1 q _ hy).1 e he hb with ⟨x, hx, _⟩ | h
  · cases hx
  · exact h
theorem tmpOK_pair (h : tmpOK oa lo = true) {p q : Nat} {x y : Nat × Oper} (hx : lo[p]? = some x) (hy : lo[q]? = some y) (hpq : p < q) : TP oa x y := by
  simp only [tmpOK, Bool.and_eq_true] at h
  exact (tmpP_spec h.1 q _ hy).2.2 p x hpq hx
theorem tmpOK_all (h : tmpOK oa lo = true) {i : Nat} (hi : i < oa.size) : ∃ (p : Nat) (x : Nat × Oper), lo[p]? = some x ∧ x.1 = i := by
  simp only [tmpOK, Bool.and_eq_true] at h
  have := List.all_eq_true.1 h.2 i (by simpa using hi)
  simp only [List.any_eq_true] at this
  obtain ⟨x, hx, e⟩ := this
  obtain ⟨p, hp, rfl⟩ := List.getElem_of_mem hx
  exact ⟨p, _, by simp [hp], Nat.eq_of_beq_eq_true e⟩
theorem tmpOK_inj (h : tmpOK oa lo = true) {p q : Nat} {x y : Nat × Oper} (hx : lo[p]? = some x) (hy : lo[q]? = some y) (e : x.1 = y.1) : p = q := by
  rcases Nat.lt_trichotomy p q with h1 | h1 | h1
  · exact absurd e (tmpOK_pair h hx hy h1).1
  · exact h1
  · exact absurd e.symm (tmpOK_pair h hy hx h1).1

theorem reach_closed {X : Nat → Prop} (hX : ∀ i y, X i → oa[i]? = some y → ∀ e ∈ y.after, Region.binds .any e = true → X e.on) : ∀ (f j k : Nat), reach f oa.toList j k = true → (∀ y, oa[k]? = some y → ∀ e ∈ y.after, Region.binds .any e = true → X e.on) → X j
  | 0, j, k, h, _ => by simp [reach] at h
  | f + 1, j, k, h, hk => by
    simp only [reach, Array.getElem?_toList] at h
    cases hy : oa[k]? with
    | none => simp [hy] at h
    | some y =>
      simp only [hy, Bool.or_eq_true, List.any_eq_true] at h
      rcases h with ⟨e, he, hb⟩ | ⟨e, he, hb⟩
      · simp only [Bool.and_eq_true] at hb
        have := hk y hy e (by simpa using he) hb.1
        rwa [Nat.eq_of_beq_eq_true hb.2] at this
      · simp only [Bool.and_eq_true] at hb
        exact reach_closed hX f j e.on hb.2 fun z hz => hX e.on z (hk y hy e (by simpa using he) hb.1) hz

theorem last_or_none (p : Nat → Prop) (k : Nat) : (∀ i, i < k → ¬ p i) ∨ ∃ i, i < k ∧ p i ∧ ∀ i', i < i' → i' < k → ¬ p i' := by
  classical
  induction k with
  | zero => exact .inl fun i hi => absurd hi (by omega)
  | succ k ih =>
    by_cases hk : p k
    · exact .inr ⟨k, by omega, hk, fun i' h1 h2 => absurd h1 (by omega)⟩
    · rcases ih with h | ⟨i, h1, h2, h3⟩
      · exact .inl fun i hi => by
          rcases Nat.lt_succ_iff_lt_or_eq.1 hi with h1 | rfl
          · exact h i h1
          · exact hk
      · exact .inr ⟨i, by omega, h2, fun i' g1 g2 => by
          rcases Nat.lt_succ_iff_lt_or_eq.1 g2 with h4 | rfl
          · exact h3 i' g1 h4
          · exact hk⟩

theorem rank_le : ∀ (l : List (Nat × Oper)) (i k : Nat), i ≤ k → rank l i ≤ rank l k
  | _, 0, _, _ => by simp [rank]
  | [], i + 1, k, _ => by cases k <;> simp [rank]
  | o :: l, i + 1, 0, h => absurd h (by omega)
  | o :: l, i + 1, k + 1, h => by
    have := rank_le l i k (by omega)
    simp only [rank, more]
    cases isWr o.2.op <;> simp <;> omega
theorem rank_lt : ∀ (l : List (Nat × Oper)) (i k : Nat) (x : Nat × Oper), l[i]? = some x → isWr x.2.op = true → i < k → rank l i < rank l k
  | [], i, k, o, h, _, _ => by simp at h
  | x :: l, 0, 0, o, h, _, hk => absurd hk (by omega)
  | x :: l, 0, k + 1, o, h, hw, hk => by
    simp only [List.getElem?_cons_zero, Option.some.injEq] at h
    subst h
    simp [rank, more, hw]
  | x :: l, i + 1, 0, o, h, _, hk => absurd hk (by omega)
  | x :: l, i + 1, k + 1, o, h, hw, hk => by
    have := rank_lt l i k o (by simpa using h) hw (by omega)
    simp only [rank, more]
    cases isWr x.2.op <;> simp <;> omega

/-- The state once these operations have been carried out, in whatever order. -/
structure Inv (N : Nat) (B0 : Option Nat) (oa : Array Oper) (lo : List (Nat × Oper)) (B m : Nat) (st : Nat → St) (T : Nat → Rec) (S0 : Nat → Prop) (w0 : World) (μ0 : Mu) (X : Nat → Prop) (S : Nat → Prop) (μ : Mu) (HX : HL) (a : Act) (w : World) : Prop where
  rel : RelL S w μ HX
  len : HX.length = (st m).H.length
  tmps : a.tmps.size = N
  df : DfR B0 S w μ (hget HX) (st 0).df a.defers
  tr : Tr S0 w0 μ0 (hget (st 0).H) S w μ (hget HX)
  e1 : ∀ j, (∀ p y, X p → lo[p]? = some y → y.2.dst ≠ some j) → R S w μ ((st 0).e j) (a.tmps.getD j undef)
  e2 : ∀ p y j, X p → lo[p]? = some y → y.2.dst = some j → R S w μ (T p).d (a.tmps.getD j undef)
  h1 : ∀ o, (∀ p, X p → o ∉ (T p).ws) → hget HX o = hget (st 0).H o
  h2 : ∀ o p, X p → o ∈ (T p).ws → (∀ p', X p' → p < p' → o ∉ (T p').ws) → hget HX o = hget (st (p + 1)).H o
  mm : ∀ p y, ¬ X p → lo[p]? = some y → isWr y.2.op = true → μ (B + rank lo p) = none
  sub : ∀ p, X p → p < m
  done : ∀ p, p < m → (T p).cl = true → X p

variable {B m : Nat} {st : Nat → St} {T : Nat → Rec} {hist : Hist}
theorem lexE (hW : Wk C N oa lo B m st T hist) (hok : tmpOK oa lo = true) (hmlo : m ≤ lo.length) : ∀ q, q ≤ m → ∀ j,
    ((∀ p y, p < q → lo[p]? = some y → y.2.dst ≠ some j) → ∀ (S : Nat → Prop) w μ v, R S w μ ((st 0).e j) v → R S w μ ((st q).e j) v) ∧
    (∀ p y, p < q → lo[p]? = some y → y.2.dst = some j → ∀ (S : Nat → Prop) w μ v, R S w μ (T p).d v → R S w μ ((st q).e j) v) := by
  intro q
  induction q with
  | zero => exact fun _ j => ⟨fun _ S w μ v h => h, fun i y hi => absurd hi (by omega)⟩
  | succ q ih =>
    intro hq j
    obtain ⟨ih1, ih2⟩ := ih (by omega) j
    obtain ⟨⟨i, y⟩, hy⟩ : ∃ y, lo[q]? = some y := ⟨lo[q], by simp [show q < lo.length by omega]⟩
    obtain ⟨w1, w2, w3, w4, w5⟩ := hW.chain q (by omega)
    have hok' := hW.ok q i y (by omega) hy
    have hu := hok'.upd j
    rw [w3] at hu
    have href : y.dst ≠ some j → ∀ (S : Nat → Prop) w μ v, R S w μ ((st q).e j) v → R S w μ ((st (q + 1)).e j) v := fun hne S w μ v h => by
      rw [hu, if_neg hne]
      exact hok'.ref j S w μ v (by rw [w1]; exact h)
    refine ⟨fun hno S w μ v h => href (hno q _ (by omega) hy) S w μ v (ih1 (fun i z hi hz => hno i z (by omega) hz) S w μ v h), fun p z hp hz hd S w μ v h => ?_⟩
    rcases Nat.lt_succ_iff_lt_or_eq.1 hp with h1 | rfl
    · exact href ((tmpOK_pair hok hz hy h1).2.1 j hd) S w μ v (ih2 p z h1 hz hd S w μ v h)
    · rw [hy] at hz
      injection hz with hz
      subst hz
      rw [hu, if_pos hd]
      exact h

theorem lexStep (hW : Wk C N oa lo B m st T hist) (hmlo : m ≤ lo.length) {q : Nat} (hq : q < m) : (st q).H.length ≤ (st (q + 1)).H.length ∧ ∀ o, o ∉ (T q).ws → hget (st (q + 1)).H o = hget (st q).H o := by
  obtain ⟨⟨i, y⟩, hy⟩ : ∃ y, lo[q]? = some y := ⟨lo[q], by simp [show q < lo.length by omega]⟩
  obtain ⟨w1, w2, w3, w4, w5⟩ := hW.chain q hq
  have hok' := hW.ok q i y hq hy
  rcases hok'.run with ⟨_, _, _, _, h⟩ | ⟨_, _, _, _, _, h⟩ | ⟨_, _, _, _, _, hl, _, _, h⟩ | ⟨_, hl, h⟩
  · rw [w4, w2] at h; rw [h]; exact ⟨Nat.le_refl _, fun _ _ => rfl⟩
  · rw [w4, w2] at h; rw [h]; exact ⟨Nat.le_refl _, fun _ _ => rfl⟩
  · rw [w4, w2] at h
    rw [w2] at hl
    rw [h]
    refine ⟨Nat.le_of_eq (mergeH_len _ _ _ _ hl).symm, fun o ho => ?_⟩
    unfold hget
    rw [mergeH_get _ _ _ _ _ hl]
    cases hb : memB (0 + o) (T q).ws with
    | false => rfl
    | true => exact absurd ((memB_iff _ _).1 hb) (by rwa [Nat.zero_add])
  · rw [w4, w2] at hl
    rw [w4, w2] at h
    exact ⟨hl, h⟩
theorem lexH (hW : Wk C N oa lo B m st T hist) (hmlo : m ≤ lo.length) {i : Nat} : ∀ q, i ≤ q → q ≤ m → ∀ o, (∀ i', i ≤ i' → i' < q → o ∉ (T i').ws) → hget (st q).H o = hget (st i).H o := by
  intro q
  induction q with
  | zero => intro h _ o _; rw [show i = 0 by omega]
  | succ q ih =>
    intro h hq o ho
    rcases Nat.lt_or_ge i (q + 1) with h1 | h1
    · rw [(lexStep hW hmlo (by omega)).2 o (ho q (by omega) (by omega))]
      exact ih (by omega) (by omega) o fun i' a b => ho i' a (by omega)
    · obtain rfl : i = q + 1 := by omega
      rfl
theorem lexLen (hW : Wk C N oa lo B m st T hist) (hmlo : m ≤ lo.length) {i : Nat} : ∀ q, i ≤ q → q ≤ m → (st i).H.length ≤ (st q).H.length := by
  intro q
  induction q with
  | zero => exact fun h _ => by rw [show i = 0 by omega]; exact Nat.le_refl _
  | succ q ih =>
    intro h hq
    rcases Nat.lt_or_ge i (q + 1) with h1 | h1
    · exact Nat.le_trans (ih (by omega) (by omega)) (lexStep hW hmlo (by omega)).1
    · rw [show i = q + 1 by omega]; exact Nat.le_refl _
theorem lexDf (hW : Wk C N oa lo B m st T hist) : ∀ q, q ≤ m → (st q).df = (st 0).df := by
  intro q
  induction q with
  | zero => exact fun _ => rfl
  | succ q ih => exact fun hq => (hW.chain q (by omega)).2.2.2.2.trans (ih (by omega))

variable {X : Nat → Prop} {S0 : Nat → Prop} {w0 : World} {μ0 : Mu} {HX : HL} {a : Act}
theorem Inv.env (h : Inv N B0 oa lo B m st T S0 w0 μ0 X S μ HX a w) (hW : Wk C N oa lo B m st T hist) (hok : tmpOK oa lo = true) (hmlo : m ≤ lo.length) {k : Nat} (hk : k ≤ m)
    {j : Nat} (hj : ∀ p y, lo[p]? = some y → y.2.dst = some j → (p < k → X p) ∧ (k ≤ p → ¬ X p)) : R S w μ ((st k).e j) (a.tmps.getD j undef) := by
  classical
  obtain ⟨l1, l2⟩ := lexE hW hok hmlo k hk j
  by_cases he : ∃ p y, p < k ∧ lo[p]? = some y ∧ y.2.dst = some j
  · obtain ⟨i, y, hi, hy, hd⟩ := he
    exact l2 i y hi hy hd _ _ _ _ (h.e2 i y j ((hj i y hy hd).1 hi) hy hd)
  · refine l1 (fun i y hi hy hd => he ⟨i, y, hi, hy, hd⟩) _ _ _ _ (h.e1 j fun i y hX hy hd => ?_)
    rcases Nat.lt_or_ge i k with hi | hi
    · exact he ⟨i, y, hi, hy, hd⟩
    · exact (hj i y hy hd).2 hi hX

theorem Inv.heap (h : Inv N B0 oa lo B m st T S0 w0 μ0 X S μ HX a w) (hW : Wk C N oa lo B m st T hist) (hmlo : m ≤ lo.length) {k : Nat} (hk : k ≤ m)
    {o : Nat} (ho : ∀ i, i < m → o ∈ (T i).ws → (i < k → X i) ∧ (k ≤ i → ¬ X i)) : hget HX o = hget (st k).H o := by
  rcases last_or_none (fun i => o ∈ (T i).ws) k with hn | ⟨i, h1, h2, h3⟩
  · rw [lexH hW hmlo k (Nat.zero_le _) hk o fun i' _ hi => hn i' hi]
    refine h.h1 o fun i hXi hw => ?_
    rcases Nat.lt_or_ge i k with hi | hi
    · exact hn i hi hw
    · exact (ho i (h.sub i hXi) hw).2 hi hXi
  · rw [lexH hW hmlo k (i := i + 1) (by omega) hk o fun i' a b => h3 i' (by omega) b]
    refine h.h2 o i ((ho i (by omega) h2).1 h1) h2 fun i' hXi' hlt hw => ?_
    rcases Nat.lt_or_ge i' k with hi | hi
    · exact h3 i' hlt hi hw
    · exact (ho i' (h.sub i' hXi') hw).2 hi hXi'

def cntF : Nat → Array Bool → Nat
  | 0, _ => 0
  | m + 1, l => cntF m l + (if l.getD m false = true then 0 else 1)
theorem cntF_le (l : Array Bool) (i : Nat) : ∀ m, cntF m (l.setIfInBounds i true) ≤ cntF m l
  | 0 => Nat.le_refl _
  | m + 1 => by
    have := cntF_le l i m
    simp only [cntF]
    by_cases h : l.getD m false = true
    · rw [if_pos h, if_pos (getD_set_true h)]; omega
    · rw [if_neg h]; split <;> omega
theorem cntF_lt (l : Array Bool) (i : Nat) (hi : l.getD i false ≠ true) (his : i < l.size) : ∀ m, i < m → cntF m (l.setIfInBounds i true) < cntF m l
  | 0, h => absurd h (by omega)
  | m + 1, h => by
    simp only [cntF]
    rcases Nat.lt_succ_iff_lt_or_eq.1 h with h1 | rfl
    · have := cntF_lt l i hi his m h1
      by_cases h2 : l.getD m false = true
      · rw [if_pos h2, if_pos (getD_set_true h2)]; omega
      · rw [if_neg h2]; split <;> omega
    · have := cntF_le l i i
      have h2 : (l.setIfInBounds i true).getD i false = true := by simp [his]
      rw [if_neg hi, if_pos h2]
      omega
theorem cntF_zero (l : Array Bool) : ∀ m, cntF m l = 0 → ∀ i, i < m → l.getD i false = true
  | 0, _, i, h => absurd h (by omega)
  | m + 1, h, i, hi => by
    simp only [cntF] at h
    rcases Nat.lt_succ_iff_lt_or_eq.1 hi with h1 | rfl
    · exact cntF_zero l m (by omega) i h1
    · by_cases h2 : l.getD i false = true
      · exact h2
      · rw [if_neg h2] at h; omega
theorem set_getD {l : Array Bool} {i j : Nat} (hi : i < l.size) : (l.setIfInBounds i true).getD j false = true ↔ l.getD j false = true ∨ j = i := by
  by_cases h : j = i
  · subst h; simp [hi]
  · rw [getD_set_ne false (fun e => h e.symm)]; simp [h]

abbrev Xof (l : Array Bool) (i : Nat) : Prop := l.getD i false = true
/-- The places in the walk of what was carried out. -/
def Xp (lo : List (Nat × Oper)) (l : Array Bool) (p : Nat) : Prop := ∃ x, lo[p]? = some x ∧ Xof l x.1
theorem Xp_set (hok : tmpOK oa lo = true) {l : Array Bool} {k p : Nat} {y : Oper} (hy : lo[p]? = some (k, y)) (hk : k < l.size) {q : Nat} : Xp lo (l.setIfInBounds k true) q ↔ Xp lo l q ∨ q = p := by
  constructor
  · rintro ⟨x, hx, h⟩
    rcases (set_getD hk).1 h with h | h
    · exact .inl ⟨x, hx, h⟩
    · exact .inr (tmpOK_inj hok hx hy h)
  · rintro (⟨x, hx, h⟩ | rfl)
    · exact ⟨x, hx, (set_getD hk).2 (.inl h)⟩
    · exact ⟨_, hy, (set_getD hk).2 (.inr rfl)⟩

/-- What holds of an operation whose turn has come: what it looks at is there. -/
structure Turn (oa : Array Oper) (lo : List (Nat × Oper)) (m : Nat) (st : Nat → St) (T : Nat → Rec) (X : Nat → Prop) (S : Nat → Prop) (μ : Mu) (HX : HL) (a : Act) (w : World) (p k : Nat) (y : Oper) : Prop where
  before : ∀ q x, lo[q]? = some x → reach 5 oa.toList x.1 k = true → X q
  after : ∀ q x, lo[q]? = some x → reach 5 oa.toList k x.1 = true → ¬ X q
  looks : ∀ j, j ∈ y.looksAt oa → R S w μ ((st p).e j) (a.tmps.getD j undef)

theorem turn_of (hW : Wk C N oa lo B m st T hist) (hok : tmpOK oa lo = true) (hloa : ∀ (p i : Nat) o, lo[p]? = some (i, o) → oa[i]? = some o) (hmlo : m ≤ lo.length) {listed : Array Bool} (hcl : ∀ i y, Xof listed i → oa[i]? = some y → ∀ e ∈ y.after, Region.binds .any e = true → Xof listed e.on)
    (h : Inv N B0 oa lo B m st T S0 w0 μ0 (Xp lo listed) S μ HX a w) {p k : Nat} {y : Oper} (hp : p ≤ m) (hy : lo[p]? = some (k, y)) (hnk : ¬ Xof listed k) (hpre : ∀ e ∈ y.after, Region.binds .any e = true → Xof listed e.on) :
    Turn oa lo m st T (Xp lo listed) S μ HX a w p k y := by
  have hoy := hloa p k y hy
  have hbefore : ∀ j, reach 5 oa.toList j k = true → Xof listed j := fun j hr => reach_closed hcl 5 j k hr fun z hz e he hb => by
    rw [hoy] at hz; injection hz with hz; subst hz; exact hpre e he hb
  have hafter : ∀ i, reach 5 oa.toList k i = true → ¬ Xof listed i := fun i hr hi => hnk (reach_closed hcl 5 k i hr fun z hz => hcl i z hi hz)
  have b1 : ∀ q x, lo[q]? = some x → reach 5 oa.toList x.1 k = true → Xp lo listed q := fun q x hx hr => ⟨x, hx, hbefore _ hr⟩
  have a1 : ∀ q x, lo[q]? = some x → reach 5 oa.toList k x.1 = true → ¬ Xp lo listed q := fun q x hx hr ⟨x', hx', hX⟩ => by
    rw [hx] at hx'; injection hx' with hx'; subst hx'; exact hafter _ hr hX
  refine ⟨b1, a1, fun j hj => h.env hW hok hmlo hp fun q z hz hd => ⟨fun hq => ?_, fun hq hX => ?_⟩⟩
  · rcases (tmpOK_pair hok hz hy hq).2.2 with h1 | h1
    · exact absurd hj ((Oper.apart_spec h1).1 j hd)
    · exact b1 q z hz h1
  · rcases Nat.lt_or_ge p q with h1 | h1
    · rcases (tmpOK_pair hok hy hz h1).2.2 with h2 | h2
      · exact absurd hj ((Oper.apart_spec h2).2.2 j hd)
      · exact a1 q z hz h2 hX
    · obtain rfl : q = p := by omega
      obtain ⟨x', hx', hX'⟩ := hX
      rw [hy] at hx'; injection hx' with hx'; subst hx'
      exact hnk hX'

/-- One operation, when its turn has come. -/
theorem drawn_step (hC : CallsOK P C RTT) (hok : tmpOK oa lo = true) (hloa : ∀ (p i : Nat) o, lo[p]? = some (i, o) → oa[i]? = some o) (hW : Wk C N oa lo B m st T hist) (hmlo : m ≤ lo.length) (hB : ∀ p, p < lo.length → B + rank lo p < (st 0).H.length ∨ ∀ y, lo[p]? = some y → isWr y.2.op = false) {Q : Exit → Act → World → Prop}
    {listed : Array Bool} (hs : listed.size = oa.size) (hcl : ∀ i y, Xof listed i → oa[i]? = some y → ∀ e ∈ y.after, Region.binds .any e = true → Xof listed e.on) (h : Inv N B0 oa lo B m st T S0 w0 μ0 (Xp lo listed) S μ HX a w)
    {p k : Nat} {y : Oper} (hp : p < m) (hy : lo[p]? = some (k, y)) (hnk : ¬ Xof listed k) (hpre : ∀ e ∈ y.after, Region.binds .any e = true → Xof listed e.on) {n : Nat} {K : Act → World → Prop}
    (hK : ∀ (S' : Nat → Prop) μ' HX' a' w', Inv N B0 oa lo B m st T S0 w0 μ0 (Xp lo (listed.setIfInBounds k true)) S' μ' HX' a' w' → Tr S w μ (hget HX) S' w' μ' (hget HX') → K a' w') : wpOpIn (FW r) n P oa Q k K a w := by
  have hoy := hloa p k y hy
  have hks : k < oa.size := (Array.getElem?_eq_some_iff.1 hoy).1
  have hkl : k < listed.size := by omega
  have hnp : ¬ Xp lo listed p := fun ⟨x, hx, hX⟩ => by rw [hy] at hx; injection hx with hx; subst hx; exact hnk hX
  obtain ⟨hbefore, hafter, hlooks0⟩ := turn_of hW hok hloa hmlo hcl h (Nat.le_of_lt hp) hy hnk hpre
  obtain ⟨w1, w2, w3, w4, w5⟩ := hW.chain p hp
  have hrec := hW.ok p k y hp hy
  have hlt : ∀ q, q < m → ∃ x, lo[q]? = some x := fun q hq => ⟨lo[q], by simp [show q < lo.length by omega]⟩
  have hpair : ∀ q q', q < q' → q' < m → ∀ x x', lo[q]? = some x → lo[q']? = some x' → Pair oa.toList x.1 (T q).fp (T q).ws x'.1 (T q').fp (T q').ws := fun q q' h1 h2 x x' hx hx' => hW.pair q q' x.1 x'.1 x.2 x'.2 h1 h2 hx hx'
  have hlooks : ∀ j, j ∈ y.looksAt oa → R S w μ ((T p).e j) (a.tmps.getD j undef) := fun j hj => by rw [w1]; exact hlooks0 j hj
  have hwant := hrec.guard a fun j hj => ⟨S, w, μ, hlooks j hj⟩
  have henv : EnvR S w μ (resE (y.looksAt oa) (T p).e1) a := fun j => by
    unfold resE
    cases hm : memB j (y.looksAt oa) with
    | true => exact hrec.ref j S w μ _ (hlooks j ((memB_iff _ _).1 hm))
    | false => exact .top _
  -- what stays, once operation k is done
  have done : ∀ (S' : Nat → Prop) w' μ' HX' v, (T p).cl = false → RelL S' w' μ' HX' → Tr S w μ (hget HX) S' w' μ' (hget HX') → HX'.length = HX.length → R S' w' μ' (T p).d v → (∀ o, o ∉ (T p).ws → hget HX' o = hget HX o) →
      (∀ o, o ∈ (T p).ws → hget HX' o = hget (st (p + 1)).H o) → (∀ q z, ¬ Xp lo listed q → q ≠ p → lo[q]? = some z → isWr z.2.op = true → hget HX' (B + rank lo q) = none) →
      Inv N B0 oa lo B m st T S0 w0 μ0 (Xp lo (listed.setIfInBounds k true)) S' μ' HX' (a.put y.dst v) w' := fun S' w' μ' HX' v hcf g t hl hv hout hin hm => by
    have hsz : (a.put y.dst v).tmps.size = N := by rw [V.Act.put_size]; exact h.tmps
    have hput : ∀ j, (a.put y.dst v).tmps.getD j undef = if y.dst = some j then v else a.tmps.getD j undef := fun j => by
      cases hd : y.dst with
      | none => simp [Act.put]
      | some d =>
        have hdN := hrec.dst d hd
        by_cases hj : d = j
        · subst hj; simp [Act.put, h.tmps, hdN]
        · have : ¬ (some d = some j) := fun e => hj (by injection e)
          rw [if_neg this]
          simp only [Act.put, Array.getD_eq_getD_getElem?]
          rw [Array.getElem?_setIfInBounds_ne hj]
    refine ⟨g, hl.trans h.len, hsz, by rw [V.Act.put_defers]; exact h.df.tr h.rel.1 t, h.tr.trans t, fun j hj => ?_, fun q z j hq hz hd => ?_, fun o ho => ?_, fun o q hq hw hlast => ?_, fun q z hq hz hwz => ?_, fun q hq => ?_, fun q hq hc => ?_⟩
    · rw [hput, if_neg (hj p _ ((Xp_set hok hy hkl).2 (.inr rfl)) hy)]
      exact (h.e1 j fun i z hi hz => hj i z ((Xp_set hok hy hkl).2 (.inl hi)) hz).tr h.rel.1 t
    · rw [hput]
      rcases (Xp_set hok hy hkl).1 hq with hq | rfl
      · have hne : q ≠ p := fun e => hnp (e ▸ hq)
        have hyd : y.dst ≠ some j := fun e => by
          rcases Nat.lt_or_ge q p with h1 | h1
          · exact (tmpOK_pair hok hz hy h1).2.1 j hd e
          · exact (tmpOK_pair hok hy hz (by omega)).2.1 j e hd
        rw [if_neg hyd]
        exact (h.e2 q z j hq hz hd).tr h.rel.1 t
      · rw [hy] at hz; injection hz with hz; subst hz
        rw [if_pos hd]
        exact hv
    · rw [hout o (ho p ((Xp_set hok hy hkl).2 (.inr rfl)))]
      exact h.h1 o fun i hi => ho i ((Xp_set hok hy hkl).2 (.inl hi))
    · rcases (Xp_set hok hy hkl).1 hq with hq' | rfl
      · by_cases hok2 : o ∈ (T p).ws
        · have hpq : p < q := by
            rcases Nat.lt_or_ge q p with h1 | h1
            · exact absurd hok2 (hlast p ((Xp_set hok hy hkl).2 (.inr rfl)) h1)
            · have : q ≠ p := fun e => hnp (e ▸ hq')
              omega
          obtain ⟨z, hz⟩ := hlt q (h.sub q hq')
          rcases hpair p q hpq (h.sub q hq') _ _ hy hz with h1 | h1
          · exact absurd hq' (hafter q z hz h1)
          · exact absurd hw (h1.1 o hok2).2
        · rw [hout o hok2]
          exact h.h2 o q hq' hw fun i' hi2 hlt => hlast i' ((Xp_set hok hy hkl).2 (.inl hi2)) hlt
      · exact hin o hw
    · have hni : ¬ Xp lo listed q := fun e => hq ((Xp_set hok hy hkl).2 (.inl e))
      have hne : q ≠ p := fun e => hq ((Xp_set hok hy hkl).2 (.inr e))
      cases hx : μ' (B + rank lo q) with
      | none => rfl
      | some mv =>
        rcases t.dom (B + rank lo q) (by rw [hx]; exact fun e => by cases e) with h1 | ⟨h1, _⟩
        · exact absurd (hm q z hni hne hz hwz) h1
        · exact absurd (h.mm q z hni hz hwz) h1
    · rcases (Xp_set hok hy hkl).1 hq with hq | rfl
      · exact h.sub q hq
      · exact hp
    · exact (Xp_set hok hy hkl).2 (.inl (h.done q hq hc))
  -- the part of the heap that the operation looks at
  have hfp : ∀ o, o ∈ (T p).fp → hget HX o = hget (st p).H o := fun o ho => by
    refine h.heap hW hmlo (Nat.le_of_lt hp) fun q hq hw => ⟨fun hqp => ?_, fun hpq hX => ?_⟩
    · obtain ⟨z, hz⟩ := hlt q hq
      rcases hpair q p hqp hp _ _ hz hy with h1 | h1
      · exact hbefore q z hz h1
      · exact absurd ho (h1.1 o hw).1
    · obtain ⟨z, hz⟩ := hlt q hq
      rcases Nat.lt_or_ge p q with h1 | h1
      · rcases hpair p q h1 hq _ _ hy hz with h2 | h2
        · exact hafter q z hz h2 hX
        · exact absurd hw (h2.2 o ho)
      · exact hnp (by rwa [show p = q by omega])
  have hlenp : (st p).H.length ≤ HX.length := by rw [h.len]; exact lexLen hW hmlo m (Nat.le_of_lt hp) (Nat.le_refl _)
  obtain ⟨qq, hqq⟩ : ∃ qq, (st p).H.length + qq = HX.length := ⟨HX.length - (st p).H.length, by omega⟩
  have hres : ∀ o, hget (resH (T p).fp 0 (T p).H) o = if o ∈ (T p).fp then hget HX o else none := fun o => by
    have := resH_get (T p).fp (T p).H 0 o
    rw [Nat.zero_add] at this
    unfold hget at hfp ⊢
    rw [this]
    by_cases hm : o ∈ (T p).fp
    · rw [(memB_iff _ _).2 hm, if_pos hm, cond_true, w2, hfp o hm]
    · have : memB o (T p).fp = false := by
        cases hb : memB o (T p).fp with
        | false => rfl
        | true => exact absurd ((memB_iff _ _).1 hb) hm
      rw [this, if_neg hm]; rfl
  have hsub : ∀ o ob, hget (pad qq (resH (T p).fp 0 (T p).H)) o = some ob → hget HX o = some ob ∧ o ∈ (T p).fp := fun o ob ho => by
    rw [pad_get, hres] at ho
    split at ho
    · rename_i hm; exact ⟨ho, hm⟩
    · cases ho
  have hlR : (pad qq (resH (T p).fp 0 (T p).H)).length = HX.length := by rw [pad_len, resH_len, w2, hqq]
  have hrR : RelL S w μ (pad qq (resH (T p).fp 0 (T p).H)) := h.rel.sub hlR fun o ob ho => (hsub o ob ho).1
  have hmem0 : ∀ q z, ¬ Xp lo listed q → lo[q]? = some z → isWr z.2.op = true → hget HX (B + rank lo q) = none := fun q z hq hz hwz => by
    cases hx : hget HX (B + rank lo q) with
    | none => rfl
    | some ob =>
      obtain ⟨mv, m1, _⟩ := h.rel.1.obs _ _ hx
      rw [h.mm q z hq hz hwz] at m1; cases m1
  unfold wpOpIn
  simp only [hoy]
  rcases hrec.run with ⟨rc, r1, r2, r3, r4⟩ | ⟨rc, r1, r2, r3, r4, r5⟩ | ⟨rc, r1, r2, r3, r4, r5, r6, r7, r8⟩ | ⟨rc, _⟩
  · rw [hwant, r1]
    simp only [Bool.false_eq_true, if_false]
    refine ⟨fun _ _ => trivial, hK _ _ _ _ _ (done S w μ HX undef rc h.rel (.refl ..) rfl (by rw [r2]; exact R_undef) (fun o _ => rfl) (fun o ho => ?_) fun i z hi _ hz hwz => hmem0 i z hi hz hwz) (.refl ..)⟩
    rw [r3] at ho; cases ho
  · rw [hwant, r1]
    simp only [if_true]
    have hs := sound_sr (P := P) (k := fun d => d = (T p).d) hC henv hrR (by rw [vsr_congr (pad_get _ _)]; exact r3 (fun d => d = (T p).d) rfl)
    refine hs r n K Q fun v w' ⟨S', μ', d, H', ⟨e1, e2⟩, g1, g2, g3⟩ => ?_
    subst e1; subst e2
    obtain ⟨f1, f2⟩ := frame (ws := (T p).fp) (HX' := HX) h.rel hlR hlR hsub (fun o ho hx => by rw [pad_get, hres, if_pos ho]; exact hx) (fun o ho => by
      cases hx : hget (pad qq (resH (T p).fp 0 (T p).H)) o with
      | none => exact absurd hx ho
      | some ob => exact (hsub o ob hx).2) (fun o ho => by rw [pad_get, hres, if_pos ho]) (fun o _ => rfl) g2 g3
    refine hK _ _ _ _ _ (done S' w' μ' HX v rc f1 f2 rfl g1 (fun o _ => rfl) (fun o ho => ?_) fun i z hi _ hz hwz => hmem0 i z hi hz hwz) f2
    rw [r4] at ho; cases ho
  · rw [hwant, r1]
    simp only [if_true]
    have hno : μ (B + rank lo p) = none := h.mm p _ hnp hy r2
    have hBp : B + rank lo p < (st p).H.length := by
      rcases hB p (by omega) with h1 | h1
      · exact Nat.lt_of_lt_of_le h1 (lexLen hW hmlo p (Nat.zero_le _) (Nat.le_of_lt hp))
      · rw [h1 _ hy] at r2; cases r2
    have hs := sound_step (P := P) (nid := B + rank lo p) (k := fun d H => d = (T p).d ∧ H = pad qq (T p).HR) hC henv hrR hno (by rw [hlR]; omega) (by
      unfold vstep
      rw [r2, cond_true]
      exact vwr_pad (k := fun d H => d = (T p).d ∧ H = (T p).HR) (by rw [resH_len, w2]; exact hBp) (fun d H' ⟨e1, e2⟩ => ⟨e1, by rw [e2]⟩) (r3 _ ⟨rfl, rfl⟩))
    refine hs r n K Q fun v w' ⟨S', μ', d, H', ⟨e1, e2⟩, g1, g2, g3⟩ => ?_
    subst e1; subst e2
    have hlen' : (pad qq (T p).HR).length = HX.length := by rw [pad_len, r5, w2, hqq]
    let HX' := mergeH (T p).ws 0 HX (pad qq (T p).HR)
    have hget' : ∀ o, hget HX' o = if o ∈ (T p).ws then hget (T p).HR o else hget HX o := fun o => by
      have := mergeH_get (T p).ws HX (pad qq (T p).HR) 0 o hlen'
      rw [Nat.zero_add] at this
      rw [← pad_get qq (T p).HR]
      unfold hget
      rw [this]
      by_cases hm : o ∈ (T p).ws
      · rw [(memB_iff _ _).2 hm, if_pos hm]; rfl
      · have : memB o (T p).ws = false := by
          cases hb : memB o (T p).ws with
          | false => rfl
          | true => exact absurd ((memB_iff _ _).1 hb) hm
        rw [this, if_neg hm]; rfl
    obtain ⟨f1, f2⟩ := frame (ws := (T p).ws) (HX' := HX') h.rel hlR (by rw [hlen', mergeH_len _ _ _ _ hlen']) (fun o ob ho => ⟨(hsub o ob ho).1, by rw [r4]; exact List.mem_cons_of_mem _ (hsub o ob ho).2⟩) (fun o ho hx => by
      rw [r4] at ho
      rcases List.mem_cons.1 ho with rfl | ho
      · exact absurd (hmem0 p _ hnp hy r2) hx
      · rw [pad_get, hres, if_pos ho]; exact hx) (fun o ho => r6 o (by rwa [pad_get] at ho)) (fun o ho => by rw [hget', if_pos ho, pad_get]) (fun o ho => by rw [hget', if_neg ho]) g2 g3
    refine hK _ _ _ _ _ (done S' w' μ' HX' v rc f1 f2 (mergeH_len _ _ _ _ hlen') g1 (fun o ho => by rw [hget', if_neg ho]) (fun o ho => ?_) fun i z hi hne hz hwz => ?_) f2
    · rw [hget', if_pos ho, ← w4, r8]
      have hl2 : (T p).HR.length = (T p).H.length := r5
      have := mergeH_get (T p).ws (T p).H (T p).HR 0 o hl2
      rw [Nat.zero_add, (memB_iff _ _).2 ho] at this
      unfold hget
      rw [this]; rfl
    · rw [hget']
      split
      · rename_i hm
        rw [r4] at hm
        have h0 := hmem0 i z hi hz hwz
        rcases List.mem_cons.1 hm with he | hm
        · exfalso
          have : rank lo i = rank lo p := by omega
          rcases Nat.lt_or_ge i p with h1 | h1
          · have := rank_lt lo i p z hz hwz h1; omega
          · have := rank_lt lo p i _ hy r2 (by omega); omega
        · exfalso
          have := r7 _ hm
          rw [w2, ← hfp _ hm] at this
          exact this h0
      · exact hmem0 i z hi hz hwz
  · exact absurd (h.done p hp rc) hnp

theorem panE_R {ops : List Oper} {e : Env} {j : Nat} : (panE ops e j = e j ∧ ∀ o ∈ ops, o.dst ≠ some j) ∨ panE ops e j = .top := by
  unfold panE
  cases h : ops.any (fun o => match o.dst with | some d => Nat.beq d j | none => false) with
  | true => exact .inr rfl
  | false =>
    refine .inl ⟨rfl, fun o ho hd => ?_⟩
    have := List.any_eq_false.1 h o ho
    simp [hd] at this

theorem nilB_eq {l : List Nat} (h : nilB l = true) : l = [] := by cases l <;> first | rfl | cases h

/-- A call, when its turn has come. -/
theorem drawn_call (hC : CallsOK P C RTT) (hok : tmpOK oa lo = true) (hloa : ∀ (p i : Nat) o, lo[p]? = some (i, o) → oa[i]? = some o) (hW : Wk C N oa lo B m st T hist) (hmlo : m ≤ lo.length) (hB : B + rank lo lo.length ≤ (st 0).H.length)
    {listed : Array Bool} (hs : listed.size = oa.size) (hcl : ∀ i y, Xof listed i → oa[i]? = some y → ∀ e ∈ y.after, Region.binds .any e = true → Xof listed e.on) (h : Inv N B0 oa lo B m st T S0 w0 μ0 (Xp lo listed) S μ HX a w)
    (hro : r = none ∨ (st 0).df = none) {K : VX → St → Prop} {i : Nat} {y : Oper} {rest : List (Nat × Oper)} {e1 : Env} {ih : Hist → St → Prop} (hlo : lo.drop m = (i, y) :: rest) (href : ∀ j S w μ v, R S w μ ((st m).e j) v → R S w μ (e1 j) v)
    (hguard : ∀ (a : Act), (∀ j, j ∈ y.looksAt oa → ∃ S w μ, R S w μ ((st m).e j) (a.tmps.getD j undef)) → Region.wanted y (yielded oa a.tmps) = true) (hwr : isWr y.op = false) (hv : vdcall C N oa oa.toList (st 0).e K i y rest ih hist ⟨e1, (st m).H, (st m).df⟩)
    (hnk : ¬ Xof listed i) (hpre : ∀ e ∈ y.after, Region.binds .any e = true → Xof listed e.on) {n : Nat} {K' : Act → World → Prop}
    (hK : ∀ (S' : Nat → Prop) μ' HX' a' w' st' T' hist', (∀ q, q ≤ m → st' q = st q) → Wk C N oa lo B (m + 1) st' T' hist' → ih hist' (st' (m + 1)) → Inv N B0 oa lo B (m + 1) st' T' S0 w0 μ0 (Xp lo (listed.setIfInBounds i true)) S' μ' HX' a' w' → K' a' w') :
    y.wpIn (FW r) n P a w K' (PostC S0 w0 μ0 (hget (st 0).H) r N B0 K) := by
  obtain ⟨hy, hdrop⟩ := getElem?_of_drop hlo
  have hmlt : m < lo.length := (List.getElem?_eq_some_iff.1 hy).1
  have hoy := hloa m i y hy
  have hks : i < oa.size := (Array.getElem?_eq_some_iff.1 hoy).1
  have hkl : i < listed.size := by omega
  have hnp : ¬ Xp lo listed m := fun hx => absurd (h.sub m hx) (by omega)
  obtain ⟨hbefore, hafter, hlooks⟩ := turn_of hW hok hloa hmlo hcl h (Nat.le_refl _) hy hnk hpre
  have hlt : ∀ q, q < m → ∃ x, lo[q]? = some x := fun q hq => ⟨lo[q], by simp [show q < lo.length by omega]⟩
  rw [vdcall_eq] at hv
  cases hra : rest.all (fun x => reach 5 oa.toList i x.1) with
  | false => rw [hra] at hv; exact hv.elim
  | true =>
    rw [hra, cond_true, fznl_iff] at hv
    simp only at hv
    generalize foot y e1 (st m).H = fp at hv
    cases hq : (allSome (st m).H fp && indep oa.toList i fp fp hist && histLt (st m).H.length hist) with
    | false => rw [hq] at hv; exact hv.elim
    | true =>
      rw [hq, cond_true] at hv
      simp only [Bool.and_eq_true] at hq
      obtain ⟨⟨hq1, hq2⟩, hq3⟩ := hq
      have hpairs := indep_spec hq2
      have hlts : ∀ x ∈ hist, (∀ o ∈ x.2.1, o < (st m).H.length) ∧ ∀ o ∈ x.2.2, o < (st m).H.length := fun x hx => by
        have := List.all_eq_true.1 hq3 x hx
        simp only [Bool.and_eq_true, List.all_eq_true, blt_iff] at this
        exact this
      have henv : EnvR S w μ (resE (y.looksAt oa) e1) a := fun j => by
        unfold resE
        cases hm : memB j (y.looksAt oa) with
        | true => exact href j S w μ _ (hlooks j ((memB_iff _ _).1 hm))
        | false => exact .top _
      have hL : (st m).H.length = HX.length := h.len.symm
      have hpairq : ∀ q, q < m → ∀ x, lo[q]? = some x → reach 5 oa.toList x.1 i = true ∨ ((∀ o, o ∈ (T q).ws → o ∉ fp) ∧ ∀ o, o ∈ (T q).fp → o ∉ fp) := fun q hq x hx => by
        obtain ⟨ws, hm, hc⟩ := hW.hist q x.1 x.2 hq hx
        cases hcl : (T q).cl with
        | true => exact .inl (hW.late q m x.1 i x.2 y hq hq hcl hx hy)
        | false =>
          rcases hpairs _ hm with h1 | h1
          · exact .inl h1
          · rw [hc hcl] at h1
            exact .inr ⟨fun o ho => (h1.1 o ho).1, h1.2⟩
      have hfp : ∀ o, o ∈ fp → hget HX o = hget (st m).H o := fun o ho => by
        refine h.heap hW hmlo (Nat.le_refl _) fun q hq hw => ⟨fun _ => ?_, fun h1 => absurd hq (by omega)⟩
        obtain ⟨z, hz⟩ := hlt q hq
        rcases hpairq q hq z hz with h1 | h1
        · exact hbefore q z hz h1
        · exact absurd ho (h1.1 o hw)
      have hres : ∀ o, hget (resH fp 0 (st m).H) o = if o ∈ fp then hget HX o else none := fun o => by
        have := resH_get fp (st m).H 0 o
        rw [Nat.zero_add] at this
        unfold hget at hfp ⊢
        rw [this]
        by_cases hm : o ∈ fp
        · rw [(memB_iff _ _).2 hm, if_pos hm, cond_true, hfp o hm]
        · have : memB o fp = false := by
            cases hb : memB o fp with
            | false => rfl
            | true => exact absurd ((memB_iff _ _).1 hb) hm
          rw [this, if_neg hm]; rfl
      have hsub : ∀ o ob, hget (resH fp 0 (st m).H) o = some ob → hget HX o = some ob ∧ o ∈ fp := fun o ob ho => by
        rw [hres] at ho
        split at ho
        · rename_i hm; exact ⟨ho, hm⟩
        · cases ho
      have hlR : (resH fp 0 (st m).H).length = HX.length := by rw [resH_len, hL]
      have hrR : RelL S w μ (resH fp 0 (st m).H) := h.rel.sub hlR fun o ob ho => (hsub o ob ho).1
      have hfpl : ∀ o ∈ fp, o < HX.length := fun o ho => by
        have h1 := allSome_spec hq1 o ho
        cases hx : hget (st m).H o with
        | none => exact absurd hx h1
        | some ob => rw [← hL]; exact lt_of_hget hx
      -- behind the call
      have behind : ∀ (S' : Nat → Prop) w' μ' H', HX.length ≤ H'.length → keysOK fp 0 (H'.take HX.length) = true → RelL S' w' μ' H' → Tr S w μ (hget (resH fp 0 (st m).H)) S' w' μ' (hget H') →
          RelL S' w' μ' (mergeC fp 0 HX H') ∧ Tr S w μ (hget HX) S' w' μ' (hget (mergeC fp 0 HX H')) ∧ (∀ o, hget (mergeC fp 0 HX H') o = if o ∈ fp ∨ HX.length ≤ o then hget H' o else hget HX o) ∧
          (∀ o, o < HX.length → hget H' o ≠ none → o ∈ fp) := fun S' w' μ' H' hle hk g2 g3 => by
        have hmg : ∀ o, hget (mergeC fp 0 HX H') o = if o ∈ fp ∨ HX.length ≤ o then hget H' o else hget HX o := fun o => by
          have := mergeC_get fp HX H' 0 o hle
          rw [Nat.zero_add] at this
          unfold hget
          rw [this]
          by_cases ho : o < HX.length
          · rw [if_pos ho]
            by_cases hm : o ∈ fp
            · rw [(memB_iff _ _).2 hm, if_pos (.inl hm)]; rfl
            · have : memB o fp = false := by
                cases hb : memB o fp with
                | false => rfl
                | true => exact absurd ((memB_iff _ _).1 hb) hm
              rw [this, if_neg (fun hc => hc.elim hm fun h => absurd ho (by omega))]; rfl
          · rw [if_neg ho, if_pos (.inr (by omega))]
        have hkeys : ∀ o, o < HX.length → hget H' o ≠ none → o ∈ fp := fun o ho hne => by
          have := keysOK_spec hk o (by
            unfold hget at hne
            rw [List.getD_eq_getElem?_getD] at hne ⊢
            rwa [List.getElem?_take_of_lt ho])
          rwa [Nat.zero_add] at this
        obtain ⟨f1, f2⟩ := frame (ws := fp ++ List.range' HX.length (H'.length - HX.length)) (HX' := mergeC fp 0 HX H') h.rel hlR (by rw [mergeC_len _ _ _ _ hle]) (fun o ob ho => ⟨(hsub o ob ho).1, List.mem_append_left _ (hsub o ob ho).2⟩) (fun o ho hx => by
          rcases List.mem_append.1 ho with ho | ho
          · rw [hres, if_pos ho]; exact hx
          · rw [List.mem_range'_1] at ho
            exact absurd (by simp [hget, List.getElem?_eq_none (show HX.length ≤ o by omega)]) hx) (fun o ho => by
          rcases Nat.lt_or_ge o HX.length with h1 | h1
          · exact List.mem_append_left _ (hkeys o h1 ho)
          · refine List.mem_append_right _ (List.mem_range'_1.2 ⟨h1, ?_⟩)
            cases hx : hget H' o with
            | none => exact absurd hx ho
            | some ob => have := lt_of_hget hx; omega) (fun o ho => by
          rw [hmg, if_pos]
          rcases List.mem_append.1 ho with ho | ho
          · exact .inl ho
          · exact .inr (List.mem_range'_1.1 ho).1) (fun o ho => by
          rw [hmg]
          split
          · rename_i hc
            rcases hc with hc | hc
            · exact absurd (List.mem_append_left _ hc) ho
            · have : ¬ (o < H'.length) := fun hlt => ho (List.mem_append_right _ (List.mem_range'_1.2 ⟨hc, by omega⟩))
              simp [hget, List.getElem?_eq_none (show H'.length ≤ o by omega), List.getElem?_eq_none (show HX.length ≤ o by omega)]
          · rfl) g2 g3
        exact ⟨f1, f2, hmg, hkeys⟩
      cases hlc : lateC C y (resE (y.looksAt oa) e1) with
      | none => rw [hlc] at hv; exact hv.elim
      | some crds =>
        obtain ⟨cr, ds⟩ := crds
        rw [hlc] at hv
        simp only [fzl_iff] at hv
        unfold lateC at hlc
        cases hop : y.op <;> rw [hop] at hlc <;> simp only [reduceCtorEq] at hlc
        rename_i c
        obtain ⟨callee, args, ats⟩ := c
        split at hlc
        · rename_i f hcal
          simp only at hcal
          subst hcal
          split at hlc
          · rename_i g fs cs hd
            split at hlc
            · rename_i cr' hcr
              simp only [Option.some.injEq, Prod.mk.injEq] at hlc
              obtain ⟨rfl, rfl⟩ := hlc
              have hsd := hC.call g _ hcr
              have hf := henv.ev f
              rw [hd] at hf
              generalize hvf : a.eval f = fv at hf
              cases hf with
              | fn _ _ _ vf vc hl1 hl2 hR1 hR2 =>
                have hRL := args_RL (xs := args) henv hl1 hl2 hR1 hR2
                have hrun := run_call (P := P) (w := w) hop hvf hsd.enters
                refine ⟨fun _ _ => trivial, ?_⟩
                rw [run_at (fun c e => by rw [hop] at e; cases e), hrun, Oper.uponIn_enter]
                have hcalls := hsd.calls _ _ _ hv S w μ _ hrR hRL
                rw [Array.toArray_toList] at hcalls
                refine ⟨fun h => (by cases h), callsIn_FW.2 (hcalls.mono ?_)⟩
                rintro e' w' ⟨S', μ', res, H', k1, k2, k3, k4⟩
                rw [vdcallB_eq] at k1
                rw [fzh_iff] at k1
                simp only at k1
                cases hq2 : (Nat.ble (st m).H.length H'.length && keysOK fp 0 (H'.take (st m).H.length)) with
                | false => rw [hq2] at k1; exact k1.elim
                | true =>
                  rw [hq2, cond_true] at k1
                  simp only [Bool.and_eq_true] at hq2
                  have hle : HX.length ≤ H'.length := by rw [← hL]; exact Nat.le_of_ble_eq_true hq2.1
                  obtain ⟨f1, f2, hmg, hkeys⟩ := behind S' w' μ' H' hle (by rw [← hL]; exact hq2.2) k3 k4
                  have hmg2 : ∀ o, hget (mergeC fp 0 (st m).H H') o = if o ∈ fp ∨ HX.length ≤ o then hget H' o else hget (st m).H o := fun o => by
                    have hle' : (st m).H.length ≤ H'.length := by rw [hL]; exact hle
                    have := mergeC_get fp (st m).H H' 0 o hle'
                    rw [Nat.zero_add] at this
                    unfold hget
                    rw [this, hL]
                    by_cases ho : o < HX.length
                    · rw [if_pos ho]
                      by_cases hm : o ∈ fp
                      · rw [(memB_iff _ _).2 hm, if_pos (.inl hm)]; rfl
                      · have : memB o fp = false := by
                          cases hb : memB o fp with
                          | false => rfl
                          | true => exact absurd ((memB_iff _ _).1 hb) hm
                        rw [this, if_neg (fun hc => hc.elim hm fun h => absurd ho (by omega))]; rfl
                    · rw [if_neg ho, if_pos (.inr (by omega))]
                  cases res with
                  | pan d =>
                    simp only at k1
                    cases e' with
                    | panicked ch =>
                      cases hq3 : hist.all (fun x => nilB x.2.2 || reach 5 oa.toList x.1 i) with
                      | false => rw [hq3] at k1; exact k1.elim
                      | true =>
                        rw [hq3, cond_true, fzh_iff] at k1
                        have hall : ∀ o, hget (mergeC fp 0 HX H') o = hget (mergeC fp 0 (st m).H H') o := fun o => by
                          rw [hmg, hmg2]
                          split
                          · rfl
                          · refine h.heap hW hmlo (Nat.le_refl _) fun q hq hw => ⟨fun _ => ?_, fun h1 => absurd hq (by omega)⟩
                            obtain ⟨z, hz⟩ := hlt q hq
                            obtain ⟨ws, hm, hc⟩ := hW.hist q z.1 z.2 hq hz
                            cases hcl : (T q).cl with
                            | true => exact h.done q hq hcl
                            | false =>
                              have := List.all_eq_true.1 hq3 _ hm
                              simp only [Bool.or_eq_true] at this
                              rcases this with h1 | h1
                              · rw [hc hcl] at h1
                                rw [nilB_eq h1] at hw; cases hw
                              · exact hbefore q z hz h1
                        have hlen : (mergeC fp 0 (st m).H H').length = (mergeC fp 0 HX H').length := by
                          rw [mergeC_len _ _ _ _ hle, mergeC_len _ _ _ _ (by rw [hL]; exact hle)]
                        have hgeq : hget (mergeC fp 0 HX H') = hget (mergeC fp 0 (st m).H H') := funext hall
                        refine ⟨S', μ', _, .panic d, k1, k2, ⟨f1.sub hlen fun o ob ho => by rw [hall]; exact ho, fun j => ?_, h.tmps, ?_, ?_⟩, ?_⟩
                        · rcases panE_R (ops := oa.toList) (e := (st 0).e) (j := j) with ⟨e1, e2⟩ | e1
                          · show R S' w' μ' (panE oa.toList (st 0).e j) _
                            rw [e1]
                            refine (h.e1 j fun q z hq hz hd => ?_).tr h.rel.1 f2
                            have := hloa q z.1 z.2 hz
                            exact e2 z.2 (by simpa using Array.mem_of_getElem? this) hd
                          · show R S' w' μ' (panE oa.toList (st 0).e j) _
                            rw [e1]; exact .top _
                        · simp only
                          rw [lexDf hW m (Nat.le_refl _), ← hgeq]
                          exact h.df.tr h.rel.1 f2
                        · simp only
                          rw [lexDf hW m (Nat.le_refl _)]
                          exact hro
                        · simp only
                          rw [← hgeq]
                          exact h.tr.trans f2
                    | _ => exact k2.elim
                  | ret d =>
                    simp only [fz_iff] at k1
                    cases e' with
                    | returned v =>
                      obtain ⟨e2, k5, k6, k7⟩ := vput_spec k1
                      rw [fzh_iff] at k5
                      have hH2 : (st m).H.length ≤ (mergeC fp 0 (st m).H H').length := by rw [mergeC_len _ _ _ _ (by rw [hL]; exact hle), hL]; exact hle
                      let rc : Rec := ⟨(st m).e, (st m).H, e1, true, true, d, fp, fp ++ List.range' HX.length (H'.length - HX.length), [], e2, mergeC fp 0 (st m).H H'⟩
                      have hmemws : ∀ o, o ∈ rc.ws ↔ (o ∈ fp ∨ (HX.length ≤ o ∧ o < H'.length)) := fun o => by
                        simp only [rc, List.mem_append, List.mem_range'_1]
                        constructor
                        · rintro (h1 | h1)
                          · exact .inl h1
                          · exact .inr (by omega)
                        · rintro (h1 | h1)
                          · exact .inl h1
                          · exact .inr (by omega)
                      have hrc : RecOK C N oa (B + rank lo m) y rc := ⟨href, hguard, k6, k7, .inr (.inr (.inr ⟨rfl, hH2, fun o ho => by
                          have h1 : ¬ (o ∈ fp ∨ (HX.length ≤ o ∧ o < H'.length)) := fun hc => ho ((hmemws o).2 hc)
                          show hget (mergeC fp 0 (st m).H H') o = hget (st m).H o
                          rw [hmg2]
                          split
                          · rename_i hc
                            rcases hc with hc | hc
                            · exact absurd (.inl hc) h1
                            · have : ¬ (o < H'.length) := fun hlt => h1 (.inr ⟨hc, hlt⟩)
                              simp [hget, List.getElem?_eq_none (show H'.length ≤ o by omega), List.getElem?_eq_none (show (st m).H.length ≤ o by omega)]
                          · rfl⟩))⟩
                      have hW' := hW.push hy (r := rc) rfl rfl hrc (fun x hx => by
                        rcases hpairs x hx with h1 | h1
                        · exact .inl h1
                        · refine .inr ⟨fun o ho => ⟨(h1.1 o ho).1, fun hc => ?_⟩, fun o ho hc => ?_⟩
                          · rcases (hmemws o).1 hc with hc | hc
                            · exact (h1.1 o ho).1 hc
                            · have := (hlts x hx).2 o ho; omega
                          · rcases (hmemws o).1 hc with hc | hc
                            · exact h1.2 o ho hc
                            · have := (hlts x hx).1 o ho; omega) fp (fun hc => by cases hc) (fun _ q k o' hq hq' => by
                        have : (k, o') ∈ rest := by
                          have h1 : (lo.drop (m + 1))[q - (m + 1)]? = some (k, o') := by
                            rw [List.getElem?_drop, show m + 1 + (q - (m + 1)) = q by omega]; exact hq'
                          rw [hdrop] at h1
                          exact List.mem_of_getElem? h1
                        exact List.all_eq_true.1 hra _ this)
                      refine hK S' μ' (mergeC fp 0 HX H') _ w' _ _ _ (fun q hq => by rw [if_neg (by omega)]) hW' (by rw [if_pos rfl]; exact k5) ?_
                      have hS : ∀ q, q ≤ m → (if q = m + 1 then (⟨rc.e2, rc.H2, (st m).df⟩ : St) else st q) = st q := fun q hq => by rw [if_neg (by omega)]
                      have hT : ∀ q, q ≠ m → (if q = m then rc else T q) = T q := fun q hq => by rw [if_neg hq]
                      have hput : ∀ j, (a.put y.dst v).tmps.getD j undef = if y.dst = some j then v else a.tmps.getD j undef := fun j => by
                        cases hd : y.dst with
                        | none => simp [Act.put]
                        | some d =>
                          have hdN := k7 d hd
                          by_cases hj : d = j
                          · subst hj; simp [Act.put, h.tmps, hdN]
                          · have : ¬ (some d = some j) := fun e => hj (by injection e)
                            rw [if_neg this]
                            simp only [Act.put, Array.getD_eq_getD_getElem?]
                            rw [Array.getElem?_setIfInBounds_ne hj]
                      refine ⟨f1, ?_, by rw [V.Act.put_size]; exact h.tmps, ?_, ?_, fun j hj => ?_, fun q z j hq hz hd => ?_, fun o ho => ?_, fun o q hq hw hlast => ?_, fun q z hq hz hwz => ?_, fun q hq => ?_, fun q hq hc => ?_⟩
                      · rw [if_pos rfl, mergeC_len _ _ _ _ hle]
                        exact (mergeC_len _ _ _ _ (by rw [hL]; exact hle)).symm
                      · rw [V.Act.put_defers, hS 0 (Nat.zero_le _)]
                        exact h.df.tr h.rel.1 f2
                      · rw [hS 0 (Nat.zero_le _)]
                        exact h.tr.trans f2
                      · rw [hput, if_neg (hj m _ ((Xp_set hok hy hkl).2 (.inr rfl)) hy), hS 0 (Nat.zero_le _)]
                        exact (h.e1 j fun q z hq hz => hj q z ((Xp_set hok hy hkl).2 (.inl hq)) hz).tr h.rel.1 f2
                      · rw [hput]
                        rcases (Xp_set hok hy hkl).1 hq with hq | rfl
                        · have hqm := h.sub q hq
                          have hyd : y.dst ≠ some j := fun e => (tmpOK_pair hok hz hy hqm).2.1 j hd e
                          rw [if_neg hyd, hT q (by omega)]
                          exact (h.e2 q z j hq hz hd).tr h.rel.1 f2
                        · rw [hy] at hz; injection hz with hz; subst hz
                          rw [if_pos hd, if_pos rfl]
                          exact k2
                      · have hom : o ∉ rc.ws := by
                          have := ho m ((Xp_set hok hy hkl).2 (.inr rfl))
                          rwa [if_pos rfl] at this
                        rw [hS 0 (Nat.zero_le _), ← h.h1 o fun q hq => by
                          have := ho q ((Xp_set hok hy hkl).2 (.inl hq))
                          rwa [hT q (by have := h.sub q hq; omega)] at this, hmg]
                        split
                        · rename_i hc
                          rcases hc with hc | hc
                          · exact absurd ((hmemws o).2 (.inl hc)) hom
                          · have : ¬ (o < H'.length) := fun hlt => hom ((hmemws o).2 (.inr ⟨hc, hlt⟩))
                            simp [hget, List.getElem?_eq_none (show H'.length ≤ o by omega), List.getElem?_eq_none (show HX.length ≤ o by omega)]
                        · rfl
                      · rcases (Xp_set hok hy hkl).1 hq with hq' | rfl
                        · have hqm := h.sub q hq'
                          have hom : o ∉ rc.ws := by
                            have := hlast m ((Xp_set hok hy hkl).2 (.inr rfl)) hqm
                            rwa [if_pos rfl] at this
                          rw [hT q (by omega)] at hw
                          rw [hS (q + 1) (by omega), ← h.h2 o q hq' hw fun q' hq2 hlt' => by
                            have := hlast q' ((Xp_set hok hy hkl).2 (.inl hq2)) hlt'
                            rwa [hT q' (by have := h.sub q' hq2; omega)] at this, hmg]
                          split
                          · rename_i hc
                            rcases hc with hc | hc
                            · exact absurd ((hmemws o).2 (.inl hc)) hom
                            · have : ¬ (o < H'.length) := fun hlt => hom ((hmemws o).2 (.inr ⟨hc, hlt⟩))
                              simp [hget, List.getElem?_eq_none (show H'.length ≤ o by omega), List.getElem?_eq_none (show HX.length ≤ o by omega)]
                          · rfl
                        · rw [if_pos rfl] at hw
                          rw [if_pos rfl]
                          show hget (mergeC fp 0 HX H') o = hget (mergeC fp 0 (st q).H H') o
                          have hc := (hmemws o).1 hw
                          rw [hmg, hmg2, if_pos (hc.elim .inl fun h => .inr h.1), if_pos (hc.elim .inl fun h => .inr h.1)]
                      · have hni : ¬ Xp lo listed q := fun e => hq ((Xp_set hok hy hkl).2 (.inl e))
                        have hql : q < lo.length := (List.getElem?_eq_some_iff.1 hz).1
                        cases hx : μ' (B + rank lo q) with
                        | none => rfl
                        | some mv =>
                          have hnone := h.mm q z hni hz hwz
                          have hlt1 : B + rank lo q < HX.length := by
                            have h1 := rank_lt lo q lo.length z hz hwz hql
                            have h2 := lexLen hW hmlo m (Nat.zero_le _) (Nat.le_refl _)
                            rw [h.len]; omega
                          rcases k4.dom (B + rank lo q) (by rw [hx]; exact fun e => by cases e) with h1 | ⟨h1, _⟩
                          · have h2 := hkeys _ hlt1 h1
                            have h3 := hfpl _ h2
                            have h4 := allSome_spec hq1 _ h2
                            rw [← hfp _ h2] at h4
                            cases hx2 : hget HX (B + rank lo q) with
                            | none => exact absurd hx2 h4
                            | some ob =>
                              obtain ⟨mv2, m1, _⟩ := h.rel.1.obs _ _ hx2
                              rw [hnone] at m1; cases m1
                          · exact absurd hnone h1
                      · rcases (Xp_set hok hy hkl).1 hq with hq | rfl
                        · have := h.sub q hq; omega
                        · omega
                      · rcases Nat.lt_succ_iff_lt_or_eq.1 hq with h1 | rfl
                        · rw [hT q (by omega)] at hc
                          exact (Xp_set hok hy hkl).2 (.inl (h.done q h1 hc))
                        · exact (Xp_set hok hy hkl).2 (.inr rfl)
                    | _ => exact k2.elim
            · cases hlc
          · cases hlc
        · cases hlc
end
end
end Go.V
end
section
set_option linter.unusedVariables false
set_option linter.unusedSimpArgs false
namespace Go.V

/-- Calls that may turn objects come as late as they can. -/
def cand (C : Cx) (o : Oper) : Bool := match o.op with
  | .call c => match c.callee with
    | .value f => match f with
      | .func g => (match C.call g with | some _ => true | none => false)
      | _ => true
    | _ => false
  | _ => false
def okAt (done : List Nat) (o : Oper) : Bool := o.after.toList.all fun e => !Region.binds .any e || memB e.on done
def pick1 (C : Cx) (ops : List Oper) (late : Bool) (done : List Nat) : Nat → Nat → Option Nat
  | 0, _ => none
  | f + 1, i => match ops[i]? with
    | none => none
    | some o => bif !memB i done && (late || !cand C o) && okAt done o then some i else pick1 C ops late done f (i + 1)
def ordr (C : Cx) (ops : List Oper) (n : Nat) : Nat → List Nat → List Nat
  | 0, done => done.reverse
  | f + 1, done => match pick1 C ops false done n 0 with
    | some i => ordr C ops n f (i :: done)
    | none => match pick1 C ops true done n 0 with
      | some i => ordr C ops n f (i :: done)
      | none => done.reverse
def order (C : Cx) (ops : List Oper) : List Nat := bif ops.any (cand C) then ordr C ops ops.length ops.length [] else List.range ops.length
def fzo (x : Nat × Oper) (k : Nat × Oper → Prop) : Prop := match x with
  | (i, ⟨dst, op, ty, pos, after, guard⟩) => k (i, ⟨dst, op, ty, pos, after, guard⟩)
def fzlo (l : List (Nat × Oper)) : (List (Nat × Oper) → Prop) → Prop := @List.rec (Nat × Oper) (fun _ => (List (Nat × Oper) → Prop) → Prop) (fun k => k []) (fun x _ ih k => fzo x fun x => ih fun r => k (x :: r)) l
theorem fzlo_iff : ∀ (l : List (Nat × Oper)) (k : List (Nat × Oper) → Prop), fzlo l k ↔ k l
  | [], k => Iff.rfl
  | x :: r, k => by
    show fzo x (fun x => fzlo r fun r => k (x :: r)) ↔ _
    have : fzo x (fun x => fzlo r fun r => k (x :: r)) = fzlo r fun r => k (x :: r) := rfl
    rw [this, fzlo_iff r]
/-- A region that draws its order. -/
def vdraw (C : Cx) (N : Nat) (oa : Array Oper) (K : VX → St → Prop) (s : St) : Prop := match s with
  | ⟨e0, H0, df0⟩ => fzlo (loOf oa (order C oa.toList)) fun lo =>
    (KOK (tmpOK oa lo) ∧ KEq (loOf oa (lo.map Prod.fst)) lo) ∧ fzn H0.length fun n => fzn (rank lo lo.length) fun m => fzh (pad m H0) fun H => vdr C N oa oa.toList e0 K lo n [] ⟨e0, H, df0⟩
theorem vdraw_eq (C : Cx) (N : Nat) (oa : Array Oper) (K : VX → St → Prop) (s : St) : vdraw C N oa K s = (fzlo (loOf oa (order C oa.toList)) fun lo =>
  (tmpOK oa lo = true ∧ loOf oa (lo.map Prod.fst) = lo) ∧ vdr C N oa oa.toList s.e K lo s.H.length [] ⟨s.e, pad (rank lo lo.length) s.H, s.df⟩) := by
  cases s
  simp only [vdraw, fzn_eq, fzh_eq, KOK, KEq]
section
variable {P : Program} {C : Cx} {RTT : RT} {N : Nat} {oa : Array Oper} {o : Oper} {S : Nat → Prop} {w : World} {μ : Mu} {r : Option Nat} {B0 : Option Nat} {B : Nat} {lo : List (Nat × Oper)} {S0 : Nat → Prop} {w0 : World} {μ0 : Mu} {s0 : St} {K : VX → St → Prop}

theorem rank_zero (lo : List (Nat × Oper)) : rank lo 0 = 0 := by cases lo <;> rfl
theorem drawn_any (hC : CallsOK P C RTT) (hok : tmpOK oa lo = true) (hloa : ∀ (p i : Nat) o, lo[p]? = some (i, o) → oa[i]? = some o) (hB : B + rank lo lo.length ≤ s0.H.length) (hro : r = none ∨ s0.df = none) {n : Nat} :
    ∀ (fuel : Nat) (m : Nat) (st : Nat → St) (T : Nat → Rec) (hist : Hist) (listed : Array Bool) (S : Nat → Prop) (μ : Mu) (HX : HL) (a : Act) (w : World), st 0 = s0 → listed.size = oa.size → cntF oa.size listed ≤ fuel → (∀ i y, Xof listed i → oa[i]? = some y → ∀ e ∈ y.after, Region.binds .any e = true → Xof listed e.on) →
      Wk C N oa lo B m st T hist → m ≤ lo.length → Kont C N oa s0.e K lo B m st hist → Inv N B0 oa lo B m st T S0 w0 μ0 (Xp lo listed) S μ HX a w → wpAnyIn (FW r) n P .any oa (PostC S0 w0 μ0 (hget s0.H) r N B0 K) fuel listed a w := by
  have hrB : ∀ (st : Nat → St), st 0 = s0 → ∀ p, p < lo.length → B + rank lo p < (st 0).H.length ∨ ∀ y, lo[p]? = some y → isWr y.2.op = false := fun st h0 p hp => by
    cases hw : isWr (lo[p]).2.op with
    | true =>
      have := rank_lt lo p lo.length lo[p] (by simp [hp]) hw hp
      rw [h0]
      exact .inl (by omega)
    | false =>
      refine .inr fun y hy => ?_
      rw [List.getElem?_eq_getElem hp] at hy
      injection hy with hy
      rw [← hy]; exact hw
  have hpos : ∀ {k : Nat}, k < oa.size → ∃ (p : Nat) (y : Oper), p < lo.length ∧ lo[p]? = some (k, y) ∧ oa[k]? = some y := fun {k} hk => by
    obtain ⟨p, ⟨k', y⟩, hx, rfl⟩ := tmpOK_all hok hk
    exact ⟨p, y, (List.getElem?_eq_some_iff.1 hx).1, hx, hloa p k' y hx⟩
  have hall : ∀ (listed : Array Bool), listed.size = oa.size → Region.ready .any oa listed = [] → ∀ p, p < lo.length → Xp lo listed p := fun listed hs hr p => by
    induction p using Nat.strongRecOn with
    | _ p ih =>
      intro hp
      apply Classical.byContradiction
      intro hn
      obtain ⟨⟨k, y⟩, hy⟩ : ∃ x, lo[p]? = some x := ⟨lo[p], by simp [hp]⟩
      have hoy := hloa p k y hy
      have hkl : k < listed.size := by rw [hs]; exact (Array.getElem?_eq_some_iff.1 hoy).1
      have : k ∈ Region.ready .any oa listed := mem_ready.2 ⟨by
        cases hb : listed.getD k true with
        | false => rfl
        | true =>
          refine absurd ⟨_, hy, ?_⟩ hn
          simp only [Xof, Array.getD, hkl, dite_true] at hb ⊢
          exact hb, y, hoy, fun e he hb => by
        obtain ⟨q, x, hq, hx, e1⟩ := tmpOK_edge hok hy e he hb
        obtain ⟨x', hx', hX⟩ := ih q hq (by omega)
        rw [hx] at hx'; injection hx' with hx'; subst hx'
        rw [← e1]; exact hX⟩
      rw [hr] at this
      cases this
  have hend : ∀ (m : Nat) (st : Nat → St) (T : Nat → Rec) (hist : Hist) (listed : Array Bool) (S : Nat → Prop) (μ : Mu) (HX : HL) (a : Act) (w : World), st 0 = s0 → (∀ p, p < lo.length → Xp lo listed p) → Wk C N oa lo B m st T hist → m ≤ lo.length → Kont C N oa s0.e K lo B m st hist →
      Inv N B0 oa lo B m st T S0 w0 μ0 (Xp lo listed) S μ HX a w → PostC S0 w0 μ0 (hget s0.H) r N B0 K .normal a w := fun m st T hist listed S μ HX a w h0 hX hW hm hk h => by
    rcases hk with ⟨rfl, hk⟩ | ⟨i, o, rest, e1, h1, _⟩
    · have hheap : ∀ o, hget HX o = hget (st lo.length).H o := fun o => h.heap hW hm (Nat.le_refl _) fun i hi _ => ⟨fun _ => hX i (by omega), fun h1 => absurd hi (by omega)⟩
      have hg : hget HX = hget (st lo.length).H := funext hheap
      refine ⟨S, μ, _, .normal, hk, trivial, ⟨h.rel.sub h.len.symm fun o ob ho => by rw [hheap]; exact ho, fun j => h.env hW hok hm (Nat.le_refl _) fun i z hz _ => ⟨fun hi => hX i hi, fun hi => absurd (List.getElem?_eq_some_iff.1 hz).1 (by omega)⟩, h.tmps, ?_, ?_⟩, ?_⟩
      · rw [lexDf hW _ (Nat.le_refl _), ← hg]; exact h.df
      · rw [lexDf hW _ (Nat.le_refl _), h0]; exact hro
      · rw [← hg, ← h0]; exact h.tr
    · have := getElem?_of_drop h1
      have hml : m < lo.length := (List.getElem?_eq_some_iff.1 this.1).1
      exact absurd (h.sub m (hX m hml)) (by omega)
  intro fuel
  induction fuel with
  | zero =>
    intro m st T hist listed S μ HX a w h0 hs hc hcl hW hm hk h
    have hXo := cntF_zero listed oa.size (by omega)
    have hX : ∀ p, p < lo.length → Xp lo listed p := fun p hp => by
      obtain ⟨⟨k, y⟩, hy⟩ : ∃ x, lo[p]? = some x := ⟨lo[p], by simp [hp]⟩
      exact ⟨_, hy, hXo k (Array.getElem?_eq_some_iff.1 (hloa p k y hy)).1⟩
    refine ⟨?_, hend m st T hist listed S μ HX a w h0 hX hW hm hk h⟩
    cases hr : Region.ready .any oa listed with
    | nil => rfl
    | cons i r =>
      have hi : i ∈ Region.ready .any oa listed := by rw [hr]; exact List.mem_cons_self
      obtain ⟨h0, y, hy, _⟩ := mem_ready.1 hi
      have hio := (Array.getElem?_eq_some_iff.1 hy).1
      have hx := hXo i hio
      have hil : i < listed.size := by omega
      simp only [Array.getD, hil, dite_true] at hx h0
      rw [h0] at hx; cases hx
  | succ fuel ih =>
    intro m st T hist listed S μ HX a w h0 hs hc hcl hW hm hk h
    refine ⟨fun hr => hend m st T hist listed S μ HX a w h0 (hall listed hs hr) hW hm hk h, fun k hkr => ?_⟩
    obtain ⟨hk0, y, hoy, hpre⟩ := mem_ready.1 hkr
    have hks : k < oa.size := (Array.getElem?_eq_some_iff.1 hoy).1
    have hkl : k < listed.size := by omega
    have hnk : ¬ Xof listed k := by
      simp only [Xof, Array.getD, hkl, dite_true] at hk0 ⊢
      rw [hk0]; exact Bool.false_ne_true
    obtain ⟨p, y', hp, hy, hoy'⟩ := hpos hks
    rw [hoy] at hoy'; injection hoy' with hoy'; subst hoy'
    have hcnt : cntF oa.size (listed.setIfInBounds k true) ≤ fuel := by have := cntF_lt listed k hnk hkl oa.size hks; omega
    have hcl' : ∀ i z, Xof (listed.setIfInBounds k true) i → oa[i]? = some z → ∀ e ∈ z.after, Region.binds .any e = true → Xof (listed.setIfInBounds k true) e.on := fun i z hi hz e he hb => by
      rcases (set_getD hkl).1 hi with hi | rfl
      · exact (set_getD hkl).2 (.inl (hcl i z hi hz e he hb))
      · rw [hoy] at hz; injection hz with hz; subst hz
        exact (set_getD hkl).2 (.inl (hpre e he hb))
    rcases Nat.lt_trichotomy p m with h1 | h1 | h1
    · exact drawn_step hC hok hloa hW hm (hrB st h0) hs hcl h h1 hy hnk hpre fun S' μ' HX' a' w' h' _ => ih m st T hist _ S' μ' HX' a' w' h0 (by simpa using hs) hcnt hcl' hW hm hk h'
    · subst h1
      rcases hk with ⟨h2, _⟩ | ⟨i, o, rest, e1, h2, href, hguard, hwr, hv⟩
      · omega
      · obtain ⟨h3, h4⟩ := getElem?_of_drop h2
        rw [hy] at h3
        simp only [Option.some.injEq, Prod.mk.injEq] at h3
        obtain ⟨rfl, rfl⟩ := h3
        obtain ⟨_, _, hlooks⟩ := turn_of hW hok hloa hm hcl h (Nat.le_refl _) hy hnk hpre
        have hwant := hguard a fun j hj => ⟨S, w, μ, hlooks j hj⟩
        unfold wpOpIn
        simp only [hoy]
        rw [if_pos hwant]
        have hcall := drawn_call (r := r) (S0 := S0) (w0 := w0) (μ0 := μ0) (K := K) (n := n) (K' := wpAnyIn (FW r) n P .any oa (PostC S0 w0 μ0 (hget s0.H) r N B0 K) fuel (listed.setIfInBounds k true)) hC hok hloa hW hm (by rw [h0]; exact hB) hs hcl h (by rw [h0]; exact hro) h2 href hguard hwr (by rw [h0]; exact hv) hnk hpre
          fun S' μ' HX' a' w' st' T' hist' g1 g2 g3 g4 => by
            have hr1 : rank lo (p + 1) = rank lo p := by
              rw [rank_succ lo p k y hy]
              unfold more
              rw [hwr]; rfl
            obtain ⟨m2, st2, T2, hist2, k1, k2, k3, k4, k5, k6, k7⟩ := vdr_seg hC rest (p + 1) st' T' hist' h4 (by omega) g2 (by rw [hr1]; exact g3)
            have h02 : st2 0 = s0 := by rw [k2 0 (by omega), g1 0 (by omega), h0]
            refine ih m2 st2 T2 hist2 _ S' μ' HX' a' w' h02 (by simpa using hs) hcnt hcl' k4 k6 k7 ?_
            -- the walk has gone on; what was carried out has not
            have hT2 : ∀ q, Xp lo (listed.setIfInBounds k true) q → T2 q = T' q := fun q hq => k3 q (g4.sub q hq)
            refine ⟨g4.rel, ?_, g4.tmps, ?_, ?_, fun j hj => ?_, fun q z j hq hz hd => ?_, fun o ho => ?_, fun o q hq hw hlast => ?_, g4.mm, fun q hq => ?_, fun q hq hc => ?_⟩
            · rw [g4.len, ← k2 (p + 1) (Nat.le_refl _)]
              have : ∀ d, p + 1 + d ≤ m2 → (st2 (p + 1 + d)).H.length = (st2 (p + 1)).H.length := fun d => by
                induction d with
                | zero => exact fun _ => rfl
                | succ d ihd =>
                  intro hd
                  rw [← ihd (by omega)]
                  obtain ⟨⟨i', y'⟩, hy'⟩ : ∃ x, lo[p + 1 + d]? = some x := ⟨lo[p + 1 + d], by simp [show p + 1 + d < lo.length by omega]⟩
                  obtain ⟨w1, w2, w3, w4, w5⟩ := k4.chain (p + 1 + d) (by omega)
                  have hrun := (k4.ok (p + 1 + d) i' y' (by omega) hy').run
                  have hcf := k5 (p + 1 + d) (by omega) (by omega)
                  rw [show p + 1 + (d + 1) = p + 1 + d + 1 by omega]
                  rcases hrun with ⟨_, _, _, _, e⟩ | ⟨_, _, _, _, _, e⟩ | ⟨_, _, _, _, _, hl, _, _, e⟩ | ⟨e, _⟩
                  · rw [w4, w2] at e; rw [e]
                  · rw [w4, w2] at e; rw [e]
                  · rw [w4, w2] at e
                    rw [w2] at hl
                    rw [e, mergeH_len _ _ _ _ hl]
                  · rw [hcf] at e; cases e
              have := this (m2 - (p + 1)) (by omega)
              rw [show p + 1 + (m2 - (p + 1)) = m2 by omega] at this
              exact this.symm
            · rw [k2 0 (by omega)]; exact g4.df
            · rw [k2 0 (by omega)]; exact g4.tr
            · rw [k2 0 (by omega)]; exact g4.e1 j hj
            · rw [hT2 q hq]; exact g4.e2 q z j hq hz hd
            · rw [k2 0 (by omega)]
              exact g4.h1 o fun q hq => by have := ho q hq; rwa [hT2 q hq] at this
            · have hqm := g4.sub q hq
              rw [hT2 q hq] at hw
              rw [k2 (q + 1) (by omega)]
              exact g4.h2 o q hq hw fun q' hq' hlt => by have := hlast q' hq' hlt; rwa [hT2 q' hq'] at this
            · have := g4.sub q hq; omega
            · rcases Nat.lt_or_ge q (p + 1) with h5 | h5
              · rw [k3 q h5] at hc; exact g4.done q h5 hc
              · rw [k5 q h5 hq] at hc; cases hc
        rw [h0] at hcall
        exact hcall
    · exfalso
      rcases hk with ⟨h2, _⟩ | ⟨i, o, rest, e1, h2, _, _, _, hv⟩
      · omega
      · obtain ⟨h3, h4⟩ := getElem?_of_drop h2
        rw [vdcall_eq] at hv
        cases hra : rest.all (fun x => reach 5 oa.toList i x.1) with
        | false => rw [hra] at hv; exact hv.elim
        | true =>
          have hmem : (k, y) ∈ rest := by
            have h5 : (lo.drop (m + 1))[p - (m + 1)]? = some (k, y) := by
              rw [List.getElem?_drop, show m + 1 + (p - (m + 1)) = p by omega]; exact hy
            rw [h4] at h5
            exact List.mem_of_getElem? h5
          have hr := List.all_eq_true.1 hra _ hmem
          have hXi : Xof listed i := reach_closed hcl 5 i k hr fun z hz e he hb => by
            rw [hoy] at hz; injection hz with hz; subst hz; exact hpre e he hb
          exact absurd (h.sub m ⟨_, h3, hXi⟩) (by omega)

theorem sound_draw (hC : CallsOK P C RTT) {id : Nat} {s : St} {a : Act} {n : Nat} (hst : RelSt r N B0 S w μ s a) (h : vdraw C N oa K s) : (Code.region id oa true).wpIn (FW r) n P (PostC S w μ (hget s.H) r N B0 K) a w := by
  rw [vdraw_eq] at h
  rw [fzlo_iff] at h
  generalize hlo : loOf oa (order C oa.toList) = lo at h
  obtain ⟨⟨hok, _⟩, h⟩ := h
  have hloa : ∀ (p i : Nat) o, lo[p]? = some (i, o) → oa[i]? = some o := fun p i o h => by rw [← hlo] at h; exact loOf_get h
  obtain ⟨hr, he, hN, hdf, hro⟩ := hst
  let s0 : St := ⟨s.e, pad (rank lo lo.length) s.H, s.df⟩
  have hl0 : s0.H.length = s.H.length + rank lo lo.length := pad_len _ _
  have hg0 : hget s0.H = hget s.H := pad_get _ _
  have hW0 : Wk C N oa lo s.H.length 0 (fun _ => s0) (fun _ => ⟨s.e, s.H, s.e, true, false, .top, [], [], s.H, s.e, s.H⟩) [] :=
    ⟨fun p hp => absurd hp (by omega), fun p i o hp => absurd hp (by omega), fun p q i k o o' h1 h2 => absurd h2 (by omega), fun p i o hp => absurd hp (by omega), fun p q i k o o' hp => absurd hp (by omega)⟩
  obtain ⟨m, st, T, hist, g1, g2, g3, g4, g5, g6, g7⟩ := vdr_seg (B := s.H.length) hC lo 0 (fun _ => s0) _ [] rfl (Nat.zero_le _) hW0 (by rw [rank_zero]; exact h)
  have hst0 : st 0 = s0 := g2 0 (Nat.le_refl _)
  have hno : ∀ p, ¬ Xp lo (Array.replicate oa.size false) p := fun p ⟨x, _, hi⟩ => by
    simp only [Xof, Array.getD_eq_getD_getElem?, Array.getElem?_replicate] at hi
    split at hi <;> simp at hi
  have hlen : ∀ d, d ≤ m → (st d).H.length = s0.H.length := fun d => by
    induction d with
    | zero => exact fun _ => by rw [hst0]
    | succ d ihd =>
      intro hd
      rw [← ihd (by omega)]
      obtain ⟨⟨i', y'⟩, hy'⟩ : ∃ x, lo[d]? = some x := ⟨lo[d], by simp [show d < lo.length by omega]⟩
      obtain ⟨w1, w2, w3, w4, w5⟩ := g4.chain d (by omega)
      have hrun := (g4.ok d i' y' (by omega) hy').run
      have hcf := g5 d (by omega) (by omega)
      rcases hrun with ⟨_, _, _, _, e⟩ | ⟨_, _, _, _, _, e⟩ | ⟨_, _, _, _, _, hl, _, _, e⟩ | ⟨e, _⟩
      · rw [w4, w2] at e; rw [e]
      · rw [w4, w2] at e; rw [e]
      · rw [w4, w2] at e
        rw [w2] at hl
        rw [e, mergeH_len _ _ _ _ hl]
      · rw [hcf] at e; cases e
  have hfin := drawn_any (r := r) (S0 := S) (w0 := w) (μ0 := μ) (s0 := s0) (K := K) (B0 := B0) (n := n) hC hok hloa (B := s.H.length) (by rw [hl0]; exact Nat.le_refl _) hro oa.size m st T hist (Array.replicate oa.size false) S μ s0.H a w.drew hst0 (by simp) (by
    have : ∀ m (l : Array Bool), cntF m l ≤ m := fun m l => by
      induction m with
      | zero => exact Nat.le_refl _
      | succ m ih => simp only [cntF]; split <;> omega
    exact this _ _) (fun i y hi hy => by
    simp only [Xof, Array.getD_eq_getD_getElem?, Array.getElem?_replicate] at hi
    split at hi <;> simp at hi) g4 g6 g7 (by
    refine ⟨⟨by rw [hg0]; exact hr.1.drew, fun o ho => hr.2 o (by omega)⟩, (hlen m (Nat.le_refl _)).symm, hN, ?_, ?_, fun j _ => ?_, fun p y j hi => absurd hi (hno p), fun o _ => by rw [hst0], fun o p hi => absurd hi (hno p), fun p y _ hy hw => hr.2 _ (by omega), fun p hi => absurd hi (hno p), fun p hp hc => ?_⟩
    · rw [hst0, hg0]
      exact hdf.tr (H := hget s.H) hr.1 .drew
    · rw [hst0, hg0]
      exact .drew
    · rw [hst0]
      exact R.keep (w := w) (w' := w.drew) (fun _ h => h) (fun _ _ => rfl) (he j) (.refl _)
    · rw [g5 p (Nat.zero_le _) hp] at hc; cases hc)
  rw [hg0] at hfin
  exact wpIn_region_any hC.mixed hfin
end
end Go.V
end
