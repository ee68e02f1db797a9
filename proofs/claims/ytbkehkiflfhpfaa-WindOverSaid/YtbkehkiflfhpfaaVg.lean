/-
  A small logic of our own, part 7: calls of functions that only read, sequences of operations, code, loops, functions.
-/
import Derived.Test.YtbkehkiflfhpfaaVf
set_option linter.unusedVariables false
set_option linter.unusedSimpArgs false
namespace Go.V

/-- What a callee that only reads leaves. -/
structure Grow (S : Nat → Prop) (w : World) (S' : Nat → Prop) (w' : World) : Prop where
  os : w'.os = w.os
  tape : w'.tape = w.tape
  output : w'.output = w.output
  size : w.heap.size ≤ w'.heap.size
  block : ∀ b, b < w.heap.size → w'.heap[b]? = w.heap[b]?
  sub : ∀ b, S b → S' b
  new : ∀ b, S' b → S b ∨ w.heap.size ≤ b
  lt : ∀ b, S' b → b < w'.heap.size

def RL (S : Nat → Prop) (w : World) (μ : Mu) (ds : List D) (vs : List Value) : Prop := ds.length = vs.length ∧ ∀ (i : Nat) d v, ds[i]? = some d → vs[i]? = some v → R S w μ d v

/-- What a transformer asks for is one thing. -/
def Det {α : Type} (F : (α → Prop) → Prop) : Prop := ∀ k, F k → ∃ x, k x ∧ ∀ k', k' x → F k'

/-- The contract of a function that only reads (it may make memory): what it does on abstract values. -/
structure PSound (P : Program) (f : Nat) (c : PRule) : Prop where
  det : ∀ ds, Det (c ds)
  enters : ∀ args w, (callFunc f args).run P w = .ok (.enter f args) w
  calls : ∀ ds k, c ds k → ∀ S w (vs : List Value), (∀ b, S b → b < w.heap.size) → RL S w Mu0 ds vs →
    Calls P f vs.toArray w fun e w' => ∃ v S' d, e = .returned v ∧ k d ∧ R S' w' Mu0 d v ∧ Grow S w S' w'

def noRef : D → Bool
  | .agg cs => cs.all noRef1
  | .fn _ fs cs => fs.all noRef1 && cs.all noRef1
  | d => noRef1 d
def flat1 : D → Bool
  | .tt | .ff | .int _ _ | .bool _ | .str _ | .nilI | .nilS => true
  | _ => false
def flat : D → Bool
  | .agg cs | .tup cs => cs.all (fun d => flat1 d || (match d with | .agg cs => cs.all flat1 | _ => false))
  | d => flat1 d

/-- How an object of the abstract heap looks to a callee that only reads. -/
def hide (H : HL) (d : D) : D := match d with
  | .own o n => match hget H o with
    | some (.buf _ s m g) => bif Nat.beq n m then .rsl s m g else .top
    | _ => .top
  | d => bif noRef1 d then d else .top
def view (H : HL) (d : D) (k : D → Prop) : Prop := match d with
  | .own o n => match hget H o with
    | some (.buf _ s m g) => n = m ∧ k (.rsl s m g)
    | _ => False
  | .ptr o off => match hget H o with
    | some (.row cs) => k (.eptr (cs.length - off) fun j => hide H (cs.getD (off + j) .top))
    | _ => False
  | d => fz d k
def viewl (H : HL) (l : List D) : (List D → Prop) → Prop := @List.rec D (fun _ => (List D → Prop) → Prop) (fun k => k []) (fun d _ ih k => view H d fun d => ih fun r => k (d :: r)) l
def viewa (H : HL) (d : D) (k : D → Prop) : Prop := match d with
  | .agg cs => viewl H cs fun cs => k (.agg cs)
  | .fn f fs cs => viewl H fs fun fs => viewl H cs fun cs => k (.fn f fs cs)
  | d => view H d k
def viewal (H : HL) (l : List D) : (List D → Prop) → Prop := @List.rec D (fun _ => (List D → Prop) → Prop) (fun k => k []) (fun d _ ih k => viewa H d fun d => ih fun r => k (d :: r)) l

def vcallp (c : PRule) (ds : List D) (H : HL) (k : D → Prop) : Prop :=
  bif ds.all noRef then c ds fun d => fz d k
  else viewal H ds fun ds => bif ds.all noRef then c ds fun d => fz d fun d => bif flat d then k d else False else False

section
variable {P : Program} {C : Cx} {o : Oper} {a : Act} {w : World} {S : Nat → Prop} {μ : Mu} {H : HL} {e : Env}

theorem noRef_R {d : D} {v : Value} (h : R S w μ d v) (hn : noRef d = true) : R S w Mu0 d v := by
  cases h with
  | agg cs vs hl hr => exact .agg cs vs hl fun i d v h1 h2 => noRef1_R (hr i d v h1 h2) (List.all_eq_true.1 hn d (List.mem_of_getElem? h1))
  | fn f fs cs vf vc h1 h2 h3 h4 =>
    simp only [noRef, Bool.and_eq_true] at hn
    exact .fn f fs cs vf vc h1 h2 (fun i d v g1 g2 => noRef1_R (h3 i d v g1 g2) (List.all_eq_true.1 hn.1 d (List.mem_of_getElem? g1)))
      fun i d v g1 g2 => noRef1_R (h4 i d v g1 g2) (List.all_eq_true.1 hn.2 d (List.mem_of_getElem? g1))
  | top v => cases hn
  | _ => exact noRef1_R (μ := μ) (by first | exact .tt | exact .ff | exact .int _ _ | exact .bool _ | exact .str _ | exact .nilI | exact .nilS | (constructor <;> assumption)) hn

theorem flat1_R {S' : Nat → Prop} {w' : World} {d : D} {v : Value} (h : R S w μ d v) (hn : flat1 d = true) : R S' w' Mu0 d v := by
  cases h <;> first | (cases hn; done) | exact .tt | exact .ff | exact .int _ _ | exact .bool _ | exact .str _ | exact .nilI | exact .nilS
theorem flat_R {S' : Nat → Prop} {w' : World} {d : D} {v : Value} (h : R S w μ d v) (hn : flat d = true) : R S' w' Mu0 d v := by
  have key : ∀ {d : D} {v : Value}, R S w μ d v → (flat1 d || (match d with | .agg cs => cs.all flat1 | _ => false)) = true → R S' w' Mu0 d v := fun {d v} h hn => by
    simp only [Bool.or_eq_true] at hn
    rcases hn with hn | hn
    · exact flat1_R h hn
    · cases h with
      | agg cs vs hl hr => exact .agg cs vs hl fun i d v h1 h2 => flat1_R (hr i d v h1 h2) (List.all_eq_true.1 hn d (List.mem_of_getElem? h1))
      | _ => cases hn
  cases h with
  | agg cs vs hl hr => exact .agg cs vs hl fun i d v h1 h2 => key (hr i d v h1 h2) (List.all_eq_true.1 hn d (List.mem_of_getElem? h1))
  | tup cs vs hl hr => exact .tup cs vs hl fun i d v h1 h2 => key (hr i d v h1 h2) (List.all_eq_true.1 hn d (List.mem_of_getElem? h1))
  | top v => cases hn
  | _ => exact flat1_R (S := S) (w := w) (μ := μ) (by first | exact .tt | exact .ff | exact .int _ _ | exact .bool _ | exact .str _ | exact .nilI | exact .nilS | (constructor <;> assumption)) hn

/-- The static memory with all objects' own. -/
def withH (S : Nat → Prop) (μ : Mu) (H : Hp) (b : Nat) : Prop := S b ∨ ∃ o ob v, H o = some ob ∧ μ o = some v ∧ blk v = some b

theorem R.up {d : D} {v : Value} (h : R S w μ d v) {S' : Nat → Prop} (hS : ∀ b, S b → S' b) : R S' w μ d v := h.keep hS (fun _ _ => rfl) (.refl _)

theorem own_view (hr : Rel S w μ (hget H)) {oid e s m : Nat} {g : Nat → Nat → D} {v : Value} (ho : hget H oid = some (.buf e s m g)) (hd : R S w μ (.own oid m) v) : R (withH S μ (hget H)) w Mu0 (.rsl s m g) v := by
  cases hd with
  | own _ _ A m' c _ hm hn h1c hv =>
    obtain ⟨mv, h1, xs, hown, hx⟩ := hr.obs oid _ ho
    rw [hm] at h1
    injection h1 with h1
    have hmm : m = m' := by
      rcases hown.2 with ⟨e1, e2⟩ | ⟨b, cap, cur, e1, _⟩
      · rw [← h1] at e1; injection e1 with _ e1 _; omega
      · rw [← h1] at e1; injection e1 with _ e1 _; exact e1.symm
    obtain rfl := hv hmm
    subst hmm
    refine .rsl s m g A c (fun i j => xs.getD (i * s + j) undef) ?_ (fun h0 => ?_) (fun i j hi hj => ?_)
    · rcases hown.2 with ⟨e1, e2⟩ | ⟨b, cap, cur, e1, _, _, hc, _⟩
      · omega
      · rw [← h1] at e1; injection e1 with _ _ e1; omega
    · rcases hown.2 with ⟨e1, e2⟩ | ⟨b, cap, cur, e1, _⟩
      · omega
      · have e2 := e1
        rw [← h1] at e1
        injection e1 with e1 _ _
        subst e1
        refine ⟨b, 0, rfl, .inr ⟨oid, _, _, ho, hm, rfl⟩, fun i j hi hj => ?_⟩
        obtain ⟨u, hu, hu1, _⟩ := hx i j hi hj
        rw [Nat.zero_add]
        exact ⟨by rw [own_cell hown e2 _ _ hu]; simp [hu], by simpa [hu] using hu1⟩
    · obtain ⟨u, hu, _, hur⟩ := hx i j hi hj
      simp only [List.getD_eq_getElem?_getD, hu, Option.getD_some]
      exact hur.up fun b hb => .inl hb

theorem hide_R (hr : Rel S w μ (hget H)) {d : D} {v : Value} (hd : R S w μ d v) : R (withH S μ (hget H)) w Mu0 (hide H d) v := by
  unfold hide
  split
  · rename_i o n
    split
    · rename_i e s m g ho
      cases hb : Nat.beq n m with
      | false => exact .top v
      | true =>
        obtain rfl := Nat.eq_of_beq_eq_true hb
        exact own_view hr ho hd
    · exact .top v
  · cases hn : noRef1 d with
    | false => exact .top v
    | true => exact (noRef1_R hd hn).up fun b hb => .inl hb

theorem sound_view (hr : Rel S w μ (hget H)) {d : D} {v : Value} (hd : R S w μ d v) {k : D → Prop} (h : view H d k) : ∃ d', k d' ∧ (noRef d' = true → R (withH S μ (hget H)) w Mu0 d' v) := by
  have plain : ∀ d, R S w μ d v → k d → ∃ d', k d' ∧ (noRef d' = true → R (withH S μ (hget H)) w Mu0 d' v) := fun d hd hk => ⟨d, hk, fun hn => (noRef_R hd hn).up fun b hb => .inl hb⟩
  cases d <;> simp only [view, fz_iff] at h <;> try exact plain _ hd h
  case own o n =>
    cases ho : hget H o with
    | none => simp [ho] at h
    | some ob =>
      cases ob with
      | row _ => simp [ho] at h
      | mp _ => simp [ho] at h
      | lp _ _ => simp [ho] at h
      | buf e s m g =>
        simp only [ho] at h
        obtain ⟨rfl, h⟩ := h
        exact ⟨_, h, fun _ => own_view hr ho hd⟩
  case ptr o off =>
    cases ho : hget H o with
    | none => simp [ho] at h
    | some ob =>
      cases ob with
      | buf _ _ _ _ => simp [ho] at h
      | mp _ => simp [ho] at h
      | lp _ _ => simp [ho] at h
      | row cs =>
        simp only [ho] at h
        refine ⟨_, h, fun _ => ?_⟩
        cases hd with
        | ptr _ _ b hm =>
          obtain ⟨mv, h1, b', cells, T, e, hheap, hlen, hcs, hone⟩ := hr.obs o _ ho
          rw [hm] at h1
          injection h1 with h1
          subst h1
          injection e with e
          injection e with e
          injection e with e
          subst e
          refine .eptr _ _ b off (fun j => cells.getD (off + j) undef) (.inr ⟨o, _, _, ho, hm, rfl⟩) (fun j hj => ?_) (fun j hj => ?_)
          · have hlt : off + j < cells.size := by omega
            exact ⟨by simp [row_cell hheap, Array.getD, hlt], hone (off + j) _ (by simp [Array.getD, hlt])⟩
          · have hlt : off + j < cells.size := by omega
            have hlt' : off + j < cs.length := by omega
            have hc := hcs (off + j) cs[off + j] cells[off + j] (by simp [hlt']) (by simp [hlt])
            have e1 : cs.getD (off + j) .top = cs[off + j] := by simp [List.getElem?_eq_getElem hlt']
            have e2 : cells.getD (off + j) undef = cells[off + j] := by simp [Array.getD, hlt]
            rw [e1, e2]
            exact hide_R hr hc

theorem noRef_of1 {d : D} (h : noRef1 d = true) : noRef d = true := by cases d <;> first | exact h | cases h

theorem sound_viewl (hr : Rel S w μ (hget H)) : ∀ (ds : List D) (vs : List Value) {k : List D → Prop}, RL S w μ ds vs → viewl H ds k → ∃ ds', k ds' ∧ (ds'.all noRef1 = true → RL (withH S μ (hget H)) w Mu0 ds' vs) ∧ ds'.length = ds.length
  | [], vs, k, hl, h => ⟨[], h, fun _ => ⟨hl.1, fun i d v h1 => by simp at h1⟩, rfl⟩
  | d :: ds, vs, k, hl, h => by
    match vs, hl with
    | v :: vs, hl =>
      have h : view H d (fun d => viewl H ds fun r => k (d :: r)) := h
      obtain ⟨d', h1, h2⟩ := sound_view hr (hl.2 0 d v rfl rfl) h
      obtain ⟨ds', h3, h4, h5⟩ := sound_viewl hr ds vs ⟨by simpa using hl.1, fun i d v a b => hl.2 (i + 1) d v (by simpa using a) (by simpa using b)⟩ h1
      refine ⟨d' :: ds', h3, fun hn => ?_, by simp [h5]⟩
      simp only [List.all_cons, Bool.and_eq_true] at hn
      obtain ⟨g1, g2⟩ := h4 hn.2
      refine ⟨by simp [g1], fun i x u hx hu => ?_⟩
      cases i with
      | zero => simp at hx hu; subst hx; subst hu; exact h2 (noRef_of1 hn.1)
      | succ i => exact g2 i x u (by simpa using hx) (by simpa using hu)

theorem sound_viewa (hr : Rel S w μ (hget H)) {d : D} {v : Value} (hd : R S w μ d v) {k : D → Prop} (h : viewa H d k) : ∃ d', k d' ∧ (noRef d' = true → R (withH S μ (hget H)) w Mu0 d' v) := by
  have toL : ∀ {cs : List D} {vs : Array Value}, cs.length = vs.size → (∀ (i : Nat) d v, cs[i]? = some d → vs[i]? = some v → R S w μ d v) → RL S w μ cs vs.toList := fun h1 h2 => ⟨by simpa using h1, fun i d v a b => h2 i d v a (by simpa using b)⟩
  cases d
  case agg cs =>
    simp only [viewa] at h
    cases hd with
    | agg _ vs hl hR =>
      obtain ⟨cs', h1, h2, h3⟩ := sound_viewl hr cs vs.toList (toL hl hR) h
      refine ⟨_, h1, fun hn => ?_⟩
      obtain ⟨g1, g2⟩ := h2 hn
      exact .agg _ _ (by simpa using g1) fun i d v a b => g2 i d v a (by simpa using b)
  case fn f fs cs =>
    simp only [viewa] at h
    cases hd with
    | fn _ _ _ vf vc hl1 hl2 hR1 hR2 =>
      obtain ⟨fs', h1, h2, h3⟩ := sound_viewl hr fs vf.toList (toL hl1 hR1) h
      obtain ⟨cs', h4, h5, h6⟩ := sound_viewl hr cs vc.toList (toL hl2 hR2) h1
      refine ⟨_, h4, fun hn => ?_⟩
      simp only [noRef, Bool.and_eq_true] at hn
      obtain ⟨g1, g2⟩ := h2 hn.1
      obtain ⟨g3, g4⟩ := h5 hn.2
      exact .fn f _ _ _ _ (by simpa using g1) (by simpa using g3) (fun i d v a b => g2 i d v a (by simpa using b)) fun i d v a b => g4 i d v a (by simpa using b)
  all_goals exact sound_view hr hd (by simpa only [viewa] using h)
end
end Go.V
