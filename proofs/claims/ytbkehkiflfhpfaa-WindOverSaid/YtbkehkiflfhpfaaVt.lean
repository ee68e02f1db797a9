/-
  A small logic of our own, part 12b: what one state tells of another one; the head of a loop.
-/
import Derived.Test.YtbkehkiflfhpfaaVl
set_option linter.unusedVariables false
set_option linter.unusedSimpArgs false
namespace Go.V

section
variable {P : Program} {C : Cx} {T : RT} {N : Nat} {S : Nat → Prop} {w : World} {μ : Mu} {r : Option Nat} {B : Option Nat}

theorem wpIn_loop_ghost {F : Fence} {n : Nat} {c : Code} {G : Type} {Q : Exit → Act → World → Prop} {a : Act} {w : World} (I : G → Act → World → Prop) (m : G → Nat) (g0 : G) (h₀ : I g0 a w)
    (round : ∀ g a w, I g a w → c.wpIn F n P (Exit.then (fun a' w' => ∃ g', I g' a' w' ∧ m g' < m g) Q) a w) : (Code.loop c).wpIn F n P Q a w := by
  intro b k cs hro hb hr
  have key : ∀ j g a w, m g = j → I g a w → ∃ e a' w', Q e a' w' ∧ ArrivesIn (Machine.fenced P F) P (lone (b.atR a (.code c :: .inLoop c :: k)) cs w) b k cs e a' w' := by
    intro j
    induction j using Nat.strongRecOn with
    | _ j ih =>
      intro g a w hn hI
      obtain ⟨e, a₁, w₁, hq, harr⟩ := round g a w hI b (.inLoop c :: k) cs hro hb hr
      cases e with
      | normal =>
        obtain ⟨g', hI₁, hlt⟩ := hq
        obtain ⟨e₂, a₂, w₂, hq₂, harr₂⟩ := ih (m g') (hn ▸ hlt) g' a₁ w₁ rfl hI₁
        exact ⟨e₂, a₂, w₂, hq₂, .of_steps (StepsIn.trans harr (.one (fenced_calm hb hr rfl) stepR_inLoop)) harr₂⟩
      | exit id => exact ⟨_, a₁, w₁, hq, .pass (x := .inLoop c) rfl (fun _ _ => .inl (by simp)) harr⟩
      | goto l => exact ⟨_, a₁, w₁, hq, .pass (x := .inLoop c) rfl (fun _ _ => .inl (by simp)) harr⟩
      | ret => exact ⟨_, a₁, w₁, hq, .pass (x := .inLoop c) rfl (fun _ _ => .inl (by simp)) harr⟩
      | panic ch => exact ⟨_, a₁, w₁, hq, .pass (x := .inLoop c) rfl (fun _ _ => .inl (by simp)) harr⟩
      | outgrown => exact ⟨_, a₁, w₁, hq, .pass (x := .inLoop c) rfl (fun _ _ => .inl (by simp)) harr⟩
  obtain ⟨e, a', w', hq, harr⟩ := key _ g0 a w rfl h₀
  exact ⟨e, a', w', hq, .of_steps (.one (fenced_calm hb hr rfl) stepR_loop) harr⟩

variable {gs : Nat → Bool}
theorem impC_sound (hgs : ∀ o, gs o = true → μ o = some (.slice none 0 0)) {d d' : D} {v : Value} {k : Prop} (h : impC gs d d' k) (hR : R S w μ d v) : R S w μ d' v ∧ k := by
  unfold impC at h
  split at h
  · exact ⟨.top v, h⟩
  · split at h
    · exact ⟨hR, h⟩
    · obtain ⟨rfl, h⟩ := h; cases hR; exact ⟨.tt, h⟩
    · exact h.elim
  · split at h
    · exact ⟨hR, h⟩
    · obtain ⟨rfl, h⟩ := h; cases hR; exact ⟨.ff, h⟩
    · exact h.elim
  · split at h
    · obtain ⟨rfl, h⟩ := h; cases hR; exact ⟨.bool _, h⟩
    · obtain ⟨rfl, h⟩ := h; cases hR; exact ⟨.bool _, h⟩
    · obtain ⟨rfl, h⟩ := h; exact ⟨hR, h⟩
    · exact h.elim
  · split at h
    · rename_i q n _ q' n'
      cases hq : keq q' q with
      | false => simp [hq] at h
      | true =>
        simp only [hq, cond_true] at h
        obtain rfl := keq_eq hq
        obtain ⟨rfl, h⟩ := h
        exact ⟨hR, h⟩
    · exact h.elim
  · split at h
    · obtain ⟨rfl, h⟩ := h; exact ⟨hR, h⟩
    · exact h.elim
  · split at h
    · rename_i s n g _ s' n' g'
      cases hq : Nat.beq s' s with
      | false => simp [hq] at h
      | true =>
        simp only [hq, cond_true] at h
        obtain rfl := Nat.eq_of_beq_eq_true hq
        obtain ⟨rfl, hg, h⟩ := h
        cases hR with
        | rsl _ _ _ A c val h1 h2 h3 => exact ⟨.rsl _ _ _ A c val h1 h2 fun i j hi hj => by rw [← hg i j hi hj]; exact h3 i j hi hj, h⟩
    · obtain ⟨rfl, h⟩ := h
      cases hR
      exact ⟨.rsl _ 0 _ none 0 (fun _ _ => undef) (Nat.le_refl _) (fun h => absurd h (by omega)) (fun i j hi => absurd hi (by omega)), h⟩
    · exact h.elim
  · split at h
    · obtain ⟨rfl, hg, h⟩ := h
      cases hR with
      | eptr _ _ b off val h1 h2 h3 => exact ⟨.eptr _ _ b off val h1 h2 fun j hj => by rw [← hg j hj]; exact h3 j hj, h⟩
    · exact h.elim
  · split at h
    · rename_i o f _ o' f'
      cases hq : (Nat.beq o' o && Nat.beq f' f) with
      | false => simp [hq] at h
      | true =>
        simp only [hq, cond_true] at h
        simp only [Bool.and_eq_true] at hq
        obtain rfl := Nat.eq_of_beq_eq_true hq.1
        obtain rfl := Nat.eq_of_beq_eq_true hq.2
        exact ⟨hR, h⟩
    · exact h.elim
  · split at h
    · rename_i o n _ o' n'
      cases hq : Nat.beq o' o with
      | false => simp [hq] at h
      | true =>
        simp only [hq, cond_true] at h
        obtain rfl := Nat.eq_of_beq_eq_true hq
        obtain ⟨rfl, h⟩ := h
        exact ⟨hR, h⟩
    · rename_i o n _
      cases hq : gs o with
      | false => simp [hq] at h
      | true =>
        simp only [hq, cond_true] at h
        obtain ⟨rfl, h⟩ := h
        cases hR
        exact ⟨.own o 0 none 0 0 _ (hgs o hq) (Nat.le_refl _) rfl (fun _ => rfl), h⟩
    · exact h.elim
  · split at h
    · exact ⟨hR, h⟩
    · exact h.elim
  · split at h
    · exact ⟨hR, h⟩
    · exact h.elim
  · obtain ⟨rfl, h⟩ := h
    exact ⟨hR, h⟩

theorem RL.cons_inv {d : D} {ds : List D} {v : Value} {vs : List Value} (h : RL S w μ (d :: ds) (v :: vs)) : R S w μ d v ∧ RL S w μ ds vs :=
  ⟨h.2 0 d v rfl rfl, by simpa using h.1, fun i x y a b => h.2 (i + 1) x y (by simpa using a) (by simpa using b)⟩
theorem RL.cons {d : D} {ds : List D} {v : Value} {vs : List Value} (h : R S w μ d v) (h' : RL S w μ ds vs) : RL S w μ (d :: ds) (v :: vs) :=
  ⟨by simp [h'.1], fun i x y a b => by
    cases i with
    | zero => simp at a b; subst a; subst b; exact h
    | succ i => exact h'.2 i x y (by simpa using a) (by simpa using b)⟩
theorem impL_sound (hgs : ∀ o, gs o = true → μ o = some (.slice none 0 0)) : ∀ {l l' : List D} {vs : List Value} {k : Prop}, RL S w μ l vs → impL gs l l' k → RL S w μ l' vs ∧ k
  | [], [], vs, k, hr, h => ⟨hr, h⟩
  | x :: r, y :: s, [], k, hr, h => by have := hr.1; simp at this
  | x :: r, y :: s, v :: vs, k, hr, h => by
    rw [impL_cons] at h
    obtain ⟨h1, h2⟩ := hr.cons_inv
    obtain ⟨g1, g2⟩ := impC_sound hgs h h1
    obtain ⟨g3, g4⟩ := impL_sound hgs h2 g2
    exact ⟨.cons g1 g3, g4⟩
  | [], _ :: _, _, _, _, h => h.elim
  | _ :: _, [], _, _, _, h => h.elim
theorem R.toRL {l : List D} {vs : Array Value} (h1 : l.length = vs.size) (h2 : ∀ (i : Nat) d v, l[i]? = some d → vs[i]? = some v → R S w μ d v) : RL S w μ l vs.toList := ⟨by simpa using h1, fun i d v a b => h2 i d v a (by simpa using b)⟩
theorem impB_sound (hgs : ∀ o, gs o = true → μ o = some (.slice none 0 0)) {d d' : D} {v : Value} {k : Prop} (h : impB gs d d' k) (hR : R S w μ d v) : R S w μ d' v ∧ k := by
  unfold impB at h
  split at h
  · split at h
    · cases hR with
      | agg _ us hl hR =>
        obtain ⟨g1, g2⟩ := impL_sound hgs (R.toRL hl hR) h
        exact ⟨.agg _ us (by simpa using g1.1) fun i d v a b => g1.2 i d v a (by simpa using b), g2⟩
    · exact h.elim
  · exact impC_sound hgs h hR
theorem impAL_sound (hgs : ∀ o, gs o = true → μ o = some (.slice none 0 0)) : ∀ {l l' : List D} {vs : List Value} {k : Prop}, RL S w μ l vs → impAL gs l l' k → RL S w μ l' vs ∧ k
  | [], [], vs, k, hr, h => ⟨hr, h⟩
  | x :: r, y :: s, [], k, hr, h => by have := hr.1; simp at this
  | x :: r, y :: s, v :: vs, k, hr, h => by
    have h : impB gs x y (impAL gs r s k) := h
    obtain ⟨h1, h2⟩ := hr.cons_inv
    obtain ⟨g1, g2⟩ := impB_sound hgs h h1
    obtain ⟨g3, g4⟩ := impAL_sound hgs h2 g2
    exact ⟨.cons g1 g3, g4⟩
  | [], _ :: _, _, _, _, h => h.elim
  | _ :: _, [], _, _, _, h => h.elim
theorem impA_sound (hgs : ∀ o, gs o = true → μ o = some (.slice none 0 0)) {d d' : D} {v : Value} {k : Prop} (h : impA gs d d' k) (hR : R S w μ d v) : R S w μ d' v ∧ k := by
  unfold impA at h
  split at h
  · split at h
    · cases hR with
      | agg _ us hl hR =>
        obtain ⟨g1, g2⟩ := impL_sound hgs (R.toRL hl hR) h
        exact ⟨.agg _ us (by simpa using g1.1) fun i d v a b => g1.2 i d v a (by simpa using b), g2⟩
    · exact h.elim
  · split at h
    · cases hR with
      | tup _ us hl hR =>
        obtain ⟨g1, g2⟩ := impAL_sound hgs (R.toRL hl hR) h
        exact ⟨.tup _ us (by simpa using g1.1) fun i d v a b => g1.2 i d v a (by simpa using b), g2⟩
    · exact h.elim
  · exact impC_sound hgs h hR
theorem impE_sound (hgs : ∀ o, gs o = true → μ o = some (.slice none 0 0)) {e : Env} {a : Act} (he : EnvR S w μ e a) : ∀ {sl : List (Nat × D)} {k : Prop}, impE gs e sl k → EnvR S w μ (envOf sl) a ∧ k
  | [], k, h => ⟨fun j => .top _, h⟩
  | (i, d) :: r, k, h => by
    have h : impA gs (e i) d (impE gs e r k) := h
    obtain ⟨g1, g2⟩ := impA_sound hgs h (he i)
    obtain ⟨g3, g4⟩ := impE_sound hgs he g2
    refine ⟨fun j => ?_, g4⟩
    simp only [envOf]
    cases hj : Nat.beq j i with
    | true => obtain rfl := Nat.eq_of_beq_eq_true hj; exact g1
    | false => exact g3 j

/-- One object tells at least what another one tells. -/
def ImpOb (S : Nat → Prop) (w : World) (μ : Mu) (ob ob' : Ob) : Prop := ∀ mv, ObR S w μ mv ob → ObR S w μ mv ob'
def ImpO (S : Nat → Prop) (w : World) (μ : Mu) (x y : Option Ob) (k : Prop) : Prop := match y with
  | none => x = none ∧ k
  | some ob' => ∃ ob, x = some ob ∧ ∀ mv, ObR S w μ mv ob → ObR S w μ mv ob' ∧ k
theorem impO_sound (hgs : ∀ o, gs o = true → μ o = some (.slice none 0 0)) {x y : Option Ob} {k : Prop} (h : impO gs x y k) : ImpO S w μ x y k := by
  cases y with
  | none => cases x with
    | none => exact ⟨rfl, h⟩
    | some _ => exact h.elim
  | some y => cases x with
    | none => cases y <;> exact h.elim
    | some x => cases y with
      | row cs => cases x with
        | row cs' =>
          refine ⟨_, rfl, fun mv ho => ?_⟩
          obtain ⟨b, cells, T, h1, h2, h3, h4, h5⟩ := ho
          obtain ⟨g1, g2⟩ := impL_sound hgs (R.toRL h3.symm h4) h
          exact ⟨⟨b, cells, T, h1, h2, by simpa using g1.1.symm, fun i d v a b => g1.2 i d v a (by simpa using b), h5⟩, g2⟩
        | _ => exact h.elim
      | mp m => cases x with
        | mp m' =>
          have h' : (bif ksEq m'.ks m.ks && ekEq m'.ek m.ek then m'.n = m.n ∧ (∀ q, keyOK m.ks q → m'.has q = m.has q) ∧ (∀ q j, keyOK m.ks q → m.has q = true → m'.get q j = m.get q j) ∧ k else False) := h
          cases hq : (ksEq m'.ks m.ks && ekEq m'.ek m.ek) with
          | false => rw [hq] at h'; exact h'.elim
          | true =>
            rw [hq, cond_true] at h'
            simp only [Bool.and_eq_true] at hq
            obtain ⟨h1, h2, h3, hk⟩ := h'
            have hks := ksEq_eq hq.1
            have hek := ekEq_eq hq.2
            refine ⟨_, rfl, fun mv ⟨r, es, clock, g1, g2, g3, g4, g5, g6⟩ => ⟨⟨r, es, clock, g1, g2, g3, by rw [g4, h1], fun x hx => ?_, fun q hq hh => ?_⟩, hk⟩⟩
            · obtain ⟨a1, a2, a3⟩ := g5 x hx
              rw [hks] at a1
              rw [h2 _ a1] at a2
              refine ⟨a1, a2, ?_⟩
              rw [a3, hek]
              congr 1
              funext j
              exact h3 _ j a1 a2
            · exact g6 q (by rw [hks]; exact hq) (by rw [h2 q hq]; exact hh)
        | _ => exact h.elim
      | lp l p => cases x with
        | lp l' p' =>
          obtain ⟨rfl, rfl, hk⟩ := h
          exact ⟨_, rfl, fun mv hmv => ⟨hmv, hk⟩⟩
        | _ => exact h.elim
      | buf e s n g => cases x with
        | row _ => exact h.elim
        | mp _ => exact h.elim
        | lp _ _ => exact h.elim
        | buf e' s' n' g' =>
          have h' : (bif Nat.beq e' e && Nat.beq s' s then n' = n ∧ (∀ i j, i < n → j < s → g' i j = g i j) ∧ k else False) := h
          cases hq : (Nat.beq e' e && Nat.beq s' s) with
          | false => rw [hq] at h'; exact h'.elim
          | true =>
            rw [hq, cond_true] at h'
            simp only [Bool.and_eq_true] at hq
            obtain rfl := Nat.eq_of_beq_eq_true hq.1
            obtain rfl := Nat.eq_of_beq_eq_true hq.2
            obtain ⟨rfl, hg, hk⟩ := h'
            refine ⟨_, rfl, fun mv ⟨xs, h1, h2⟩ => ⟨⟨xs, h1, fun i j hi hj => ?_⟩, hk⟩⟩
            rw [← hg i j hi hj]
            exact h2 i j hi hj
theorem impH_sound (hgs : ∀ o, gs o = true → μ o = some (.slice none 0 0)) {H : HL} (hr : ∀ o ob, hget H o = some ob → ∃ mv, ObR S w μ mv ob) : ∀ {H' : HL} {k : Prop}, impH gs H H' k → H'.length ≤ H.length ∧ (∀ o, o < H'.length → match hget H' o with
    | none => hget H o = none
    | some ob' => ∃ ob, hget H o = some ob ∧ ∀ mv, ObR S w μ mv ob → ObR S w μ mv ob') ∧ k := by
  induction H with
  | nil =>
    intro H' k h
    cases H' with
    | nil => exact ⟨Nat.le_refl _, fun o ho => absurd ho (by simp), h⟩
    | cons _ _ => exact h.elim
  | cons x r ih =>
    intro H' k h
    cases H' with
    | nil => exact ⟨Nat.zero_le _, fun o ho => absurd ho (by simp), h⟩
    | cons y s =>
      have h1 := impO_sound hgs (S := S) (w := w) (μ := μ) (h : impO gs x y (impH gs r s k))
      have ih' := ih (fun o ob ho => hr (o + 1) ob (by simpa [hget] using ho)) (H' := s) (k := k)
      cases y with
      | none =>
        obtain ⟨e, h2⟩ := h1
        obtain ⟨g1, g2, g3⟩ := ih' h2
        refine ⟨by simp; omega, fun o ho => ?_, g3⟩
        cases o with
        | zero => simp [hget, e]
        | succ o => simpa [hget] using g2 o (by simpa using ho)
      | some ob' =>
        obtain ⟨ob, e, h2⟩ := h1
        obtain ⟨mv, hmv⟩ := hr 0 ob (by simp [hget, e])
        obtain ⟨g1, g2, g3⟩ := ih' (h2 mv hmv).2
        refine ⟨by simp; omega, fun o ho => ?_, g3⟩
        cases o with
        | zero => simpa [hget, e] using fun mv h => (h2 mv h).1
        | succ o => simpa [hget] using g2 o (by simpa using ho)

theorem lenB_len : ∀ {H H' : HL}, lenB H H' = true → H.length = H'.length
  | [], [], _ => rfl
  | x :: r, y :: s, h => by simp [lenB_len (H := r) (H' := s) (by simpa [lenB] using h)]
  | [], _ :: _, h => by simp [lenB] at h
  | _ :: _, [], h => by simp [lenB] at h

def cutM (n : Nat) (μ : Mu) : Mu := fun o => if o < n then μ o else none
theorem cutM_le {n : Nat} {o : Nat} (h : o < n) : cutM n μ o = μ o := by simp [cutM, h]
theorem idb_R : ∀ (f n : Nat) {d : D} {v : Value}, idb f n d = true → R S w μ d v → R S w (cutM n μ) d v
  | 0, n, d, v, h, _ => by simp [idb] at h
  | f + 1, n, d, v, h, hR => by
    cases hR with
    | top v => exact .top v
    | tt => exact .tt
    | ff => exact .ff
    | int k m => exact .int k m
    | bool b => exact .bool b
    | str s => exact .str s
    | nilI => exact .nilI
    | nilS => exact .nilS
    | rsl size m g A c val h1 h2 h3 => exact .rsl size m g A c val h1 h2 h3
    | eptr m g b off val h1 h2 h3 => exact .eptr m g b off val h1 h2 h3
    | ptr o off b hm => exact .ptr o off b (by rw [cutM_le ((blt_iff _ _).1 (by simpa [idb] using h))]; exact hm)
    | own o m A m' c v hm h1 h2 h3 => exact .own o m A m' c v (by rw [cutM_le ((blt_iff _ _).1 (by simpa [idb] using h))]; exact hm) h1 h2 h3
    | optr o m size i j A m' c b hm h1 h2 => exact .optr o m size i j A m' c b (by rw [cutM_le ((blt_iff _ _).1 (by simpa [idb] using h))]; exact hm) h1 h2
    | map o r ks hm => exact .map o r ks (by rw [cutM_le ((blt_iff _ _).1 (by simpa [idb] using h))]; exact hm)
    | yld o l hm => exact .yld o l (by rw [cutM_le ((blt_iff _ _).1 (by simpa [idb] using h))]; exact hm)
    | stamp o k r ks i born hm hi => exact .stamp o k r ks i born (by rw [cutM_le ((blt_iff _ _).1 (by simpa [idb] using h))]; exact hm) hi
    | agg cs vs h1 h2 =>
      simp only [idb, List.all_eq_true] at h
      exact .agg cs vs h1 fun i d v a b => idb_R f n (h d (List.mem_of_getElem? a)) (h2 i d v a b)
    | tup cs vs h1 h2 =>
      simp only [idb, List.all_eq_true] at h
      exact .tup cs vs h1 fun i d v a b => idb_R f n (h d (List.mem_of_getElem? a)) (h2 i d v a b)
    | fn g fs cs vf vc h1 h2 h3 h4 =>
      simp only [idb, Bool.and_eq_true, List.all_eq_true] at h
      exact .fn g fs cs vf vc h1 h2 (fun i d v a b => idb_R f n (h.1 d (List.mem_of_getElem? a)) (h3 i d v a b)) fun i d v a b => idb_R f n (h.2 d (List.mem_of_getElem? a)) (h4 i d v a b)
    | iface t d v h1 => exact .iface t d v (idb_R f n (by simpa [idb] using h) h1)

theorem envOf_ids {n : Nat} {sl : List (Nat × D)} (h : sl.all (fun p => idb 4 n p.2) = true) (j : Nat) : idb 4 n (envOf sl j) = true := by
  induction sl with
  | nil => rfl
  | cons p r ih =>
    obtain ⟨i, d⟩ := p
    simp only [List.all_cons, Bool.and_eq_true] at h
    simp only [envOf]
    cases hj : Nat.beq j i with
    | true => exact h.1
    | false => exact ih h.2

/-- The state at the head of a loop. -/
theorem cut_state {a : Act} {s : St} {sl : List (Nat × D)} {Hg H0 : HL} {S0 : Nat → Prop} {w0 : World} {μ0 : Mu} {k : Prop} (hst : RelSt r N B S w μ s a) (t : Tr S0 w0 μ0 (hget H0) S w μ (hget s.H)) (h0 : ∀ o, H0.length ≤ o → μ0 o = none) (hl : Hg.length = H0.length)
    (hgs : ∀ o, gs o = true → μ o = some (.slice none 0 0)) (hids : idsOK H0.length sl Hg s.df = true) (h : impE gs s.e sl (impH gs s.H Hg k)) : ∃ μ', RelSt r N B S w μ' ⟨envOf sl, Hg, s.df⟩ a ∧ Tr S0 w0 μ0 (hget H0) S w μ' (hget Hg) ∧ k := by
  obtain ⟨hr, he, hN, hdf, hro⟩ := hst
  simp only [idsOK, Bool.and_eq_true] at hids
  obtain ⟨he', h⟩ := impE_sound hgs he h
  obtain ⟨g1, g2, g3⟩ := impH_sound hgs (S := S) (w := w) (μ := μ) (fun o ob ho => let ⟨mv, _, h⟩ := hr.1.obs o ob ho; ⟨mv, h⟩) h
  have hcut : ∀ o, o < Hg.length → cutM H0.length μ o = μ o := fun o ho => cutM_le (by omega)
  have hlt : ∀ {o ob}, hget Hg o = some ob → o < Hg.length := fun h => lt_of_hget h
  have hold : ∀ {o ob'}, hget Hg o = some ob' → ∃ ob, hget s.H o = some ob ∧ ∀ mv, ObR S w μ mv ob → ObR S w μ mv ob' := fun {o ob'} ho => by
    have := g2 o (hlt ho)
    rw [ho] at this
    exact this
  have hrow : ∀ {o cs}, hget Hg o = some (.row cs) → cs.all (idb 4 H0.length) = true := fun {o cs} ho => by
    have hlt := hlt ho
    have : Hg[o]? = some (some (.row cs)) := by
      unfold hget at ho
      rw [List.getD_eq_getElem?_getD, List.getElem?_eq_getElem hlt] at ho
      rw [List.getElem?_eq_getElem hlt]
      simpa using ho
    exact List.all_eq_true.1 hids.1.2 _ (List.mem_of_getElem? this)
  have hob : ∀ {o ob mv}, hget Hg o = some ob → ObR S w μ mv ob → ObR S w (cutM H0.length μ) mv ob := fun {o ob mv} ho h => by
    cases ob with
    | row cs =>
      obtain ⟨b, cells, T, h1, h2, h3, h4, h5⟩ := h
      have := hrow ho
      exact ⟨b, cells, T, h1, h2, h3, fun i d v x y => idb_R 4 _ (List.all_eq_true.1 this d (List.mem_of_getElem? x)) (h4 i d v x y), h5⟩
    | buf e s n g => exact h
    | mp m => exact h
    | lp l p => exact h
  have hdfc : DfR B S w (cutM H0.length μ) (hget Hg) s.df a.defers := by
    have h3 := hids.2
    cases hsd : s.df with
    | none => trivial
    | some df =>
      rw [hsd] at hdf h3
      have hdf2 : DfL B S w μ (hget s.H) df a.defers := hdf
      have h4 : df.all (idb 4 H0.length) = true := h3
      clear hdf h3
      show DfL B S w (cutM H0.length μ) (hget Hg) df a.defers
      clear hsd hids
      generalize a.defers = ds at hdf2
      induction hdf2 with
      | nil => exact .nil
      | fn f fs cs vf vc h1 _ ih =>
        simp only [List.all_cons, Bool.and_eq_true] at h4
        exact .fn f fs cs vf vc (idb_R 4 _ h4.1 h1) (ih h4.2)
      | mark b D h0 h1 h2 h3' h4' h5 h6 _ ih =>
        refine .mark b D h0 h1 h2 h3' h4' (fun o ob v ho hv => ?_) h6 (ih h4)
        rw [hcut o (hlt ho)] at hv
        obtain ⟨ob0, e1, _⟩ := hold ho
        exact h5 o ob0 v e1 hv
  refine ⟨cutM H0.length μ, ⟨⟨⟨fun o ob ho => ?_, fun o o' ob ob' v v' b h1 h2 hne m1 m2 => ?_, fun b hb => ⟨(hr.1.stat b hb).1, fun o ob v ho hv => ?_⟩⟩, fun o ho => ?_⟩, fun j => idb_R 4 _ (envOf_ids hids.1.1 j) (he' j), hN, hdfc, hro⟩,
    ⟨t.os, t.tape, t.output, t.size, t.block, t.sub, t.new, fun o v hv => ?_, fun o ob v b ho hv hb => ?_, fun o v h1 h2 => ?_, fun o ho => ?_⟩, g3⟩
  · obtain ⟨ob0, h1, h2⟩ := hold ho
    obtain ⟨mv, m1, m2⟩ := hr.1.obs o ob0 h1
    exact ⟨mv, by rw [hcut o (hlt ho)]; exact m1, hob ho (h2 mv m2)⟩
  · rw [hcut o (hlt h1)] at m1
    rw [hcut o' (hlt h2)] at m2
    obtain ⟨ob0, e1, _⟩ := hold h1
    obtain ⟨ob0', e2, _⟩ := hold h2
    exact hr.1.sep o o' ob0 ob0' v v' b e1 e2 hne m1 m2
  · rw [hcut o (hlt ho)] at hv
    obtain ⟨ob0, e1, _⟩ := hold ho
    exact (hr.1.stat b hb).2 o ob0 v e1 hv
  · have : ¬ o < H0.length := by simp only at ho; omega
    simp [cutM, this]
  · have hlt : o < H0.length := by
      rcases Nat.lt_or_ge o H0.length with h1 | h1
      · exact h1
      · rw [h0 o h1] at hv; cases hv
    obtain ⟨v', h1, h2⟩ := t.mu o v hv
    exact ⟨v', by rw [cutM_le hlt]; exact h1, h2⟩
  · rw [hcut o (hlt ho)] at hv
    obtain ⟨ob0, e1, _⟩ := hold ho
    exact t.blks o ob0 v b e1 hv hb
  · have hlt : o < H0.length := by
      rcases Nat.lt_or_ge o H0.length with h1 | h1
      · exact h1
      · rw [h0 o h1] at h2; cases h2
    obtain ⟨k1, k2⟩ := t.off o v h1 h2
    refine ⟨?_, by rw [cutM_le hlt]; exact k2⟩
    cases hx : hget Hg o with
    | none => rfl
    | some ob' => obtain ⟨ob, e1, _⟩ := hold hx; rw [k1] at e1; cases e1
  · have hlt : o < H0.length := by
      rcases Nat.lt_or_ge o H0.length with h1 | h1
      · exact h1
      · have : ¬ o < H0.length := by omega
        simp [cutM, this] at ho
    rw [cutM_le hlt] at ho
    rcases t.dom o ho with h1 | h1
    · refine .inl fun hx => ?_
      have := g2 o (by omega)
      rw [hx] at this
      exact h1 this
    · exact .inr h1

theorem add_ghosts : ∀ (gh : List (Nat × Nat)) {μ : Mu} {H : HL}, RelL S w μ H → ∃ μ', RelL S w μ' (H ++ ghosts gh) ∧ Tr S w μ (hget H) S w μ' (hget (H ++ ghosts gh)) ∧ ∀ o, isGh H.length gh.length o = true → μ' o = some (.slice none 0 0)
  | [], μ, H, hr => ⟨μ, by simpa [ghosts] using hr, by simpa [ghosts] using Tr.refl S w μ (hget H), fun o ho => by
    simp only [isGh, Bool.and_eq_true, blt_iff, Nat.ble_eq] at ho; simp at ho; omega⟩
  | p :: gh, μ, H, hr => by
    obtain ⟨h1, h2, h3⟩ := new_nil hr (hr.2 _ (Nat.le_refl _)) (Nat.le_refl _) p.1 p.2 (fun _ _ => D.top)
    have e : hnew H H.length (.buf p.1 p.2 0 fun _ _ => .top) = H ++ [some (.buf p.1 p.2 0 fun _ _ => .top)] := by
      unfold hnew
      have : Nat.blt H.length H.length = false := by
        cases hb : Nat.blt H.length H.length with
        | false => rfl
        | true => have := (blt_iff _ _).1 hb; omega
      rw [this]; rfl
    rw [e] at h1 h2
    obtain ⟨μ', g1, g2, g3⟩ := add_ghosts gh h1
    have e2 : (H ++ [some (Ob.buf p.1 p.2 0 fun _ _ => .top)]) ++ ghosts gh = H ++ ghosts (p :: gh) := by simp [ghosts]
    rw [e2] at g1 g2
    refine ⟨μ', g1, h2.trans g2, fun o ho => ?_⟩
    simp only [isGh, Bool.and_eq_true, blt_iff, Nat.ble_eq, List.length_cons] at ho
    rcases Nat.eq_or_lt_of_le ho.1 with rfl | hlt
    · obtain ⟨v', k1, k2⟩ := g2.mu H.length (.slice none 0 0) (by simp [updM])
      rcases k2 with rfl | ⟨A, m, c, A', m', c', e1, rfl, hlt⟩ | ⟨r, ks, ys, e1, _⟩
      · exact k1
      · have hg := g1.1.obs H.length (.buf p.1 p.2 0 fun _ _ => .top) (by simp [hget, ghosts])
        obtain ⟨mv, m1, xs, m2, _⟩ := hg
        rw [k1] at m1
        injection m1 with m1
        rcases m2.2 with ⟨rfl, _⟩ | ⟨b, cap, cur, rfl, _⟩
        · rw [k1, m1]
        · injection m1 with _ m1 _; omega
      · cases e1
    · exact g3 o (by simp only [isGh, Bool.and_eq_true, blt_iff, Nat.ble_eq]; simp; omega)

end
end Go.V
