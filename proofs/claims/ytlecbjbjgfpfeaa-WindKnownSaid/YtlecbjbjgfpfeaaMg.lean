/-
  A small logic of our own, part 17: a call of a function that only reads, with slices of the caller's own among its arguments: from then on these are only read, too.
-/
import Derived.Test.YtlecbjbjgfpfeaaMf
section
set_option linter.unusedVariables false
set_option linter.unusedSimpArgs false
namespace Go.V

def lockIds1 : D → List Nat
  | .own o _ => [o]
  | _ => []
def lockIds : D → List Nat
  | .agg l => l.flatMap lockIds1
  | d => lockIds1 d
def isBuf (H : HL) (o : Nat) : Bool := match hget H o with
  | some (.buf _ _ _ _) => true
  | _ => false
def lockD (ids : List Nat) (H : HL) (d : D) (k : D → Prop) : Prop := match d with
  | .own o n => bif memB o ids then (match hget H o with
    | some (.buf _ s m g) => n = m ∧ k (.rsl s m g)
    | _ => False) else k (.own o n)
  | d => k d
def lockL (ids : List Nat) (H : HL) (l : List D) : (List D → Prop) → Prop := @List.rec D (fun _ => (List D → Prop) → Prop) (fun k => k []) (fun d _ ih k => lockD ids H d fun d => ih fun r => k (d :: r)) l
def lockO (ids : List Nat) (H : HL) (i : Nat) (x : Option Ob) (k : Option Ob → Prop) : Prop := match x with
  | some (.row cs) => lockL ids H cs fun cs => k (some (.row cs))
  | some (.buf e s n g) => bif memB i ids then k (some .dead) else k (some (.buf e s n g))
  | x => k x
def lockH (ids : List Nat) (H : HL) (l : HL) : Nat → (HL → Prop) → Prop := @List.rec (Option Ob) (fun _ => Nat → (HL → Prop) → Prop) (fun _ k => k []) (fun x _ ih i k => lockO ids H i x fun y => ih (i + 1) fun r => k (y :: r)) l
/-- The rule of such a call. -/
def lockC (c : PRule) : CRule := fun ds H K => fznl (ds.flatMap lockIds) fun ids => gate (ids.all (isBuf H)) (viewal (resH ids 0 H) ds fun ds' => bif ds'.all noRef then c ds' fun d => fz d fun d => lockH ids H H 0 fun H' => fzh H' fun H' => K (.ret d) H' else False)

def LockD (ids : List Nat) (H : HL) (d d' : D) : Prop := d' = d ∨ ∃ o n e s m g, d = .own o n ∧ o ∈ ids ∧ hget H o = some (.buf e s m g) ∧ n = m ∧ d' = .rsl s m g
theorem lockD_spec {ids : List Nat} {H : HL} {d : D} {k : D → Prop} (h : lockD ids H d k) : ∃ d', k d' ∧ LockD ids H d d' := by
  unfold lockD at h
  cases d with
  | own o n =>
    simp only at h
    cases hm : memB o ids with
    | false => rw [hm] at h; exact ⟨_, h, .inl rfl⟩
    | true =>
      rw [hm] at h
      cases ho : hget H o with
      | none => rw [ho] at h; exact h.elim
      | some ob =>
        rw [ho] at h
        cases ob with
        | buf e s m g => exact ⟨_, h.2, .inr ⟨o, n, e, s, m, g, rfl, (memB_iff _ _).1 hm, ho, h.1, rfl⟩⟩
        | _ => exact h.elim
  | _ => exact ⟨_, h, .inl rfl⟩
theorem lockL_spec {ids : List Nat} {H : HL} : ∀ {l : List D} {k : List D → Prop}, lockL ids H l k → ∃ l', k l' ∧ l'.length = l.length ∧ ∀ (i : Nat) d d', l[i]? = some d → l'[i]? = some d' → LockD ids H d d'
  | [], k, h => ⟨[], h, rfl, fun i d d' h1 => by simp at h1⟩
  | d :: l, k, h => by
    obtain ⟨d', h1, h2⟩ := lockD_spec (d := d) (k := fun d => lockL ids H l fun r => k (d :: r)) h
    obtain ⟨l', h3, h4, h5⟩ := lockL_spec h1
    refine ⟨d' :: l', h3, by simp [h4], fun i x y hx hy => ?_⟩
    cases i with
    | zero => simp at hx hy; subst hx; subst hy; exact h2
    | succ i => exact h5 i x y (by simpa using hx) (by simpa using hy)
/-- How an object looks once some slices are only read. -/
def LockO (ids : List Nat) (H : HL) (i : Nat) (x y : Option Ob) : Prop :=
  (∃ cs cs', x = some (.row cs) ∧ y = some (.row cs') ∧ cs'.length = cs.length ∧ ∀ (i : Nat) d d', cs[i]? = some d → cs'[i]? = some d' → LockD ids H d d') ∨
  (∃ e s n g, x = some (.buf e s n g) ∧ i ∈ ids ∧ y = some .dead) ∨ (y = x ∧ ∀ e s n g, x = some (.buf e s n g) → i ∉ ids)
theorem lockO_spec {ids : List Nat} {H : HL} {i : Nat} {x : Option Ob} {k : Option Ob → Prop} (h : lockO ids H i x k) : ∃ y, k y ∧ LockO ids H i x y := by
  unfold lockO at h
  cases x with
  | none => exact ⟨_, h, .inr (.inr ⟨rfl, fun _ _ _ _ h => by cases h⟩)⟩
  | some ob =>
    cases ob with
    | row cs =>
      obtain ⟨cs', h1, h2, h3⟩ := lockL_spec h
      exact ⟨_, h1, .inl ⟨cs, cs', rfl, rfl, h2, h3⟩⟩
    | buf e s n g =>
      simp only at h
      cases hm : memB i ids with
      | false =>
        rw [hm] at h
        exact ⟨_, h, .inr (.inr ⟨rfl, fun _ _ _ _ _ hi => by rw [(memB_iff _ _).2 hi] at hm; cases hm⟩)⟩
      | true => rw [hm] at h; exact ⟨_, h, .inr (.inl ⟨e, s, n, g, rfl, (memB_iff _ _).1 hm, rfl⟩)⟩
    | _ => exact ⟨_, h, .inr (.inr ⟨rfl, fun _ _ _ _ h => by cases h⟩)⟩
theorem lockH_spec {ids : List Nat} {H : HL} : ∀ {l : HL} {i : Nat} {k : HL → Prop}, lockH ids H l i k → ∃ l', k l' ∧ l'.length = l.length ∧ ∀ o, o < l.length → LockO ids H (i + o) (l.getD o none) (l'.getD o none)
  | [], i, k, h => ⟨[], h, rfl, fun o ho => by simp at ho⟩
  | x :: l, i, k, h => by
    obtain ⟨y, h1, h2⟩ := lockO_spec (x := x) (k := fun y => lockH ids H l (i + 1) fun r => k (y :: r)) h
    obtain ⟨l', h3, h4, h5⟩ := lockH_spec h1
    refine ⟨y :: l', h3, by simp [h4], fun o ho => ?_⟩
    cases o with
    | zero => simpa using h2
    | succ o =>
      have := h5 o (by simpa using ho)
      simpa [Nat.add_assoc, Nat.add_comm 1 o] using this

def lockM (ids : List Nat) (H : HL) (μ : Mu) : Mu := fun o => if o ∈ ids ∧ isBuf H o = true then (μ o).map deadV else μ o

section
variable {P : Program} {S : Nat → Prop} {w : World} {μ : Mu} {H : HL}
theorem isBuf_iff {o : Nat} : isBuf H o = true ↔ ∃ e s n g, hget H o = some (.buf e s n g) := by
  unfold isBuf
  cases hget H o with
  | none => simp
  | some ob => cases ob <;> simp
theorem buf_form (hr : RelL S w μ H) {o e s n : Nat} {g : Nat → Nat → D} (ho : hget H o = some (.buf e s n g)) : ∃ A m c, μ o = some (.slice A m c) := by
  obtain ⟨mv, h1, xs, h2, _⟩ := hr.1.obs o _ ho
  rcases h2.2 with ⟨rfl, _⟩ | ⟨b, cap, cur, fz, rfl, _⟩ <;> exact ⟨_, _, _, h1⟩
theorem lockM_le (hr : RelL S w μ H) (ids : List Nat) : MuLe μ (lockM ids H μ) := fun o v hv => by
  unfold lockM
  by_cases h : o ∈ ids ∧ isBuf H o = true
  · obtain ⟨e, s, n, g, ho⟩ := isBuf_iff.1 h.2
    obtain ⟨A, m, c, hm⟩ := buf_form hr ho
    rw [hm] at hv
    injection hv with hv
    subst hv
    exact ⟨.slice none (m + 1) 0, by rw [if_pos h, hm]; rfl, .inr (.inl ⟨A, m, c, none, m + 1, 0, rfl, rfl, Nat.lt_succ_self m⟩)⟩
  · exact ⟨v, by rw [if_neg h]; exact hv, .refl v⟩

theorem csound_lock {f : Nat} {c : PRule} (hs : PSound P f c) : CSound P f (lockC c) := by
  refine ⟨hs.enters, fun ds H K h S w μ vs hr hRL => ?_⟩
  unfold lockC at h
  rw [fznl_iff] at h
  generalize ds.flatMap lockIds = ids at h
  obtain ⟨hb, h⟩ := h
  have hb : ids.all (isBuf H) = true := hb
  have hbuf : ∀ o, o ∈ ids → isBuf H o = true := fun o ho => List.all_eq_true.1 hb o ho
  have hlen := resH_len ids H 0
  have hget2 : ∀ o, hget (resH ids 0 H) o = bif memB o ids then hget H o else none := fun o => by
    have := resH_get ids H 0 o
    rw [Nat.zero_add] at this
    exact this
  have hsub : ∀ o ob, hget (resH ids 0 H) o = some ob → hget H o = some ob ∧ o ∈ ids := fun o ob ho => by
    rw [hget2] at ho
    cases hm : memB o ids with
    | false => rw [hm] at ho; cases ho
    | true => rw [hm] at ho; exact ⟨ho, (memB_iff _ _).1 hm⟩
  have hin : ∀ o, o ∈ ids → hget (resH ids 0 H) o = hget H o := fun o ho => by rw [hget2, (memB_iff _ _).2 ho]; rfl
  have hr2 : RelL S w μ (resH ids 0 H) := hr.sub hlen fun o ob ho => (hsub o ob ho).1
  obtain ⟨ds', h1, h2⟩ := sound_viewal hr2.1 ds vs hRL h
  cases hn : ds'.all noRef with
  | false => simp [hn] at h1
  | true =>
    simp only [hn, cond_true] at h1
    have hRL' := h2 hn
    have hlt : ∀ b, withH S μ (hget (resH ids 0 H)) b → b < w.heap.size := fun b hb => by
      rcases hb with hb | ⟨o, ob, v, ho, hv, hbv⟩
      · exact (hr.1.stat b hb).1
      · obtain ⟨mv, m1, m2⟩ := hr2.1.obs o ob ho
        rw [hv] at m1; injection m1 with m1; subst m1
        exact m2.blk_lt hbv
    refine (hs.calls ds' _ h1 _ w vs hlt hRL').mono ?_
    rintro e w' ⟨v, S', d, rfl, hk, hR, hg⟩
    rw [fz_iff] at hk
    obtain ⟨H', hk, hl', hO⟩ := lockH_spec hk
    rw [fzh_iff] at hk
    have hO' : ∀ o, o < H.length → LockO ids H o (hget H o) (hget H' o) := fun o ho => by
      have := hO o ho
      rwa [Nat.zero_add] at this
    have hnone : ∀ o, ¬ o < H.length → hget H o = none ∧ hget H' o = none := fun o ho => by
      unfold hget
      rw [List.getD_eq_getElem?_getD, List.getD_eq_getElem?_getD, List.getElem?_eq_none (by omega), List.getElem?_eq_none (by omega)]
      exact ⟨rfl, rfl⟩
    have hle := lockM_le hr ids
    have hS : ∀ b, S b → S' b := fun b hb => hg.sub b (.inl hb)
    have hSb : ∀ b, S b → w'.heap[b]? = w.heap[b]? := fun b hb => hg.block b (hr.1.stat b hb).1
    -- what is not dead is as it was
    have live : ∀ o ob v, hget H' o = some ob → lockM ids H μ o = some v → (∃ b, blk v = some b) → ¬ (o ∈ ids ∧ isBuf H o = true) ∧ μ o = some v ∧ ∃ ob0, hget H o = some ob0 := fun o ob v ho hv hb => by
      have hlt : o < H.length := by
        rcases Nat.lt_or_ge o H.length with h | h
        · exact h
        · rw [(hnone o (by omega)).2] at ho; cases ho
      have hno : ¬ (o ∈ ids ∧ isBuf H o = true) := fun hx => by
        unfold lockM at hv
        rw [if_pos hx] at hv
        obtain ⟨e, s, n, g, hq⟩ := isBuf_iff.1 hx.2
        obtain ⟨A, m, c, hm⟩ := buf_form hr hq
        rw [hm] at hv
        injection hv with hv
        subst hv
        obtain ⟨b, hb⟩ := hb
        cases hb
      unfold lockM at hv
      rw [if_neg hno] at hv
      refine ⟨hno, hv, ?_⟩
      rcases hO' o hlt with ⟨cs, cs', hx, _⟩ | ⟨e, s, n, g, hx, _⟩ | ⟨hx, _⟩
      · exact ⟨_, hx⟩
      · exact ⟨_, hx⟩
      · exact ⟨ob, by rw [← hx]; exact ho⟩
    have cellR : ∀ d d' v, R S w μ d v → LockD ids H d d' → R S' w' (lockM ids H μ) d' v := fun d d' v hd hx => by
      rcases hx with rfl | ⟨o, n, e, s, m, g, rfl, hi, ho, rfl, rfl⟩
      · exact hd.keep hS hSb hle
      · have h3 := own_view (H := resH ids 0 H) hr2.1 (by rw [hin o hi]; exact ho) hd
        exact (h3.keep (S' := S') (w' := w') hg.sub (fun b hb => hg.block b (hlt b hb)) (.refl _)).of0
    refine ⟨S', lockM ids H μ, .ret d, H', hk, hR.of0, ⟨⟨fun o ob ho => ?_, fun o1 o2 ob1 ob2 v1 v2 b x1 x2 hne m1 m2 hb => ?_, fun b hb => ⟨hg.lt b hb, fun o ob v ho hv hbv => ?_⟩⟩, fun o ho => ?_⟩,
      ⟨hg.os, hg.tape, hg.output, hg.size, fun b hb _ => hg.block b hb, hS, fun b hb => ?_, hle, fun o ob v b ho hv hbv => ?_, fun o v h1 h2 => ?_, fun o ho => ?_⟩⟩
    · have hlt : o < H.length := by
        rcases Nat.lt_or_ge o H.length with h | h
        · exact h
        · rw [(hnone o (by omega)).2] at ho; cases ho
      rcases hO' o hlt with ⟨cs, cs', hx, hy, hl, hc⟩ | ⟨e, s, n, g, hx, hi, hy⟩ | ⟨hx, hno⟩
      · rw [hy] at ho
        injection ho with ho
        subst ho
        obtain ⟨mv, m1, b, cells, T, rfl, g1, g2, g3, g4⟩ := hr.1.obs o _ hx
        have hno : ¬ (o ∈ ids ∧ isBuf H o = true) := fun hq => by
          obtain ⟨e, s, n, g, hq⟩ := isBuf_iff.1 hq.2
          rw [hx] at hq; cases hq
        refine ⟨_, by unfold lockM; rw [if_neg hno]; exact m1, b, cells, T, rfl, (hg.block b (Array.getElem?_eq_some_iff.1 g1).1).trans g1, by rw [hl]; exact g2, fun i d' v h3 h4 => ?_, g4⟩
        have hi : i < cs.length := by
          rw [← hl]; exact (List.getElem?_eq_some_iff.1 h3).1
        exact cellR cs[i] d' v (g3 i _ v (by simp [hi]) h4) (hc i _ _ (by simp [hi]) h3)
      · rw [hy] at ho
        injection ho with ho
        subst ho
        obtain ⟨A, m, c, hm⟩ := buf_form hr hx
        exact ⟨.slice none (m + 1) 0, by unfold lockM; rw [if_pos ⟨hi, isBuf_iff.2 ⟨_, _, _, _, hx⟩⟩, hm]; rfl, m + 1, 0, rfl⟩
      · rw [hx] at ho
        obtain ⟨mv, m1, m2⟩ := hr.1.obs o ob ho
        have hno' : ¬ (o ∈ ids ∧ isBuf H o = true) := fun hq => by
          obtain ⟨e, s, n, g, hq2⟩ := isBuf_iff.1 hq.2
          exact hno e s n g hq2 hq.1
        exact ⟨mv, by unfold lockM; rw [if_neg hno']; exact m1, m2.keep hS hSb hle fun b hb => hg.block b (m2.blk_lt hb)⟩
    · intro hb2
      obtain ⟨_, n1, ob1', y1⟩ := live o1 ob1 v1 x1 m1 ⟨b, hb⟩
      obtain ⟨_, n2, ob2', y2⟩ := live o2 ob2 v2 x2 m2 ⟨b, hb2⟩
      exact hr.1.sep o1 o2 ob1' ob2' v1 v2 b y1 y2 hne n1 n2 hb hb2
    · obtain ⟨hno, n1, ob0, y1⟩ := live o ob v ho hv ⟨b, hbv⟩
      rcases hg.new b hb with (h3 | ⟨o3, ob3, v3, e1, e2, e3⟩) | h3
      · exact (hr.1.stat b h3).2 o ob0 v y1 n1 hbv
      · obtain ⟨q1, q2⟩ := hsub o3 ob3 e1
        have hne : o ≠ o3 := fun e => hno (e ▸ ⟨q2, hbuf o3 q2⟩)
        exact hr.1.sep o o3 ob0 ob3 v v3 b y1 q1 hne n1 e2 hbv e3
      · obtain ⟨mv, m1, m2⟩ := hr.1.obs o ob0 y1
        rw [n1] at m1; injection m1 with m1; subst m1
        exact absurd (m2.blk_lt hbv) (by omega)
    · have h1 := hr.2 o (by omega)
      unfold lockM
      split
      · rw [h1]; rfl
      · exact h1
    · rcases hg.new b hb with (h3 | ⟨o3, ob3, v3, e1, e2, e3⟩) | h3
      · exact .inl h3
      · exact .inr (.inr ⟨o3, ob3, v3, (hsub o3 ob3 e1).1, e2, e3⟩)
      · exact .inr (.inl h3)
    · obtain ⟨_, n1, ob0, y1⟩ := live o ob v ho hv ⟨b, hbv⟩
      exact .inr ⟨o, ob0, v, y1, n1, hbv⟩
    · have hno : ¬ (o ∈ ids ∧ isBuf H o = true) := fun hq => by
        obtain ⟨e, s, n, g, hq⟩ := isBuf_iff.1 hq.2
        rw [h1] at hq; cases hq
      refine ⟨?_, by unfold lockM; rw [if_neg hno]; exact h2⟩
      rcases Nat.lt_or_ge o H.length with h | h
      · rcases hO' o h with ⟨cs, cs', hx, _⟩ | ⟨e, s, n, g, hx, _⟩ | ⟨hx, _⟩
        · rw [h1] at hx; cases hx
        · rw [h1] at hx; cases hx
        · rw [hx]; exact h1
      · exact (hnone o (by omega)).2
    · rcases Nat.lt_or_ge o H.length with h | h
      · rcases hO' o h with ⟨cs, cs', hx, hy, _⟩ | ⟨e, s, n, g, hx, hi, hy⟩ | ⟨hx, hno⟩
        · exact .inl (by rw [hy]; exact fun e => by cases e)
        · exact .inl (by rw [hy]; exact fun e => by cases e)
        · have hno' : ¬ (o ∈ ids ∧ isBuf H o = true) := fun hq => by
            obtain ⟨e, s, n, g, hq2⟩ := isBuf_iff.1 hq.2
            exact hno e s n g hq2 hq.1
          unfold lockM at ho
          rw [if_neg hno'] at ho
          by_cases hx2 : hget H o = none
          · exact .inr ⟨ho, hx2⟩
          · exact .inl (by rw [hx]; exact hx2)
      · have h1 := hr.2 o h
        refine absurd ?_ ho
        unfold lockM
        split
        · rw [h1]; rfl
        · exact h1
end
end Go.V
end
section
set_option linter.unusedVariables false
set_option linter.unusedSimpArgs false
namespace Go.V

/-- The objects that a value speaks of. -/
def refs : Nat → D → List Nat
  | 0, _ => []
  | f + 1, d => match d with
    | .ptr o _ => [o]
    | .own o _ => [o]
    | .optr o _ _ _ _ => [o]
    | .osl o _ _ _ => [o]
    | .map o => [o]
    | .agg l => l.flatMap (refs f)
    | .tup l => l.flatMap (refs f)
    | .fn _ a b => a.flatMap (refs f) ++ b.flatMap (refs f)
    | _ => []
def refsO : Option Ob → List Nat
  | some (.row cs) => cs.flatMap (refs 3)
  | _ => []
def addN (acc : List Nat) (x : Nat) : List Nat := bif memB x acc then acc else acc ++ [x]
def nubN (l : List Nat) : List Nat := l.foldl addN []
def cl1 (H : HL) (l : List Nat) : List Nat := l ++ l.flatMap fun o => refsO (hget H o)
def frIds (ds : List D) (H : HL) : List Nat := nubN (cl1 H (cl1 H (ds.flatMap (refs 3))))
/-- A value in other numbers of objects. -/
def ren (σ : Nat → Nat) : Nat → D → D
  | 0, d => d
  | f + 1, d => match d with
    | .ptr o i => .ptr (σ o) i
    | .own o n => .own (σ o) n
    | .optr o n s i j => .optr (σ o) n s i j
    | .osl o i n s => .osl (σ o) i n s
    | .map o => .map (σ o)
    | .agg l => .agg (l.map (ren σ f))
    | .tup l => .tup (l.map (ren σ f))
    | .fn g a b => .fn g (a.map (ren σ f)) (b.map (ren σ f))
    | d => d
def renOK (q : Nat → Bool) : Nat → D → Bool
  | 0, d => okb d
  | f + 1, d => match d with
    | .ptr o _ => q o
    | .own o _ => q o
    | .optr o _ _ _ _ => q o
    | .osl o _ _ _ => q o
    | .map o => q o
    | .agg l => l.all (renOK q f)
    | .tup l => l.all (renOK q f)
    | .fn _ a b => a.all (renOK q f) && b.all (renOK q f)
    | .iface _ d => noRef1 d
    | d => okb d
def renB (σ : Nat → Nat) : Ob → Ob
  | .row cs => .row (cs.map (ren σ 3))
  | x => x
def renO (σ : Nat → Nat) : Option Ob → Option Ob
  | some x => some (renB σ x)
  | none => none
def renOOK (q : Nat → Bool) : Option Ob → Bool
  | some (.row cs) => cs.all (renOK q 3)
  | _ => true
def smI : List Nat → Nat → Nat
  | [], _ => 0
  | x :: l, o => bif Nat.beq x o then 0 else smI l o + 1
def bgI (ids : List Nat) (n j : Nat) : Nat := match ids[j]? with
  | some i => i
  | none => n + (j - ids.length)
def isOb (H : HL) (o : Nat) : Bool := match hget H o with
  | some _ => true
  | none => false
def idxB : List Nat → Bool
  | [] => true
  | x :: l => !memB x l && idxB l
def frOK (ids : List Nat) (ds : List D) (H : HL) : Bool := (idxB ids && ids.all (isOb H)) && (ds.all (renOK (fun o => memB o ids) 3) && ids.all fun o => renOOK (fun o => memB o ids) (hget H o))
def putH (ids : List Nat) (σ : Nat → Nat) (H1 : HL) : Nat → HL → HL
  | _, [] => (H1.drop ids.length).map (renO σ)
  | i, x :: r => (bif memB i ids then renO σ (hget H1 (smI ids i)) else x) :: putH ids σ H1 (i + 1) r
/-- The same, with its objects' numbers computed. -/
def fzc1 (d : D) (k : D → Prop) : Prop := fz d fun d => match d with
  | .ptr o i => fzn o fun o => k (.ptr o i)
  | .own o n => fzn o fun o => k (.own o n)
  | d => k d
theorem fzc1_iff (d : D) (k : D → Prop) : fzc1 d k ↔ k d := by
  unfold fzc1
  rw [fz_iff]
  split <;> simp only [fzn_eq]
def fzcl1 (l : List D) : (List D → Prop) → Prop := @List.rec D (fun _ => (List D → Prop) → Prop) (fun k => k []) (fun d _ ih k => fzc1 d fun d => ih fun r => k (d :: r)) l
theorem fzcl1_iff : ∀ (l : List D) (k : List D → Prop), fzcl1 l k ↔ k l
  | [], k => Iff.rfl
  | d :: r, k => by show fzc1 d (fun d => fzcl1 r fun r => k (d :: r)) ↔ _; rw [fzc1_iff, fzcl1_iff r]
def fzc (d : D) (k : D → Prop) : Prop := fz d fun d => match d with
  | .ptr o i => fzn o fun o => k (.ptr o i)
  | .own o n => fzn o fun o => k (.own o n)
  | .fn g fs cs => fzcl1 fs fun fs => fzcl1 cs fun cs => k (.fn g fs cs)
  | .agg l => fzcl1 l fun l => k (.agg l)
  | .tup l => fzcl1 l fun l => k (.tup l)
  | d => k d
theorem fzc_iff (d : D) (k : D → Prop) : fzc d k ↔ k d := by
  unfold fzc
  rw [fz_iff]
  split <;> simp only [fzn_eq, fzcl1_iff]
def fzcl (l : List D) : (List D → Prop) → Prop := @List.rec D (fun _ => (List D → Prop) → Prop) (fun k => k []) (fun d _ ih k => fzc d fun d => ih fun r => k (d :: r)) l
theorem fzcl_iff : ∀ (l : List D) (k : List D → Prop), fzcl l k ↔ k l
  | [], k => Iff.rfl
  | d :: r, k => by show fzc d (fun d => fzcl r fun r => k (d :: r)) ↔ _; rw [fzc_iff, fzcl_iff r]
def fzhcB (x : Option Ob) (ih : (HL → Prop) → Prop) (k : HL → Prop) : Prop := match x with
  | none => ih fun r => k (none :: r)
  | some (.row cs) => fzcl cs fun cs => ih fun r => k (some (.row cs) :: r)
  | some (.buf e s n g) => ih fun r => k (some (.buf e s n g) :: r)
  | some (.mp m) => ih fun r => k (some (.mp m) :: r)
  | some (.lp l p) => ih fun r => k (some (.lp l p) :: r)
  | some .dead => ih fun r => k (some .dead :: r)
def fzhc (l : HL) : (HL → Prop) → Prop := @List.rec (Option Ob) (fun _ => (HL → Prop) → Prop) (fun k => k []) (fun x _ ih => fzhcB x ih) l
theorem fzhc_iff : ∀ (l : HL) (k : HL → Prop), fzhc l k ↔ k l
  | [], k => Iff.rfl
  | none :: r, k => by show fzhc r (fun r => k (none :: r)) ↔ _; rw [fzhc_iff r]
  | some (.row cs) :: r, k => by show fzcl cs (fun cs => fzhc r fun r => k (some (.row cs) :: r)) ↔ _; rw [fzcl_iff, fzhc_iff r]
  | some (.buf e s n g) :: r, k => by show fzhc r (fun r => k (some (.buf e s n g) :: r)) ↔ _; rw [fzhc_iff r]
  | some (.mp m) :: r, k => by show fzhc r (fun r => k (some (.mp m) :: r)) ↔ _; rw [fzhc_iff r]
  | some (.lp l p) :: r, k => by show fzhc r (fun r => k (some (.lp l p) :: r)) ↔ _; rw [fzhc_iff r]
  | some .dead :: r, k => by show fzhc r (fun r => k (some .dead :: r)) ↔ _; rw [fzhc_iff r]
def fznn (l : List Nat) : (List Nat → Prop) → Prop := @List.rec Nat (fun _ => (List Nat → Prop) → Prop) (fun k => k []) (fun n _ ih k => fzn n fun n => ih fun r => k (n :: r)) l
theorem fznn_iff : ∀ (l : List Nat) (k : List Nat → Prop), fznn l k ↔ k l
  | [], k => Iff.rfl
  | d :: r, k => by show fzn d (fun d => fznn r fun r => k (d :: r)) ↔ _; rw [fzn_eq, fznn_iff r]
def resD : Res → D
  | .ret d => d
  | .pan d => d
def frR (K : Res → HL → Prop) (r : Res) (d : D) (H : HL) : Prop := match r with
  | .ret _ => K (.ret d) H
  | .pan _ => K (.pan d) H
def frK (ids : List Nat) (n : Nat) (H : HL) (K : Res → HL → Prop) (r : Res) (H1 : HL) : Prop :=
  gate (Nat.ble ids.length H1.length && (renOK (fun o => Nat.blt o H1.length) 3 (resD r) && H1.all (renOOK fun o => Nat.blt o H1.length))) (fzc (ren (bgI ids n) 3 (resD r)) fun d => fzhc (putH ids (bgI ids n) H1 0 H) fun H2 => frR K r d H2)
/-- The rule of such a call. -/
def frameC (c : CRule) : CRule := fun ds H K => fznn (frIds ds H) fun ids => gate (frOK ids ds H) (fzcl (ds.map (ren (smI ids) 3)) fun ds0 => fzhc (ids.map fun o => renO (smI ids) (hget H o)) fun H0 => fzn H.length fun n => c ds0 H0 (frK ids n H K))

section
variable {P : Program} {S : Nat → Prop} {w : World} {μ : Mu} {H : HL}

theorem okb_R {μ' : Mu} {d : D} {v : Value} (h : okb d = true) (hR : R S w μ d v) : R S w μ' d v := by
  unfold okb at h
  rw [Bool.or_eq_true] at h
  rcases h with h | h
  · exact (noRef1_R hR h).of0
  · split at h
    · exact .top v
    · cases h
theorem ren_R {μ' : Mu} {σ : Nat → Nat} {q : Nat → Bool} (hq : ∀ o v, q o = true → μ o = some v → μ' (σ o) = some v) : ∀ (f : Nat) {d : D} {v : Value}, renOK q f d = true → R S w μ d v → R S w μ' (ren σ f d) v
  | 0, d, v, h, hR => okb_R h hR
  | f + 1, d, v, h, hR => by
    have parts : ∀ {cs : List D} {vs : Array Value}, cs.all (renOK q f) = true → (∀ (i : Nat) d v, cs[i]? = some d → vs[i]? = some v → R S w μ d v) → ∀ (i : Nat) d v, (cs.map (ren σ f))[i]? = some d → vs[i]? = some v → R S w μ' d v := fun hc hr i d v h1 h2 => by
      rw [List.getElem?_map] at h1
      obtain ⟨d0, h3, rfl⟩ := Option.map_eq_some_iff.1 h1
      exact ren_R hq f (List.all_eq_true.1 hc d0 (List.mem_of_getElem? h3)) (hr i d0 v h3 h2)
    have hR0 := hR
    cases hR with
    | ptr o off b hm => exact .ptr _ _ b (hq o _ h hm)
    | own o n A m c v hm h1 h2 h3 => exact .own _ _ A m c _ (hq o _ h hm) h1 h2 h3
    | optr o n size i j A m c b hm h1 h2 => exact .optr _ _ _ _ _ A m c b (hq o _ h hm) h1 h2
    | osl o off n size b c hm h1 => exact .osl _ _ _ _ b c (hq o _ h hm) h1
    | map o r ks hm => exact .map _ r ks (hq o _ h hm)
    | agg cs vs hl hr => exact .agg _ _ (by simpa using hl) (parts h hr)
    | tup cs vs hl hr => exact .tup _ _ (by simpa using hl) (parts h hr)
    | fn g fs cs vf vc h1 h2 h3 h4 =>
      have h : (fs.all (renOK q f) && cs.all (renOK q f)) = true := h
      rw [Bool.and_eq_true] at h
      exact .fn g _ _ _ _ (by simpa using h1) (by simpa using h2) (parts h.1 h3) (parts h.2 h4)
    | iface t d v hd => exact .iface t d v (noRef1_R hd h).of0
    | yld o l hm => cases h
    | stamp o k r ks i born hm hi => cases h
    | top v => exact .top v
    | tt => exact .tt
    | ff => exact .ff
    | int k n => exact .int k n
    | bool b => exact .bool b
    | str s => exact .str s
    | rsl size n g A c val h1 h2 h3 => exact .rsl size n g A c val h1 h2 h3
    | eptr n g b off val h1 h2 h3 => exact .eptr n g b off val h1 h2 h3
    | nilI => exact .nilI
    | nilS => exact .nilS
theorem renB_R {μ' : Mu} {σ : Nat → Nat} {q : Nat → Bool} (hq : ∀ o v, q o = true → μ o = some v → μ' (σ o) = some v) {mv : Value} {ob : Ob} (h : renOOK q (some ob) = true) (hR : ObR S w μ mv ob) : ObR S w μ' mv (renB σ ob) := by
  cases ob with
  | row cs =>
    obtain ⟨b, cells, T, h1, h2, h3, h4, h5⟩ := hR
    refine ⟨b, cells, T, h1, h2, by simpa using h3, fun i d v g1 g2 => ?_, h5⟩
    rw [List.getElem?_map] at g1
    obtain ⟨d0, g3, rfl⟩ := Option.map_eq_some_iff.1 g1
    exact ren_R hq 3 (List.all_eq_true.1 h d0 (List.mem_of_getElem? g3)) (h4 i d0 v g3 g2)
  | _ => exact hR
theorem smI_get : ∀ {ids : List Nat} {o : Nat}, o ∈ ids → ids[smI ids o]? = some o
  | [], o, h => by cases h
  | x :: l, o, h => by
    unfold smI
    cases hb : Nat.beq x o with
    | true => simp [Nat.eq_of_beq_eq_true hb]
    | false =>
      have hne : x ≠ o := fun e => by rw [e, Nat.beq_refl] at hb; cases hb
      have h1 : o ∈ l := by
        rcases List.mem_cons.1 h with h | h
        · exact absurd h.symm hne
        · exact h
      simpa using smI_get h1
theorem get_smI : ∀ {ids : List Nat} {j i : Nat}, idxB ids = true → ids[j]? = some i → smI ids i = j
  | [], j, i, h, hj => by simp at hj
  | x :: l, j, i, h, hj => by
    simp only [idxB, Bool.and_eq_true, Bool.not_eq_true'] at h
    unfold smI
    cases j with
    | zero => simp at hj; subst hj; simp
    | succ j =>
      have hj' : l[j]? = some i := by simpa using hj
      have hne : Nat.beq x i = false := by
        cases hb : Nat.beq x i with
        | false => rfl
        | true =>
          have e := Nat.eq_of_beq_eq_true hb
          subst e
          have := (memB_iff x l).2 (List.mem_of_getElem? hj')
          rw [this] at h; cases h.1
      rw [hne, cond_false, get_smI h.2 hj']
theorem renO_some {σ : Nat → Nat} {x : Option Ob} {ob : Ob} (h : renO σ x = some ob) : ∃ ob0, x = some ob0 ∧ ob = renB σ ob0 := by
  cases x with
  | none => cases h
  | some y => injection h with h; exact ⟨y, rfl, h.symm⟩
theorem putH_len (ids : List Nat) (σ : Nat → Nat) (H1 : HL) : ∀ (r : HL) (i : Nat), (putH ids σ H1 i r).length = r.length + (H1.length - ids.length)
  | [], i => by simp [putH]
  | x :: r, i => by simp only [putH, List.length_cons, putH_len ids σ H1 r (i + 1)]; omega
theorem hget_nil (o : Nat) : hget [] o = none := by simp [hget]
theorem hget_cons_succ (x : Option Ob) (r : HL) (o : Nat) : hget (x :: r) (o + 1) = hget r o := by simp [hget]
theorem hget_map_renO (σ : Nat → Nat) (l : HL) (o : Nat) : hget (l.map (renO σ)) o = renO σ (hget l o) := by
  unfold hget
  rw [List.getD_eq_getElem?_getD, List.getD_eq_getElem?_getD, List.getElem?_map]
  cases l[o]? <;> rfl
theorem putH_get (ids : List Nat) (σ : Nat → Nat) (H1 : HL) : ∀ (r : HL) (i o : Nat), hget (putH ids σ H1 i r) o =
    if o < r.length then (bif memB (i + o) ids then renO σ (hget H1 (smI ids (i + o))) else hget r o) else renO σ (hget H1 (ids.length + (o - r.length)))
  | [], i, o => by
    rw [if_neg (by simp)]
    simp only [putH, hget_map_renO, List.length_nil, Nat.sub_zero]
    congr 1
    unfold hget
    rw [List.getD_eq_getElem?_getD, List.getD_eq_getElem?_getD, List.getElem?_drop]
  | x :: r, i, 0 => by
    rw [if_pos (by simp)]
    simp only [putH, Nat.add_zero]
    rfl
  | x :: r, i, o + 1 => by
    simp only [putH, hget_cons_succ, putH_get ids σ H1 r (i + 1) o, List.length_cons]
    by_cases h : o < r.length
    · rw [if_pos h, if_pos (by omega), show i + 1 + o = i + (o + 1) by omega]
    · rw [if_neg h, if_neg (by omega), show o + 1 - (r.length + 1) = o - r.length by omega]

theorem csound_frame {f : Nat} {c : CRule} (hs : CSound P f c) : CSound P f (frameC c) := by
  refine ⟨hs.enters, fun ds H K hk S w μ vs hr hRL => ?_⟩
  unfold frameC at hk
  rw [fznn_iff] at hk
  generalize frIds ds H = ids at hk
  obtain ⟨hok, hk⟩ := hk
  rw [fzcl_iff, fzhc_iff, fzn_eq] at hk
  have hok : frOK ids ds H = true := hok
  simp only [frOK, Bool.and_eq_true] at hok
  obtain ⟨⟨hnd, hob⟩, hds, hrows⟩ := hok
  have hsome : ∀ i, i ∈ ids → ∃ ob, hget H i = some ob := fun i hi => by
    have h := List.all_eq_true.1 hob i hi
    unfold isOb at h
    split at h
    · exact ⟨_, by assumption⟩
    · cases h
  have hlt : ∀ i, i ∈ ids → i < H.length := fun i hi => by
    obtain ⟨ob, h⟩ := hsome i hi
    exact lt_of_hget h
  generalize hμ0 : (fun j => match ids[j]? with | some i => μ i | none => none : Mu) = μ0
  have m0 : ∀ j i, ids[j]? = some i → μ0 j = μ i := fun j i h => by rw [← hμ0]; simp only [h]
  have m0n : ∀ j, ids[j]? = none → μ0 j = none := fun j h => by rw [← hμ0]; simp only [h]
  generalize hH0 : (ids.map fun o => renO (smI ids) (hget H o)) = H0 at hk
  have g0 : ∀ j i, ids[j]? = some i → hget H0 j = renO (smI ids) (hget H i) := fun j i h => by
    rw [← hH0]
    unfold hget
    rw [List.getD_eq_getElem?_getD, List.getElem?_map, h]
    rfl
  have g0n : ∀ j, ids[j]? = none → hget H0 j = none := fun j h => by
    rw [← hH0]
    unfold hget
    rw [List.getD_eq_getElem?_getD, List.getElem?_map, h]
    rfl
  have h0 : ∀ j ob, hget H0 j = some ob → ∃ i ob1, ids[j]? = some i ∧ hget H i = some ob1 ∧ ob = renB (smI ids) ob1 ∧ μ0 j = μ i := fun j ob h => by
    cases hj : ids[j]? with
    | none => rw [g0n j hj] at h; cases h
    | some i =>
      rw [g0 j i hj] at h
      obtain ⟨ob1, e1, e2⟩ := renO_some h
      exact ⟨i, ob1, rfl, e1, e2, m0 j i hj⟩
  have hq : ∀ o v, memB o ids = true → μ o = some v → μ0 (smI ids o) = some v := fun o v h hv => by
    rw [m0 _ o (smI_get ((memB_iff _ _).1 h))]; exact hv
  have hr0 : RelL S w μ0 H0 := by
    refine ⟨⟨fun j ob hj => ?_, fun j j' ob ob' v v' b hj hj' hne hv hv' hb => ?_, fun b hb => ⟨(hr.1.stat b hb).1, fun j ob v hj hv => ?_⟩⟩, fun j hj => ?_⟩
    · obtain ⟨i, ob1, e1, e2, rfl, e4⟩ := h0 j ob hj
      obtain ⟨mv, k1, k2⟩ := hr.1.obs i ob1 e2
      have := List.all_eq_true.1 hrows i (List.mem_of_getElem? e1)
      rw [e2] at this
      exact ⟨mv, by rw [e4, k1], renB_R hq this k2⟩
    · obtain ⟨i, ob1, e1, e2, _, e4⟩ := h0 j ob hj
      obtain ⟨i', ob1', e1', e2', _, e4'⟩ := h0 j' ob' hj'
      have hne' : i ≠ i' := fun e => hne (by rw [← get_smI hnd e1, ← get_smI hnd e1', e])
      rw [e4] at hv
      rw [e4'] at hv'
      exact hr.1.sep i i' ob1 ob1' v v' b e2 e2' hne' hv hv' hb
    · obtain ⟨i, ob1, e1, e2, _, e4⟩ := h0 j ob hj
      rw [e4] at hv
      exact (hr.1.stat b hb).2 i ob1 v e2 hv
    · refine m0n j ?_
      rw [← hH0] at hj
      exact List.getElem?_eq_none (by simpa using hj)
  have hRL0 : RL S w μ0 (ds.map (ren (smI ids) 3)) vs := ⟨by simpa using hRL.1, fun i d v h1 h2 => by
    rw [List.getElem?_map] at h1
    obtain ⟨d0, h3, rfl⟩ := Option.map_eq_some_iff.1 h1
    exact ren_R hq 3 (List.all_eq_true.1 hds d0 (List.mem_of_getElem? h3)) (hRL.2 i d0 v h3 h2)⟩
  refine (hs.calls _ _ _ hk S w μ0 vs hr0 hRL0).mono ?_
  rintro e w' ⟨S', μ1, r, H1, k1, k2, k3, t⟩
  obtain ⟨gk, k1⟩ := k1
  rw [fzc_iff, fzhc_iff] at k1
  have gk : (Nat.ble ids.length H1.length && (renOK (fun o => Nat.blt o H1.length) 3 (resD r) && H1.all (renOOK fun o => Nat.blt o H1.length))) = true := gk
  simp only [Bool.and_eq_true] at gk
  obtain ⟨gl, gr, gh⟩ := gk
  have gl := Nat.le_of_ble_eq_true gl
  generalize hσ : bgI ids H.length = σ at k1
  have s1 : ∀ j i, ids[j]? = some i → σ j = i := fun j i h => by rw [← hσ]; simp only [bgI, h]
  have s2 : ∀ j, ids[j]? = none → σ j = H.length + (j - ids.length) := fun j h => by rw [← hσ]; simp only [bgI, h]
  generalize hμ' : (fun o => if o ∈ ids then μ1 (smI ids o) else if o < H.length then μ o else μ1 (ids.length + (o - H.length)) : Mu) = μ'
  have hH2 := putH_get ids σ H1 H 0
  have hl2 := putH_len ids σ H1 H 0
  generalize putH ids σ H1 0 H = H2 at hH2 hl2 k1
  -- what an object is: one of the callee's, or one that it has not seen
  have new : ∀ j, hget H2 (σ j) = renO σ (hget H1 j) ∧ μ' (σ j) = μ1 j := fun j => by
    cases hj : ids[j]? with
    | some i =>
      have hi := List.mem_of_getElem? hj
      have e1 := get_smI hnd hj
      rw [s1 j i hj]
      refine ⟨?_, by rw [← hμ']; simp only [if_pos hi, e1]⟩
      rw [hH2 i, if_pos (hlt i hi), Nat.zero_add, (memB_iff _ _).2 hi, cond_true, e1]
    | none =>
      have hj' : ids.length ≤ j := by
        rcases Nat.lt_or_ge j ids.length with h | h
        · rw [List.getElem?_eq_getElem h] at hj; cases hj
        · exact h
      rw [s2 j hj]
      refine ⟨?_, ?_⟩
      · rw [hH2, if_neg (by omega), show ids.length + (H.length + (j - ids.length) - H.length) = j by omega]
      · rw [← hμ']
        simp only
        rw [if_neg (fun h => by have := hlt _ h; omega), if_neg (by omega), show ids.length + (H.length + (j - ids.length) - H.length) = j by omega]
  have cls : ∀ o, (∃ j, o = σ j) ∨ (o < H.length ∧ o ∉ ids ∧ hget H2 o = hget H o ∧ μ' o = μ o) := fun o => by
    by_cases hi : o ∈ ids
    · exact .inl ⟨smI ids o, (s1 _ _ (smI_get hi)).symm⟩
    · by_cases ho : o < H.length
      · refine .inr ⟨ho, hi, ?_, by rw [← hμ']; simp only [if_neg hi, if_pos ho]⟩
        rw [hH2 o, if_pos ho, Nat.zero_add]
        cases hm : memB o ids with
        | true => exact absurd ((memB_iff _ _).1 hm) hi
        | false => rfl
      · refine .inl ⟨ids.length + (o - H.length), ?_⟩
        rw [s2 _ (List.getElem?_eq_none (by omega))]
        omega
  have hq1 : ∀ o v, Nat.blt o H1.length = true → μ1 o = some v → μ' (σ o) = some v := fun o v _ hv => by rw [(new o).2]; exact hv
  have hle : MuLe μ μ' := fun o v hv => by
    rcases cls o with ⟨j, rfl⟩ | ⟨_, _, _, h4⟩
    · cases hj : ids[j]? with
      | some i =>
        rw [s1 j i hj] at hv
        obtain ⟨v', q1, q2⟩ := t.mu j v (by rw [m0 j i hj]; exact hv)
        exact ⟨v', by rw [(new j).2]; exact q1, q2⟩
      | none =>
        have : ids.length ≤ j := by
          rcases Nat.lt_or_ge j ids.length with h | h
          · rw [List.getElem?_eq_getElem h] at hj; cases hj
          · exact h
        rw [s2 j hj, hr.2 _ (by omega)] at hv
        cases hv
    · exact ⟨v, by rw [h4]; exact hv, .refl v⟩
  -- blocks of objects that the callee has not seen
  have far : ∀ o ob v b, o ∉ ids → hget H o = some ob → μ o = some v → blk v = some b → b < w.heap.size ∧ ∀ j ob v, hget H0 j = some ob → μ0 j = some v → blk v ≠ some b := fun o ob v b hi ho hv hb => by
    obtain ⟨mv, m1, m2⟩ := hr.1.obs o ob ho
    rw [hv] at m1; injection m1 with m1; subst m1
    refine ⟨m2.blk_lt hb, fun j ob' v' hj hv' hb' => ?_⟩
    obtain ⟨i, ob1, e1, e2, _, e4⟩ := h0 j ob' hj
    rw [e4] at hv'
    exact hr.1.sep o i ob ob1 v v' b ho e2 (fun e => hi (e ▸ List.mem_of_getElem? e1)) hv hv' hb hb'
  have apart : ∀ j o ob ob' v v' b, o ∉ ids → hget H1 j = some ob → μ1 j = some v → hget H o = some ob' → μ o = some v' → blk v = some b → blk v' = some b → False := fun j o ob ob' v v' b hi hj hv ho hv' hb hb' => by
    obtain ⟨f1, f2⟩ := far o ob' v' b hi ho hv' hb'
    rcases t.blks j ob v b hj hv hb with h | ⟨j3, ob3, v3, e1, e2, e3⟩
    · omega
    · exact f2 j3 ob3 v3 e1 e2 e3
  have hS : ∀ b, S b → w'.heap[b]? = w.heap[b]? := hr0.1.static t
  have hrel : RelL S' w' μ' H2 := by
    refine ⟨⟨fun o ob ho => ?_, fun o o' ob ob' v v' b ho ho' hne hv hv' hb hb' => ?_, fun b hb => ⟨(k3.1.stat b hb).1, fun o ob v ho hv hbv => ?_⟩⟩, fun o ho => ?_⟩
    · rcases cls o with ⟨j, rfl⟩ | ⟨h1, h2, h3, h4⟩
      · rw [(new j).1] at ho
        obtain ⟨ob1, e1, rfl⟩ := renO_some ho
        obtain ⟨mv, m1, m2⟩ := k3.1.obs j ob1 e1
        refine ⟨mv, by rw [(new j).2]; exact m1, renB_R hq1 ?_ m2⟩
        have hmem : some ob1 ∈ H1 := by
          have hj := lt_of_hget e1
          have : hget H1 j = H1[j] := by simp [hget, List.getElem?_eq_getElem hj]
          rw [← e1, this]
          exact List.getElem_mem hj
        exact List.all_eq_true.1 gh _ hmem
      · rw [h3] at ho
        obtain ⟨mv, m1, m2⟩ := hr.1.obs o ob ho
        exact ⟨mv, by rw [h4]; exact m1, m2.keep t.sub hS hle fun b hb => t.block b (m2.blk_lt hb) (far o ob mv b h2 ho m1 hb).2⟩
    · rcases cls o with ⟨j, rfl⟩ | ⟨h1, h2, h3, h4⟩ <;> rcases cls o' with ⟨j', rfl⟩ | ⟨h1', h2', h3', h4'⟩
      · rw [(new j).1] at ho
        rw [(new j').1] at ho'
        rw [(new j).2] at hv
        rw [(new j').2] at hv'
        obtain ⟨ob1, e1, _⟩ := renO_some ho
        obtain ⟨ob1', e1', _⟩ := renO_some ho'
        exact k3.1.sep j j' ob1 ob1' v v' b e1 e1' (fun e => hne (by rw [e])) hv hv' hb hb'
      · rw [(new j).1] at ho
        rw [(new j).2] at hv
        rw [h3'] at ho'
        rw [h4'] at hv'
        obtain ⟨ob1, e1, _⟩ := renO_some ho
        exact apart j o' ob1 ob' v v' b h2' e1 hv ho' hv' hb hb'
      · rw [(new j').1] at ho'
        rw [(new j').2] at hv'
        rw [h3] at ho
        rw [h4] at hv
        obtain ⟨ob1, e1, _⟩ := renO_some ho'
        exact apart j' o ob1 ob v' v b h2 e1 hv' ho hv hb' hb
      · rw [h3] at ho
        rw [h4] at hv
        rw [h3'] at ho'
        rw [h4'] at hv'
        exact hr.1.sep o o' ob ob' v v' b ho ho' hne hv hv' hb hb'
    · rcases cls o with ⟨j, rfl⟩ | ⟨h1, h2, h3, h4⟩
      · rw [(new j).1] at ho
        rw [(new j).2] at hv
        obtain ⟨ob1, e1, _⟩ := renO_some ho
        exact (k3.1.stat b hb).2 j ob1 v e1 hv hbv
      · rw [h3] at ho
        rw [h4] at hv
        obtain ⟨f1, f2⟩ := far o ob v b h2 ho hv hbv
        rcases t.new b hb with h | h | ⟨j3, ob3, v3, e1, e2, e3⟩
        · exact (hr.1.stat b h).2 o ob v ho hv hbv
        · omega
        · exact f2 j3 ob3 v3 e1 e2 e3
    · rw [hl2] at ho
      rcases cls o with ⟨j, rfl⟩ | ⟨h1, _⟩
      · rw [(new j).2]
        refine k3.2 j ?_
        cases hj : ids[j]? with
        | some i => rw [s1 j i hj] at ho; have := hlt i (List.mem_of_getElem? hj); omega
        | none =>
          have : ids.length ≤ j := by
            rcases Nat.lt_or_ge j ids.length with h | h
            · rw [List.getElem?_eq_getElem h] at hj; cases hj
            · exact h
          rw [s2 j hj] at ho; omega
      · omega
  have htr : Tr S w μ (hget H) S' w' μ' (hget H2) := by
    refine ⟨t.os, t.tape, t.output, t.size, fun b hb hno => t.block b hb fun j ob v hj hv => ?_, t.sub, fun b hb => ?_, hle, fun o ob v b ho hv hb => ?_, fun o v ho hv => ?_, fun o ho => ?_⟩
    · obtain ⟨i, ob1, e1, e2, _, e4⟩ := h0 j ob hj
      rw [e4] at hv
      exact hno i ob1 v e2 hv
    · rcases t.new b hb with h | h | ⟨j, ob, v, hj, hv, hb⟩
      · exact .inl h
      · exact .inr (.inl h)
      · obtain ⟨i, ob1, e1, e2, _, e4⟩ := h0 j ob hj
        rw [e4] at hv
        exact .inr (.inr ⟨i, ob1, v, e2, hv, hb⟩)
    · rcases cls o with ⟨j, rfl⟩ | ⟨h1, h2, h3, h4⟩
      · rw [(new j).1] at ho
        rw [(new j).2] at hv
        obtain ⟨ob1, e1, _⟩ := renO_some ho
        rcases t.blks j ob1 v b e1 hv hb with h | ⟨j3, ob3, v3, e1, e2, e3⟩
        · exact .inl h
        · obtain ⟨i, ob4, q1, q2, _, q4⟩ := h0 j3 ob3 e1
          rw [q4] at e2
          exact .inr ⟨i, ob4, v3, q2, e2, e3⟩
      · rw [h3] at ho
        rw [h4] at hv
        exact .inr ⟨o, ob, v, ho, hv, hb⟩
    · rcases cls o with ⟨j, rfl⟩ | ⟨h1, h2, h3, h4⟩
      · cases hj : ids[j]? with
        | some i =>
          rw [s1 j i hj] at ho
          obtain ⟨ob, h⟩ := hsome i (List.mem_of_getElem? hj)
          rw [h] at ho; cases ho
        | none =>
          have : ids.length ≤ j := by
            rcases Nat.lt_or_ge j ids.length with h | h
            · rw [List.getElem?_eq_getElem h] at hj; cases hj
            · exact h
          rw [s2 j hj, hr.2 _ (by omega)] at hv
          cases hv
      · exact ⟨by rw [h3]; exact ho, by rw [h4]; exact hv⟩
    · rcases cls o with ⟨j, rfl⟩ | ⟨h1, h2, h3, h4⟩
      · rw [(new j).2] at ho
        refine .inl ?_
        rw [(new j).1]
        rcases t.dom j ho with h | ⟨h, h'⟩
        · cases hj : hget H1 j with
          | none => exact absurd hj h
          | some ob => exact fun e => by cases e
        · cases hj : ids[j]? with
          | some i =>
            rw [g0 j i hj] at h'
            obtain ⟨ob, h2⟩ := hsome i (List.mem_of_getElem? hj)
            rw [h2] at h'; cases h'
          | none => exact absurd (m0n j hj) h
      · rw [h4] at ho
        rw [h3]
        exact dom_refl o ho
  cases r with
  | ret d =>
    cases e <;> first | exact k2.elim | exact ⟨S', μ', .ret _, H2, k1, ren_R hq1 3 gr k2, hrel, htr⟩
  | pan d =>
    cases e <;> first
      | exact k2.elim
      | (obtain ⟨v, rfl, h2⟩ := k2
         exact ⟨S', μ', .pan _, H2, k1, ⟨v, rfl, ren_R hq1 3 gr h2⟩, hrel, htr⟩)
end

/-- A slice of the function's own, as an answer that is only read. -/
def ownD (H : HL) (d : D) (k : D → Prop) : Prop := match d with
  | .own o n => match hget H o with
    | some (.buf _ s m g) => (n = m ∧ ∀ i j, i < m → j < s → flat1 (g i j) = true) ∧ k (.rsl s m g)
    | _ => False
  | d => bif flat1 d then fz d k else False
def ownL (H : HL) (l : List D) : (List D → Prop) → Prop := @List.rec D (fun _ => (List D → Prop) → Prop) (fun k => k []) (fun d _ ih k => ownD H d fun d => ih fun r => k (d :: r)) l
def ownA (H : HL) (d : D) (k : D → Prop) : Prop := match d with
  | .agg l => ownL H l fun l => k (.agg l)
  | d => ownD H d k
def ownAL (H : HL) (l : List D) : (List D → Prop) → Prop := @List.rec D (fun _ => (List D → Prop) → Prop) (fun k => k []) (fun d _ ih k => ownA H d fun d => ih fun r => k (d :: r)) l
def newK (k : D → Prop) (r : Res) (H : HL) : Prop := match r with
  | .pan _ => False
  | .ret d => match d with
    | .tup l => ownAL H l fun l => imp1 (.tup l) k
    | d => ownA H d fun d => imp1 d k

/-- A function that only reads, and whose answer lies in new memory. -/
structure NSound (P : Program) (f : Nat) (c : PRule) : Prop where
  enters : Enters P f
  calls : ∀ ds k, c ds k → ∀ S w (vs : List Value), (∀ b, S b → b < w.heap.size) → RL S w Mu0 ds vs →
    Calls P f vs.toArray w fun e w' => ∃ v N d, e = .returned v ∧ k d ∧ (∀ b, N b → w.heap.size ≤ b ∧ b < w'.heap.size) ∧ R N w' Mu0 d v ∧ Grow S w (fun b => S b ∨ N b) w'

section
variable {P : Program} {S : Nat → Prop} {w : World} {μ : Mu} {H : HL}
/-- The objects' own memory. -/
def obN (μ : Mu) (H : HL) (b : Nat) : Prop := ∃ o ob v, hget H o = some ob ∧ μ o = some v ∧ blk v = some b
theorem sound_ownD (hr : Rel S w μ (hget H)) {d : D} {v : Value} {k : D → Prop} (hd : R S w μ d v) (h : ownD H d k) : ∃ d', k d' ∧ R (obN μ H) w Mu0 d' v := by
  have plain : ∀ d, R S w μ d v → (bif flat1 d then fz d k else False) → ∃ d', k d' ∧ R (obN μ H) w Mu0 d' v := fun d hd h => by
    cases hf : flat1 d with
    | false => rw [hf] at h; exact h.elim
    | true =>
      rw [hf, cond_true, fz_iff] at h
      exact ⟨d, h, flat1_R hd hf⟩
  cases d
  case own oid n =>
    unfold ownD at h
    simp only at h
    split at h
    · rename_i e s m g ho
      obtain ⟨⟨rfl, hfl⟩, h⟩ := h
      refine ⟨_, h, ?_⟩
      cases hd with
      | own _ _ A m' c _ hm hn h1c hv =>
        obtain ⟨mv, h1, xs, hown, hx⟩ := hr.obs oid _ ho
        rw [hm] at h1
        injection h1 with h1
        have hmm : n = m' := by
          rcases hown.2 with ⟨e1, e2⟩ | ⟨b, cap, cur, fz, e1, _⟩
          · rw [← h1] at e1; injection e1 with _ e1 _; omega
          · rw [← h1] at e1; injection e1 with _ e1 _; exact e1.symm
        obtain rfl := hv hmm
        subst hmm
        refine .rsl s n g A c (fun i j => xs.getD (i * s + j) undef) ?_ (fun h0 => ?_) (fun i j hi hj => ?_)
        · rcases hown.2 with ⟨e1, e2⟩ | ⟨b, cap, cur, fz, e1, _, _, _, hc, _⟩
          · omega
          · rw [← h1] at e1; injection e1 with _ _ e1; omega
        · rcases hown.2 with ⟨e1, e2⟩ | ⟨b, cap, cur, fz, e1, _⟩
          · omega
          · have e2 := e1
            rw [← h1] at e1
            injection e1 with e1 _ _
            subst e1
            refine ⟨b, 0, rfl, ⟨oid, _, _, ho, hm, rfl⟩, fun i j hi hj => ?_⟩
            obtain ⟨u, hu, hu1, _⟩ := hx i j hi hj
            rw [Nat.zero_add]
            exact ⟨by rw [own_cell hown e2 _ _ hu]; simp [hu], by simpa [hu] using hu1⟩
        · obtain ⟨u, hu, _, hur⟩ := hx i j hi hj
          simp only [List.getD_eq_getElem?_getD, hu, Option.getD_some]
          exact flat1_R hur (hfl i j hi hj)
    · exact h.elim
  all_goals exact plain _ hd h
theorem sound_ownL (hr : Rel S w μ (hget H)) : ∀ (ds : List D) (vs : List Value) {k : List D → Prop}, RL S w μ ds vs → ownL H ds k → ∃ ds', k ds' ∧ RL (obN μ H) w Mu0 ds' vs
  | [], vs, k, hl, h => ⟨[], h, ⟨hl.1, fun i d v h1 => by simp at h1⟩⟩
  | d :: ds, [], k, hl, h => by have := hl.1; simp at this
  | d :: ds, v :: vs, k, hl, h => by
    obtain ⟨hd, hl'⟩ := hl.cons_inv
    have h : ownD H d (fun d => ownL H ds fun r => k (d :: r)) := h
    obtain ⟨d', h1, h2⟩ := sound_ownD hr hd h
    obtain ⟨ds', h3, h4⟩ := sound_ownL hr ds vs hl' h1
    exact ⟨d' :: ds', h3, .cons h2 h4⟩
theorem sound_ownA (hr : Rel S w μ (hget H)) {d : D} {v : Value} {k : D → Prop} (hd : R S w μ d v) (h : ownA H d k) : ∃ d', k d' ∧ R (obN μ H) w Mu0 d' v := by
  cases d
  case agg cs =>
    cases hd with
    | agg _ vs hl hR =>
      obtain ⟨cs', h1, h2⟩ := sound_ownL hr cs vs.toList (R.toRL hl hR) h
      exact ⟨_, h1, .agg _ _ (by simpa using h2.1) fun i d v a b => h2.2 i d v a (by simpa using b)⟩
  all_goals exact sound_ownD hr hd h
theorem sound_ownAL (hr : Rel S w μ (hget H)) : ∀ (ds : List D) (vs : List Value) {k : List D → Prop}, RL S w μ ds vs → ownAL H ds k → ∃ ds', k ds' ∧ RL (obN μ H) w Mu0 ds' vs
  | [], vs, k, hl, h => ⟨[], h, ⟨hl.1, fun i d v h1 => by simp at h1⟩⟩
  | d :: ds, [], k, hl, h => by have := hl.1; simp at this
  | d :: ds, v :: vs, k, hl, h => by
    obtain ⟨hd, hl'⟩ := hl.cons_inv
    have h : ownA H d (fun d => ownAL H ds fun r => k (d :: r)) := h
    obtain ⟨d', h1, h2⟩ := sound_ownA hr hd h
    obtain ⟨ds', h3, h4⟩ := sound_ownAL hr ds vs hl' h1
    exact ⟨d' :: ds', h3, .cons h2 h4⟩
theorem nsound_of {f : Nat} {c : CRule} {r : PRule} (hs : CSound P f c) (h : ∀ ds k, r ds k → ∃ ds', impAL noGh ds ds' (c ds' [] (newK k))) : NSound P f r := by
  refine ⟨hs.enters, fun ds k hk S w vs hS hRL => ?_⟩
  have hr0 : RelL S w Mu0 [] := ⟨⟨fun o ob ho => by simp [hget] at ho, fun o o' ob ob' v v' b ho => by simp [hget] at ho, fun b hb => ⟨hS b hb, fun o ob v ho => by simp [hget] at ho⟩⟩, fun _ _ => rfl⟩
  obtain ⟨ds', hi⟩ := h ds k hk
  obtain ⟨g1, g2⟩ := impAL_sound (gs := noGh) (fun o ho => by cases ho) hRL hi
  refine (hs.calls _ _ _ g2 S w Mu0 vs hr0 g1).mono ?_
  rintro e w' ⟨S', μ', res, H', k1, k2, k3, t⟩
  cases res with
  | pan d => exact k1.elim
  | ret d =>
    cases e with
    | returned v =>
      have k2 : R S' w' μ' d v := k2
      have key : ∃ d', R (obN μ' H') w' Mu0 d' v ∧ imp1 d' k := by
        unfold newK at k1
        cases d
        case tup =>
          cases k2 with
          | tup _ vs hl hR =>
            obtain ⟨cs', h1, h2⟩ := sound_ownAL k3.1 _ vs.toList (R.toRL hl hR) k1
            exact ⟨_, .tup _ _ (by simpa using h2.1) fun i d v a b => h2.2 i d v a (by simpa using b), h1⟩
        all_goals (
          obtain ⟨d', h1, h2⟩ := sound_ownA k3.1 k2 k1
          exact ⟨d', h2, h1⟩)
      obtain ⟨d', h1, d0, h2, h3⟩ := key
      have hN : ∀ b, obN μ' H' b → w.heap.size ≤ b ∧ b < w'.heap.size := fun b ⟨o, ob, v, ho, hv, hb⟩ => by
        refine ⟨?_, ?_⟩
        · rcases t.blks o ob v b ho hv hb with h | ⟨o', ob', v', h, _⟩
          · exact h
          · simp [hget] at h
        · obtain ⟨mv, m1, m2⟩ := k3.1.obs o ob ho
          rw [hv] at m1; injection m1 with m1; subst m1
          exact m2.blk_lt hb
      refine ⟨v, obN μ' H', d0, rfl, h2, hN, h3 _ _ _ h1, ⟨t.os, t.tape, t.output, t.size, fun b hb => t.block b hb fun o ob v ho => by simp [hget] at ho, fun b hb => .inl hb, fun b hb => hb.imp_right fun h => (hN b h).1, fun b hb => ?_⟩⟩
      rcases hb with hb | hb
      · have := hS b hb; have := t.size; omega
      · exact (hN b hb).2
    | _ => exact k2.elim
theorem nsound_mk {C : Cx} {f : Nat} {fn : Func} {g : List D → Option (Prop × D)} (hf : P.funcs[f]? = some fn) (hname : (fn.name == "runtime.NumGoroutine") = false) (hb : fn.body = some (codeOf fn)) (hC : CallsOK P C TT)
    (h : ∀ ds p d, g ds = some (p, d) → ds.length ≤ fn.ntmps ∧ (p → ∀ k : D → Prop, k d → ∃ ds', impAL noGh ds ds' (inl C fn ds' [] (newK k)))) : NSound P f (mk g) :=
  nsound_of (csound_in hf hname hb hC) fun ds k hk => by
    unfold mk at hk
    cases hg : g ds with
    | none => rw [hg] at hk; exact hk.elim
    | some x =>
      obtain ⟨p, d⟩ := x
      rw [hg] at hk
      exact (h ds p d hg).2 hk.1 k hk.2
theorem psound_new {f : Nat} {c : PRule} (hs : NSound P f c) (hdet : ∀ ds, Det (c ds)) : PSound P f c :=
  ⟨hdet, hs.enters, fun ds k hk S w vs hS hRL => (hs.calls ds k hk S w vs hS hRL).mono fun e w' ⟨v, N, d, h1, h2, _, h4, h5⟩ => ⟨v, _, d, h1, h2, h4.up fun b hb => .inr hb, h5⟩⟩
/-- A call of such a function: the slices that it is shown stay its caller's own. -/
def newC (c : PRule) : CRule := fun ds H K => viewal H ds fun ds' => bif ds'.all noRef then c ds' fun d => fza d fun d => K (.ret d) H else False
theorem csound_new {f : Nat} {c : PRule} (hs : NSound P f c) : CSound P f (newC c) := by
  refine ⟨hs.enters, fun ds H K h S w μ vs hr hRL => ?_⟩
  unfold newC at h
  obtain ⟨ds', h1, h2⟩ := sound_viewal hr.1 ds vs hRL h
  cases hn : ds'.all noRef with
  | false => simp [hn] at h1
  | true =>
    simp only [hn, cond_true] at h1
    have hlt : ∀ b, withH S μ (hget H) b → b < w.heap.size := fun b hb => by
      rcases hb with hb | ⟨o, ob, v, ho, hv, hbv⟩
      · exact (hr.1.stat b hb).1
      · obtain ⟨mv, m1, m2⟩ := hr.1.obs o ob ho
        rw [hv] at m1; injection m1 with m1; subst m1
        exact m2.blk_lt hbv
    refine (hs.calls ds' _ h1 _ w vs hlt (h2 hn)).mono ?_
    rintro e w' ⟨v, N, d, rfl, hk, hN, hR, hg⟩
    rw [fza_iff] at hk
    have hSb : ∀ b, S b → w'.heap[b]? = w.heap[b]? := fun b hb => hg.block b (hr.1.stat b hb).1
    refine ⟨fun b => S b ∨ N b, μ, .ret d, H, hk, (hR.up fun b hb => .inr hb).of0, ⟨⟨fun o ob ho => ?_, hr.1.sep, fun b hb => ⟨?_, fun o ob v ho hv hbv => ?_⟩⟩, hr.2⟩,
      ⟨hg.os, hg.tape, hg.output, hg.size, fun b hb _ => hg.block b hb, fun b hb => .inl hb, fun b hb => hb.imp_right fun h => .inl (hN b h).1, .refl μ, fun o ob v b h1 h2 h3 => .inr ⟨o, ob, v, h1, h2, h3⟩, fun o v h1 h2 => ⟨h1, h2⟩, dom_refl⟩⟩
    · obtain ⟨mv, m1, m2⟩ := hr.1.obs o ob ho
      exact ⟨mv, m1, m2.keep (fun b hb => .inl hb) hSb (.refl μ) fun b hb => hg.block b (m2.blk_lt hb)⟩
    · rcases hb with hb | hb
      · have := (hr.1.stat b hb).1; have := hg.size; omega
      · exact (hN b hb).2
    · rcases hb with hb | hb
      · exact (hr.1.stat b hb).2 o ob v ho hv hbv
      · obtain ⟨mv, m1, m2⟩ := hr.1.obs o ob ho
        rw [hv] at m1; injection m1 with m1; subst m1
        have := m2.blk_lt hbv
        have := (hN b hb).1
        omega
end

/-- A call leaves with its result and its heap told in other words. -/
def redoK (K : Res → HL → Prop) (r : Res) (H' : HL) : Prop := match r with
  | .pan d => K (.pan d) H'
  | .ret d => ∃ (d' : D) (H2 : HL), (idsOK H'.length [(0, d')] H2 none = true ∧ lenB H2 H' = true) ∧ impA noGh d d' (impH noGh H' H2 (K (.ret d') H2))
def redo (c : CRule) : CRule := fun ds H K => c ds H (redoK K)
theorem redo_ok {P : Program} {f : Nat} {c : CRule} (h : CSound P f c) : CSound P f (redo c) := by
  refine ⟨h.enters, fun ds H K hk S w μ vs hr hRL => Calls.mono (h.calls ds H _ hk S w μ vs hr hRL) fun e w' hp => ?_⟩
  obtain ⟨S', μ', r, H', k1, k2, k3, k4⟩ := hp
  cases r with
  | pan d => exact ⟨S', μ', .pan d, H', k1, k2, k3, k4⟩
  | ret d =>
    obtain ⟨d', H2, ⟨hids, hlen⟩, himp⟩ := k1
    cases e with
    | returned v =>
      have k2' : R S' w' μ' d v := k2
      have hst : RelSt none 1 none S' w' μ' ⟨upd (fun _ => .top) 0 d, H', none⟩ { tmps := #[v], defers := [] } := ⟨k3, fun i => by
        cases i with
        | zero => exact k2'
        | succ i => exact .top _, rfl, trivial, .inl rfl⟩
      obtain ⟨μ2, g1, g2, g3⟩ := cut_state (s := ⟨upd (fun _ => .top) 0 d, H', none⟩) (sl := [(0, d')]) (Hg := H2) (H0 := H') (gs := noGh) hst (Tr.refl S' w' μ' (hget H')) k3.2 (lenB_len hlen) (fun o ho => by cases ho) hids himp
      exact ⟨S', μ2, .ret d', H2, g3, g1.env 0, g1.rel, k4.trans g2⟩
    | _ => exact k2.elim

/-- Both: told in other words, with or without the new objects. -/
def fit (c : CRule) : CRule := fun ds H K => c ds H fun r H' => tidyK H K r H' ∨ redoK K r H'
theorem fit_ok {P : Program} {f : Nat} {c : CRule} (h : CSound P f c) : CSound P f (fit c) := by
  refine ⟨h.enters, fun ds H K hk S w μ vs hr hRL => Calls.mono (h.calls ds H _ hk S w μ vs hr hRL) fun e w' hp => ?_⟩
  obtain ⟨S', μ', r, H', k1, k2, k3, k4⟩ := hp
  cases r with
  | pan d => exact ⟨S', μ', .pan d, H', k1.elim id id, k2, k3, k4⟩
  | ret d =>
    cases e with
    | returned v =>
      have k2' : R S' w' μ' d v := k2
      have hst : RelSt none 1 none S' w' μ' ⟨upd (fun _ => .top) 0 d, H', none⟩ { tmps := #[v], defers := [] } := ⟨k3, fun i => by
        cases i with
        | zero => exact k2'
        | succ i => exact .top _, rfl, trivial, .inl rfl⟩
      rcases k1 with ⟨d', H2, ⟨hids, hlen⟩, himp⟩ | ⟨d', H2, ⟨hids, hlen⟩, himp⟩
      · obtain ⟨μ2, g1, g2, g3⟩ := cut_state (s := ⟨upd (fun _ => .top) 0 d, H', none⟩) (sl := [(0, d')]) (Hg := H2) (H0 := H) (gs := noGh) hst k4 hr.2 (lenB_len hlen) (fun o ho => by cases ho) hids himp
        exact ⟨S', μ2, .ret d', H2, g3, g1.env 0, g1.rel, g2⟩
      · obtain ⟨μ2, g1, g2, g3⟩ := cut_state (s := ⟨upd (fun _ => .top) 0 d, H', none⟩) (sl := [(0, d')]) (Hg := H2) (H0 := H') (gs := noGh) hst (Tr.refl S' w' μ' (hget H')) k3.2 (lenB_len hlen) (fun o ho => by cases ho) hids himp
        exact ⟨S', μ2, .ret d', H2, g3, g1.env 0, g1.rel, k4.trans g2⟩
    | _ => exact k2.elim
end Go.V
end
