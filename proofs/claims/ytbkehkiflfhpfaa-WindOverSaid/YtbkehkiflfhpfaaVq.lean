/-
  A small logic of our own, part 5b: maps.
-/
import Derived.Test.YtbkehkiflfhpfaaVe
set_option linter.unusedVariables false
set_option linter.unusedSimpArgs false
namespace Go.V

def numOf : D → Int
  | .int _ n => n
  | _ => 0
def isI64 : D → Bool
  | .int .i64 _ => true
  | _ => false
def ksEq : KS → KS → Bool
  | .str, .str => true
  | .int a, .int b => keq a b
  | .ints m, .ints n => Nat.beq m n
  | _, _ => false
theorem ksEq_eq {a b : KS} (h : ksEq a b = true) : a = b := by
  cases a <;> cases b <;> simp only [ksEq, Bool.false_eq_true] at h
  · rfl
  · rw [keq_eq h]
  · rw [Nat.eq_of_beq_eq_true h]
def ekEq : EK → EK → Bool
  | .bool, .bool => true
  | .ints m, .ints n => Nat.beq m n
  | _, _ => false
theorem ekEq_eq {a b : EK} (h : ekEq a b = true) : a = b := by
  cases a <;> cases b <;> simp only [ekEq, Bool.false_eq_true] at h
  · rfl
  · rw [Nat.eq_of_beq_eq_true h]

def rngL (cs : List D) (k : Prop) : Prop := @List.rec D (fun _ => Prop) k (fun d _ ih => (-9223372036854775808 ≤ numOf d ∧ numOf d ≤ 9223372036854775807) ∧ ih) cs
theorem rngL_iff : ∀ (cs : List D) (k : Prop), rngL cs k ↔ (∀ n ∈ cs.map numOf, -9223372036854775808 ≤ n ∧ n ≤ 9223372036854775807) ∧ k
  | [], k => by simp [rngL]
  | d :: r, k => by
    show (_ ∧ rngL r k) ↔ _
    rw [rngL_iff r k]
    simp [and_assoc]
/-- The key that a value is. -/
def vkey (ks : KS) (d : D) (k : Value → Prop) : Prop := match ks with
  | .str => match d with
    | .str s => s.size ≤ 9223372036854775807 ∧ k (.string s)
    | _ => False
  | .int q => match d with
    | .int q' n => bif keq q' q && keq q .i64 then (-9223372036854775808 ≤ n ∧ n ≤ 9223372036854775807) ∧ k (.int q' n) else False
    | _ => False
  | .ints m => match d with
    | .agg cs => bif cs.all isI64 && Nat.beq cs.length m then rngL cs (k (.agg ((cs.map numOf).map (Value.int .i64)).toArray)) else False
    | _ => False
/-- The cells that an element is. -/
def velem (ek : EK) (d : D) (k : (Nat → Int) → Prop) : Prop := match ek with
  | .bool => match d with
    | .tt => k fun _ => 1
    | .ff => k fun _ => 0
    | .bool b => k fun _ => if b = true then 1 else 0
    | _ => False
  | .ints m => match d with
    | .agg cs => bif cs.all isI64 && Nat.beq cs.length m then k fun j => (cs.map numOf).getD j 0 else False
    | _ => False
def elemD (ek : EK) (has : Bool) (g : Nat → Int) : D := match ek with
  | .bool => .bool (has && decide (g 0 = 1))
  | .ints m => .agg ((List.range m).map fun j => .int .i64 (if has = true then g j else 0))
def vmap (T : Ty) (m : D) (H : HL) (k : Nat → Mp → Prop) : Prop := match T with
  | .map ks ek _ _ => match m with
    | .map o => match hget H o with
      | some (.mp M) => bif ksEq M.ks ks && ekEq M.ek ek then k o M else False
      | _ => False
    | _ => False
  | _ => False
def vlookup (T : Ty) (m key : D) (ok : Bool) (H : HL) (k : D → Prop) : Prop := vmap T m H fun _ M => vkey M.ks key fun kv =>
  bif ok then k (.tup [elemD M.ek (M.has kv) (M.get kv), .bool (M.has kv)]) else k (elemD M.ek (M.has kv) (M.get kv))
def vmakeMap (T : Ty) (nid : Nat) (H : HL) (k : D → HL → Prop) : Prop := match T with
  | .map ks ek _ _ => k (.map nid) (hnew H nid (.mp ⟨ks, ek, 0, fun _ => false, fun _ _ => 0⟩))
  | _ => False
def numV : Value → Int
  | .int _ n => n
  | _ => 0
/-- Equality of keys. -/
def veqV : Value → Value → Bool
  | .string a, .string b => decide (a = b)
  | .int j a, .int k b => keq j k && decide (a = b)
  | .agg a, .agg b => decide (a.toList.map numV = b.toList.map numV)
  | _, _ => false
theorem veqV_self {ks : KS} {a : Value} (h : keyOK ks a) : veqV a a = true := by
  cases ks with
  | str => obtain ⟨s, rfl, _⟩ := h; simp [veqV]
  | int k => obtain ⟨n, rfl, _⟩ := h; cases k <;> simp [veqV, keq]
  | ints m => obtain ⟨ns, _, rfl, _⟩ := h; simp [veqV]
theorem veqV_eq {ks : KS} {a b : Value} (ha : keyOK ks a) (hb : keyOK ks b) (h : veqV a b = true) : a = b := by
  cases ks with
  | str =>
    obtain ⟨s, rfl, _⟩ := ha
    obtain ⟨t, rfl, _⟩ := hb
    rw [of_decide_eq_true h]
  | int k =>
    obtain ⟨n, rfl, _⟩ := ha
    obtain ⟨m, rfl, _⟩ := hb
    simp only [veqV, Bool.and_eq_true, decide_eq_true_eq] at h
    rw [h.2]
  | ints m =>
    obtain ⟨ns, _, rfl, _⟩ := ha
    obtain ⟨ms, _, rfl, _⟩ := hb
    have e : ∀ l : List Int, (l.map (Value.int .i64)).map numV = l := fun l => by
      rw [List.map_map]
      exact List.map_id l
    have h := of_decide_eq_true h
    rw [List.toList_toArray, List.toList_toArray, e, e] at h
    rw [h]
/-- A key is there. -/
def withKey (M : Mp) (kv : Value) : Mp := ⟨M.ks, M.ek, if M.has kv = true then M.n else M.n + 1, fun x => M.has x || veqV x kv, fun x j => if M.has x = true then M.get x j else 0⟩
def withElem (M : Mp) (kv : Value) (g : Nat → Int) : Mp := ⟨M.ks, M.ek, M.n, M.has, fun x j => bif veqV x kv then g j else M.get x j⟩
def vmapEntry (T : Ty) (m key : D) (H : HL) (k : D → HL → Prop) : Prop := vmap T m H fun o M => vkey M.ks key fun kv => k (.tup [.top, .stamp o kv]) (H.set o (some (.mp (withKey M kv))))
def ventryStore (T : Ty) (m stamp x : D) (H : HL) (k : D → HL → Prop) : Prop := vmap T m H fun o M => match stamp with
  | .stamp o' kv => bif Nat.beq o' o then velem M.ek x fun g => M.has kv = true ∧ k .top (H.set o (some (.mp (withElem M kv g)))) else False
  | _ => False
def vmapUpdate (T : Ty) (m key x : D) (H : HL) (k : D → HL → Prop) : Prop := vmap T m H fun o M => vkey M.ks key fun kv => velem M.ek x fun g => k .top (H.set o (some (.mp (withElem (withKey M kv) kv g))))

section
variable {P : Program} {o : Oper} {a : Act} {w : World} {S : Nat → Prop} {μ : Mu} {H : HL}

theorem isI64_form {cs : List D} (h : cs.all isI64 = true) : cs = (cs.map numOf).map (D.int .i64) := by
  induction cs with
  | nil => rfl
  | cons d r ih =>
    simp only [List.all_cons, Bool.and_eq_true] at h
    rw [List.map_cons, List.map_cons, ← ih h.2]
    cases d with
    | int k n => cases k <;> first | rfl | (cases h.1)
    | _ => cases h.1
theorem R_ints {ns : List Int} {v : Value} (h : R S w μ (.agg (ns.map (D.int .i64))) v) : v = .agg (ns.map (Value.int .i64)).toArray := by
  cases h with
  | agg _ vs hl hR =>
    congr 1
    apply Array.ext_getElem?
    intro i
    simp only [List.length_map] at hl
    by_cases hi : i < ns.length
    · have hv : i < vs.size := by omega
      have := hR i (.int .i64 ns[i]) vs[i] (by simp [hi]) (by simp [hv])
      generalize hvi : vs[i] = u at this
      cases this
      simp [hi, hv, hvi]
    · have hv : ¬ i < vs.size := by omega
      simp [hi, hv]
theorem wf_i64 {n : Int} (h : -9223372036854775808 ≤ n ∧ n ≤ 9223372036854775807) : (Lit.int .i64 n).wf = true := by
  have h1 : IntKind.i64.min = -9223372036854775808 := rfl
  have h2 : IntKind.i64.max = 9223372036854775807 := rfl
  simp only [Lit.wf, h1, h2, Bool.and_eq_true, decide_eq_true_eq]
  exact h

theorem vkey_sound {ks : KS} {d : D} {v : Value} {k : Value → Prop} (hd : R S w μ d v) (h : vkey ks d k) : keyOK ks v ∧ k v := by
  unfold vkey at h
  cases ks with
  | str =>
    cases hd <;> simp only at h
    exact ⟨⟨_, rfl, h.1⟩, h.2⟩
  | int q =>
    cases hd <;> simp only at h
    rename_i q' n
    cases hq : (keq q' q && keq q .i64) with
    | false => rw [hq] at h; exact h.elim
    | true =>
      rw [hq, cond_true] at h
      simp only [Bool.and_eq_true] at hq
      obtain rfl := keq_eq hq.1
      obtain rfl := keq_eq hq.2
      exact ⟨⟨_, rfl, wf_i64 h.1⟩, h.2⟩
  | ints m =>
    cases d <;> simp only at h
    rename_i cs
    cases hq : (cs.all isI64 && Nat.beq cs.length m) with
    | false => rw [hq] at h; exact h.elim
    | true =>
      rw [hq, cond_true, rngL_iff] at h
      simp only [Bool.and_eq_true] at hq
      have e := isI64_form hq.1
      rw [e] at hd
      have hv := R_ints hd
      refine ⟨⟨cs.map numOf, by simpa using Nat.eq_of_beq_eq_true hq.2, hv, fun n hn => wf_i64 (h.1 n hn)⟩, ?_⟩
      rw [hv]
      exact h.2
theorem velem_sound {ek : EK} {d : D} {v : Value} {k : (Nat → Int) → Prop} (hd : R S w μ d v) (h : velem ek d k) : ∃ g, v = elemV ek g ∧ k g := by
  unfold velem at h
  cases ek with
  | bool =>
    cases hd <;> simp only at h
    · exact ⟨_, by simp [elemV], h⟩
    · exact ⟨_, by simp [elemV], h⟩
    · rename_i b
      exact ⟨_, by cases b <;> simp [elemV], h⟩
  | ints m =>
    cases d <;> simp only at h
    rename_i cs
    cases hq : (cs.all isI64 && Nat.beq cs.length m) with
    | false => rw [hq] at h; exact h.elim
    | true =>
      rw [hq, cond_true] at h
      simp only [Bool.and_eq_true] at hq
      have e := isI64_form hq.1
      rw [e] at hd
      refine ⟨_, ?_, h⟩
      rw [R_ints hd]
      have hl := Nat.eq_of_beq_eq_true hq.2
      simp only [elemV]
      congr 2
      apply List.ext_getElem?
      intro i
      by_cases hi : i < m
      · have hi' : i < cs.length := by omega
        simp [hi, hi']
      · have hi' : ¬ i < cs.length := by omega
        simp [hi, hi']

theorem elemD_R {ek : EK} {has : Bool} {g g' : Nat → Int} (h : ∀ j, g' j = if has = true then g j else 0) : R S w μ (elemD ek has g) (elemV ek g') := by
  cases ek with
  | bool =>
    have e : (has && decide (g 0 = 1)) = decide (g' 0 = 1) := by rw [h 0]; cases has <;> simp
    simp only [elemD, elemV, e]
    exact .bool _
  | ints m =>
    simp only [elemD, elemV]
    refine .agg _ _ (by simp) fun i d v h1 h2 => ?_
    simp only [List.getElem?_map, List.getElem?_toArray] at h1 h2
    by_cases hi : i < m
    · simp [hi] at h1 h2
      subst h1; subst h2
      rw [← h i]
      exact .int _ _
    · simp [Nat.le_of_not_lt hi] at h1

theorem vmap_sound {t : Nat} {T : Ty} {m : D} {v : Value} {k : Nat → Mp → Prop} (hT : tyOK P t T) (hr : RelL S w μ H) (hm : R S w μ m v) (h : vmap T m H k) :
    ∃ kt et o M r es clock, P.underlying t = some (.map kt et) ∧ Go.Maps.Keyed P kt ∧ (∀ v, keyOK M.ks v → ∃ l, keyOf P kt v = some l) ∧ (∀ w, (zeroValue et).run P w = .ok (elemV M.ek fun _ => 0) w) ∧
      v = .map (some r) ∧ hget H o = some (.mp M) ∧ m = .map o ∧ μ o = some (mapMk r (marks es)) ∧ w.heap[r]? = some (.map es clock) ∧ MapKept.Stamped es clock ∧ es.size = M.n ∧
      (∀ x ∈ es.toList, keyOK M.ks x.key ∧ M.has x.key = true ∧ x.val = elemV M.ek (M.get x.key)) ∧ (∀ k, keyOK M.ks k → M.has k = true → ∃ x ∈ es.toList, x.key = k) ∧ k o M := by
  unfold vmap at h
  cases T <;> simp only at h
  rename_i ks ek kt et
  cases hm <;> simp only at h
  rename_i o r ks0 hμ
  cases ho : hget H o with
  | none => rw [ho] at h; exact h.elim
  | some ob =>
    rw [ho] at h
    cases ob <;> simp only at h
    rename_i M
    cases hq : (ksEq M.ks ks && ekEq M.ek ek) with
    | false => rw [hq] at h; exact h.elim
    | true =>
      rw [hq, cond_true] at h
      simp only [Bool.and_eq_true] at hq
      obtain ⟨mv, h1, r', es, clock, h2, h3, h4, h5, h6, h7⟩ := hr.1.obs o _ ho
      rw [hμ] at h1
      injection h1 with h1
      rw [← h1] at h2
      obtain ⟨rfl, h8⟩ := mapMk_inj h2
      subst h8
      obtain ⟨g1, g2, g3, g4, g5⟩ := hT
      rw [← ksEq_eq hq.1] at g4
      rw [← ekEq_eq hq.2] at g5
      exact ⟨kt, et, o, M, r, es, clock, g1, g3, g4, g5, rfl, ho, rfl, hμ, h3, h4, h5, h6, h7, h⟩

theorem run_lookup {t kt et : Nat} {es : Array MapEntry} {clock r : Nat} {key z : Value} (c : Bool) (ht : P.underlying t = some (.map kt et)) (K : Go.Maps.Keyed P kt) (hz : (zeroValue et).run P w = .ok z w) (hb : w.heap[r]? = some (.map es clock))
    {kl : Lit} (hkey : keyOf P kt key = some kl) (hk : ∀ e ∈ es.toList, ∃ l, keyOf P kt e.key = some l) :
    ((Instr.lookup t (.map (some r)) key c).run P w = .ok (if c then .tuple #[z, .bool false] else z) w ∧ (∀ x ∈ es.toList, x.key ≠ key)) ∨
    ∃ e ∈ es.toList, e.key = key ∧ (Instr.lookup t (.map (some r)) key c).run P w = .ok (if c then .tuple #[e.val, .bool true] else e.val) w := by
  rcases K.find w hkey es.toList hk with ⟨h1, h2⟩ | ⟨j, e, h1, h2, h3⟩
  · exact .inl ⟨by simp [Instr.lookup, run_underlying ht, MapKept.run_getObj_map hb, K.check w _ hkey, h1, hz, Result.andThen], h2⟩
  · exact .inr ⟨e, List.mem_of_getElem? h2, h3, by simp [Instr.lookup, run_underlying ht, MapKept.run_getObj_map hb, K.check w _ hkey, h1, Result.andThen]⟩

theorem sound_lookup {t : Nat} {T : Ty} {m key : D} {vm vk : Value} {c : Bool} {K : D → Prop} (hT : tyOK P t T) (hr : RelL S w μ H) (hm : R S w μ m vm) (hk : R S w μ key vk) (h : vlookup T m key c H K) :
    ∃ d v, (Instr.lookup t vm vk c).run P w = .ok v w ∧ R S w μ d v ∧ K d := by
  obtain ⟨kt, et, o, M, r, es, clock, g1, g2, g3, g4, rfl, g6, _, g8, g9, g10, g11, g12, g13, h⟩ := vmap_sound hT hr hm h
  obtain ⟨h1, h2⟩ := vkey_sound hk h
  obtain ⟨kl, hkl⟩ := g3 _ h1
  have hR : ∀ (x : Value), (M.has vk = false → x = elemV M.ek fun _ => 0) → (M.has vk = true → x = elemV M.ek (M.get vk)) → R S w μ (elemD M.ek (M.has vk) (M.get vk)) x := fun x e1 e2 => by
    cases hh : M.has vk with
    | false => rw [e1 hh]; exact elemD_R (fun j => by simp)
    | true => rw [e2 hh]; exact elemD_R (fun j => by simp)
  have key : ∀ x, M.has vk = true ∧ x = elemV M.ek (M.get vk) ∨ M.has vk = false ∧ x = elemV M.ek (fun _ => 0) → (Instr.lookup t (.map (some r)) vk c).run P w = .ok (if c then .tuple #[x, .bool (M.has vk)] else x) w →
      ∃ d v, (Instr.lookup t (.map (some r)) vk c).run P w = .ok v w ∧ R S w μ d v ∧ K d := fun x hx hrun => by
    have hRx : R S w μ (elemD M.ek (M.has vk) (M.get vk)) x := hR x (fun e => by rcases hx with ⟨e1, _⟩ | ⟨_, e2⟩; rw [e] at e1; cases e1; exact e2) (fun e => by rcases hx with ⟨_, e2⟩ | ⟨e1, _⟩; exact e2; rw [e] at e1; cases e1)
    cases c with
    | false => exact ⟨_, _, hrun, hRx, h2⟩
    | true =>
      refine ⟨_, _, hrun, .tup _ _ rfl fun i d v a b => ?_, h2⟩
      match i with
      | 0 => simp at a b; subst a; subst b; exact hRx
      | 1 => simp at a b; subst a; subst b; exact .bool _
      | i + 2 => simp at a
  rcases run_lookup c g1 g2 (g4 w) g9 hkl (fun e he => g3 _ (g12 e he).1) with ⟨r1, r2⟩ | ⟨e, r1, r2, r3⟩
  · have hh : M.has vk = false := by
      cases hh : M.has vk with
      | false => rfl
      | true => obtain ⟨x, hx, e⟩ := g13 vk h1 hh; exact absurd e (r2 x hx)
    exact key _ (.inr ⟨hh, rfl⟩) (by rw [hh]; exact r1)
  · obtain ⟨k1, k2, k3⟩ := g12 e r1
    rw [r2] at k2 k3
    exact key _ (.inl ⟨k2, k3⟩) (by rw [k2]; exact r3)

/-- A map's block is turned. -/
theorem turn_map (hr : RelL S w μ H) {o r : Nat} {M M' : Mp} {es es' : Array MapEntry} {clock clock' : Nat} (ho : hget H o = some (.mp M)) (hm : μ o = some (mapMk r (marks es))) (hb : w.heap[r]? = some (.map es clock))
    (hpre : ∃ ys, marks es' = marks es ++ ys) (hst : MapKept.Stamped es' clock') (hn : es'.size = M'.n) (h1 : ∀ x ∈ es'.toList, keyOK M'.ks x.key ∧ M'.has x.key = true ∧ x.val = elemV M'.ek (M'.get x.key)) (h2 : ∀ k, keyOK M'.ks k → M'.has k = true → ∃ x ∈ es'.toList, x.key = k) :
    RelL S (w.putObj r (.map es' clock')) (updM μ o (mapMk r (marks es'))) (H.set o (some (.mp M'))) ∧ Tr S w μ (hget H) S (w.putObj r (.map es' clock')) (updM μ o (mapMk r (marks es'))) (hget (H.set o (some (.mp M')))) := by
  have hoid := lt_of_hget ho
  have hlt := (Array.getElem?_eq_some_iff.1 hb).1
  have hput := hr.1.put (o := o) (ob := .mp M') (mv := mapMk r (marks es')) (w' := w.putObj r (.map es' clock')) rfl rfl rfl (by simp)
    (fun b hb' hno => World.putObj_heap_other (fun e => hno _ _ ho hm (by rw [blk_mapMk, e])))
    (fun v hv => by rw [hm] at hv; injection hv with hv; subst hv; obtain ⟨ys, hy⟩ := hpre; exact .inr (.inr ⟨r, _, ys, rfl, by rw [hy]⟩))
    (fun b hb' => by rw [blk_mapMk] at hb'; exact .inr ⟨_, _, ho, hm, by rw [blk_mapMk, hb']⟩)
    ⟨r, es', clock', rfl, World.putObj_heap_same hlt, hst, hn, h1, h2⟩ (fun e => by rw [ho] at e; cases e)
  rw [hget_set _ _ _ hoid]
  refine ⟨⟨by rw [hget_set _ _ _ hoid]; exact hput.1, fun o' ho' => ?_⟩, hput.2⟩
  have hne : o' ≠ o := by simp at ho'; omega
  simp only [updM, hne, if_false]
  exact hr.2 o' (by simpa using ho')

theorem new_map (hr : RelL S w μ H) {nid : Nat} (hno : μ nid = none) (hle : nid ≤ H.length) (ks : KS) (ek : EK) :
    RelL S (w.alloc (.map #[] 0)) (updM μ nid (mapMk w.heap.size (marks #[]))) (hnew H nid (.mp ⟨ks, ek, 0, fun _ => false, fun _ _ => 0⟩)) ∧
      Tr S w μ (hget H) S (w.alloc (.map #[] 0)) (updM μ nid (mapMk w.heap.size (marks #[]))) (hget (hnew H nid (.mp ⟨ks, ek, 0, fun _ => false, fun _ _ => 0⟩))) ∧
      R S (w.alloc (.map #[] 0)) (updM μ nid (mapMk w.heap.size (marks #[]))) (.map nid) (.map (some w.heap.size)) := by
  have hblk : ∀ b, b < w.heap.size → (w.alloc (.map #[] 0)).heap[b]? = w.heap[b]? := fun b hb => RowKit.Below.heap_alloc w _ b hb
  have hput := hr.1.put (o := nid) (ob := .mp ⟨ks, ek, 0, fun _ => false, fun _ _ => 0⟩) (mv := mapMk w.heap.size (marks #[])) (w' := w.alloc (.map #[] 0)) rfl rfl rfl (by simp) (fun b hb _ => hblk b hb)
    (fun v hv => by rw [hno] at hv; cases hv) (fun b hb => by rw [blk_mapMk] at hb; injection hb with hb; exact .inl (by omega))
    ⟨w.heap.size, #[], 0, rfl, heap_alloc_new w _, MapKept.stamped_empty 0, rfl, fun x hx => by simp at hx, fun k _ hk => by cases hk⟩ (fun _ => hno)
  exact ⟨hr.new hle hput.1, by rw [hget_new _ hle]; exact hput.2, .map _ w.heap.size (marks #[]) (by simp [updM])⟩

theorem modify_same {es : Array MapEntry} {j : Nat} {e : MapEntry} (he : es.toList[j]? = some e) {key : Value} (hk : e.key = key) : es.modify j (fun e => { e with key := key }) = es := by
  have hj : es[j]? = some e := by simpa using he
  apply Array.ext_getElem?
  intro i
  by_cases hij : i = j
  · subst hij
    rw [Array.getElem?_modify, if_pos rfl, hj]
    simp only [Option.map_some]
    subst hk
    rfl
  · rw [Array.getElem?_modify, if_neg (fun e => hij e.symm)]

/-- The entry that a key has, or gets. -/
theorem run_mapEntry {t kt et : Nat} {es : Array MapEntry} {clock r : Nat} {key z : Value} (ht : P.underlying t = some (.map kt et)) (K : Go.Maps.Keyed P kt) (hz : (zeroValue et).run P w = .ok z w) (hb : w.heap[r]? = some (.map es clock))
    {kl : Lit} (hkey : keyOf P kt key = some kl) (hk : ∀ e ∈ es.toList, ∃ l, keyOf P kt e.key = some l) :
    (∃ (j : Nat) (e : MapEntry), es[j]? = some e ∧ e.key = key ∧ (Instr.mapEntry t (.map (some r)) key).run P w = .ok (.tuple #[e.val, .int .i64 e.born]) (w.putObj r (.map es clock))) ∨
    ((∀ x ∈ es.toList, x.key ≠ key) ∧ (Instr.mapEntry t (.map (some r)) key).run P w = .ok (.tuple #[z, .int .i64 clock]) (w.putObj r (.map (es.push { key, val := z, born := clock }) (clock + 1)))) := by
  have hset : ∀ o, (setObj r o).run P w = .ok () (w.putObj r o) := fun o => by simp [setObj, Sem.run, hb, World.putObj]
  rcases K.find w hkey es.toList hk with ⟨h1, h2⟩ | ⟨j, e, h1, h2, h3⟩
  · refine .inr ⟨h2, ?_⟩
    simp [Instr.mapEntry, run_underlying ht, MapKept.run_getObj_map hb, K.check w _ hkey, h1, hz, Result.andThen, hset, goInt]
  · refine .inl ⟨j, e, by simpa using h2, h3, ?_⟩
    have hj : es[j]? = some e := by simpa using h2
    have hst := K.stays w hkey
    simp [Instr.mapEntry, run_underlying ht, MapKept.run_getObj_map hb, K.check w _ hkey, h1, Result.andThen, hset, goInt, hj, h3, hst, modify_same h2 h3]

theorem putObj_same {r : Nat} {ob : Obj} (h : w.heap[r]? = some ob) : w.putObj r ob = w := by
  unfold World.putObj
  have : w.heap.setIfInBounds r ob = w.heap := by
    apply Array.ext_getElem?
    intro i
    by_cases hi : r = i
    · subst hi
      have := (Array.getElem?_eq_some_iff.1 h).1
      rw [Array.getElem?_setIfInBounds_self_of_lt this, h]
    · rw [Array.getElem?_setIfInBounds_ne hi]
  rw [this]

theorem marks_push (es : Array MapEntry) (x : MapEntry) : marks (es.push x) = marks es ++ #[.tuple #[x.key, .int .i64 x.born]] := by simp [marks]
theorem marks_get {es : Array MapEntry} {j : Nat} {e : MapEntry} (h : es[j]? = some e) : (marks es)[j]? = some (.tuple #[e.key, .int .i64 e.born]) := by simp [marks, h]
theorem marks_modify (es : Array MapEntry) (j : Nat) (f : MapEntry → MapEntry) (h : ∀ e, (f e).key = e.key ∧ (f e).born = e.born) : marks (es.modify j f) = marks es := by
  apply Array.ext_getElem?
  intro i
  simp only [marks, Array.getElem?_map, Array.getElem?_modify]
  split
  · cases es[i]? with
    | none => rfl
    | some e => simp [h e]
  · rfl

theorem sound_mapEntry {t : Nat} {T : Ty} {m key : D} {vm vk : Value} {K : D → HL → Prop} (hT : tyOK P t T) (hr : RelL S w μ H) (hm : R S w μ m vm) (hk : R S w μ key vk) (h : vmapEntry T m key H K) :
    ∃ v w', (Instr.mapEntry t vm vk).run P w = .ok v w' ∧ Post S w μ H K v w' := by
  obtain ⟨kt, et, o, M, r, es, clock, g1, g2, g3, g4, rfl, g6, _, g8, g9, g10, g11, g12, g13, h⟩ := vmap_sound hT hr hm h
  obtain ⟨h1, h2⟩ := vkey_sound hk h
  obtain ⟨kl, hkl⟩ := g3 _ h1
  have fin : ∀ (es' : Array MapEntry) (clock' : Nat) (u : Value) (j : Nat) (e : MapEntry), (∃ ys, marks es' = marks es ++ ys) → MapKept.Stamped es' clock' → es'.size = (withKey M vk).n → (∀ x ∈ es'.toList, keyOK M.ks x.key ∧ (withKey M vk).has x.key = true ∧ x.val = elemV M.ek ((withKey M vk).get x.key)) →
      (∀ k, keyOK M.ks k → (withKey M vk).has k = true → ∃ x ∈ es'.toList, x.key = k) → es'[j]? = some e → e.key = vk → (Instr.mapEntry t (.map (some r)) vk).run P w = .ok (.tuple #[u, .int .i64 e.born]) (w.putObj r (.map es' clock')) →
      ∃ v w', (Instr.mapEntry t (.map (some r)) vk).run P w = .ok v w' ∧ Post S w μ H K v w' := fun es' clock' u j e e1 e2 e3 e4 e5 e6 e7 e8 => by
    obtain ⟨t1, t2⟩ := turn_map (M' := withKey M vk) hr g6 g8 g9 e1 e2 e3 e4 e5
    refine ⟨_, _, e8, S, _, _, _, h2, .tup _ _ rfl fun i d v a b => ?_, t1, t2⟩
    match i with
    | 0 => simp at a b; subst a; subst b; exact .top _
    | 1 =>
      simp at a b; subst a; subst b
      have := marks_get e6
      rw [e7] at this
      exact .stamp o vk r (marks es') j e.born (by simp [updM]) this
    | i + 2 => simp at a
  rcases run_mapEntry g1 g2 (g4 w) g9 hkl (fun e he => g3 _ (g12 e he).1) with ⟨j, e, r1, r2, r3⟩ | ⟨r1, r2⟩
  · have hmem : e ∈ es.toList := List.mem_of_getElem? (by simpa using r1 : es.toList[j]? = some e)
    have hh : M.has vk = true := by rw [← r2]; exact (g12 e hmem).2.1
    refine fin es clock e.val j e ⟨#[], by simp⟩ g10 (by simp only [withKey]; rw [if_pos hh]; exact g11) (fun x hx => ?_) (fun k hok hkk => ?_) r1 r2 r3
    · obtain ⟨a1, a2, a3⟩ := g12 x hx
      refine ⟨a1, by simp [withKey, a2], ?_⟩
      rw [a3]
      congr 1
      funext j
      simp [withKey, a2]
    · simp only [withKey, Bool.or_eq_true] at hkk
      rcases hkk with hkk | hkk
      · exact g13 k hok hkk
      · exact ⟨e, hmem, by rw [r2]; exact (veqV_eq hok h1 hkk).symm⟩
  · have hh : M.has vk = false := by
      cases hh : M.has vk with
      | false => rfl
      | true => obtain ⟨x, hx, e⟩ := g13 vk h1 hh; exact absurd e (r1 x hx)
    refine fin (es.push { key := vk, val := elemV M.ek fun _ => 0, born := clock }) (clock + 1) _ es.size { key := vk, val := elemV M.ek fun _ => 0, born := clock } ⟨_, marks_push _ _⟩ (MapKept.stamped_push g10 r1)
      (by simp only [withKey, hh, Array.size_push]; simp [g11]) (fun x hx => ?_) (fun k hok hkk => ?_) (by simp) rfl r2
    · simp only [Array.toList_push, List.mem_append, List.mem_singleton] at hx
      rcases hx with hx | rfl
      · obtain ⟨a1, a2, a3⟩ := g12 x hx
        refine ⟨a1, by simp [withKey, a2], ?_⟩
        rw [a3]
        congr 1
        funext j
        simp [withKey, a2]
      · refine ⟨h1, by simp [withKey, veqV_self h1], ?_⟩
        simp only
        congr 1
        funext j
        simp [withKey, hh]
    · simp only [withKey, Bool.or_eq_true] at hkk
      rcases hkk with hkk | hkk
      · obtain ⟨x, hx, e⟩ := g13 k hok hkk
        exact ⟨x, by simp [hx], e⟩
      · exact ⟨{ key := vk, val := elemV M.ek fun _ => 0, born := clock }, by simp, (veqV_eq hok h1 hkk).symm⟩

theorem stamped_born {es : Array MapEntry} {clock : Nat} (h : MapKept.Stamped es clock) {i j : Nat} {x y : MapEntry} (hx : es[i]? = some x) (hy : es[j]? = some y) (hb : x.born = y.born) : i = j := by
  have hn := ((MapKept.stamped_iff es clock).1 h).2.1
  have h1 : (es.toList.map (·.born))[i]? = some x.born := by simp [hx]
  have h2 : (es.toList.map (·.born))[j]? = some y.born := by simp [hy]
  obtain ⟨hi, e1⟩ := List.getElem?_eq_some_iff.1 h1
  obtain ⟨hj, e2⟩ := List.getElem?_eq_some_iff.1 h2
  rcases Nat.lt_trichotomy i j with h | h | h
  · have := List.pairwise_iff_getElem.1 hn i j hi hj h
    rw [e1, e2, hb] at this; exact absurd rfl this
  · exact h
  · have := List.pairwise_iff_getElem.1 hn j i hj hi h
    rw [e1, e2, hb] at this; exact absurd rfl this

/-- An entry's element is turned. -/
theorem turn_elem (hr : RelL S w μ H) {o r : Nat} {M : Mp} {es : Array MapEntry} {clock : Nat} (ho : hget H o = some (.mp M)) (hm : μ o = some (mapMk r (marks es))) (hb : w.heap[r]? = some (.map es clock))
    (hst : MapKept.Stamped es clock) (hn : es.size = M.n) (h1 : ∀ x ∈ es.toList, keyOK M.ks x.key ∧ M.has x.key = true ∧ x.val = elemV M.ek (M.get x.key)) (h2 : ∀ k, keyOK M.ks k → M.has k = true → ∃ x ∈ es.toList, x.key = k)
    {j : Nat} {e : MapEntry} (hj : es[j]? = some e) {kv : Value} (hk : e.key = kv) (hkv : keyOK M.ks kv) (g : Nat → Int) :
    RelL S (w.putObj r (.map (es.modify j fun e => { e with val := elemV M.ek g }) clock)) (updM μ o (mapMk r (marks (es.modify j fun e => { e with val := elemV M.ek g })))) (H.set o (some (.mp (withElem M kv g)))) ∧
      Tr S w μ (hget H) S (w.putObj r (.map (es.modify j fun e => { e with val := elemV M.ek g }) clock)) (updM μ o (mapMk r (marks (es.modify j fun e => { e with val := elemV M.ek g })))) (hget (H.set o (some (.mp (withElem M kv g))))) := by
  have hpw := ((MapKept.stamped_iff es clock).1 hst).2.2
  have huniq : ∀ (i : Nat) x, es[i]? = some x → x.key = kv → i = j := fun i x hi hx => by
    have h3 : es.toList[i]? = some x := by simpa using hi
    have h4 : es.toList[j]? = some e := by simpa using hj
    obtain ⟨hi', e1⟩ := List.getElem?_eq_some_iff.1 h3
    obtain ⟨hj', e2⟩ := List.getElem?_eq_some_iff.1 h4
    rcases Nat.lt_trichotomy i j with h | h | h
    · have := List.pairwise_iff_getElem.1 hpw i j hi' hj' h
      rw [e1, e2, hx, hk] at this; exact absurd rfl this
    · exact h
    · have := List.pairwise_iff_getElem.1 hpw j i hj' hi' h
      rw [e1, e2, hx, hk] at this; exact absurd rfl this
  have hget : ∀ (i : Nat) x, (es.modify j fun e => { e with val := elemV M.ek g })[i]? = some x → ∃ y, es[i]? = some y ∧ x.key = y.key ∧ (i = j → x.val = elemV M.ek g) ∧ (i ≠ j → x.val = y.val) := fun i x hi => by
    rw [Array.getElem?_modify] at hi
    split at hi
    · rename_i hij
      subst hij
      rw [hj] at hi ⊢
      simp only [Option.map_some, Option.some.injEq] at hi
      subst hi
      exact ⟨e, rfl, rfl, fun _ => rfl, fun h => absurd rfl h⟩
    · rename_i hij
      exact ⟨x, hi, rfl, fun h => absurd h.symm hij, fun _ => rfl⟩
  refine turn_map (M' := withElem M kv g) hr ho hm hb ⟨#[], by rw [marks_modify es j (fun e => { e with val := elemV M.ek g }) (fun e => ⟨rfl, rfl⟩)]; simp⟩ (MapKept.stamped_modify hst _ _ (fun _ _ => rfl) (fun _ _ _ => rfl)) (by simpa [withElem] using hn) (fun x hx => ?_) (fun k hok hk' => ?_)
  · obtain ⟨i, hi, e1⟩ := List.getElem_of_mem hx
    have hi' : (es.modify j fun e => { e with val := elemV M.ek g })[i]? = some x := by
      rw [← Array.getElem?_toList]; exact List.getElem?_eq_some_iff.2 ⟨hi, e1⟩
    obtain ⟨y, y1, y2, y3, y4⟩ := hget i x hi'
    obtain ⟨a1, a2, a3⟩ := h1 y (List.mem_of_getElem? (by simpa using y1 : es.toList[i]? = some y))
    rw [y2]
    refine ⟨a1, a2, ?_⟩
    by_cases hij : i = j
    · rw [y3 hij]
      subst hij
      rw [hj] at y1
      injection y1 with y1
      subst y1
      simp [withElem, hk, veqV_self hkv]
    · rw [y4 hij, a3]
      have : veqV y.key kv = false := by
        cases hv : veqV y.key kv with
        | false => rfl
        | true => exact absurd (huniq i y y1 (veqV_eq a1 hkv hv)) hij
      simp [withElem, this]
  · obtain ⟨x, hx, e1⟩ := h2 k hok hk'
    obtain ⟨i, hi, e2⟩ := List.getElem_of_mem hx
    have hxi : es[i]? = some x := by rw [← Array.getElem?_toList]; exact List.getElem?_eq_some_iff.2 ⟨hi, e2⟩
    refine ⟨if j = i then { x with val := elemV M.ek g } else x, List.mem_of_getElem? (i := i) ?_, ?_⟩
    · rw [Array.getElem?_toList, Array.getElem?_modify, hxi]
      split <;> rfl
    · split <;> exact e1

theorem sound_entryStore {t : Nat} {T : Ty} {m s x : D} {vm vs vx : Value} {K : D → HL → Prop} (hT : tyOK P t T) (hr : RelL S w μ H) (hm : R S w μ m vm) (hs : R S w μ s vs) (hx : R S w μ x vx) (h : ventryStore T m s x H K) :
    ∃ w', (Instr.entryStore t vm vs vx).run P w = .ok () w' ∧ Post S w μ H K undef w' := by
  obtain ⟨kt, et, o, M, r, es, clock, g1, g2, g3, g4, rfl, g6, _, g8, g9, g10, g11, g12, g13, h⟩ := vmap_sound hT hr hm h
  have hs' : ∃ (o' : Nat) (kv : Value) (r' : Nat) (ks : Array Value) (i born : Nat), s = .stamp o' kv ∧ μ o' = some (mapMk r' ks) ∧ (ks[i]? : Option Value) = some (.tuple #[kv, .int .i64 (born : Nat)]) ∧ vs = .int .i64 born := by
    cases hs <;> first | exact h.elim | exact ⟨_, _, _, _, _, _, rfl, by assumption, by assumption, rfl⟩
  obtain ⟨o', kv, r', ks, i, born, rfl, hμ, hi, rfl⟩ := hs'
  simp only at h
  cases hq : Nat.beq o' o with
  | false => rw [hq] at h; exact h.elim
  | true =>
    obtain rfl := Nat.eq_of_beq_eq_true hq
    rw [hq, cond_true] at h
    obtain ⟨g, rfl, hh, hk⟩ := velem_sound hx h
    rw [g8] at hμ
    injection hμ with hμ
    obtain ⟨rfl, rfl⟩ := mapMk_inj hμ
    simp only [marks, Array.getElem?_map] at hi
    cases he : es[i]? with
    | none => simp [he] at hi
    | some e =>
      simp only [he, Option.map_some, Option.some.injEq, Value.tuple.injEq] at hi
      have hi' := congrArg Array.toList hi
      simp at hi'
      obtain ⟨hik, hib⟩ := hi'
      have hfind : es.findIdx? (fun e => (e.born : Int) == (born : Int)) = some i := by
        rw [Array.findIdx?_eq_some_iff_getElem]
        have hlt := (Array.getElem?_eq_some_iff.1 he).1
        have hei := (Array.getElem?_eq_some_iff.1 he).2
        refine ⟨hlt, by rw [hei]; simp; omega, fun j hj => ?_⟩
        have hjl : j < es.size := by omega
        simp only [beq_iff_eq]
        intro hbj
        have := stamped_born g10 (i := j) (j := i) (x := es[j]) (y := e) (by simp [hjl]) he (by omega)
        omega
      have hkk : keyOK M.ks kv := by rw [← hik]; exact (g12 e (List.mem_of_getElem? (by simpa using he : es.toList[i]? = some e))).1
      obtain ⟨t1, t2⟩ := turn_elem hr g6 g8 g9 g10 g11 g12 g13 he hik hkk g
      have hset : ∀ ob, (setObj r ob).run P w = .ok () (w.putObj r ob) := fun ob => by simp [setObj, Sem.run, g9, World.putObj]
      refine ⟨_, ?_, S, _, _, _, hk, .top _, t1, t2⟩
      simp [Instr.entryStore, MapKept.run_getObj_map g9, asInt, asIntOf, hfind, hset, Result.andThen]

theorem run_mapUpdate {t kt et : Nat} {es : Array MapEntry} {clock r : Nat} {key x : Value} (ht : P.underlying t = some (.map kt et)) (K : Go.Maps.Keyed P kt) (hb : w.heap[r]? = some (.map es clock))
    {kl : Lit} (hkey : keyOf P kt key = some kl) (hk : ∀ e ∈ es.toList, ∃ l, keyOf P kt e.key = some l) :
    (∃ (j : Nat) (e : MapEntry), es[j]? = some e ∧ e.key = key ∧ (Instr.mapUpdate t (.map (some r)) key x).run P w = .ok () (w.putObj r (.map (es.modify j fun e => { e with val := x }) clock))) ∨
    ((∀ x ∈ es.toList, x.key ≠ key) ∧ (Instr.mapUpdate t (.map (some r)) key x).run P w = .ok () (w.putObj r (.map (es.push { key, val := x, born := clock }) (clock + 1)))) := by
  have hset : ∀ o, (setObj r o).run P w = .ok () (w.putObj r o) := fun o => by simp [setObj, Sem.run, hb, World.putObj]
  rcases K.find w hkey es.toList hk with ⟨h1, h2⟩ | ⟨j, e, h1, h2, h3⟩
  · refine .inr ⟨h2, ?_⟩
    simp [Instr.mapUpdate, run_underlying ht, MapKept.run_getObj_map hb, K.check w _ hkey, h1, Result.andThen, hset]
  · refine .inl ⟨j, e, by simpa using h2, h3, ?_⟩
    have hj : es[j]? = some e := by simpa using h2
    have hst := K.stays w hkey
    have hmod : es.modify j (fun e => { e with key := key, val := x }) = es.modify j fun e => { e with val := x } := by
      apply Array.ext_getElem?
      intro i
      simp only [Array.getElem?_modify]
      split
      · rename_i hij; subst hij; rw [hj]; simp [h3.symm]
      · rfl
    simp [Instr.mapUpdate, run_underlying ht, MapKept.run_getObj_map hb, K.check w _ hkey, h1, Result.andThen, hset, hj, h3, hst, hmod]
theorem sound_mapUpdate {t : Nat} {T : Ty} {m key x : D} {vm vk vx : Value} {K : D → HL → Prop} (hT : tyOK P t T) (hr : RelL S w μ H) (hm : R S w μ m vm) (hk : R S w μ key vk) (hx : R S w μ x vx) (h : vmapUpdate T m key x H K) :
    ∃ w', (Instr.mapUpdate t vm vk vx).run P w = .ok () w' ∧ Post S w μ H K undef w' := by
  obtain ⟨kt, et, o, M, r, es, clock, g1, g2, g3, g4, rfl, g6, _, g8, g9, g10, g11, g12, g13, h⟩ := vmap_sound hT hr hm h
  obtain ⟨h1, h2⟩ := vkey_sound hk h
  obtain ⟨g, rfl, h2⟩ := velem_sound hx h2
  obtain ⟨kl, hkl⟩ := g3 _ h1
  rcases run_mapUpdate (x := elemV M.ek g) g1 g2 g9 hkl (fun e he => g3 _ (g12 e he).1) with ⟨j, e, r1, r2, r3⟩ | ⟨r1, r2⟩
  · have hmem : e ∈ es.toList := List.mem_of_getElem? (by simpa using r1 : es.toList[j]? = some e)
    have hh : M.has vk = true := by rw [← r2]; exact (g12 e hmem).2.1
    obtain ⟨t1, t2⟩ := turn_elem hr g6 g8 g9 g10 g11 g12 g13 r1 r2 h1 g
    have eM : ∀ M' : Mp, M' = withElem (withKey M vk) vk g → K .top (H.set o (some (.mp M'))) := fun M' e => by rw [e]; exact h2
    have hee : (⟨M.ks, M.ek, M.n, M.has, (withElem M vk g).get⟩ : Mp) = withElem M vk g := rfl
    obtain ⟨s1, s2⟩ := turn_map (M' := withElem (withKey M vk) vk g) (es' := es.modify j fun e => { e with val := elemV M.ek g }) (clock' := clock) hr g6 g8 g9 ⟨#[], by rw [marks_modify es j (fun e => { e with val := elemV M.ek g }) (fun e => ⟨rfl, rfl⟩)]; simp⟩
      (MapKept.stamped_modify g10 _ _ (fun _ _ => rfl) (fun _ _ _ => rfl)) (by simp [withElem, withKey, hh, g11]) (fun x hx' => by
        obtain ⟨mv, m1, r', es1, cl1, m2, m3, m4, m5, m6, m7⟩ := t1.1.obs o (.mp (withElem M vk g)) (by rw [hget_set _ _ _ (lt_of_hget g6)]; simp [updH])
        simp only [updM, if_true, Option.some.injEq] at m1
        rw [← m1] at m2
        obtain ⟨rfl, _⟩ := mapMk_inj m2
        rw [World.putObj_heap_same (Array.getElem?_eq_some_iff.1 g9).1] at m3
        injection m3 with m3
        injection m3 with m3 _
        obtain ⟨a1, a2, a3⟩ := m6 x (by rw [← m3]; exact hx')
        refine ⟨a1, by simp only [withElem, withKey, Bool.or_eq_true]; exact .inl a2, ?_⟩
        rw [a3]
        congr 1
        funext j'
        have a2' : M.has x.key = true := a2
        simp [withElem, withKey, a2'])
      (fun k hok hk' => by
        have hk'' : M.has k = true := by
          simp only [withElem, withKey, Bool.or_eq_true] at hk'
          rcases hk' with h | h
          · exact h
          · rw [veqV_eq hok h1 h]; exact hh
        obtain ⟨mv, m1, r', es1, cl1, m2, m3, m4, m5, m6, m7⟩ := t1.1.obs o (.mp (withElem M vk g)) (by rw [hget_set _ _ _ (lt_of_hget g6)]; simp [updH])
        simp only [updM, if_true, Option.some.injEq] at m1
        rw [← m1] at m2
        obtain ⟨rfl, _⟩ := mapMk_inj m2
        rw [World.putObj_heap_same (Array.getElem?_eq_some_iff.1 g9).1] at m3
        injection m3 with m3
        injection m3 with m3 _
        obtain ⟨x, hx', e1⟩ := m7 k hok hk''
        exact ⟨x, by rw [m3]; exact hx', e1⟩)
    exact ⟨_, r3, S, _, _, _, h2, .top _, s1, s2⟩
  · have hh : M.has vk = false := by
      cases hh : M.has vk with
      | false => rfl
      | true => obtain ⟨x, hx, e⟩ := g13 vk h1 hh; exact absurd e (r1 x hx)
    obtain ⟨s1, s2⟩ := turn_map (M' := withElem (withKey M vk) vk g) hr g6 g8 g9 ⟨_, marks_push es { key := vk, val := elemV M.ek g, born := clock }⟩ (MapKept.stamped_push g10 r1) (by simp [withElem, withKey, hh, g11]) (fun x hx' => by
      simp only [Array.toList_push, List.mem_append, List.mem_singleton] at hx'
      rcases hx' with hx' | rfl
      · obtain ⟨a1, a2, a3⟩ := g12 x hx'
        have hne : veqV x.key vk = false := by
          cases hv : veqV x.key vk with
          | false => rfl
          | true => exact absurd (veqV_eq a1 h1 hv) (r1 x hx')
        refine ⟨a1, by simp [withElem, withKey, a2], ?_⟩
        rw [a3]
        congr 1
        funext j
        simp [withElem, withKey, a2, hne]
      · refine ⟨h1, by simp [withElem, withKey, veqV_self h1], ?_⟩
        simp only
        congr 1
        funext j
        simp [withElem, veqV_self h1]) (fun k hok hk' => by
      simp only [withElem, withKey, Bool.or_eq_true] at hk'
      rcases hk' with h | h
      · obtain ⟨x, hx', e⟩ := g13 k hok h
        exact ⟨x, by simp [hx'], e⟩
      · exact ⟨{ key := vk, val := elemV M.ek g, born := clock }, by simp, (veqV_eq hok h1 h).symm⟩)
    exact ⟨_, r2, S, _, _, _, h2, .top _, s1, s2⟩
end
end Go.V
