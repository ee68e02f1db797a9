/-
  A small logic of our own, part 13: a table of types, checked by computation.
-/
import Derived.Test.YtbkehkiflfhpfaaVv
import Derived.DeepKeys4
import Derived.StringKeys
set_option linter.unusedVariables false
set_option linter.unusedSimpArgs false
namespace Go.V

def szB (P : Program) (t n : Nat) : Bool := match P.info? t with
  | some i => i.size == n
  | none => false
def fieldsB (P : Program) : List Field → List (Nat × Nat × Nat) → Bool
  | [], [] => true
  | f :: r, x :: s => f.offset == x.1 && f.type == x.2.1 && szB P f.type x.2.2 && x.2.2 != 0 && fieldsB P r s
  | _, _ => false
/-- The fields of a struct that are all numbers, cell by cell. -/
def fieldsK (P : Program) : Nat → List Field → Bool
  | _, [] => true
  | i, f :: r => f.offset == i && f.name != "_" && (match P.underlying f.type with | some (.int .i64) => true | _ => false) && P.cellsOf f.type == 1 && fieldsK P (i + 1) r
def ksB (P : Program) (k : Nat) : KS → Bool
  | .str => (match P.underlying k with | some .string => true | _ => false)
  | .int q => (match P.underlying k with | some (.int q') => keq q' q | _ => false)
  | .ints m => (match P.underlying k with | some (.struct fields) => fieldsK P 0 fields.toList && fields.size == m | _ => false) && P.cellsOf k == m && P.keyType k && Nat.blt k P.types.size && P.keyTypeAt 9 k && laidOutB P
def isZ : Value → Bool
  | .int .i64 n => decide (n = 0)
  | _ => false
def ekB (P : Program) (e : Nat) : EK → Bool
  | .bool => (match P.info? e with | some i => (match i.zero with | some (.bool false) => true | _ => false) | none => false)
  | .ints m => (match P.info? e with | some i => (match i.zero with | some (.agg cs) => cs.toList.all isZ && cs.toList.length == m | _ => false) | none => false)
theorem ekB_ok {P : Program} {e : Nat} {ek : EK} (h : ekB P e ek = true) (w : World) : (zeroValue e).run P w = .ok (elemV ek fun _ => 0) w := by
  have key : ∀ {i : TypeInfo} {z : Value}, P.info? e = some i → i.zero = some z → (zeroValue e).run P w = .ok z w := fun hi hz => by simp [zeroValue, typeInfo, hi, hz]
  cases ek with
  | bool =>
    simp only [ekB] at h
    split at h
    · rename_i i hi
      split at h
      · rename_i hz
        rw [key hi hz]
        simp [elemV]
      · cases h
    · cases h
  | ints m =>
    simp only [ekB] at h
    split at h
    · rename_i i hi
      split at h
      · rename_i cs hz
        rw [key hi hz]
        simp only [Bool.and_eq_true, beq_iff_eq] at h
        obtain ⟨h1, h2⟩ := h
        simp only [elemV]
        congr 2
        apply Array.ext_getElem?
        intro j
        by_cases hj : j < m
        · have hj' : j < cs.size := by simpa using (h2 ▸ hj : j < cs.toList.length)
          have hz := List.all_eq_true.1 h1 cs[j] (by simp)
          have : cs[j] = Value.int .i64 0 := by
            generalize cs[j] = v at hz
            cases v with
            | int k n => cases k <;> simp [isZ] at hz; rw [hz]
            | _ => simp [isZ] at hz
          simp [hj, hj', this]
        · have hj' : ¬ j < cs.size := fun hh => hj (by rw [← h2]; simpa using hh)
          simp [hj, hj']
      · cases h
    · cases h
theorem fieldsK_mapM {P : Program} {ns : List Int} (hw : ∀ n ∈ ns, (Lit.int .i64 n).wf = true) {d : Nat} : ∀ {l : List Field} {i : Nat}, fieldsK P i l = true → i + l.length ≤ ns.length →
    ∃ r, l.mapM (fun f => P.keyLits (d + 1) f.type (((ns.map (Value.int .i64)).drop f.offset).take (P.cellsOf f.type))) = some r
  | [], i, _, _ => ⟨[], rfl⟩
  | f :: l, i, h, hl => by
    simp only [fieldsK, Bool.and_eq_true, beq_iff_eq] at h
    obtain ⟨⟨⟨⟨h1, h2⟩, h3⟩, h4⟩, h5⟩ := h
    simp only [List.length_cons] at hl
    obtain ⟨r, hr⟩ := fieldsK_mapM (d := d) hw h5 (by omega)
    have hu : P.underlying f.type = some (.int .i64) := by
      split at h3
      · rename_i hu; exact hu
      · cases h3
    have hi : i < ns.length := by omega
    have e : ((ns.map (Value.int .i64)).drop i).take 1 = [Value.int .i64 ns[i]] := by
      rw [List.drop_eq_getElem_cons (by simpa using hi)]
      simp
    refine ⟨[.int .i64 ns[i]] :: r, ?_⟩
    rw [List.mapM_cons, hr, h1, h4, e]
    simp [Program.keyLits, hu, hw ns[i] (List.getElem_mem hi)]
theorem fieldsK_names {P : Program} : ∀ {l : List Field} {i : Nat}, fieldsK P i l = true → ∀ f ∈ l, (f.name != "_") = true
  | [], i, _, f, hf => by cases hf
  | g :: l, i, h, f, hf => by
    simp only [fieldsK, Bool.and_eq_true] at h
    rcases List.mem_cons.1 hf with rfl | hf
    · exact h.1.1.1.2
    · exact fieldsK_names h.2 f hf
theorem ksB_ok {P : Program} {k : Nat} {ks : KS} (h : ksB P k ks = true) : Go.Maps.Keyed P k ∧ ∀ v, keyOK ks v → ∃ l, keyOf P k v = some l := by
  cases ks with
  | str =>
    simp only [ksB] at h
    split at h
    · rename_i hu
      refine ⟨Go.Maps.string_keyed hu, fun v hv => ?_⟩
      obtain ⟨s, rfl, hs⟩ := hv
      exact ⟨_, Go.WideMaps.keyOf_string_mk hu hs⟩
    · cases h
  | int q =>
    simp only [ksB] at h
    split at h
    · rename_i q' hu
      rw [keq_eq h] at hu
      refine ⟨Go.Maps.int_keyed hu, fun v hv => ?_⟩
      obtain ⟨n, rfl, hn⟩ := hv
      exact ⟨_, Go.Maps.keyOf_int_mk hu hn⟩
    · cases h
  | ints m =>
    simp only [ksB, Bool.and_eq_true, beq_iff_eq] at h
    obtain ⟨⟨⟨⟨⟨h1, h2⟩, h3⟩, h4⟩, h5⟩, h6⟩ := h
    split at h1
    · rename_i fields hu
      simp only [Bool.and_eq_true, beq_iff_eq] at h1
      obtain ⟨f1, f2⟩ := h1
      refine ⟨Go.Maps.Keyed.of_law (deep_law_laid h6 (m := 9) (by decide) ((blt_iff _ _).1 h4) h5 (by rw [hu])), fun v hv => ?_⟩
      obtain ⟨ns, hl, rfl, hw⟩ := hv
      have hsz : ∃ d, P.types.size = d + 1 := ⟨P.types.size - 1, by have := (blt_iff _ _).1 h4; omega⟩
      obtain ⟨d, hd⟩ := hsz
      obtain ⟨r, hr⟩ := fieldsK_mapM (P := P) (d := d) hw f1 (by simp; omega)
      have hall : fields.all (·.name != "_") = true := by
        rw [← Array.all_toList]
        exact List.all_eq_true.2 (fieldsK_names f1)
      have hlits : P.keyLits (P.types.size + 1) k (ns.map (Value.int .i64)) = some r.flatten := by
        rw [hd]
        unfold Program.keyLits
        simp only [hu]
        rw [if_pos ⟨by simp [hl, h2], hall⟩, hr]
        rfl
      refine ⟨.string (keyBytes r.flatten), ?_⟩
      simp only [keyOf, hu]
      rw [if_pos (by simp [h3, Value.formed, hu, hl, h2])]
      simp only [Value.cells]
      rw [hlits]
      rfl
    · cases h1
def tyB (P : Program) (t : Nat) : Ty → Bool
  | .int k => (match P.underlying t with | some (.int k') => keq k' k | _ => false) && szB P t 1
  | .bool => (match P.underlying t with | some .bool => true | _ => false) && szB P t 1
  | .str => (match P.underlying t with | some .string => true | _ => false) && szB P t 1
  | .struct sz fs => (match P.underlying t with | some (.struct fields) => fieldsB P fields.toList fs | _ => false) && szB P t sz
  | .array n e es sz => (match P.underlying t with | some (.array n' e') => n' == n && e' == e | _ => false) && szB P t sz && szB P e es
  | .slice e es eb => (match P.underlying t with | some (.slice e') => e' == e | _ => false) && szB P t 1 && szB P e es && Nat.blt 0 es && (match P.info? e with
    | some i => (match i.zero with | some z => i.size == es && i.bytes == eb && z.cells.size == es && z.cells.toList.all (·.oneCell') | none => false)
    | none => false)
  | .map ks ek k e => (match P.underlying t with | some (.map k' e') => k' == k && e' == e | _ => false) && szB P t 1 && ksB P k ks && ekB P e ek
  | .ptr e => (match P.underlying t with | some (.pointer e') => e' == e | _ => false) && szB P t 1
  | .iface => (match P.underlying t with | some (.interface _) => true | _ => false) && szB P t 1
  | .other => (match P.underlying t with | some d => plainT d | none => false) && szB P t 1
  | .no => true

theorem szB_ok {P : Program} {t n : Nat} (h : szB P t n = true) : szOf P t n := by
  unfold szB at h
  unfold szOf
  split at h
  · rename_i i hi
    rw [hi]
    simpa using h
  · cases h
theorem fieldsB_ok {P : Program} : ∀ {fs : List Field} {l : List (Nat × Nat × Nat)}, fieldsB P fs l = true →
    (∀ (i : Nat) x, l[i]? = some x → ∃ f, fs[i]? = some f ∧ f.offset = x.1 ∧ f.type = x.2.1 ∧ szOf P f.type x.2.2 ∧ x.2.2 ≠ 0) ∧ fs.mapM (fun f => (P.info? f.type).map fun i => (f.offset, i.size)) = some (l.map fun x => (x.1, x.2.2))
  | [], [], _ => ⟨fun i x h => by simp at h, rfl⟩
  | f :: r, x :: s, h => by
    simp only [fieldsB, Bool.and_eq_true, beq_iff_eq, bne_iff_ne] at h
    obtain ⟨⟨⟨⟨h1, h2⟩, h3⟩, h4⟩, h5⟩ := h
    obtain ⟨g1, g2⟩ := fieldsB_ok h5
    refine ⟨fun i y hy => ?_, ?_⟩
    · cases i with
      | zero => simp at hy; subst hy; exact ⟨f, rfl, h1, h2, szB_ok h3, h4⟩
      | succ i => exact g1 i y (by simpa using hy)
    · have := szB_ok h3
      unfold szOf at this
      cases hi : P.info? f.type with
      | none => simp [hi] at this
      | some i =>
        simp [hi] at this
        rw [List.mapM_cons, g2]
        simp [hi, h1, this]
  | [], _ :: _, h => by cases h
  | _ :: _, [], h => by cases h

theorem tyB_ok {P : Program} {t : Nat} {T : Ty} (h : tyB P t T = true) : tyOK P t T := by
  cases T <;> simp only [tyB, Bool.and_eq_true] at h <;> simp only [tyOK]
  case int k =>
    refine ⟨?_, szB_ok h.2⟩
    have h1 := h.1
    split at h1
    · rename_i k' hu; rw [hu, keq_eq h1]
    · cases h1
  case bool =>
    refine ⟨?_, szB_ok h.2⟩
    have h1 := h.1
    split at h1
    · rename_i hu; exact hu
    · cases h1
  case str =>
    refine ⟨?_, szB_ok h.2⟩
    have h1 := h.1
    split at h1
    · rename_i hu; exact hu
    · cases h1
  case struct sz fs =>
    have h1 := h.1
    split at h1
    · rename_i fields hu
      obtain ⟨g1, g2⟩ := fieldsB_ok h1
      exact ⟨fields, hu, szB_ok h.2, fun i x hx => let ⟨f, a, b⟩ := g1 i x hx; ⟨f, by simpa using a, b⟩, g2⟩
    · cases h1
  case array n e es sz =>
    refine ⟨?_, szB_ok h.1.2, szB_ok h.2⟩
    have h1 := h.1.1
    split at h1
    · rename_i n' e' hu
      simp only [Bool.and_eq_true, beq_iff_eq] at h1
      rw [hu, h1.1, h1.2]
    · cases h1
  case slice e es eb =>
    obtain ⟨⟨⟨⟨h1, h2⟩, h3⟩, h4⟩, h5⟩ := h
    refine ⟨?_, szB_ok h2, szB_ok h3, (blt_iff _ _).1 h4, ?_⟩
    · split at h1
      · rename_i e' hu; rw [hu, eq_of_beq h1]
      · cases h1
    · split at h5
      · rename_i i hi
        split at h5
        · rename_i z hz
          simp only [Bool.and_eq_true, beq_iff_eq] at h5
          exact ⟨i, z, hi, hz, h5.1.1.1, h5.1.1.2, h5.1.2, fun v hv => List.all_eq_true.1 h5.2 v hv⟩
        · cases h5
      · cases h5
  case map ks ek k e =>
    refine ⟨?_, szB_ok h.1.1.2, (ksB_ok h.1.2).1, (ksB_ok h.1.2).2, fun w => ekB_ok h.2 w⟩
    have h1 := h.1.1.1
    split at h1
    · rename_i k' e' hu
      simp only [Bool.and_eq_true, beq_iff_eq] at h1
      rw [hu, h1.1, h1.2]
    · cases h1
  case ptr e =>
    refine ⟨?_, szB_ok h.2⟩
    have h1 := h.1
    split at h1
    · rename_i e' hu; rw [hu, eq_of_beq h1]
    · cases h1
  case iface =>
    refine ⟨?_, szB_ok h.2⟩
    have h1 := h.1
    split at h1
    · rename_i ms hu; exact ⟨ms, hu⟩
    · cases h1
  case other =>
    refine ⟨?_, szB_ok h.2⟩
    have h1 := h.1
    split at h1
    · rename_i d hu; exact ⟨d, hu, h1⟩
    · cases h1

def zcB : Value → D → Bool
  | .int k n, .int k' n' => keq k k' && decide (n = n')
  | .bool b, .ff => !b
  | .string s, .str s' => decide (s = s')
  | .slice none 0 0, .rsl _ 0 _ => true
  | .nilIface, .nilI => true
  | .slice none 0 0, .nilS => true
  | _, .top => true
  | _, _ => false
theorem zcB_ok {S : Nat → Prop} {w : World} {v : Value} {d : D} (h : zcB v d = true) : R S w Mu0 d v := by
  unfold zcB at h
  split at h
  · simp only [Bool.and_eq_true, decide_eq_true_eq] at h
    obtain rfl := keq_eq h.1
    obtain rfl := h.2
    exact .int _ _
  · cases ‹Bool› <;> simp at h; exact .ff
  · simp only [decide_eq_true_eq] at h
    subst h
    exact .str _
  · exact .rsl _ 0 _ none 0 (fun _ _ => undef) (Nat.le_refl _) (fun h => absurd h (by omega)) (fun i j hi => absurd hi (by omega))
  · exact .nilI
  · exact .nilS
  · exact .top _
  · cases h
def zlB : List Value → List D → Bool
  | [], [] => true
  | v :: r, d :: s => zcB v d && zlB r s
  | _, _ => false
theorem zlB_ok : ∀ {vs : List Value} {ds : List D}, zlB vs ds = true → vs.length = ds.length ∧ ∀ (S : Nat → Prop) w (j : Nat) d v, ds[j]? = some d → vs[j]? = some v → R S w Mu0 d v
  | [], [], _ => ⟨rfl, fun S w j d v h => by simp at h⟩
  | v :: r, d :: s, h => by
    simp only [zlB, Bool.and_eq_true] at h
    obtain ⟨g1, g2⟩ := zlB_ok h.2
    refine ⟨by simp [g1], fun S w j a b ha hb => ?_⟩
    cases j with
    | zero => simp at ha hb; subst ha; subst hb; exact zcB_ok h.1
    | succ j => exact g2 S w j a b (by simpa using ha) (by simpa using hb)
  | [], _ :: _, h => by cases h
  | _ :: _, [], h => by cases h
def zeroB (P : Program) (t : Nat) (cs : List D) : Bool := match P.info? t with
  | some i => (match i.zero with | some z => i.size == cs.length && z.cells.toList.all (·.oneCell') && zlB z.cells.toList cs | none => false)
  | none => false
theorem zeroB_ok {P : Program} {t : Nat} {cs : List D} (h : zeroB P t cs = true) : zeroOK P t cs := by
  unfold zeroB at h
  split at h
  · rename_i i hi
    split at h
    · rename_i z hz
      simp only [Bool.and_eq_true, beq_iff_eq] at h
      obtain ⟨g1, g2⟩ := zlB_ok h.2
      refine ⟨i, z, hi, hz, h.1.1, by simpa using g1, fun j v hv => ?_, fun S w j d v h1 h2 => g2 S w j d v h1 (by simpa using h2)⟩
      exact List.all_eq_true.1 h.1.2 v (by simpa using List.mem_of_getElem? (l := z.cells.toList) (i := j) (by simpa using hv))
    · cases h
  · cases h

def eqB (P : Program) (t : Nat) : Bool := (P.fieldsOf t).toList.all (fun f => f.name != "_") && !P.stoodInHeld t && !P.eqGuardType P.depth t
theorem eqB_ok {P : Program} {t : Nat} (h : eqB P t = true) : eqOK P t := by
  simp only [eqB, Bool.and_eq_true, Bool.not_eq_true', List.all_eq_true, bne_iff_ne] at h
  exact ⟨h.1.1, h.1.2, h.2⟩

/-- A table of types, of their zero cells, and of those that are compared part by part. -/
abbrev Tab := List (Ty × Option (List D) × Bool)
def tabB (P : Program) : Nat → Tab → Bool
  | _, [] => true
  | t, (T, z, q) :: r => tyB P t T && (match z with | some cs => zeroB P t cs | none => true) && (!q || eqB P t) && tabB P (t + 1) r
theorem tabB_ok {P : Program} : ∀ {r : Tab} {t : Nat}, tabB P t r = true → ∀ (i : Nat) x, r[i]? = some x → tyOK P (t + i) x.1 ∧ (∀ cs, x.2.1 = some cs → zeroOK P (t + i) cs) ∧ (x.2.2 = true → eqOK P (t + i))
  | [], t, _, i, x, hx => by simp at hx
  | (T, z, q) :: r, t, h, i, x, hx => by
    simp only [tabB, Bool.and_eq_true] at h
    cases i with
    | zero =>
      simp only [List.getElem?_cons_zero, Option.some.injEq] at hx
      subst hx
      refine ⟨tyB_ok h.1.1.1, fun cs hcs => ?_, fun hq => ?_⟩
      · simp only at hcs
        subst hcs
        exact zeroB_ok h.1.1.2
      · simp only at hq
        subst hq
        exact eqB_ok (by simpa using h.1.2)
    | succ i =>
      have := tabB_ok h.2 i x (by simpa using hx)
      rwa [show t + 1 + i = t + (i + 1) by omega] at this
def tabTy (tab : Tab) (t : Nat) : Ty := match tab[t]? with
  | some x => x.1
  | none => .no
def tabZero (tab : Tab) (t : Nat) : Option (List D) := match tab[t]? with
  | some x => x.2.1
  | none => none
def tabEq (tab : Tab) (t : Nat) : Bool := match tab[t]? with
  | some x => x.2.2
  | none => false
theorem cok_of {P : Program} {tab : Tab} (h : tabB P 0 tab = true) {C : Cx} (h1 : C.ty = tabTy tab) (h2 : C.zero = tabZero tab) (h3 : C.eq = tabEq tab) : COK P C := by
  obtain ⟨ty, zero, pure, eq, call, iter, dfr, yld⟩ := C
  simp only at h1 h2 h3
  subst h1; subst h2; subst h3
  refine ⟨fun t => ?_, fun t cs hz => ?_, fun t hq => ?_⟩
  · show tyOK P t (tabTy tab t)
    unfold tabTy
    split
    · rename_i x hx
      have := (tabB_ok h t x hx).1
      rwa [Nat.zero_add] at this
    · exact trivial
  · have hz' : tabZero tab t = some cs := hz
    unfold tabZero at hz'
    split at hz'
    · rename_i x hx
      have := (tabB_ok h t x hx).2.1 cs hz'
      rwa [Nat.zero_add] at this
    · cases hz'
  · have hq' : tabEq tab t = true := hq
    unfold tabEq at hq'
    split at hq'
    · rename_i x hx
      have := (tabB_ok h t x hx).2.2 hq'
      rwa [Nat.zero_add] at this
    · cases hq'
end Go.V
