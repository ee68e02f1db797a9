/-
  A small logic of our own, part 13: a table of types, checked by computation.
-/
import Derived.Test.YtlecbjbjgfpfeaaMe
import Derived.DeepKeys4
import Derived.StringKeys
import Derived.Test.YtlecbjbjgfpfeaaProg
import Derived.ProofKit
import Derived.OpenShut
import Derived.ChangeCalls
section
set_option linter.unusedVariables false
set_option linter.unusedSimpArgs false
namespace Go.V

def szB (P : Program) (t n : Nat) : Bool := match P.info? t with
  | some i => i.size == n
  | none => false
def fieldsB (P : Program) : List Field → List (Nat × Nat × Nat) → Bool
  | [], [] => true
  | f :: r, x :: s => f.offset == x.1 && f.type == x.2.1 && szB P f.type x.2.2 && x.2.2 != 0 && fieldsB P r s
  | _, _ => false
/-- The fields of a struct that are all numbers, cell by cell. -/
def fieldsK (P : Program) : Nat → List Field → Bool
  | _, [] => true
  | i, f :: r => f.offset == i && f.name != "_" && (match P.underlying f.type with | some (.int .i64) => true | _ => false) && P.cellsOf f.type == 1 && fieldsK P (i + 1) r
def ksB (P : Program) (k : Nat) : KS → Bool
  | .str => (match P.underlying k with | some .string => true | _ => false)
  | .int q => (match P.underlying k with | some (.int q') => keq q' q | _ => false)
  | .ints m => (match P.underlying k with | some (.struct fields) => fieldsK P 0 fields.toList && fields.size == m | _ => false) && P.cellsOf k == m && P.keyType k && Nat.blt k P.types.size && P.keyTypeAt 9 k && laidOutB P
def isZ : Value → Bool
  | .int .i64 n => decide (n = 0)
  | _ => false
def ekB (P : Program) (e : Nat) : EK → Bool
  | .bool => (match P.info? e with | some i => (match i.zero with | some (.bool false) => true | _ => false) | none => false)
  | .ints m => (match P.info? e with | some i => (match i.zero with | some (.agg cs) => cs.toList.all isZ && cs.toList.length == m | _ => false) | none => false)
theorem ekB_ok {P : Program} {e : Nat} {ek : EK} (h : ekB P e ek = true) (w : World) : (zeroValue e).run P w = .ok (elemV ek fun _ => 0) w := by
  have key : ∀ {i : TypeInfo} {z : Value}, P.info? e = some i → i.zero = some z → (zeroValue e).run P w = .ok z w := fun hi hz => by simp [zeroValue, typeInfo, hi, hz]
  cases ek with
  | bool =>
    simp only [ekB] at h
    split at h
    · rename_i i hi
      split at h
      · rename_i hz
        rw [key hi hz]
        simp [elemV]
      · cases h
    · cases h
  | ints m =>
    simp only [ekB] at h
    split at h
    · rename_i i hi
      split at h
      · rename_i cs hz
        rw [key hi hz]
        simp only [Bool.and_eq_true, beq_iff_eq] at h
        obtain ⟨h1, h2⟩ := h
        simp only [elemV]
        congr 2
        apply Array.ext_getElem?
        intro j
        by_cases hj : j < m
        · have hj' : j < cs.size := by simpa using (h2 ▸ hj : j < cs.toList.length)
          have hz := List.all_eq_true.1 h1 cs[j] (by simp)
          have : cs[j] = Value.int .i64 0 := by
            generalize cs[j] = v at hz
            cases v with
            | int k n => cases k <;> simp [isZ] at hz; rw [hz]
            | _ => simp [isZ] at hz
          simp [hj, hj', this]
        · have hj' : ¬ j < cs.size := fun hh => hj (by rw [← h2]; simpa using hh)
          simp [hj, hj']
      · cases h
    · cases h
theorem fieldsK_mapM {P : Program} {ns : List Int} (hw : ∀ n ∈ ns, (Lit.int .i64 n).wf = true) {d : Nat} : ∀ {l : List Field} {i : Nat}, fieldsK P i l = true → i + l.length ≤ ns.length →
    ∃ r, l.mapM (fun f => P.keyLits (d + 1) f.type (((ns.map (Value.int .i64)).drop f.offset).take (P.cellsOf f.type))) = some r
  | [], i, _, _ => ⟨[], rfl⟩
  | f :: l, i, h, hl => by
    simp only [fieldsK, Bool.and_eq_true, beq_iff_eq] at h
    obtain ⟨⟨⟨⟨h1, h2⟩, h3⟩, h4⟩, h5⟩ := h
    simp only [List.length_cons] at hl
    obtain ⟨r, hr⟩ := fieldsK_mapM (d := d) hw h5 (by omega)
    have hu : P.underlying f.type = some (.int .i64) := by
      split at h3
      · rename_i hu; exact hu
      · cases h3
    have hi : i < ns.length := by omega
    have e : ((ns.map (Value.int .i64)).drop i).take 1 = [Value.int .i64 ns[i]] := by
      rw [List.drop_eq_getElem_cons (by simpa using hi)]
      simp
    refine ⟨[.int .i64 ns[i]] :: r, ?_⟩
    rw [List.mapM_cons, hr, h1, h4, e]
    simp [Program.keyLits, hu, hw ns[i] (List.getElem_mem hi)]
theorem fieldsK_names {P : Program} : ∀ {l : List Field} {i : Nat}, fieldsK P i l = true → ∀ f ∈ l, (f.name != "_") = true
  | [], i, _, f, hf => by cases hf
  | g :: l, i, h, f, hf => by
    simp only [fieldsK, Bool.and_eq_true] at h
    rcases List.mem_cons.1 hf with rfl | hf
    · exact h.1.1.1.2
    · exact fieldsK_names h.2 f hf
theorem ksB_ok {P : Program} {k : Nat} {ks : KS} (h : ksB P k ks = true) : Go.Maps.Keyed P k ∧ ∀ v, keyOK ks v → ∃ l, keyOf P k v = some l := by
  cases ks with
  | str =>
    simp only [ksB] at h
    split at h
    · rename_i hu
      refine ⟨Go.Maps.string_keyed hu, fun v hv => ?_⟩
      obtain ⟨s, rfl, hs⟩ := hv
      exact ⟨_, Go.WideMaps.keyOf_string_mk hu hs⟩
    · cases h
  | int q =>
    simp only [ksB] at h
    split at h
    · rename_i q' hu
      rw [keq_eq h] at hu
      refine ⟨Go.Maps.int_keyed hu, fun v hv => ?_⟩
      obtain ⟨n, rfl, hn⟩ := hv
      exact ⟨_, Go.Maps.keyOf_int_mk hu hn⟩
    · cases h
  | ints m =>
    simp only [ksB, Bool.and_eq_true, beq_iff_eq] at h
    obtain ⟨⟨⟨⟨⟨h1, h2⟩, h3⟩, h4⟩, h5⟩, h6⟩ := h
    split at h1
    · rename_i fields hu
      simp only [Bool.and_eq_true, beq_iff_eq] at h1
      obtain ⟨f1, f2⟩ := h1
      refine ⟨Go.Maps.Keyed.of_law (deep_law_laid h6 (m := 9) (by decide) ((blt_iff _ _).1 h4) h5 (by rw [hu])), fun v hv => ?_⟩
      obtain ⟨ns, hl, rfl, hw⟩ := hv
      have hsz : ∃ d, P.types.size = d + 1 := ⟨P.types.size - 1, by have := (blt_iff _ _).1 h4; omega⟩
      obtain ⟨d, hd⟩ := hsz
      obtain ⟨r, hr⟩ := fieldsK_mapM (P := P) (d := d) hw f1 (by simp; omega)
      have hall : fields.all (·.name != "_") = true := by
        rw [← Array.all_toList]
        exact List.all_eq_true.2 (fieldsK_names f1)
      have hlits : P.keyLits (P.types.size + 1) k (ns.map (Value.int .i64)) = some r.flatten := by
        rw [hd]
        unfold Program.keyLits
        simp only [hu]
        rw [if_pos ⟨by simp [hl, h2], hall⟩, hr]
        rfl
      refine ⟨.string (keyBytes r.flatten), ?_⟩
      simp only [keyOf, hu]
      rw [if_pos (by simp [h3, Value.formed, hu, hl, h2])]
      simp only [Value.cells]
      rw [hlits]
      rfl
    · cases h1
def tyB (P : Program) (t : Nat) : Ty → Bool
  | .int k => (match P.underlying t with | some (.int k') => keq k' k | _ => false) && szB P t 1
  | .bool => (match P.underlying t with | some .bool => true | _ => false) && szB P t 1
  | .str => (match P.underlying t with | some .string => true | _ => false) && szB P t 1
  | .struct sz fs => (match P.underlying t with | some (.struct fields) => fieldsB P fields.toList fs | _ => false) && szB P t sz
  | .array n e es sz => (match P.underlying t with | some (.array n' e') => n' == n && e' == e | _ => false) && szB P t sz && szB P e es
  | .slice e es eb => (match P.underlying t with | some (.slice e') => e' == e | _ => false) && szB P t 1 && szB P e es && Nat.blt 0 es && (match P.info? e with
    | some i => (match i.zero with | some z => i.size == es && i.bytes == eb && z.cells.size == es && z.cells.toList.all (·.oneCell') | none => false)
    | none => false)
  | .map ks ek k e => (match P.underlying t with | some (.map k' e') => k' == k && e' == e | _ => false) && szB P t 1 && ksB P k ks && ekB P e ek
  | .ptr e => (match P.underlying t with | some (.pointer e') => e' == e | _ => false) && szB P t 1
  | .iface => (match P.underlying t with | some (.interface _) => true | _ => false) && szB P t 1
  | .other => (match P.underlying t with | some d => plainT d | none => false) && szB P t 1
  | .no => true

theorem szB_ok {P : Program} {t n : Nat} (h : szB P t n = true) : szOf P t n := by
  unfold szB at h
  unfold szOf
  split at h
  · rename_i i hi
    rw [hi]
    simpa using h
  · cases h
theorem fieldsB_ok {P : Program} : ∀ {fs : List Field} {l : List (Nat × Nat × Nat)}, fieldsB P fs l = true →
    (∀ (i : Nat) x, l[i]? = some x → ∃ f, fs[i]? = some f ∧ f.offset = x.1 ∧ f.type = x.2.1 ∧ szOf P f.type x.2.2 ∧ x.2.2 ≠ 0) ∧ fs.mapM (fun f => (P.info? f.type).map fun i => (f.offset, i.size)) = some (l.map fun x => (x.1, x.2.2))
  | [], [], _ => ⟨fun i x h => by simp at h, rfl⟩
  | f :: r, x :: s, h => by
    simp only [fieldsB, Bool.and_eq_true, beq_iff_eq, bne_iff_ne] at h
    obtain ⟨⟨⟨⟨h1, h2⟩, h3⟩, h4⟩, h5⟩ := h
    obtain ⟨g1, g2⟩ := fieldsB_ok h5
    refine ⟨fun i y hy => ?_, ?_⟩
    · cases i with
      | zero => simp at hy; subst hy; exact ⟨f, rfl, h1, h2, szB_ok h3, h4⟩
      | succ i => exact g1 i y (by simpa using hy)
    · have := szB_ok h3
      unfold szOf at this
      cases hi : P.info? f.type with
      | none => simp [hi] at this
      | some i =>
        simp [hi] at this
        rw [List.mapM_cons, g2]
        simp [hi, h1, this]
  | [], _ :: _, h => by cases h
  | _ :: _, [], h => by cases h

theorem tyB_ok {P : Program} {t : Nat} {T : Ty} (h : tyB P t T = true) : tyOK P t T := by
  cases T <;> simp only [tyB, Bool.and_eq_true] at h <;> simp only [tyOK]
  case int k =>
    refine ⟨?_, szB_ok h.2⟩
    have h1 := h.1
    split at h1
    · rename_i k' hu; rw [hu, keq_eq h1]
    · cases h1
  case bool =>
    refine ⟨?_, szB_ok h.2⟩
    have h1 := h.1
    split at h1
    · rename_i hu; exact hu
    · cases h1
  case str =>
    refine ⟨?_, szB_ok h.2⟩
    have h1 := h.1
    split at h1
    · rename_i hu; exact hu
    · cases h1
  case struct sz fs =>
    have h1 := h.1
    split at h1
    · rename_i fields hu
      obtain ⟨g1, g2⟩ := fieldsB_ok h1
      exact ⟨fields, hu, szB_ok h.2, fun i x hx => let ⟨f, a, b⟩ := g1 i x hx; ⟨f, by simpa using a, b⟩, g2⟩
    · cases h1
  case array n e es sz =>
    refine ⟨?_, szB_ok h.1.2, szB_ok h.2⟩
    have h1 := h.1.1
    split at h1
    · rename_i n' e' hu
      simp only [Bool.and_eq_true, beq_iff_eq] at h1
      rw [hu, h1.1, h1.2]
    · cases h1
  case slice e es eb =>
    obtain ⟨⟨⟨⟨h1, h2⟩, h3⟩, h4⟩, h5⟩ := h
    refine ⟨?_, szB_ok h2, szB_ok h3, (blt_iff _ _).1 h4, ?_⟩
    · split at h1
      · rename_i e' hu; rw [hu, eq_of_beq h1]
      · cases h1
    · split at h5
      · rename_i i hi
        split at h5
        · rename_i z hz
          simp only [Bool.and_eq_true, beq_iff_eq] at h5
          exact ⟨i, z, hi, hz, h5.1.1.1, h5.1.1.2, h5.1.2, fun v hv => List.all_eq_true.1 h5.2 v hv⟩
        · cases h5
      · cases h5
  case map ks ek k e =>
    refine ⟨?_, szB_ok h.1.1.2, (ksB_ok h.1.2).1, (ksB_ok h.1.2).2, fun w => ekB_ok h.2 w⟩
    have h1 := h.1.1.1
    split at h1
    · rename_i k' e' hu
      simp only [Bool.and_eq_true, beq_iff_eq] at h1
      rw [hu, h1.1, h1.2]
    · cases h1
  case ptr e =>
    refine ⟨?_, szB_ok h.2⟩
    have h1 := h.1
    split at h1
    · rename_i e' hu; rw [hu, eq_of_beq h1]
    · cases h1
  case iface =>
    refine ⟨?_, szB_ok h.2⟩
    have h1 := h.1
    split at h1
    · rename_i ms hu; exact ⟨ms, hu⟩
    · cases h1
  case other =>
    refine ⟨?_, szB_ok h.2⟩
    have h1 := h.1
    split at h1
    · rename_i d hu; exact ⟨d, hu, h1⟩
    · cases h1

def zcB : Value → D → Bool
  | .int k n, .int k' n' => keq k k' && decide (n = n')
  | .bool b, .ff => !b
  | .string s, .str s' => decide (s = s')
  | .slice none 0 0, .rsl _ 0 _ => true
  | .nilIface, .nilI => true
  | .slice none 0 0, .nilS => true
  | _, .top => true
  | _, _ => false
theorem zcB_ok {S : Nat → Prop} {w : World} {v : Value} {d : D} (h : zcB v d = true) : R S w Mu0 d v := by
  unfold zcB at h
  split at h
  · simp only [Bool.and_eq_true, decide_eq_true_eq] at h
    obtain rfl := keq_eq h.1
    obtain rfl := h.2
    exact .int _ _
  · cases ‹Bool› <;> simp at h; exact .ff
  · simp only [decide_eq_true_eq] at h
    subst h
    exact .str _
  · exact .rsl _ 0 _ none 0 (fun _ _ => undef) (Nat.le_refl _) (fun h => absurd h (by omega)) (fun i j hi => absurd hi (by omega))
  · exact .nilI
  · exact .nilS
  · exact .top _
  · cases h
def zlB : List Value → List D → Bool
  | [], [] => true
  | v :: r, d :: s => zcB v d && zlB r s
  | _, _ => false
theorem zlB_ok : ∀ {vs : List Value} {ds : List D}, zlB vs ds = true → vs.length = ds.length ∧ ∀ (S : Nat → Prop) w (j : Nat) d v, ds[j]? = some d → vs[j]? = some v → R S w Mu0 d v
  | [], [], _ => ⟨rfl, fun S w j d v h => by simp at h⟩
  | v :: r, d :: s, h => by
    simp only [zlB, Bool.and_eq_true] at h
    obtain ⟨g1, g2⟩ := zlB_ok h.2
    refine ⟨by simp [g1], fun S w j a b ha hb => ?_⟩
    cases j with
    | zero => simp at ha hb; subst ha; subst hb; exact zcB_ok h.1
    | succ j => exact g2 S w j a b (by simpa using ha) (by simpa using hb)
  | [], _ :: _, h => by cases h
  | _ :: _, [], h => by cases h
def zeroB (P : Program) (t : Nat) (cs : List D) : Bool := match P.info? t with
  | some i => (match i.zero with | some z => i.size == cs.length && z.cells.toList.all (·.oneCell') && zlB z.cells.toList cs | none => false)
  | none => false
theorem zeroB_ok {P : Program} {t : Nat} {cs : List D} (h : zeroB P t cs = true) : zeroOK P t cs := by
  unfold zeroB at h
  split at h
  · rename_i i hi
    split at h
    · rename_i z hz
      simp only [Bool.and_eq_true, beq_iff_eq] at h
      obtain ⟨g1, g2⟩ := zlB_ok h.2
      refine ⟨i, z, hi, hz, h.1.1, by simpa using g1, fun j v hv => ?_, fun S w j d v h1 h2 => g2 S w j d v h1 (by simpa using h2)⟩
      exact List.all_eq_true.1 h.1.2 v (by simpa using List.mem_of_getElem? (l := z.cells.toList) (i := j) (by simpa using hv))
    · cases h
  · cases h

def eqB (P : Program) (t : Nat) : Bool := (P.fieldsOf t).toList.all (fun f => f.name != "_") && !P.stoodInHeld t && !P.eqGuardType P.depth t
theorem eqB_ok {P : Program} {t : Nat} (h : eqB P t = true) : eqOK P t := by
  simp only [eqB, Bool.and_eq_true, Bool.not_eq_true', List.all_eq_true, bne_iff_ne] at h
  exact ⟨h.1.1, h.1.2, h.2⟩

/-- A table of types, of their zero cells, and of those that are compared part by part. -/
abbrev Tab := List (Ty × Option (List D) × Bool)
def tabB (P : Program) : Nat → Tab → Bool
  | _, [] => true
  | t, (T, z, q) :: r => tyB P t T && (match z with | some cs => zeroB P t cs | none => true) && (!q || eqB P t) && tabB P (t + 1) r
theorem tabB_ok {P : Program} : ∀ {r : Tab} {t : Nat}, tabB P t r = true → ∀ (i : Nat) x, r[i]? = some x → tyOK P (t + i) x.1 ∧ (∀ cs, x.2.1 = some cs → zeroOK P (t + i) cs) ∧ (x.2.2 = true → eqOK P (t + i))
  | [], t, _, i, x, hx => by simp at hx
  | (T, z, q) :: r, t, h, i, x, hx => by
    simp only [tabB, Bool.and_eq_true] at h
    cases i with
    | zero =>
      simp only [List.getElem?_cons_zero, Option.some.injEq] at hx
      subst hx
      refine ⟨tyB_ok h.1.1.1, fun cs hcs => ?_, fun hq => ?_⟩
      · simp only at hcs
        subst hcs
        exact zeroB_ok h.1.1.2
      · simp only at hq
        subst hq
        exact eqB_ok (by simpa using h.1.2)
    | succ i =>
      have := tabB_ok h.2 i x (by simpa using hx)
      rwa [show t + 1 + i = t + (i + 1) by omega] at this
def tabTy (tab : Tab) (t : Nat) : Ty := match tab[t]? with
  | some x => x.1
  | none => .no
def tabZero (tab : Tab) (t : Nat) : Option (List D) := match tab[t]? with
  | some x => x.2.1
  | none => none
def tabEq (tab : Tab) (t : Nat) : Bool := match tab[t]? with
  | some x => x.2.2
  | none => false
theorem cok_of {P : Program} {tab : Tab} (h : tabB P 0 tab = true) {C : Cx} (h1 : C.ty = tabTy tab) (h2 : C.zero = tabZero tab) (h3 : C.eq = tabEq tab) : COK P C := by
  obtain ⟨ty, zero, pure, eq, call, iter, dfr, yld⟩ := C
  simp only at h1 h2 h3
  subst h1; subst h2; subst h3
  refine ⟨fun t => ?_, fun t cs hz => ?_, fun t hq => ?_⟩
  · show tyOK P t (tabTy tab t)
    unfold tabTy
    split
    · rename_i x hx
      have := (tabB_ok h t x hx).1
      rwa [Nat.zero_add] at this
    · exact trivial
  · have hz' : tabZero tab t = some cs := hz
    unfold tabZero at hz'
    split at hz'
    · rename_i x hx
      have := (tabB_ok h t x hx).2.1 cs hz'
      rwa [Nat.zero_add] at this
    · cases hz'
  · have hq' : tabEq tab t = true := hq
    unfold tabEq at hq'
    split at hq'
    · rename_i x hx
      have := (tabB_ok h t x hx).2.2 hq'
      rwa [Nat.zero_add] at this
    · cases hq'
end Go.V
end
section
set_option linter.unusedVariables false
set_option maxRecDepth 100000
namespace Go.Proofs.Ytlecbjbjgfpfeaa
open Go.V
def tab : Tab := [
  (.no, none, false),
  (.other, some [.top], false),
  (.int .i64, some [.int .i64 0], false),
  (.int .i64, some [.int .i64 0], false),
  (.bool, some [.ff], false),
  (.int .u8, some [.int .u8 0], false),
  (.int .u8, some [.int .u8 0], false),
  (.struct 4 [(0, 2, 1), (1, 3, 1), (2, 4, 1), (3, 6, 1)], some [.int .i64 0, .int .i64 0, .ff, .int .u8 0], true),
  (.struct 4 [(0, 2, 1), (1, 3, 1), (2, 4, 1), (3, 6, 1)], some [.int .i64 0, .int .i64 0, .ff, .int .u8 0], true),
  (.str, some [.str ⟨#[]⟩], false),
  (.str, some [.str ⟨#[]⟩], false),
  (.str, some [.str ⟨#[]⟩], false),
  (.int .u64, some [.int .u64 0], false),
  (.struct 2 [(0, 9, 1), (1, 12, 1)], some [.str ⟨#[]⟩, .int .u64 0], false),
  (.struct 2 [(0, 9, 1), (1, 12, 1)], some [.str ⟨#[]⟩, .int .u64 0], false),
  (.ptr 137, some [.top], false),
  (.ptr 140, some [.top], false),
  (.ptr 150, some [.top], false),
  (.struct 1 [(0, 17, 1)], some [.top], false),
  (.struct 1 [(0, 17, 1)], some [.top], false),
  (.iface, some [.nilI], false),
  (.int .i32, some [.int .i32 0], false),
  (.slice 74 7 64, some [.nilS], false),
  (.slice 76 5 40, some [.nilS], false),
  (.slice 3 1 8, some [.nilS], false),
  (.struct 5 [(0, 22, 1), (1, 23, 1), (2, 24, 1), (3, 3, 1), (4, 3, 1)], some [.nilS, .nilS, .nilS, .int .i64 0, .int .i64 0], true),
  (.struct 5 [(0, 22, 1), (1, 23, 1), (2, 24, 1), (3, 3, 1), (4, 3, 1)], some [.nilS, .nilS, .nilS, .int .i64 0, .int .i64 0], true),
  (.slice 5 1 1, some [.nilS], false),
  (.int .i64, some [.int .i64 0], false),
  (.no, none, false),
  (.other, some [.top], false),
  (.other, some [.top], false),
  (.no, none, false),
  (.other, some [.top], false),
  (.other, some [.top], false),
  (.other, some [.top], false),
  (.other, some [.top], false),
  (.int .u16, some [.int .u16 0], false),
  (.struct 2 [(0, 37, 1), (1, 5, 1)], some [.int .u16 0, .int .u8 0], true),
  (.struct 2 [(0, 37, 1), (1, 5, 1)], some [.int .u16 0, .int .u8 0], true),
  (.other, some [.top], false),
  (.other, some [.top], false),
  (.slice 24 1 24, some [.nilS], false),
  (.no, none, false),
  (.other, some [.top], false),
  (.other, some [.top], false),
  (.array 3 3 1 3, some [.int .i64 0, .int .i64 0, .int .i64 0], true),
  (.slice 46 3 24, some [.nilS], false),
  (.no, none, false),
  (.other, some [.top], false),
  (.array 2 3 1 2, some [.int .i64 0, .int .i64 0], true),
  (.slice 50 2 16, some [.nilS], false),
  (.struct 2 [(0, 3, 1), (1, 3, 1)], some [.int .i64 0, .int .i64 0], true),
  (.struct 2 [(0, 3, 1), (1, 3, 1)], some [.int .i64 0, .int .i64 0], true),
  (.other, some [.top], false),
  (.array 2 53 2 4, some [.int .i64 0, .int .i64 0, .int .i64 0, .int .i64 0], true),
  (.slice 55 4 32, some [.nilS], false),
  (.no, none, false),
  (.other, some [.top], false),
  (.no, none, false),
  (.other, some [.top], false),
  (.other, some [.top], false),
  (.slice 67 6 48, some [.nilS], false),
  (.no, none, false),
  (.other, some [.top], false),
  (.other, some [.top], false),
  (.struct 6 [(0, 3, 1), (1, 3, 1), (2, 53, 2), (4, 53, 2)], some [.int .i64 0, .int .i64 0, .int .i64 0, .int .i64 0, .int .i64 0, .int .i64 0], true),
  (.struct 6 [(0, 3, 1), (1, 3, 1), (2, 53, 2), (4, 53, 2)], some [.int .i64 0, .int .i64 0, .int .i64 0, .int .i64 0, .int .i64 0, .int .i64 0], true),
  (.other, some [.top], false),
  (.other, some [.top], false),
  (.no, none, false),
  (.other, some [.top], false),
  (.other, some [.top], false),
  (.struct 7 [(0, 9, 1), (1, 3, 1), (2, 3, 1), (3, 3, 1), (4, 3, 1), (5, 3, 1), (6, 3, 1)], some [.str ⟨#[]⟩, .int .i64 0, .int .i64 0, .int .i64 0, .int .i64 0, .int .i64 0, .int .i64 0], true),
  (.struct 7 [(0, 9, 1), (1, 3, 1), (2, 3, 1), (3, 3, 1), (4, 3, 1), (5, 3, 1), (6, 3, 1)], some [.str ⟨#[]⟩, .int .i64 0, .int .i64 0, .int .i64 0, .int .i64 0, .int .i64 0, .int .i64 0], true),
  (.struct 5 [(0, 3, 1), (1, 3, 1), (2, 3, 1), (3, 3, 1), (4, 3, 1)], some [.int .i64 0, .int .i64 0, .int .i64 0, .int .i64 0, .int .i64 0], true),
  (.struct 5 [(0, 3, 1), (1, 3, 1), (2, 3, 1), (3, 3, 1), (4, 3, 1)], some [.int .i64 0, .int .i64 0, .int .i64 0, .int .i64 0, .int .i64 0], true),
  (.other, some [.top], false),
  (.other, some [.top], false),
  (.ptr 81, some [.top], false),
  (.struct 3 [(0, 27, 1), (1, 3, 1), (2, 4, 1)], some [.nilS, .int .i64 0, .ff], true),
  (.struct 3 [(0, 27, 1), (1, 3, 1), (2, 4, 1)], some [.nilS, .int .i64 0, .ff], true),
  (.other, some [.top], false),
  (.other, some [.top], false),
  (.other, some [.top], false),
  (.struct 7 [(0, 26, 5), (5, 3, 1), (6, 3, 1)], some [.nilS, .nilS, .nilS, .int .i64 0, .int .i64 0, .int .i64 0, .int .i64 0], true),
  (.struct 7 [(0, 26, 5), (5, 3, 1), (6, 3, 1)], some [.nilS, .nilS, .nilS, .int .i64 0, .int .i64 0, .int .i64 0, .int .i64 0], true),
  (.no, none, false),
  (.other, some [.top], false),
  (.other, some [.top], false),
  (.other, some [.top], false),
  (.other, some [.top], false),
  (.other, some [.top], false),
  (.other, some [.top], false),
  (.other, some [.top], false),
  (.slice 53 2 16, some [.nilS], false),
  (.slice 53 2 16, some [.nilS], false),
  (.no, none, false),
  (.other, some [.top], false),
  (.struct 2 [(0, 3, 1), (1, 3, 1)], some [.int .i64 0, .int .i64 0], true),
  (.struct 2 [(0, 3, 1), (1, 3, 1)], some [.int .i64 0, .int .i64 0], true),
  (.other, some [.top], false),
  (.no, none, false),
  (.other, some [.top], false),
  (.other, some [.top], false),
  (.other, some [.top], false),
  (.other, some [.top], false),
  (.other, some [.top], false),
  (.map .str .bool 9 4, some [.top], false),
  (.other, some [.top], false),
  (.ptr 114, some [.top], false),
  (.map (.ints 3) .bool 128 4, some [.top], false),
  (.map (.int .i64) (.ints 3) 3 128, some [.top], false),
  (.struct 2 [(0, 111, 1), (1, 112, 1)], some [.top, .top], true),
  (.struct 2 [(0, 111, 1), (1, 112, 1)], some [.top, .top], true),
  (.other, some [.top], false),
  (.other, some [.top], false),
  (.int .u64, some [.int .u64 0], false),
  (.other, some [.top], false),
  (.other, some [.top], false),
  (.other, some [.top], false),
  (.other, some [.top], false),
  (.other, some [.top], false),
  (.other, some [.top], false),
  (.other, some [.top], false),
  (.other, some [.top], false),
  (.other, some [.top], false),
  (.struct 3 [(0, 3, 1), (1, 3, 1), (2, 3, 1)], some [.int .i64 0, .int .i64 0, .int .i64 0], true),
  (.struct 3 [(0, 3, 1), (1, 3, 1), (2, 3, 1)], some [.int .i64 0, .int .i64 0, .int .i64 0], true),
  (.no, none, false),
  (.other, some [.top], false),
  (.other, some [.top], false),
  (.other, some [.top], false),
  (.other, some [.top], false),
  (.other, some [.top], false),
  (.other, some [.top], false),
  (.struct 4 [(0, 17, 1), (1, 17, 1), (2, 17, 1), (3, 9, 1)], some [.top, .top, .top, .str ⟨#[]⟩], false),
  (.struct 4 [(0, 17, 1), (1, 17, 1), (2, 17, 1), (3, 9, 1)], some [.top, .top, .top, .str ⟨#[]⟩], false),
  (.array 0 16 1 0, some [], true),
  (.no, some [], false),
  (.no, some [], false),
  (.other, some [.top], false),
  (.int .u32, some [.int .u32 0], false),
  (.int .u8, some [.int .u8 0], false),
  (.int .u8, some [.int .u8 0], false),
  (.other, some [.top], false),
  (.ptr 5, some [.top], false),
  (.int .i32, some [.int .i32 0], false),
  (.int .i32, some [.int .i32 0], false),
  (.struct 11 [(0, 12, 1), (1, 12, 1), (2, 142, 1), (3, 143, 1), (4, 5, 1), (5, 5, 1), (6, 144, 1), (7, 145, 1), (8, 146, 1), (9, 147, 1), (10, 148, 1)], some [.int .u64 0, .int .u64 0, .int .u32 0, .int .u8 0, .int .u8 0, .int .u8 0, .int .u8 0, .top, .top, .int .i32 0, .int .i32 0], false),
  (.struct 11 [(0, 12, 1), (1, 12, 1), (2, 142, 1), (3, 143, 1), (4, 5, 1), (5, 5, 1), (6, 144, 1), (7, 145, 1), (8, 146, 1), (9, 147, 1), (10, 148, 1)], some [.int .u64 0, .int .u64 0, .int .u32 0, .int .u8 0, .int .u8 0, .int .u8 0, .int .u8 0, .top, .top, .int .i32 0, .int .i32 0], false),
  (.no, some [.top], false)
]
theorem tab_ok : tabB Go.Proofs.Try.prog 0 tab = true := by kernel_rfl
end Go.Proofs.Ytlecbjbjgfpfeaa
end
section
set_option linter.unusedVariables false
set_option linter.unusedSimpArgs false
namespace Go.V

abbrev Lib := List (Nat × PRule)
def libGet : Lib → Nat → Option PRule
  | [], _ => none
  | (f, r) :: l, g => bif Nat.beq f g then some r else libGet l g
def LibOK (P : Program) (l : Lib) : Prop := ∀ f r, libGet l f = some r → PSound P f r
theorem LibOK.nil (P : Program) : LibOK P [] := fun f r h => by cases h
theorem LibOK.cons {P : Program} {l : Lib} {f : Nat} {r : PRule} (h : PSound P f r) (hl : LibOK P l) : LibOK P ((f, r) :: l) := fun g s hg => by
  simp only [libGet] at hg
  cases hb : Nat.beq f g with
  | true =>
    rw [hb, cond_true, Option.some.injEq] at hg
    subst hg
    rw [← Nat.eq_of_beq_eq_true hb]
    exact h
  | false =>
    rw [hb, cond_false] at hg
    exact hl g s hg
def asGet {α : Type} : List (Nat × α) → Nat → Option α
  | [], _ => none
  | (f, r) :: l, g => bif Nat.beq f g then some r else asGet l g
theorem asGet_cons {α : Type} {Q : Nat → α → Prop} {l : List (Nat × α)} {f : Nat} {r : α} (h : Q f r) (hl : ∀ g s, asGet l g = some s → Q g s) : ∀ g s, asGet ((f, r) :: l) g = some s → Q g s := fun g s hg => by
  simp only [asGet] at hg
  cases hb : Nat.beq f g with
  | true =>
    rw [hb, cond_true, Option.some.injEq] at hg
    subst hg
    rw [← Nat.eq_of_beq_eq_true hb]
    exact h
  | false =>
    rw [hb, cond_false] at hg
    exact hl g s hg
/-- What is known of functions: those that only read; those that turn objects, or panic; those that are ranged over; those that are deferred. -/
structure Libs where
  p : Lib
  c : List (Nat × CRule)
  i : List (Nat × IRule)
  d : List (Nat × DRule)
structure LibsOK (P : Program) (L : Libs) : Prop where
  p : LibOK P L.p
  c : ∀ f r, asGet L.c f = some r → CSound P f r
  i : ∀ f r, asGet L.i f = some r → ISound P f r
  d : ∀ f r, asGet L.d f = some r → DSound P f r
def cxA (tab : Tab) (L : Libs) : Cx := ⟨tabTy tab, tabZero tab, libGet L.p, tabEq tab, asGet L.c, asGet L.i, asGet L.d, none⟩
def cxOf (tab : Tab) (l : Lib) : Cx := cxA tab ⟨l, [], [], []⟩
abbrev TT : RT := fun _ _ _ _ => True
theorem callsOK_A {P : Program} {tab : Tab} {L : Libs} (ht : tabB P 0 tab = true) (hm : P.follows .mixedOrders = true) (hl : LibsOK P L) : CallsOK P (cxA tab L) TT :=
  ⟨cok_of ht rfl rfl rfl, hm, hl.p, hl.c, hl.i, hl.d, fun ol h e => (by cases e), fun _ _ _ _ _ _ _ _ _ _ => trivial⟩
theorem LibsOK.of {P : Program} {l : Lib} (hl : LibOK P l) : LibsOK P ⟨l, [], [], []⟩ := ⟨hl, fun f r h => (by cases h), fun f r h => (by cases h), fun f r h => (by cases h)⟩
theorem callsOK_of {P : Program} {tab : Tab} {l : Lib} (ht : tabB P 0 tab = true) (hm : P.follows .mixedOrders = true) (hl : LibOK P l) : CallsOK P (cxOf tab l) TT := callsOK_A ht hm (.of hl)

def toI : D → Int
  | .int _ n => n
  | _ => 0
def toS : D → ByteArray
  | .str s => s
  | _ => ⟨#[]⟩
/-- Cells that are numbers. -/
def imD (a : Nat → Nat → Int) (i j : Nat) : D := .int .i64 (a i j)
def im (g : Nat → Nat → D) (i j : Nat) : Int := toI (g i j)
def IM (n s : Nat) (g : Nat → Nat → D) : Prop := ∀ i j, i < n → j < s → g i j = imD (im g) i j
theorem IM_imD (n s : Nat) (a : Nat → Nat → Int) : IM n s (imD a) := fun _ _ _ _ => rfl
theorem im_imD (a : Nat → Nat → Int) : im (imD a) = a := rfl
/-- Elements whose first cell is a string, and whose others are numbers. -/
def smD (nm : Nat → ByteArray) (a : Nat → Nat → Int) (i j : Nat) : D := match j with
  | 0 => .str (nm i)
  | j + 1 => .int .i64 (a i j)
def imS (g : Nat → Nat → D) (i j : Nat) : Int := toI (g i (j + 1))
def nmOf (g : Nat → Nat → D) (i : Nat) : ByteArray := toS (g i 0)
def SM (n s : Nat) (g : Nat → Nat → D) : Prop := ∀ i j, i < n → j < s → g i j = smD (nmOf g) (imS g) i j
theorem SM_smD (n s : Nat) (nm : Nat → ByteArray) (a : Nat → Nat → Int) : SM n s (smD nm a) := fun i j _ _ => by cases j <;> rfl

/-- A rule: what is asked, and what is returned. -/
def mk (f : List D → Option (Prop × D)) : PRule := fun ds k => match f ds with
  | some (p, d) => p ∧ k d
  | none => False
theorem mk_det (f : List D → Option (Prop × D)) (ds : List D) : Det (mk f ds) := fun k h => by
  unfold mk at h ⊢
  cases hf : f ds with
  | none => rw [hf] at h; exact h.elim
  | some x => rw [hf] at h; exact ⟨x.2, h.2, fun k' h' => ⟨h.1, h'⟩⟩
theorem psound_mk {P : Program} {C : Cx} {f : Nat} {fn : Func} {code : Code} {g : List D → Option (Prop × D)} (hf : P.funcs[f]? = some fn) (hname : (fn.name == "runtime.NumGoroutine") = false) (hb : fn.body = some code) (hC : CallsOK P C TT)
    (h : ∀ ds p d, g ds = some (p, d) → ds.length ≤ fn.ntmps ∧ (p → ∀ k : D → Prop, k d → ∃ ds', impAL noGh ds ds' (vfun C fn code k ds'))) : PSound P f (mk g) :=
  psound_of hf hname hb hC (mk_det g) fun ds k hk => by
    unfold mk at hk
    cases hg : g ds with
    | none => rw [hg] at hk; exact hk.elim
    | some x =>
      obtain ⟨p, d⟩ := x
      rw [hg] at hk
      obtain ⟨h1, h2⟩ := h ds p d hg
      exact ⟨h1, h2 hk.1 k hk.2⟩

/-- A result that is told. -/
theorem fin_of {d d0 : D} {k : D → Prop} (h : k d0) (hi : impA noGh d d0 True) : imp1 d k := ⟨d0, h, fun S w v hR => (impA_sound (fun o ho => by cases ho) hi hR).1⟩

end Go.V
end
section
set_option linter.unusedVariables false
set_option linter.unusedSimpArgs false
namespace Go.V

/-- What a function's body is. -/
def codeOf (fn : Func) : Code := fn.body.getD .skip
def inl (C : Cx) (fn : Func) : CRule := inlC C fn (codeOf fn)
theorem csound_in {P : Program} {C : Cx} {f : Nat} {fn : Func} (hf : P.funcs[f]? = some fn) (hname : (fn.name == "runtime.NumGoroutine") = false) (hb : fn.body = some (codeOf fn)) (hC : CallsOK P C TT) : CSound P f (inl C fn) := csound_of hf hname hb hC
/-- A call leaves with a result and a heap of our choice: as many objects as there were, told as we like. -/
def tidyK (H : HL) (K : Res → HL → Prop) (r : Res) (H' : HL) : Prop := match r with
  | .pan d => K (.pan d) H'
  | .ret d => ∃ (d' : D) (H2 : HL), (idsOK H.length [(0, d')] H2 none = true ∧ lenB H2 H = true) ∧ impA noGh d d' (impH noGh H' H2 (K (.ret d') H2))
def tidy (c : CRule) : CRule := fun ds H K => c ds H (tidyK H K)
theorem tidy_ok {P : Program} {f : Nat} {c : CRule} (h : CSound P f c) : CSound P f (tidy c) := by
  refine ⟨h.enters, fun ds H K hk S w μ vs hr hRL => Calls.mono (h.calls ds H _ hk S w μ vs hr hRL) fun e w' hp => ?_⟩
  obtain ⟨S', μ', r, H', k1, k2, k3, k4⟩ := hp
  cases r with
  | pan d => exact ⟨S', μ', .pan d, H', k1, k2, k3, k4⟩
  | ret d =>
    obtain ⟨d', H2, ⟨hids, hlen⟩, himp⟩ := k1
    cases e with
    | returned v =>
      have k2' : R S' w' μ' d v := k2
      have hst : RelSt none 1 none S' w' μ' ⟨upd (fun _ => .top) 0 d, H', none⟩ { tmps := #[v], defers := [] } := ⟨k3, fun i => by
        cases i with
        | zero => exact k2'
        | succ i => exact .top _, rfl, trivial, .inl rfl⟩
      obtain ⟨μ2, g1, g2, g3⟩ := cut_state (s := ⟨upd (fun _ => .top) 0 d, H', none⟩) (sl := [(0, d')]) (Hg := H2) (H0 := H) (gs := noGh) hst k4 hr.2 (lenB_len hlen) (fun o ho => by cases ho) hids himp
      exact ⟨S', μ2, .ret d', H2, g3, g1.env 0, g1.rel, g2⟩
    | _ => exact k2.elim
theorem csound_mono {P : Program} {f : Nat} {c c' : CRule} (h : CSound P f c) (hi : ∀ ds H K, c' ds H K → c ds H K) : CSound P f c' :=
  ⟨h.enters, fun ds H K hk S w μ vs hr hRL => h.calls ds H K (hi ds H K hk) S w μ vs hr hRL⟩
/-- The rule of a function that turns objects. -/
theorem csound_mk {P : Program} {C : Cx} {f : Nat} {fn : Func} {c : CRule} (hf : P.funcs[f]? = some fn) (hname : (fn.name == "runtime.NumGoroutine") = false) (hb : fn.body = some (codeOf fn)) (hC : CallsOK P C TT) (hi : ∀ ds H K, c ds H K → tidy (inl C fn) ds H K) : CSound P f c :=
  csound_mono (tidy_ok (csound_in hf hname hb hC)) hi
end Go.V
end
section
set_option linter.unusedVariables false
set_option linter.unusedSimpArgs false
namespace Go.V

/-- The kinds of cells. -/
inductive CK where
  | int (k : IntKind)
  | bool
  | str
  | sl (ks : List CK)

def fieldsCK (P : Program) (K : Nat → Option (List CK)) : Nat → List Field → Option (List CK)
  | _, [] => some []
  | off, f :: r => match K f.type with
    | some ks => if f.offset = off ∧ P.cellsOf f.type = ks.length then (fieldsCK P K (off + ks.length) r).map (ks ++ ·) else none
    | none => none
def repCK (ks : List CK) : Nat → List CK
  | 0 => []
  | n + 1 => ks ++ repCK ks n
/-- The kinds of a type's cells. -/
def cks (P : Program) : Nat → Nat → Option (List CK)
  | 0, _ => none
  | f + 1, t => match P.underlying t with
    | some .bool => some [.bool]
    | some (.int k) => some [.int k]
    | some .string => some [.str]
    | some (.slice e) => match cks P f e with
      | some ks => if P.cellsOf e = ks.length ∧ 0 < ks.length then some [.sl ks] else none
      | none => none
    | some (.struct fs) => match fieldsCK P (cks P f) 0 fs.toList with
      | some ks => if P.cellsOf t = ks.length then some ks else none
      | none => none
    | some (.array n e) => match cks P f e with
      | some ks => if P.cellsOf e = ks.length ∧ P.cellsOf t = n * ks.length then some (repCK ks n) else none
      | none => none
    | _ => none

/-- What a cell tells. -/
def Is : Nat → CK → D → Prop
  | 0, _, _ => False
  | _ + 1, .int k, d => ∃ n, d = .int k n ∧ k.min ≤ n ∧ n ≤ k.max
  | _ + 1, .bool, d => ∃ b, d = .bool b
  | _ + 1, .str, d => ∃ s, d = .str s ∧ s.size ≤ 9223372036854775807
  | f + 1, .sl ks, d => ∃ n g, d = .rsl ks.length n g ∧ n ≤ 9223372036854775807 ∧ ∀ i j c, i < n → ks[j]? = some c → Is f c (g i j)
theorem Is.one {f : Nat} {c : CK} {d : D} (h : Is f c d) : one d = true := by
  cases f with
  | zero => exact h.elim
  | succ f =>
    cases c with
    | int k => obtain ⟨n, rfl, _⟩ := h; rfl
    | bool => obtain ⟨b, rfl⟩ := h; rfl
    | str => obtain ⟨s, rfl, _⟩ := h; rfl
    | sl ks => obtain ⟨n, g, rfl, _⟩ := h; rfl

/-- Cells of some kinds, told. -/
def Told (w : World) (f : Nat) (ks : List CK) (cs : List Value) : Prop := ∃ ds : List D, ds.length = ks.length ∧ cs.length = ks.length ∧ (∀ (i : Nat) c d, ks[i]? = some c → ds[i]? = some d → Is f c d) ∧
  ∀ (i : Nat) d v, ds[i]? = some d → cs[i]? = some v → R (fun b => b < w.heap.size) w Mu0 d v
theorem Told.nil (w : World) (f : Nat) : Told w f [] [] := ⟨[], rfl, rfl, fun i c d h => (by simp at h), fun i d v h => (by simp at h)⟩
theorem Told.append {w : World} {f : Nat} {k1 k2 : List CK} {c1 c2 : List Value} (h1 : Told w f k1 c1) (h2 : Told w f k2 c2) : Told w f (k1 ++ k2) (c1 ++ c2) := by
  obtain ⟨d1, a1, b1, e1, r1⟩ := h1
  obtain ⟨d2, a2, b2, e2, r2⟩ := h2
  refine ⟨d1 ++ d2, by simp [a1, a2], by simp [b1, b2], fun i c d hc hd => ?_, fun i d v hd hv => ?_⟩
  · by_cases hi : i < k1.length
    · rw [List.getElem?_append_left hi] at hc
      rw [List.getElem?_append_left (by omega)] at hd
      exact e1 i c d hc hd
    · rw [List.getElem?_append_right (by omega)] at hc
      rw [List.getElem?_append_right (by omega), a1] at hd
      exact e2 _ c d hc hd
  · by_cases hi : i < k1.length
    · rw [List.getElem?_append_left (by omega)] at hd hv
      exact r1 i d v hd hv
    · rw [List.getElem?_append_right (by omega), a1] at hd
      rw [List.getElem?_append_right (by omega), b1] at hv
      exact r2 _ d v hd hv
theorem Told.one {w : World} {f : Nat} {c : CK} {d : D} {v : Value} (h : Is f c d) (hr : R (fun b => b < w.heap.size) w Mu0 d v) : Told w f [c] [v] := by
  refine ⟨[d], rfl, rfl, fun i c' d' hc hd => ?_, fun i d' v' hd hv => ?_⟩
  · cases i with
    | zero => simp at hc hd; subst hc; subst hd; exact h
    | succ i => simp at hc
  · cases i with
    | zero => simp at hd hv; subst hd; subst hv; exact hr
    | succ i => simp at hd

theorem wf_kind {k : IntKind} {n : Int} (h : (Lit.int k n).wf = true) : k.min ≤ n ∧ n ≤ k.max := by
  simpa [Lit.wf] using h

section
variable {H : Type} {enc : TypeId × Value → H} {P : Program} {w : World} {spare : Nat → Bool} {held : Bool}

theorem told_fields {K : Nat → Option (List CK)} {f n : Nat} {cs : List Value} (ih : ∀ t ks cs x, DataW.trod enc P w 0 spare held n t cs = some x → K t = some ks → Told w f ks cs) :
    ∀ {l : List Field} {off : Nat} {ks : List CK}, (∀ (i : Nat) (f : Field), l[i]? = some f → ∃ y, DataW.trod enc P w 0 spare held n f.type ((cs.drop f.offset).take (P.cellsOf f.type)) = some y) →
      fieldsCK P K off l = some ks → Told w f ks ((cs.drop off).take ks.length)
  | [], off, ks, _, h => by
    simp only [fieldsCK, Option.some.injEq] at h
    subst h
    simpa using Told.nil w f
  | fd :: r, off, ks, hf, h => by
    simp only [fieldsCK] at h
    split at h
    · rename_i k1 hk1
      split at h
      · rename_i hc
        obtain ⟨h1, h2⟩ := hc
        rw [Option.map_eq_some_iff] at h
        obtain ⟨k2, hk2, rfl⟩ := h
        obtain ⟨y, hy⟩ := hf 0 fd rfl
        rw [h1, h2] at hy
        have g1 := ih _ _ _ _ hy hk1
        have g2 := told_fields ih (l := r) (fun i f hi => hf (i + 1) f (by simpa using hi)) hk2
        have := g1.append g2
        rwa [← List.drop_drop, ← List.take_add, ← List.length_append] at this
      · cases h
    · cases h

theorem told_rep {f n e : Nat} {cs : List Value} {ks : List CK} (ih : ∀ cs x, DataW.trod enc P w 0 spare held n e cs = some x → Told w f ks cs) (he : P.cellsOf e = ks.length) :
    ∀ (m off : Nat), (∀ i, i < m → ∃ y, DataW.trod enc P w 0 spare held n e ((cs.drop ((off + i) * P.cellsOf e)).take (P.cellsOf e)) = some y) → Told w f (repCK ks m) ((cs.drop (off * ks.length)).take (m * ks.length))
  | 0, off, _ => by simpa [repCK] using Told.nil w f
  | m + 1, off, h => by
    obtain ⟨y, hy⟩ := h 0 (by omega)
    rw [he] at hy
    have g1 := ih _ _ hy
    have g2 := told_rep ih he m (off + 1) fun i hi => by
      have := h (i + 1) (by omega)
      rwa [show off + (i + 1) = off + 1 + i by omega] at this
    have := g1.append g2
    rw [Nat.add_zero, Nat.add_mul, Nat.one_mul, ← List.drop_drop, ← List.take_add] at this
    rwa [repCK, show (m + 1) * ks.length = ks.length + m * ks.length by rw [Nat.add_mul]; omega]

theorem cell_lt {w : World} {a : Addr} {v : Value} (h : w.cell? a = some v) : a.block < w.heap.size := by
  unfold World.cell? at h
  split at h
  · rename_i hb
    exact (Array.getElem?_eq_some_iff.1 hb).1
  · cases h

theorem cells_get {w : World} {a : Addr} {n : Nat} {cs : List Value} (h : w.cells? 0 a n = some cs) : cs.length = n ∧ ∀ j, j < n → w.cell? (a.add j) = cs[j]? := by
  unfold World.cells? at h
  rw [if_pos (Nat.zero_le _)] at h
  exact ⟨by simpa using mapM_some_length h, fun j hj => mapM_some_get h j j (by simp [hj])⟩

theorem add_add (a : Addr) (m n : Nat) (h : (a.add (m + n)).spot = none) : (a.add m).add n = a.add (m + n) := by
  obtain ⟨b, o, s⟩ := a
  unfold Addr.add at *
  by_cases hm : m = 0
  · subst hm; simp
  · by_cases hn : n = 0
    · subst hn; simp [hm]
    · have : m + n ≠ 0 := by omega
      simp [hm, hn, this, Nat.add_assoc]
theorem add_of {a : Addr} {m n : Nat} {v : Value} {w : World} (h : w.cell? ((a.add m).add n) = some v) (h0 : a.spot = none) : w.cell? ⟨a.block, a.off + (m + n), none⟩ = some v := by
  obtain ⟨b, o, s⟩ := a
  simp only at h0
  subst h0
  rw [← h]
  unfold Addr.add
  by_cases hm : m = 0
  · subst hm
    by_cases hn : n = 0
    · subst hn; simp
    · simp [hn]
  · by_cases hn : n = 0
    · subst hn; simp [hm]
    · simp [hm, hn, Nat.add_assoc]

theorem told_of_trod : ∀ (f : Nat) {n t : Nat} {cs : List Value} {x : DataW H × List MemPlace} {ks : List CK}, DataW.trod enc P w 0 spare held n t cs = some x → cks P f t = some ks → Told w f ks cs
  | 0, n, t, cs, x, ks, _, h => by cases h
  | f + 1, n, t, cs, x, ks, ht, h => by
    have up : ∀ {ks : List CK} {cs : List Value}, Told w f ks cs → Told w (f + 1) ks cs := by
      intro ks cs h
      obtain ⟨ds, a, b, e, r⟩ := h
      have mono : ∀ (f : Nat) (c : CK) (d : D), Is f c d → Is (f + 1) c d := by
        intro f
        induction f with
        | zero => intro c d h; exact h.elim
        | succ f ih =>
          intro c d h
          cases c with
          | int k => exact h
          | bool => exact h
          | str => exact h
          | sl ks => obtain ⟨n, g, rfl, hn, hg⟩ := h; exact ⟨n, g, rfl, hn, fun i j c hi hj => ih c _ (hg i j c hi hj)⟩
      exact ⟨ds, a, b, fun i c d hc hd => mono f c d (e i c d hc hd), r⟩
    simp only [cks] at h
    split at h
    · rename_i hu
      obtain ⟨b, rfl, _⟩ := DataW.trod_bool hu ht
      cases h
      exact .one (d := .bool b) ⟨b, rfl⟩ (.bool b)
    · rename_i k hu
      obtain ⟨m, rfl, _, hw⟩ := DataW.trod_int hu ht
      cases h
      exact .one (d := .int k m) ⟨m, rfl, wf_kind hw⟩ (.int k m)
    · rename_i hu
      obtain ⟨s, rfl, _, hs⟩ := DataW.trod_string hu ht
      cases h
      exact .one (d := .str s) ⟨s, rfl, by unfold maxLen at hs; omega⟩ (.str s)
    · rename_i e hu
      split at h
      · rename_i ks' hks
        split at h
        · rename_i hc
          obtain ⟨hc1, hc2⟩ := hc
          cases h
          rcases DataW.trod_slice hu ht with ⟨rfl, _⟩ | ⟨a, len, cap, elems, rest, m, _, rfl, _, _, hl, hm, hlen, hel, _, _⟩
          · exact .one (d := .rsl ks'.length 0 fun _ _ => .top) ⟨0, _, rfl, by omega, fun i j c hi => absurd hi (by omega)⟩ (.rsl _ 0 _ none 0 (fun _ _ => undef) (Nat.le_refl _) (fun h => absurd h (by omega)) (fun i j hi => absurd hi (by omega)))
          · have hrow : ∀ i, i < len → ∃ cs' : List Value, w.cells? 0 (a.add (i * ks'.length)) ks'.length = some cs' ∧ Told w f ks' cs' := fun i hi => by
              have h1 := hel i hi
              rw [List.getElem?_eq_getElem (by omega)] at h1
              rw [Option.bind_eq_some_iff] at h1
              obtain ⟨cs', h2, h3⟩ := h1
              rw [hc1] at h2
              exact ⟨cs', h2, told_of_trod f h3 hks⟩
            have hex : ∀ i, ∃ (cs' : List Value) (ds : List D), i < len → w.cells? 0 (a.add (i * ks'.length)) ks'.length = some cs' ∧ ds.length = ks'.length ∧ (∀ (j : Nat) c d, ks'[j]? = some c → ds[j]? = some d → Is f c d) ∧
                ∀ (j : Nat) d v, ds[j]? = some d → cs'[j]? = some v → R (fun b => b < w.heap.size) w Mu0 d v := fun i => by
              by_cases hi : i < len
              · obtain ⟨cs', h1, ds, h2, h3, h4, h5⟩ := hrow i hi
                exact ⟨cs', ds, fun _ => ⟨h1, h2, h4, h5⟩⟩
              · exact ⟨[], [], fun h => absurd h hi⟩
            obtain ⟨csf, hcs⟩ := Classical.axiomOfChoice hex
            obtain ⟨dsf, hds⟩ := Classical.axiomOfChoice hcs
            have hcell : ∀ i j, i < len → j < ks'.length → ∃ v, (csf i)[j]? = some v ∧ w.cell? ((a.add (i * ks'.length)).add j) = some v := fun i j hi hj => by
              obtain ⟨h1, h2, _⟩ := hds i hi
              obtain ⟨g1, g2⟩ := cells_get h1
              refine ⟨(csf i)[j]'(by omega), List.getElem?_eq_getElem _, ?_⟩
              rw [g2 j hj, List.getElem?_eq_getElem]
            have hg : ∀ i j, i < len → j < ks'.length → ∃ d v, (dsf i)[j]? = some d ∧ (dsf i).getD j .top = d ∧ (csf i)[j]? = some v ∧ (csf i).getD j undef = v ∧ R (fun b => b < w.heap.size) w Mu0 d v ∧ v.oneCell' = true := fun i j hi hj => by
              obtain ⟨h1, h2, h3, h4⟩ := hds i hi
              obtain ⟨v, v1, v2⟩ := hcell i j hi hj
              have hd : (dsf i)[j]? = some ((dsf i)[j]'(by omega)) := List.getElem?_eq_getElem _
              have hr := h4 j _ v hd v1
              have hk : ks'[j]? = some (ks'[j]) := List.getElem?_eq_getElem _
              exact ⟨_, v, hd, by rw [List.getD_eq_getElem?_getD, hd]; rfl, v1, by rw [List.getD_eq_getElem?_getD, v1]; rfl, hr, hr.one (h3 j _ _ hk hd).one⟩
            refine .one (d := .rsl ks'.length len fun i j => (dsf i).getD j .top) ⟨len, _, rfl, by unfold maxLen at hm; omega, fun i j c hi hc => ?_⟩ ?_
            · have hj : j < ks'.length := (List.getElem?_eq_some_iff.1 hc).1
              obtain ⟨d, v, h1, h2, _⟩ := hg i j hi hj
              show Is f c ((dsf i).getD j .top)
              rw [h2]
              exact (hds i hi).2.2.1 j c d hc h1
            · refine .rsl ks'.length len _ (some a) cap (fun i j => (csf i).getD j undef) hl (fun h0 => ?_) fun i j hi hj => ?_
              · have hspot : a.spot = none := by
                  obtain ⟨v, _, h1⟩ := hcell 0 0 h0 hc2
                  simpa [Addr.add] using World.cell?_spot h1
                have hlt : a.block < w.heap.size := by
                  obtain ⟨v, _, h1⟩ := hcell 0 0 h0 hc2
                  simpa [Addr.add] using cell_lt h1
                obtain ⟨ab, ao, asp⟩ := a
                simp only at hspot hlt
                subst hspot
                refine ⟨ab, ao, rfl, hlt, fun i j hi hj => ?_⟩
                obtain ⟨d, v, _, _, h3, h4, _, h6⟩ := hg i j hi hj
                obtain ⟨v', h7, h8⟩ := hcell i j hi hj
                rw [h3] at h7
                cases h7
                show w.cell? ⟨ab, ao + (i * ks'.length + j), none⟩ = some ((csf i).getD j undef) ∧ ((csf i).getD j undef).oneCell' = true
                rw [h4]
                exact ⟨add_of h8 rfl, h6⟩
              · obtain ⟨d, v, _, h2, _, h4, h5, _⟩ := hg i j hi hj
                show R (fun b => b < w.heap.size) w Mu0 ((dsf i).getD j .top) ((csf i).getD j undef)
                rw [h2, h4]
                exact h5
        · cases h
      · cases h
    · rename_i fs hu
      split at h
      · rename_i ks' hks
        split at h
        · rename_i hc
          cases h
          obtain ⟨xs, m, _, _, hl, hlen, hf⟩ := DataW.trod_struct hu ht
          have g := told_fields (n := m) (w := w) (cs := cs) (fun t ks cs x h1 h2 => told_of_trod f h1 h2) (l := fs.toList) (off := 0) (fun i fd hi => by
            have h1 := hf i fd (by simpa using hi)
            have h2 : i < xs.length := by rw [hlen]; simpa using (List.getElem?_eq_some_iff.1 hi).1
            rw [List.getElem?_eq_getElem h2] at h1
            exact ⟨_, h1⟩) hks
          rw [List.drop_zero, ← hc, ← hl, List.take_length] at g
          exact up g
        · cases h
      · cases h
    · rename_i m e hu
      split at h
      · rename_i ks' hks
        split at h
        · rename_i hc
          obtain ⟨hc1, hc2⟩ := hc
          cases h
          obtain ⟨xs, m', _, _, hl, hlen, hf⟩ := DataW.trod_array hu ht
          have g := told_rep (n := m') (w := w) (cs := cs) (ks := ks') (e := e) (fun cs x h1 => told_of_trod f h1 hks) hc1 m 0 (fun i hi => by
            have h1 := hf i hi
            rw [List.getElem?_eq_getElem (by omega)] at h1
            rw [Nat.zero_add]
            exact ⟨_, h1⟩)
          rw [Nat.zero_mul, List.drop_zero, ← hc2, ← hl, List.take_length] at g
          exact up g
        · cases h
      · cases h
    · cases h

/-- Arguments: one cell, or several. -/
inductive AK where
  | one (c : CK)
  | agg (ks : List CK)
def akOf (P : Program) (t : Nat) : Option AK := match P.underlying t with
  | some (.struct _) => (cks P 8 t).map .agg
  | some (.array _ _) => (cks P 8 t).map .agg
  | some (.bool) | some (.int _) | some .string | some (.slice _) => match cks P 8 t with
    | some [c] => some (.one c)
    | _ => none
  | _ => none
def IsA (a : AK) (d : D) : Prop := match a with
  | .one c => Is 8 c d
  | .agg ks => ∃ ds : List D, d = .agg ds ∧ ds.length = ks.length ∧ ∀ (i : Nat) c d, ks[i]? = some c → ds[i]? = some d → Is 8 c d
def IsAL : List AK → List D → Prop
  | [], [] => True
  | a :: r, d :: s => IsA a d ∧ IsAL r s
  | _, _ => False
def aksOf (P : Program) : List Nat → Option (List AK)
  | [] => some []
  | t :: r => match akOf P t, aksOf P r with
    | some a, some l => some (a :: l)
    | _, _ => none

theorem isA_of_trod {t : Nat} {v : Value} {d : DataW H} {ps : List MemPlace} {a : AK} {base : Nat} (h : DataW.Trod enc P w 0 spare held t v d ps) (hok : Value.okWide P w .any base t v) (ha : akOf P t = some a) :
    ∃ d', IsA a d' ∧ R (fun b => b < w.heap.size) w Mu0 d' v := by
  obtain ⟨n, hn⟩ := h
  have agg : ∀ ks cs, v = .agg cs → cks P 8 t = some ks → ∃ d', IsA (.agg ks) d' ∧ R (fun b => b < w.heap.size) w Mu0 d' v := by
    intro ks cs hv hks
    subst hv
    obtain ⟨ds, h1, h2, h3, h4⟩ := told_of_trod 8 hn hks
    have h2' : cs.size = ks.length := by simpa [Value.cells] using h2
    exact ⟨.agg ds, ⟨ds, rfl, h1, h3⟩, .agg ds cs (by rw [h1, h2']) fun i d v hd hv => h4 i d v hd (by simpa [Value.cells] using hv)⟩
  have one : ∀ c, v.cells = #[v] → cks P 8 t = some [c] → ∃ d', IsA (.one c) d' ∧ R (fun b => b < w.heap.size) w Mu0 d' v := by
    intro c hv hks
    obtain ⟨ds, h1, h2, h3, h4⟩ := told_of_trod 8 hn hks
    rw [hv] at h2 h4
    match ds, h1 with
    | [d], _ => exact ⟨d, h3 0 c d rfl rfl, h4 0 d v rfl rfl⟩
  unfold akOf at ha
  unfold Value.okWide at hok
  split at ha
  · rename_i fs hu
    rw [hu] at hok
    obtain ⟨cs, hv, _⟩ := hok
    rw [Option.map_eq_some_iff] at ha
    obtain ⟨ks, hks, rfl⟩ := ha
    exact agg ks cs hv hks
  · rename_i m e hu
    rw [hu] at hok
    obtain ⟨cs, hv, _⟩ := hok
    rw [Option.map_eq_some_iff] at ha
    obtain ⟨ks, hks, rfl⟩ := ha
    exact agg ks cs hv hks
  all_goals first
    | (rename_i hu
       rw [hu] at hok
       split at ha
       · rename_i c hks
         cases ha
         refine one c ?_ hks
         cases v <;> simp [Cell.okWide, Cell.ok, hu] at hok <;> rfl
       · cases ha)
    | cases ha

theorem isAL_of_trod {base : Nat} : ∀ {ts : List Nat} {vs : List Value} {ds : List (DataW H)} {ps : List MemPlace} {l : List AK}, DataW.TrodAll enc P w 0 spare held ts vs ds ps →
    (∀ (j : Nat) t v, ts[j]? = some t → vs[j]? = some v → Value.okWide P w .any base t v) → aksOf P ts = some l → ∃ ds', IsAL l ds' ∧ RL (fun b => b < w.heap.size) w Mu0 ds' vs
  | [], vs, ds, ps, l, h, _, hl => by
    obtain ⟨rfl, _, _⟩ := ChangeShapes.trodAll_nil h
    cases hl
    exact ⟨[], trivial, rfl, fun i d v h => by simp at h⟩
  | t :: ts, vs, ds, ps, l, h, hok, hl => by
    obtain ⟨v, vs1, d, ds1, p1, p2, rfl, _, _, h1, h2⟩ := ChangeShapes.trodAll_cons h
    simp only [aksOf] at hl
    split at hl
    · rename_i a l' ha hl'
      cases hl
      obtain ⟨d', g1, g2⟩ := isA_of_trod h1 (hok 0 t v rfl rfl) ha
      obtain ⟨ds', g3, g4⟩ := isAL_of_trod h2 (fun j t v a b => hok (j + 1) t v (by simpa using a) (by simpa using b)) hl'
      refine ⟨d' :: ds', ⟨g1, g3⟩, by simp [g4.1], fun i x y hx hy => ?_⟩
      cases i with
      | zero => simp at hx hy; subst hx; subst hy; exact g2
      | succ i => exact g4.2 i x y (by simpa using hx) (by simpa using hy)
    · cases hl
end

/-- Kinds that are all whole numbers. -/
def allI : List CK → Bool
  | [] => true
  | .int .i64 :: r => allI r
  | _ => false
theorem allI_get : ∀ {ks : List CK}, allI ks = true → ∀ j, j < ks.length → ks[j]? = some (.int .i64)
  | [], _, j, hj => absurd hj (Nat.not_lt_zero _)
  | c :: r, h, j, hj => by
    unfold allI at h
    split at h
    · rename_i heq; cases heq
    · rename_i heq
      cases heq
      cases j with
      | zero => rfl
      | succ j => exact allI_get h j (by simpa using hj)
    · cases h
theorem IM_of {f n : Nat} {ks : List CK} {g : Nat → Nat → D} (h : ∀ i j c, i < n → ks[j]? = some c → Is (f + 1) c (g i j)) (hk : allI ks = true) : IM n ks.length g := fun i j hi hj => by
  obtain ⟨x, hx, _⟩ := h i j _ hi (allI_get hk j hj)
  simp only [imD, im, hx, toI]
theorem SM_of {f n : Nat} {ks : List CK} {g : Nat → Nat → D} (h : ∀ i j c, i < n → (.str :: ks)[j]? = some c → Is (f + 1) c (g i j)) (hk : allI ks = true) : SM n (ks.length + 1) g ∧ ∀ i, i < n → (nmOf g i).size ≤ 9223372036854775807 := by
  have hs : ∀ i, i < n → ∃ s, g i 0 = .str s ∧ s.size ≤ 9223372036854775807 := fun i hi => h i 0 _ hi rfl
  refine ⟨fun i j hi hj => ?_, fun i hi => ?_⟩
  · cases j with
    | zero =>
      obtain ⟨s, hs, _⟩ := hs i hi
      simp only [smD, nmOf, hs, toS]
    | succ j =>
      obtain ⟨x, hx, _⟩ := h i (j + 1) (.int .i64) hi (by simpa using allI_get hk j (by omega))
      simp only [smD, imS, hx, toI]
  · obtain ⟨s, hs, h2⟩ := hs i hi
    simp only [nmOf, hs, toS]
    exact h2

section
variable {H : Type} {enc : TypeId × Value → H} {P : Program}
theorem trodAll_stays (hl : laidOutB P = true) {W W' : World} (hb : RowKit.Below W.heap.size W W') {sp : Nat → Bool} : ∀ {ts : List Nat} {vs : List Value} {ds : List (DataW H)} {ps : List MemPlace}, (∀ t ∈ ts, P.readableRec t = true ∧ t < P.types.size) →
    DataW.TrodAll enc P W 0 (fun _ => true) true ts vs ds ps → (∀ p ∈ ps, p.block < W.heap.size) → (∀ p ∈ ps, sp p.block = true) → DataW.TrodAll enc P W' 0 sp true ts vs ds ps
  | [], vs, ds, ps, _, h, _, _ => by
    obtain ⟨rfl, rfl, rfl⟩ := ChangeShapes.trodAll_nil h
    exact rfl
  | t :: ts, vs, ds, ps, ht, h, hlt, hs => by
    obtain ⟨v, vs1, d, ds1, p1, p2, rfl, rfl, rfl, h1, h2⟩ := ChangeShapes.trodAll_cons h
    exact ⟨p1, p2, WideElems.Trod_stays hl (ht t (List.mem_cons_self ..)).1 (ht t (List.mem_cons_self ..)).2 h1 (fun p hp => hb.same (hlt p (List.mem_append_left _ hp))) (fun p hp => hs p (List.mem_append_left _ hp)),
      trodAll_stays hl hb (fun t ht' => ht t (List.mem_cons_of_mem _ ht')) h2 (fun p hp => hlt p (List.mem_append_right _ hp)) (fun p hp => hs p (List.mem_append_right _ hp)), rfl⟩

/-- A law's function: what its contract tells is the statement. -/
theorem law_contract {f tb : Nat} {fn : Func} {s : ChangeSpec} {rule : List D → Option (Prop × D)} {l : List AK} {fresh handsOn again : Bool} (hl : laidOutB P = true) (hs : PSound P f (mk rule)) (ha : aksOf P fn.params.toList = some l)
    (hread : (fn.params.toList.all fun t => P.readableRec t && decide (t < P.types.size)) = true) (hres : fn.resultTypes = #[tb]) (htb : P.underlying tb = some .bool)
    (hrule : ∀ ds, IsAL l ds → ∃ p d, rule ds = some (p, d) ∧ p ∧ (d = .tt ∨ d = .bool true)) (hvars : s.vars = [])
    (hfn : ∀ ds : List (DataW H), ds.length = fn.params.size → (s.fn H ds).results = [.lit (.bool true)] ∧ (s.fn H ds).args = ds ∧ (s.fn H ds).vars = [])
    (W : World) (base : Nat) (args : Array Value) (ds gs : List (DataW H)) (before : List MemPlace)
    (hok : ∀ (j : Nat) t v, fn.params[j]? = some t → args[j]? = some v → Value.okWide P W .any base t v)
    (hW : DataW.Whole enc P fn.params.toList s.vars false W args.toList ds gs before) :
    Calls P f args W fun e W' => ∃ v, e = .returned v ∧ s.post enc P fn false fresh handsOn again W args v W' := by
  have hWW := hW
  obtain ⟨p, q, hA, hV, rfl, hfz, _⟩ := hW
  rw [hvars] at hV
  obtain ⟨rfl, rfl⟩ := ChangeShapes.trodVars_none hV
  obtain ⟨ds', h1, h2⟩ := isAL_of_trod hA (fun j t v ht hv => hok j t v (by simpa using ht) (by simpa using hv)) ha
  obtain ⟨pr, d, hr, hp, hd⟩ := hrule ds' h1
  have hlen : ds.length = fn.params.size := by simpa using (trodAll_length hA).2
  have hk : mk rule ds' (fun x => x = d) := by unfold mk; rw [hr]; exact ⟨hp, rfl⟩
  have hc := hs.calls ds' _ hk (fun b => b < W.heap.size) W args.toList (fun b hb => hb) h2
  rw [Array.toArray_toList] at hc
  refine hc.mono ?_
  rintro e W' ⟨v, S', d1, rfl, rfl, hR, hg⟩
  have hv : v = .bool true := by
    rcases hd with rfl | rfl
    · cases hR; rfl
    · cases hR; rfl
  subst hv
  have hb : RowKit.Below W.heap.size W W' := ⟨hg.os, hg.tape, hg.output, hg.size, hg.block⟩
  obtain ⟨f1, f2, f3⟩ := hfn (ds ++ []) (by simpa using hlen)
  have hlt : ∀ x ∈ p ++ [], x.block < W.heap.size := fun x hx => by simpa using hWW.lt x hx
  have hlt' : ∀ x ∈ p, x.block < W.heap.size := fun x hx => hlt x (by simpa using hx)
  have hread' : ∀ t ∈ fn.params.toList, P.readableRec t = true ∧ t < P.types.size := fun t ht => by
    have := List.all_eq_true.1 hread t ht
    simpa using this
  have hbool : ∀ (b : Nat) (sp : Nat → Bool) (hd : Bool), DataW.TrodAll enc P W' b sp hd fn.resultTypes.toList ((Value.bool true).resultList fn.resultTypes.size) [.lit (.bool true)] [] := fun b sp hd => by
    rw [hres]
    exact ⟨[], [], RowKit.shut_bool htb true, rfl, rfl⟩
  have hokr : ∀ (j : Nat) (t : TypeId) (r : Value), fn.resultTypes[j]? = some t → ((Value.bool true).resultList fn.resultTypes.size)[j]? = some r → Value.okWide P W' .any 0 t r := fun j t r h1 h2 => by
    rw [hres] at h1 h2
    cases j with
    | zero =>
      simp at h1
      subst h1
      have h2' : some (Value.bool true) = some r := h2
      cases h2'
      exact RowKit.okWide_bool_mk htb true
    | succ j => simp at h1
  refine ⟨_, rfl, ds, [], p ++ [], [], p, [], hWW, by rw [f1]; exact hbool _ _ _, ?_, by rw [hvars, f3]; exact rfl, hb.frame _, fun _ => ⟨hokr, [.lit (.bool true)] ++ ds, [], p, ?_, fun x hx _ => by simpa using hx⟩⟩
  · rw [f2, List.append_nil]
    exact trodAll_stays hl hb hread' hA hlt' fun x hx => decide_eq_true (hlt' x hx)
  · refine ⟨[] ++ p, [], ?_, by rw [hvars]; exact rfl, by simp, fun b off hbo => ?_, fun h => by cases h⟩
    · exact ChangeShapes.trodAll_append (trodAll_stays hl hb hread' hA hlt' fun _ _ => rfl) (hbool _ _ _)
    · have hm : MemPlace.cell b off ∈ p := by simpa using hbo
      rw [hb.frozen (p := ⟨b, off, none⟩) (hlt' _ hm)]
      exact hfz b off (by simpa using hm)
end
end Go.V
end
