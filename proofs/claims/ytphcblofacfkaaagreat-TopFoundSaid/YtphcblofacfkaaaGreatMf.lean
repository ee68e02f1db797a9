/-
  A small logic of our own, part 13: a table of types, checked by computation.
-/
import Derived.Test.YtphcblofacfkaaaGreatMe
import Derived.DeepKeys4
import Derived.StringKeys
import Derived.Test.YtphcblofacfkaaaGreatProg
import Derived.ProofKit
import Derived.OpenShut
import Derived.ChangeCalls
set_option linter.unusedVariables false
set_option linter.unusedSimpArgs false
set_option maxRecDepth 100000
section
namespace Go.V
def szB (P : Program) (t n : Nat) : Bool := match P.info? t with
  | some i => i.size == n
  | none => false
def fieldsB (P : Program) : List Field → List (Nat × Nat × Nat) → Bool
  | [], [] => true
  | f :: r, x :: s => f.offset == x.1 && f.type == x.2.1 && szB P f.type x.2.2 && x.2.2 != 0 && fieldsB P r s
  | _, _ => false
def fieldsK (P : Program) : Nat → List Field → Bool
  | _, [] => true
  | i, f :: r => f.offset == i && f.name != "_" && (match P.underlying f.type with | some (.int .i64) => true | _ => false) && P.cellsOf f.type == 1 && fieldsK P (i + 1) r
def ksB (P : Program) (k : Nat) : KS → Bool
  | .str => (match P.underlying k with | some .string => true | _ => false)
  | .int q => (match P.underlying k with | some (.int q') => keq q' q | _ => false)
  | .ints m => (match P.underlying k with | some (.struct fields) => fieldsK P 0 fields.toList && fields.size == m | _ => false) && P.cellsOf k == m && P.keyType k && Nat.blt k P.types.size && P.keyTypeAt 9 k && laidOutB P
def isZ : Value → Bool
  | .int .i64 n => decide (n = 0)
  | _ => false
def ekB (P : Program) (e : Nat) : EK → Bool
  | .bool => (match P.info? e with | some i => (match i.zero with | some (.bool false) => true | _ => false) | none => false)
  | .ints m => (match P.info? e with | some i => (match i.zero with | some (.agg cs) => cs.toList.all isZ && cs.toList.length == m | _ => false) | none => false)
theorem ekB_ok {P : Program} {e : Nat} {ek : EK} (h : ekB P e ek = true) (w : World) : (zeroValue e).run P w = .ok (elemV ek fun _ => 0) w := by
  have key : ∀ {i : TypeInfo} {z : Value}, P.info? e = some i → i.zero = some z → (zeroValue e).run P w = .ok z w := fun hi hz => by simp [zeroValue, typeInfo, hi, hz]
  cases ek with
  | bool =>
    simp only [ekB] at h
    split at h
    · rename_i i hi
      split at h
      · rename_i hz
        rw [key hi hz]
        simp [elemV]
      · cases h
    · cases h
  | ints m =>
    simp only [ekB] at h
    split at h
    · rename_i i hi
      split at h
      · rename_i cs hz
        rw [key hi hz]
        simp only [Bool.and_eq_true, beq_iff_eq] at h
        obtain ⟨h1, h2⟩ := h
        simp only [elemV]
        congr 2
        apply Array.ext_getElem?
        intro j
        by_cases hj : j < m
        · have hj' : j < cs.size := by simpa using (h2 ▸ hj : j < cs.toList.length)
          have hz := List.all_eq_true.1 h1 cs[j] (by simp)
          have : cs[j] = Value.int .i64 0 := by
            generalize cs[j] = v at hz
            cases v with
            | int k n => cases k <;> simp [isZ] at hz; rw [hz]
            | _ => simp [isZ] at hz
          simp [hj, hj', this]
        · have hj' : ¬ j < cs.size := fun hh => hj (by rw [← h2]; simpa using hh)
          simp [hj, hj']
      · cases h
    · cases h
theorem fieldsK_mapM {P : Program} {ns : List Int} (hw : ∀ n ∈ ns, (Lit.int .i64 n).wf = true) {d : Nat} : ∀ {l : List Field} {i : Nat}, fieldsK P i l = true → i + l.length ≤ ns.length →
    ∃ r, l.mapM (fun f => P.keyLits (d + 1) f.type (((ns.map (Value.int .i64)).drop f.offset).take (P.cellsOf f.type))) = some r
  | [], i, _, _ => ⟨[], rfl⟩
  | f :: l, i, h, hl => by
    simp only [fieldsK, Bool.and_eq_true, beq_iff_eq] at h
    obtain ⟨⟨⟨⟨h1, h2⟩, h3⟩, h4⟩, h5⟩ := h
    simp only [List.length_cons] at hl
    obtain ⟨r, hr⟩ := fieldsK_mapM (d := d) hw h5 (by omega)
    have hu : P.underlying f.type = some (.int .i64) := by
      split at h3
      · rename_i hu; exact hu
      · cases h3
    have hi : i < ns.length := by omega
    have e : ((ns.map (Value.int .i64)).drop i).take 1 = [Value.int .i64 ns[i]] := by
      rw [List.drop_eq_getElem_cons (by simpa using hi)]
      simp
    refine ⟨[.int .i64 ns[i]] :: r, ?_⟩
    rw [List.mapM_cons, hr, h1, h4, e]
    simp [Program.keyLits, hu, hw ns[i] (List.getElem_mem hi)]
theorem fieldsK_names {P : Program} : ∀ {l : List Field} {i : Nat}, fieldsK P i l = true → ∀ f ∈ l, (f.name != "_") = true
  | [], i, _, f, hf => by cases hf
  | g :: l, i, h, f, hf => by
    simp only [fieldsK, Bool.and_eq_true] at h
    rcases List.mem_cons.1 hf with rfl | hf
    · exact h.1.1.1.2
    · exact fieldsK_names h.2 f hf
theorem ksB_ok {P : Program} {k : Nat} {ks : KS} (h : ksB P k ks = true) : Go.Maps.Keyed P k ∧ ∀ v, keyOK ks v → ∃ l, keyOf P k v = some l := by
  cases ks with
  | str =>
    simp only [ksB] at h
    split at h
    · rename_i hu
      refine ⟨Go.Maps.string_keyed hu, fun v hv => ?_⟩
      obtain ⟨s, rfl, hs⟩ := hv
      exact ⟨_, Go.WideMaps.keyOf_string_mk hu hs⟩
    · cases h
  | int q =>
    simp only [ksB] at h
    split at h
    · rename_i q' hu
      rw [keq_eq h] at hu
      refine ⟨Go.Maps.int_keyed hu, fun v hv => ?_⟩
      obtain ⟨n, rfl, hn⟩ := hv
      exact ⟨_, Go.Maps.keyOf_int_mk hu hn⟩
    · cases h
  | ints m =>
    simp only [ksB, Bool.and_eq_true, beq_iff_eq] at h
    obtain ⟨⟨⟨⟨⟨h1, h2⟩, h3⟩, h4⟩, h5⟩, h6⟩ := h
    split at h1
    · rename_i fields hu
      simp only [Bool.and_eq_true, beq_iff_eq] at h1
      obtain ⟨f1, f2⟩ := h1
      refine ⟨Go.Maps.Keyed.of_law (deep_law_laid h6 (m := 9) (by decide) ((blt_iff _ _).1 h4) h5 (by rw [hu])), fun v hv => ?_⟩
      obtain ⟨ns, hl, rfl, hw⟩ := hv
      have hsz : ∃ d, P.types.size = d + 1 := ⟨P.types.size - 1, by have := (blt_iff _ _).1 h4; omega⟩
      obtain ⟨d, hd⟩ := hsz
      obtain ⟨r, hr⟩ := fieldsK_mapM (P := P) (d := d) hw f1 (by simp; omega)
      have hall : fields.all (·.name != "_") = true := by
        rw [← Array.all_toList]
        exact List.all_eq_true.2 (fieldsK_names f1)
      have hlits : P.keyLits (P.types.size + 1) k (ns.map (Value.int .i64)) = some r.flatten := by
        rw [hd]
        unfold Program.keyLits
        simp only [hu]
        rw [if_pos ⟨by simp [hl, h2], hall⟩, hr]
        rfl
      refine ⟨.string (keyBytes r.flatten), ?_⟩
      simp only [keyOf, hu]
      rw [if_pos (by simp [h3, Value.formed, hu, hl, h2])]
      simp only [Value.cells]
      rw [hlits]
      rfl
    · cases h1
def tyB (P : Program) (t : Nat) : Ty → Bool
  | .int k => (match P.underlying t with | some (.int k') => keq k' k | _ => false) && szB P t 1
  | .bool => (match P.underlying t with | some .bool => true | _ => false) && szB P t 1
  | .str => (match P.underlying t with | some .string => true | _ => false) && szB P t 1
  | .struct sz fs => (match P.underlying t with | some (.struct fields) => fieldsB P fields.toList fs | _ => false) && szB P t sz
  | .array n e es sz => (match P.underlying t with | some (.array n' e') => n' == n && e' == e | _ => false) && szB P t sz && szB P e es
  | .slice e es eb => (match P.underlying t with | some (.slice e') => e' == e | _ => false) && szB P t 1 && szB P e es && Nat.blt 0 es && (match P.info? e with
    | some i => (match i.zero with | some z => i.size == es && i.bytes == eb && z.cells.size == es && z.cells.toList.all (·.oneCell') | none => false)
    | none => false)
  | .map ks ek k e => (match P.underlying t with | some (.map k' e') => k' == k && e' == e | _ => false) && szB P t 1 && ksB P k ks && ekB P e ek
  | .ptr e => (match P.underlying t with | some (.pointer e') => e' == e | _ => false) && szB P t 1
  | .iface => (match P.underlying t with | some (.interface _) => true | _ => false) && szB P t 1
  | .other => (match P.underlying t with | some d => plainT d | none => false) && szB P t 1
  | .no => true
theorem szB_ok {P : Program} {t n : Nat} (h : szB P t n = true) : szOf P t n := by
  unfold szB at h
  unfold szOf
  split at h
  · rename_i i hi
    rw [hi]
    simpa using h
  · cases h
theorem fieldsB_ok {P : Program} : ∀ {fs : List Field} {l : List (Nat × Nat × Nat)}, fieldsB P fs l = true →
    (∀ (i : Nat) x, l[i]? = some x → ∃ f, fs[i]? = some f ∧ f.offset = x.1 ∧ f.type = x.2.1 ∧ szOf P f.type x.2.2 ∧ x.2.2 ≠ 0) ∧ fs.mapM (fun f => (P.info? f.type).map fun i => (f.offset, i.size)) = some (l.map fun x => (x.1, x.2.2))
  | [], [], _ => ⟨fun i x h => by simp at h, rfl⟩
  | f :: r, x :: s, h => by
    simp only [fieldsB, Bool.and_eq_true, beq_iff_eq, bne_iff_ne] at h
    obtain ⟨⟨⟨⟨h1, h2⟩, h3⟩, h4⟩, h5⟩ := h
    obtain ⟨g1, g2⟩ := fieldsB_ok h5
    refine ⟨fun i y hy => ?_, ?_⟩
    · cases i with
      | zero => simp at hy; subst hy; exact ⟨f, rfl, h1, h2, szB_ok h3, h4⟩
      | succ i => exact g1 i y (by simpa using hy)
    · have := szB_ok h3
      unfold szOf at this
      cases hi : P.info? f.type with
      | none => simp [hi] at this
      | some i =>
        simp [hi] at this
        rw [List.mapM_cons, g2]
        simp [hi, h1, this]
  | [], _ :: _, h => by cases h
  | _ :: _, [], h => by cases h
theorem tyB_ok {P : Program} {t : Nat} {T : Ty} (h : tyB P t T = true) : tyOK P t T := by
  cases T <;> simp only [tyB, Bool.and_eq_true] at h <;> simp only [tyOK]
  case int k =>
    refine ⟨?_, szB_ok h.2⟩
    have h1 := h.1
    split at h1
    · rename_i k' hu; rw [hu, keq_eq h1]
    · cases h1
  case bool =>
    refine ⟨?_, szB_ok h.2⟩
    have h1 := h.1
    split at h1
    · rename_i hu; exact hu
    · cases h1
  case str =>
    refine ⟨?_, szB_ok h.2⟩
    have h1 := h.1
    split at h1
    · rename_i hu; exact hu
    · cases h1
  case struct sz fs =>
    have h1 := h.1
    split at h1
    · rename_i fields hu
      obtain ⟨g1, g2⟩ := fieldsB_ok h1
      exact ⟨fields, hu, szB_ok h.2, fun i x hx => let ⟨f, a, b⟩ := g1 i x hx; ⟨f, by simpa using a, b⟩, g2⟩
    · cases h1
  case array n e es sz =>
    refine ⟨?_, szB_ok h.1.2, szB_ok h.2⟩
    have h1 := h.1.1
    split at h1
    · rename_i n' e' hu
      simp only [Bool.and_eq_true, beq_iff_eq] at h1
      rw [hu, h1.1, h1.2]
    · cases h1
  case slice e es eb =>
    obtain ⟨⟨⟨⟨h1, h2⟩, h3⟩, h4⟩, h5⟩ := h
    refine ⟨?_, szB_ok h2, szB_ok h3, (blt_iff _ _).1 h4, ?_⟩
    · split at h1
      · rename_i e' hu; rw [hu, eq_of_beq h1]
      · cases h1
    · split at h5
      · rename_i i hi
        split at h5
        · rename_i z hz
          simp only [Bool.and_eq_true, beq_iff_eq] at h5
          exact ⟨i, z, hi, hz, h5.1.1.1, h5.1.1.2, h5.1.2, fun v hv => List.all_eq_true.1 h5.2 v hv⟩
        · cases h5
      · cases h5
  case map ks ek k e =>
    refine ⟨?_, szB_ok h.1.1.2, (ksB_ok h.1.2).1, (ksB_ok h.1.2).2, fun w => ekB_ok h.2 w⟩
    have h1 := h.1.1.1
    split at h1
    · rename_i k' e' hu
      simp only [Bool.and_eq_true, beq_iff_eq] at h1
      rw [hu, h1.1, h1.2]
    · cases h1
  case ptr e =>
    refine ⟨?_, szB_ok h.2⟩
    have h1 := h.1
    split at h1
    · rename_i e' hu; rw [hu, eq_of_beq h1]
    · cases h1
  case iface =>
    refine ⟨?_, szB_ok h.2⟩
    have h1 := h.1
    split at h1
    · rename_i ms hu; exact ⟨ms, hu⟩
    · cases h1
  case other =>
    refine ⟨?_, szB_ok h.2⟩
    have h1 := h.1
    split at h1
    · rename_i d hu; exact ⟨d, hu, h1⟩
    · cases h1
def zcB : Value → D → Bool
  | .int k n, .int k' n' => keq k k' && decide (n = n')
  | .bool b, .ff => !b
  | .string s, .str s' => decide (s = s')
  | .slice none 0 0, .rsl _ 0 _ => true
  | .nilIface, .nilI => true
  | .slice none 0 0, .nilS => true
  | .pointer none, .nilP => true
  | _, .top => true
  | _, _ => false
theorem zcB_ok {S : Nat → Prop} {w : World} {v : Value} {d : D} (h : zcB v d = true) : R S w Mu0 d v := by
  unfold zcB at h
  split at h
  · simp only [Bool.and_eq_true, decide_eq_true_eq] at h
    obtain rfl := keq_eq h.1
    obtain rfl := h.2
    exact .int _ _
  · cases ‹Bool› <;> simp at h; exact .ff
  · simp only [decide_eq_true_eq] at h
    subst h
    exact .str _
  · exact .rsl _ 0 _ none 0 (fun _ _ => undef) (Nat.le_refl _) (fun h => absurd h (by omega)) (fun i j hi => absurd hi (by omega))
  · exact .nilI
  · exact .nilS
  · exact .nilP
  · exact .top _
  · cases h
def zlB : List Value → List D → Bool
  | [], [] => true
  | v :: r, d :: s => zcB v d && zlB r s
  | _, _ => false
theorem zlB_ok : ∀ {vs : List Value} {ds : List D}, zlB vs ds = true → vs.length = ds.length ∧ ∀ (S : Nat → Prop) w (j : Nat) d v, ds[j]? = some d → vs[j]? = some v → R S w Mu0 d v
  | [], [], _ => ⟨rfl, fun S w j d v h => by simp at h⟩
  | v :: r, d :: s, h => by
    simp only [zlB, Bool.and_eq_true] at h
    obtain ⟨g1, g2⟩ := zlB_ok h.2
    refine ⟨by simp [g1], fun S w j a b ha hb => ?_⟩
    cases j with
    | zero => simp at ha hb; subst ha; subst hb; exact zcB_ok h.1
    | succ j => exact g2 S w j a b (by simpa using ha) (by simpa using hb)
  | [], _ :: _, h => by cases h
  | _ :: _, [], h => by cases h
def zeroB (P : Program) (t : Nat) (cs : List D) : Bool := match P.info? t with
  | some i => (match i.zero with | some z => i.size == cs.length && z.cells.toList.all (·.oneCell') && zlB z.cells.toList cs | none => false)
  | none => false
theorem zeroB_ok {P : Program} {t : Nat} {cs : List D} (h : zeroB P t cs = true) : zeroOK P t cs := by
  unfold zeroB at h
  split at h
  · rename_i i hi
    split at h
    · rename_i z hz
      simp only [Bool.and_eq_true, beq_iff_eq] at h
      obtain ⟨g1, g2⟩ := zlB_ok h.2
      refine ⟨i, z, hi, hz, h.1.1, by simpa using g1, fun j v hv => ?_, fun S w j d v h1 h2 => g2 S w j d v h1 (by simpa using h2)⟩
      exact List.all_eq_true.1 h.1.2 v (by simpa using List.mem_of_getElem? (l := z.cells.toList) (i := j) (by simpa using hv))
    · cases h
  · cases h
def eqB (P : Program) (t : Nat) : Bool := (P.fieldsOf t).toList.all (fun f => f.name != "_") && !P.stoodInHeld t && !P.eqGuardType P.depth t
theorem eqB_ok {P : Program} {t : Nat} (h : eqB P t = true) : eqOK P t := by
  simp only [eqB, Bool.and_eq_true, Bool.not_eq_true', List.all_eq_true, bne_iff_ne] at h
  exact ⟨h.1.1, h.1.2, h.2⟩
abbrev Tab := List (Ty × Option (List D) × Bool)
def tabB (P : Program) : Nat → Tab → Bool
  | _, [] => true
  | t, (T, z, q) :: r => tyB P t T && (match z with | some cs => zeroB P t cs | none => true) && (!q || eqB P t) && tabB P (t + 1) r
theorem tabB_ok {P : Program} : ∀ {r : Tab} {t : Nat}, tabB P t r = true → ∀ (i : Nat) x, r[i]? = some x → tyOK P (t + i) x.1 ∧ (∀ cs, x.2.1 = some cs → zeroOK P (t + i) cs) ∧ (x.2.2 = true → eqOK P (t + i))
  | [], t, _, i, x, hx => by simp at hx
  | (T, z, q) :: r, t, h, i, x, hx => by
    simp only [tabB, Bool.and_eq_true] at h
    cases i with
    | zero =>
      simp only [List.getElem?_cons_zero, Option.some.injEq] at hx
      subst hx
      refine ⟨tyB_ok h.1.1.1, fun cs hcs => ?_, fun hq => ?_⟩
      · simp only at hcs
        subst hcs
        exact zeroB_ok h.1.1.2
      · simp only at hq
        subst hq
        exact eqB_ok (by simpa using h.1.2)
    | succ i =>
      have := tabB_ok h.2 i x (by simpa using hx)
      rwa [show t + 1 + i = t + (i + 1) by omega] at this
def tabTy (tab : Tab) (t : Nat) : Ty := match tab[t]? with
  | some x => x.1
  | none => .no
def tabZero (tab : Tab) (t : Nat) : Option (List D) := match tab[t]? with
  | some x => x.2.1
  | none => none
def tabEq (tab : Tab) (t : Nat) : Bool := match tab[t]? with
  | some x => x.2.2
  | none => false
theorem cok_of {P : Program} {tab : Tab} (h : tabB P 0 tab = true) {C : Cx} (h1 : C.ty = tabTy tab) (h2 : C.zero = tabZero tab) (h3 : C.eq = tabEq tab) : COK P C := by
  obtain ⟨ty, zero, pure, eq, call, iter, dfr, yld⟩ := C
  simp only at h1 h2 h3
  subst h1; subst h2; subst h3
  refine ⟨fun t => ?_, fun t cs hz => ?_, fun t hq => ?_⟩
  · show tyOK P t (tabTy tab t)
    unfold tabTy
    split
    · rename_i x hx
      have := (tabB_ok h t x hx).1
      rwa [Nat.zero_add] at this
    · exact trivial
  · have hz' : tabZero tab t = some cs := hz
    unfold tabZero at hz'
    split at hz'
    · rename_i x hx
      have := (tabB_ok h t x hx).2.1 cs hz'
      rwa [Nat.zero_add] at this
    · cases hz'
  · have hq' : tabEq tab t = true := hq
    unfold tabEq at hq'
    split at hq'
    · rename_i x hx
      have := (tabB_ok h t x hx).2.2 hq'
      rwa [Nat.zero_add] at this
    · cases hq'
end Go.V
end
section
namespace Go.Proofs.YtphcblofacfkaaaGreat
open Go.V
def tab : Tab := [
  (.no, none, false),
  (.other, some [.top], false),
  (.int .i64, some [.int .i64 0], false),
  (.int .i64, some [.int .i64 0], false),
  (.bool, some [.ff], false),
  (.int .u8, some [.int .u8 0], false),
  (.int .u8, some [.int .u8 0], false),
  (.struct 4 [(0, 2, 1), (1, 3, 1), (2, 4, 1), (3, 6, 1)], some [.int .i64 0, .int .i64 0, .ff, .int .u8 0], true),
  (.struct 4 [(0, 2, 1), (1, 3, 1), (2, 4, 1), (3, 6, 1)], some [.int .i64 0, .int .i64 0, .ff, .int .u8 0], true),
  (.str, some [.str ⟨#[]⟩], false),
  (.str, some [.str ⟨#[]⟩], false),
  (.str, some [.str ⟨#[]⟩], false),
  (.int .u64, some [.int .u64 0], false),
  (.struct 2 [(0, 9, 1), (1, 12, 1)], some [.str ⟨#[]⟩, .int .u64 0], false),
  (.struct 2 [(0, 9, 1), (1, 12, 1)], some [.str ⟨#[]⟩, .int .u64 0], false),
  (.ptr 216, some [.top], false),
  (.ptr 219, some [.top], false),
  (.ptr 229, some [.top], false),
  (.struct 1 [(0, 17, 1)], some [.top], false),
  (.struct 1 [(0, 17, 1)], some [.top], false),
  (.iface, some [.nilI], false),
  (.int .i32, some [.int .i32 0], false),
  (.struct 2 [(0, 3, 1), (1, 3, 1)], some [.int .i64 0, .int .i64 0], true),
  (.struct 2 [(0, 3, 1), (1, 3, 1)], some [.int .i64 0, .int .i64 0], true),
  (.slice 162 2 16, some [.nilS], false),
  (.slice 164 13 104, some [.nilS], false),
  (.slice 57 13 112, some [.nilS], false),
  (.struct 6 [(0, 9, 1), (1, 23, 2), (3, 24, 1), (4, 25, 1), (5, 26, 1)], some [.str ⟨#[]⟩, .int .i64 0, .int .i64 0, .nilS, .nilS, .nilS], true),
  (.struct 6 [(0, 9, 1), (1, 23, 2), (3, 24, 1), (4, 25, 1), (5, 26, 1)], some [.str ⟨#[]⟩, .int .i64 0, .int .i64 0, .nilS, .nilS, .nilS], true),
  (.struct 3 [(0, 3, 1), (1, 3, 1), (2, 3, 1)], some [.int .i64 0, .int .i64 0, .int .i64 0], true),
  (.struct 3 [(0, 3, 1), (1, 3, 1), (2, 3, 1)], some [.int .i64 0, .int .i64 0, .int .i64 0], true),
  (.slice 64 6 48, some [.nilS], false),
  (.struct 6 [(0, 30, 3), (3, 31, 1), (4, 3, 1), (5, 3, 1)], some [.int .i64 0, .int .i64 0, .int .i64 0, .nilS, .int .i64 0, .int .i64 0], true),
  (.struct 6 [(0, 30, 3), (3, 31, 1), (4, 3, 1), (5, 3, 1)], some [.int .i64 0, .int .i64 0, .int .i64 0, .nilS, .int .i64 0, .int .i64 0], true),
  (.struct 3 [(0, 3, 1), (1, 23, 2)], some [.int .i64 0, .int .i64 0, .int .i64 0], true),
  (.struct 3 [(0, 3, 1), (1, 23, 2)], some [.int .i64 0, .int .i64 0, .int .i64 0], true),
  (.slice 5 1 1, some [.nilS], false),
  (.struct 5 [(0, 5, 1), (1, 5, 1), (2, 5, 1), (3, 5, 1), (4, 36, 1)], some [.int .u8 0, .int .u8 0, .int .u8 0, .int .u8 0, .nilS], true),
  (.struct 5 [(0, 5, 1), (1, 5, 1), (2, 5, 1), (3, 5, 1), (4, 36, 1)], some [.int .u8 0, .int .u8 0, .int .u8 0, .int .u8 0, .nilS], true),
  (.struct 4 [(0, 23, 2), (2, 23, 2)], some [.int .i64 0, .int .i64 0, .int .i64 0, .int .i64 0], true),
  (.struct 4 [(0, 23, 2), (2, 23, 2)], some [.int .i64 0, .int .i64 0, .int .i64 0, .int .i64 0], true),
  (.slice 75 5 40, some [.nilS], false),
  (.slice 145 6 56, some [.nilS], false),
  (.struct 2 [(0, 3, 1), (1, 3, 1)], some [.int .i64 0, .int .i64 0], true),
  (.struct 2 [(0, 3, 1), (1, 3, 1)], some [.int .i64 0, .int .i64 0], true),
  (.struct 14 [(0, 40, 4), (4, 3, 1), (5, 41, 1), (6, 42, 1), (7, 44, 2), (9, 3, 1), (10, 3, 1), (11, 3, 1), (12, 3, 1), (13, 3, 1)], some [.int .i64 0, .int .i64 0, .int .i64 0, .int .i64 0, .int .i64 0, .nilS, .nilS, .int .i64 0, .int .i64 0, .int .i64 0, .int .i64 0, .int .i64 0, .int .i64 0, .int .i64 0], true),
  (.struct 14 [(0, 40, 4), (4, 3, 1), (5, 41, 1), (6, 42, 1), (7, 44, 2), (9, 3, 1), (10, 3, 1), (11, 3, 1), (12, 3, 1), (13, 3, 1)], some [.int .i64 0, .int .i64 0, .int .i64 0, .int .i64 0, .int .i64 0, .nilS, .nilS, .int .i64 0, .int .i64 0, .int .i64 0, .int .i64 0, .int .i64 0, .int .i64 0, .int .i64 0], true),
  (.struct 22 [(0, 35, 3), (3, 38, 5), (8, 46, 14)], some [.int .i64 0, .int .i64 0, .int .i64 0, .int .u8 0, .int .u8 0, .int .u8 0, .int .u8 0, .nilS, .int .i64 0, .int .i64 0, .int .i64 0, .int .i64 0, .int .i64 0, .nilS, .nilS, .int .i64 0, .int .i64 0, .int .i64 0, .int .i64 0, .int .i64 0, .int .i64 0, .int .i64 0], true),
  (.struct 22 [(0, 35, 3), (3, 38, 5), (8, 46, 14)], some [.int .i64 0, .int .i64 0, .int .i64 0, .int .u8 0, .int .u8 0, .int .u8 0, .int .u8 0, .nilS, .int .i64 0, .int .i64 0, .int .i64 0, .int .i64 0, .int .i64 0, .nilS, .nilS, .int .i64 0, .int .i64 0, .int .i64 0, .int .i64 0, .int .i64 0, .int .i64 0, .int .i64 0], true),
  (.slice 59 7 56, some [.nilS], false),
  (.int .i64, some [.int .i64 0], false),
  (.no, none, false),
  (.other, some [.top], false),
  (.other, some [.top], false),
  (.struct 6 [(0, 23, 2), (2, 23, 2), (4, 23, 2)], some [.int .i64 0, .int .i64 0, .int .i64 0, .int .i64 0, .int .i64 0, .int .i64 0], true),
  (.struct 6 [(0, 23, 2), (2, 23, 2), (4, 23, 2)], some [.int .i64 0, .int .i64 0, .int .i64 0, .int .i64 0, .int .i64 0, .int .i64 0], true),
  (.struct 13 [(0, 9, 1), (1, 3, 1), (2, 23, 2), (4, 23, 2), (6, 55, 6), (12, 3, 1)], some [.str ⟨#[]⟩, .int .i64 0, .int .i64 0, .int .i64 0, .int .i64 0, .int .i64 0, .int .i64 0, .int .i64 0, .int .i64 0, .int .i64 0, .int .i64 0, .int .i64 0, .int .i64 0], true),
  (.struct 13 [(0, 9, 1), (1, 3, 1), (2, 23, 2), (4, 23, 2), (6, 55, 6), (12, 3, 1)], some [.str ⟨#[]⟩, .int .i64 0, .int .i64 0, .int .i64 0, .int .i64 0, .int .i64 0, .int .i64 0, .int .i64 0, .int .i64 0, .int .i64 0, .int .i64 0, .int .i64 0, .int .i64 0], true),
  (.struct 7 [(0, 3, 1), (1, 40, 4), (5, 23, 2)], some [.int .i64 0, .int .i64 0, .int .i64 0, .int .i64 0, .int .i64 0, .int .i64 0, .int .i64 0], true),
  (.struct 7 [(0, 3, 1), (1, 40, 4), (5, 23, 2)], some [.int .i64 0, .int .i64 0, .int .i64 0, .int .i64 0, .int .i64 0, .int .i64 0, .int .i64 0], true),
  (.no, none, false),
  (.other, some [.top], false),
  (.other, some [.top], false),
  (.struct 6 [(0, 3, 1), (1, 3, 1), (2, 23, 2), (4, 23, 2)], some [.int .i64 0, .int .i64 0, .int .i64 0, .int .i64 0, .int .i64 0, .int .i64 0], true),
  (.struct 6 [(0, 3, 1), (1, 3, 1), (2, 23, 2), (4, 23, 2)], some [.int .i64 0, .int .i64 0, .int .i64 0, .int .i64 0, .int .i64 0, .int .i64 0], true),
  (.other, some [.top], false),
  (.other, some [.top], false),
  (.other, some [.top], false),
  (.slice 80 3 24, some [.nilS], false),
  (.slice 82 2 16, some [.nilS], false),
  (.struct 2 [(0, 68, 1), (1, 69, 1)], some [.nilS, .nilS], true),
  (.struct 2 [(0, 68, 1), (1, 69, 1)], some [.nilS, .nilS], true),
  (.no, none, false),
  (.other, some [.top], false),
  (.struct 5 [(0, 3, 1), (1, 3, 1), (2, 3, 1), (3, 3, 1), (4, 3, 1)], some [.int .i64 0, .int .i64 0, .int .i64 0, .int .i64 0, .int .i64 0], true),
  (.struct 5 [(0, 3, 1), (1, 3, 1), (2, 3, 1), (3, 3, 1), (4, 3, 1)], some [.int .i64 0, .int .i64 0, .int .i64 0, .int .i64 0, .int .i64 0], true),
  (.no, none, false),
  (.other, some [.top], false),
  (.other, some [.top], false),
  (.struct 3 [(0, 3, 1), (1, 3, 1), (2, 3, 1)], some [.int .i64 0, .int .i64 0, .int .i64 0], true),
  (.struct 3 [(0, 3, 1), (1, 3, 1), (2, 3, 1)], some [.int .i64 0, .int .i64 0, .int .i64 0], true),
  (.struct 2 [(0, 3, 1), (1, 3, 1)], some [.int .i64 0, .int .i64 0], true),
  (.struct 2 [(0, 3, 1), (1, 3, 1)], some [.int .i64 0, .int .i64 0], true),
  (.other, some [.top], false),
  (.ptr 130, some [.top], false),
  (.no, none, false),
  (.other, some [.top], false),
  (.other, some [.top], false),
  (.other, some [.top], false),
  (.other, some [.top], false),
  (.other, some [.top], false),
  (.other, some [.top], false),
  (.other, some [.top], false),
  (.other, some [.top], false),
  (.other, some [.top], false),
  (.other, some [.top], false),
  (.other, some [.top], false),
  (.other, some [.top], false),
  (.other, some [.top], false),
  (.other, some [.top], false),
  (.other, some [.top], false),
  (.other, some [.top], false),
  (.ptr 111, some [.top], false),
  (.no, none, false),
  (.other, some [.top], false),
  (.no, none, false),
  (.other, some [.top], false),
  (.other, some [.top], false),
  (.slice 113 5 40, some [.nilS], false),
  (.map (.int .i64) .bool 3 4, some [.top], false),
  (.struct 19 [(0, 46, 14), (14, 108, 1), (15, 3, 1), (16, 3, 1), (17, 3, 1), (18, 109, 1)], some [.int .i64 0, .int .i64 0, .int .i64 0, .int .i64 0, .int .i64 0, .nilS, .nilS, .int .i64 0, .int .i64 0, .int .i64 0, .int .i64 0, .int .i64 0, .int .i64 0, .int .i64 0, .nilS, .int .i64 0, .int .i64 0, .int .i64 0, .top], true),
  (.struct 19 [(0, 46, 14), (14, 108, 1), (15, 3, 1), (16, 3, 1), (17, 3, 1), (18, 109, 1)], some [.int .i64 0, .int .i64 0, .int .i64 0, .int .i64 0, .int .i64 0, .nilS, .nilS, .int .i64 0, .int .i64 0, .int .i64 0, .int .i64 0, .int .i64 0, .int .i64 0, .int .i64 0, .nilS, .int .i64 0, .int .i64 0, .int .i64 0, .top], true),
  (.struct 5 [(0, 40, 4), (4, 3, 1)], some [.int .i64 0, .int .i64 0, .int .i64 0, .int .i64 0, .int .i64 0], true),
  (.struct 5 [(0, 40, 4), (4, 3, 1)], some [.int .i64 0, .int .i64 0, .int .i64 0, .int .i64 0, .int .i64 0], true),
  (.no, none, false),
  (.other, some [.top], false),
  (.other, some [.top], false),
  (.other, some [.top], false),
  (.other, some [.top], false),
  (.other, some [.top], false),
  (.other, some [.top], false),
  (.other, some [.top], false),
  (.no, none, false),
  (.other, some [.top], false),
  (.other, some [.top], false),
  (.struct 2 [(0, 3, 1), (1, 3, 1)], some [.int .i64 0, .int .i64 0], true),
  (.other, some [.top], false),
  (.array 3 125 2 6, some [.int .i64 0, .int .i64 0, .int .i64 0, .int .i64 0, .int .i64 0, .int .i64 0], true),
  (.array 3 125 2 6, some [.int .i64 0, .int .i64 0, .int .i64 0, .int .i64 0, .int .i64 0, .int .i64 0], true),
  (.struct 13 [(0, 28, 6), (6, 128, 6), (12, 31, 1)], some [.str ⟨#[]⟩, .int .i64 0, .int .i64 0, .nilS, .nilS, .nilS, .int .i64 0, .int .i64 0, .int .i64 0, .int .i64 0, .int .i64 0, .int .i64 0, .nilS], true),
  (.struct 13 [(0, 28, 6), (6, 128, 6), (12, 31, 1)], some [.str ⟨#[]⟩, .int .i64 0, .int .i64 0, .nilS, .nilS, .nilS, .int .i64 0, .int .i64 0, .int .i64 0, .int .i64 0, .int .i64 0, .int .i64 0, .nilS], true),
  (.struct 0 [], some [], true),
  (.struct 0 [], some [], true),
  (.ptr 135, some [.top], false),
  (.struct 9 [(0, 59, 7), (7, 3, 1), (8, 3, 1)], some [.int .i64 0, .int .i64 0, .int .i64 0, .int .i64 0, .int .i64 0, .int .i64 0, .int .i64 0, .int .i64 0, .int .i64 0], true),
  (.struct 9 [(0, 59, 7), (7, 3, 1), (8, 3, 1)], some [.int .i64 0, .int .i64 0, .int .i64 0, .int .i64 0, .int .i64 0, .int .i64 0, .int .i64 0, .int .i64 0, .int .i64 0], true),
  (.other, some [.top], false),
  (.other, some [.top], false),
  (.other, some [.top], false),
  (.struct 12 [(0, 128, 6), (6, 128, 6)], some [.int .i64 0, .int .i64 0, .int .i64 0, .int .i64 0, .int .i64 0, .int .i64 0, .int .i64 0, .int .i64 0, .int .i64 0, .int .i64 0, .int .i64 0, .int .i64 0], true),
  (.struct 12 [(0, 128, 6), (6, 128, 6)], some [.int .i64 0, .int .i64 0, .int .i64 0, .int .i64 0, .int .i64 0, .int .i64 0, .int .i64 0, .int .i64 0, .int .i64 0, .int .i64 0, .int .i64 0, .int .i64 0], true),
  (.other, some [.top], false),
  (.other, some [.top], false),
  (.other, some [.top], false),
  (.struct 6 [(0, 9, 1), (1, 40, 4), (5, 3, 1)], some [.str ⟨#[]⟩, .int .i64 0, .int .i64 0, .int .i64 0, .int .i64 0, .int .i64 0], true),
  (.struct 6 [(0, 9, 1), (1, 40, 4), (5, 3, 1)], some [.str ⟨#[]⟩, .int .i64 0, .int .i64 0, .int .i64 0, .int .i64 0, .int .i64 0], true),
  (.other, some [.top], false),
  (.other, some [.top], false),
  (.other, some [.top], false),
  (.other, some [.top], false),
  (.other, some [.top], false),
  (.other, some [.top], false),
  (.other, some [.top], false),
  (.other, some [.top], false),
  (.other, some [.top], false),
  (.other, some [.top], false),
  (.struct 2 [(0, 3, 1), (1, 50, 1)], some [.int .i64 0, .int .i64 0], true),
  (.struct 2 [(0, 3, 1), (1, 50, 1)], some [.int .i64 0, .int .i64 0], true),
  (.other, some [.top], false),
  (.other, some [.top], false),
  (.other, some [.top], false),
  (.struct 2 [(0, 3, 1), (1, 3, 1)], some [.int .i64 0, .int .i64 0], true),
  (.struct 2 [(0, 3, 1), (1, 3, 1)], some [.int .i64 0, .int .i64 0], true),
  (.struct 13 [(0, 3, 1), (1, 23, 2), (3, 23, 2), (5, 23, 2), (7, 55, 6)], some [.int .i64 0, .int .i64 0, .int .i64 0, .int .i64 0, .int .i64 0, .int .i64 0, .int .i64 0, .int .i64 0, .int .i64 0, .int .i64 0, .int .i64 0, .int .i64 0, .int .i64 0], true),
  (.struct 13 [(0, 3, 1), (1, 23, 2), (3, 23, 2), (5, 23, 2), (7, 55, 6)], some [.int .i64 0, .int .i64 0, .int .i64 0, .int .i64 0, .int .i64 0, .int .i64 0, .int .i64 0, .int .i64 0, .int .i64 0, .int .i64 0, .int .i64 0, .int .i64 0, .int .i64 0], true),
  (.other, some [.top], false),
  (.other, some [.top], false),
  (.other, some [.top], false),
  (.other, some [.top], false),
  (.other, some [.top], false),
  (.struct 12 [(0, 125, 2), (2, 125, 2), (4, 125, 2), (6, 128, 6)], some [.int .i64 0, .int .i64 0, .int .i64 0, .int .i64 0, .int .i64 0, .int .i64 0, .int .i64 0, .int .i64 0, .int .i64 0, .int .i64 0, .int .i64 0, .int .i64 0], true),
  (.struct 12 [(0, 125, 2), (2, 125, 2), (4, 125, 2), (6, 128, 6)], some [.int .i64 0, .int .i64 0, .int .i64 0, .int .i64 0, .int .i64 0, .int .i64 0, .int .i64 0, .int .i64 0, .int .i64 0, .int .i64 0, .int .i64 0, .int .i64 0], true),
  (.other, some [.top], false),
  (.other, some [.top], false),
  (.other, some [.top], false),
  (.other, some [.top], false),
  (.other, some [.top], false),
  (.other, some [.top], false),
  (.other, some [.top], false),
  (.other, some [.top], false),
  (.other, some [.top], false),
  (.other, some [.top], false),
  (.other, some [.top], false),
  (.other, some [.top], false),
  (.array 3 183 1 3, some [.top, .top, .top], true),
  (.other, some [.top], false),
  (.other, some [.top], false),
  (.other, some [.top], false),
  (.other, some [.top], false),
  (.other, some [.top], false),
  (.slice 125 2 16, some [.nilS], false),
  (.other, some [.top], false),
  (.other, some [.top], false),
  (.other, some [.top], false),
  (.array 4 3 1 4, some [.int .i64 0, .int .i64 0, .int .i64 0, .int .i64 0], true),
  (.other, some [.top], false),
  (.slice 3 1 8, some [.nilS], false),
  (.other, some [.top], false),
  (.other, some [.top], false),
  (.other, some [.top], false),
  (.other, some [.top], false),
  (.other, some [.top], false),
  (.array 2 3 1 2, some [.int .i64 0, .int .i64 0], true),
  (.other, some [.top], false),
  (.other, some [.top], false),
  (.other, some [.top], false),
  (.other, some [.top], false),
  (.other, some [.top], false),
  (.other, some [.top], false),
  (.other, some [.top], false),
  (.int .u64, some [.int .u64 0], false),
  (.slice 128 6 48, some [.nilS], false),
  (.other, some [.top], false),
  (.other, some [.top], false),
  (.other, some [.top], false),
  (.struct 4 [(0, 17, 1), (1, 17, 1), (2, 17, 1), (3, 9, 1)], some [.top, .top, .top, .str ⟨#[]⟩], false),
  (.struct 4 [(0, 17, 1), (1, 17, 1), (2, 17, 1), (3, 9, 1)], some [.top, .top, .top, .str ⟨#[]⟩], false),
  (.array 0 16 1 0, some [], true),
  (.no, some [], false),
  (.no, some [], false),
  (.other, some [.top], false),
  (.int .u32, some [.int .u32 0], false),
  (.int .u8, some [.int .u8 0], false),
  (.int .u8, some [.int .u8 0], false),
  (.other, some [.top], false),
  (.ptr 5, some [.top], false),
  (.int .i32, some [.int .i32 0], false),
  (.int .i32, some [.int .i32 0], false),
  (.struct 11 [(0, 12, 1), (1, 12, 1), (2, 221, 1), (3, 222, 1), (4, 5, 1), (5, 5, 1), (6, 223, 1), (7, 224, 1), (8, 225, 1), (9, 226, 1), (10, 227, 1)], some [.int .u64 0, .int .u64 0, .int .u32 0, .int .u8 0, .int .u8 0, .int .u8 0, .int .u8 0, .top, .top, .int .i32 0, .int .i32 0], false),
  (.struct 11 [(0, 12, 1), (1, 12, 1), (2, 221, 1), (3, 222, 1), (4, 5, 1), (5, 5, 1), (6, 223, 1), (7, 224, 1), (8, 225, 1), (9, 226, 1), (10, 227, 1)], some [.int .u64 0, .int .u64 0, .int .u32 0, .int .u8 0, .int .u8 0, .int .u8 0, .int .u8 0, .top, .top, .int .i32 0, .int .i32 0], false),
  (.no, some [.top], false)
]
theorem tab_ok : tabB Go.Proofs.Tryz.prog 0 tab = true := by kernel_rfl
end Go.Proofs.YtphcblofacfkaaaGreat
end
section
namespace Go.V
abbrev Lib := List (Nat × PRule)
def libGet : Lib → Nat → Option PRule
  | [], _ => none
  | (f, r) :: l, g => bif Nat.beq f g then some r else libGet l g
def LibOK (P : Program) (l : Lib) : Prop := ∀ f r, libGet l f = some r → PSound P f r
theorem LibOK.nil (P : Program) : LibOK P [] := fun f r h => by cases h
theorem LibOK.cons {P : Program} {l : Lib} {f : Nat} {r : PRule} (h : PSound P f r) (hl : LibOK P l) : LibOK P ((f, r) :: l) := fun g s hg => by
  simp only [libGet] at hg
  cases hb : Nat.beq f g with
  | true =>
    rw [hb, cond_true, Option.some.injEq] at hg
    subst hg
    rw [← Nat.eq_of_beq_eq_true hb]
    exact h
  | false =>
    rw [hb, cond_false] at hg
    exact hl g s hg
def asGet {α : Type} : List (Nat × α) → Nat → Option α
  | [], _ => none
  | (f, r) :: l, g => bif Nat.beq f g then some r else asGet l g
theorem asGet_cons {α : Type} {Q : Nat → α → Prop} {l : List (Nat × α)} {f : Nat} {r : α} (h : Q f r) (hl : ∀ g s, asGet l g = some s → Q g s) : ∀ g s, asGet ((f, r) :: l) g = some s → Q g s := fun g s hg => by
  simp only [asGet] at hg
  cases hb : Nat.beq f g with
  | true =>
    rw [hb, cond_true, Option.some.injEq] at hg
    subst hg
    rw [← Nat.eq_of_beq_eq_true hb]
    exact h
  | false =>
    rw [hb, cond_false] at hg
    exact hl g s hg
structure Libs where
  p : Lib
  c : List (Nat × CRule)
  i : List (Nat × IRule)
  d : List (Nat × DRule)
structure LibsOK (P : Program) (L : Libs) : Prop where
  p : LibOK P L.p
  c : ∀ f r, asGet L.c f = some r → CSound P f r
  i : ∀ f r, asGet L.i f = some r → ISound P f r
  d : ∀ f r, asGet L.d f = some r → DSound P f r
def cxA (tab : Tab) (L : Libs) : Cx := ⟨tabTy tab, tabZero tab, libGet L.p, tabEq tab, asGet L.c, asGet L.i, asGet L.d, none⟩
def cxOf (tab : Tab) (l : Lib) : Cx := cxA tab ⟨l, [], [], []⟩
abbrev TT : RT := fun _ _ _ _ => True
theorem callsOK_A {P : Program} {tab : Tab} {L : Libs} (ht : tabB P 0 tab = true) (hm : P.follows .mixedOrders = true) (hl : LibsOK P L) : CallsOK P (cxA tab L) TT :=
  ⟨cok_of ht rfl rfl rfl, hm, hl.p, hl.c, hl.i, hl.d, fun ol h e => (by cases e), fun _ _ _ _ _ _ _ _ _ _ => trivial⟩
theorem LibsOK.of {P : Program} {l : Lib} (hl : LibOK P l) : LibsOK P ⟨l, [], [], []⟩ := ⟨hl, fun f r h => (by cases h), fun f r h => (by cases h), fun f r h => (by cases h)⟩
theorem callsOK_of {P : Program} {tab : Tab} {l : Lib} (ht : tabB P 0 tab = true) (hm : P.follows .mixedOrders = true) (hl : LibOK P l) : CallsOK P (cxOf tab l) TT := callsOK_A ht hm (.of hl)
def toI : D → Int
  | .int _ n => n
  | _ => 0
def toS : D → ByteArray
  | .str s => s
  | _ => ⟨#[]⟩
def imD (a : Nat → Nat → Int) (i j : Nat) : D := .int .i64 (a i j)
def im (g : Nat → Nat → D) (i j : Nat) : Int := toI (g i j)
def IM (n s : Nat) (g : Nat → Nat → D) : Prop := ∀ i j, i < n → j < s → g i j = imD (im g) i j
theorem im_imD (a : Nat → Nat → Int) : im (imD a) = a := rfl
def smD (nm : Nat → ByteArray) (a : Nat → Nat → Int) (i j : Nat) : D := match j with
  | 0 => .str (nm i)
  | j + 1 => .int .i64 (a i j)
def imS (g : Nat → Nat → D) (i j : Nat) : Int := toI (g i (j + 1))
def nmOf (g : Nat → Nat → D) (i : Nat) : ByteArray := toS (g i 0)
def SM (n s : Nat) (g : Nat → Nat → D) : Prop := ∀ i j, i < n → j < s → g i j = smD (nmOf g) (imS g) i j
theorem SM_smD (n s : Nat) (nm : Nat → ByteArray) (a : Nat → Nat → Int) : SM n s (smD nm a) := fun i j _ _ => by cases j <;> rfl
def mk (f : List D → Option (Prop × D)) : PRule := fun ds k => match f ds with
  | some (p, d) => p ∧ k d
  | none => False
theorem mk_det (f : List D → Option (Prop × D)) (ds : List D) : Det (mk f ds) := fun k h => by
  unfold mk at h ⊢
  cases hf : f ds with
  | none => rw [hf] at h; exact h.elim
  | some x => rw [hf] at h; exact ⟨x.2, h.2, fun k' h' => ⟨h.1, h'⟩⟩
theorem psound_mk {P : Program} {C : Cx} {f : Nat} {fn : Func} {code : Code} {g : List D → Option (Prop × D)} (hf : P.funcs[f]? = some fn) (hname : (fn.name == "runtime.NumGoroutine") = false) (hb : fn.body = some code) (hC : CallsOK P C TT)
    (h : ∀ ds p d, g ds = some (p, d) → ds.length ≤ fn.ntmps ∧ (p → ∀ k : D → Prop, k d → ∃ ds', impAL noGh ds ds' (vfun C fn code k ds'))) : PSound P f (mk g) :=
  psound_of hf hname hb hC (mk_det g) fun ds k hk => by
    unfold mk at hk
    cases hg : g ds with
    | none => rw [hg] at hk; exact hk.elim
    | some x =>
      obtain ⟨p, d⟩ := x
      rw [hg] at hk
      obtain ⟨h1, h2⟩ := h ds p d hg
      exact ⟨h1, h2 hk.1 k hk.2⟩
theorem fin_of {d d0 : D} {k : D → Prop} (h : k d0) (hi : impA noGh d d0 True) : imp1 d k := ⟨d0, h, fun S w v hR => (impA_sound (fun o ho => by cases ho) hi hR).1⟩
end Go.V
end
section
namespace Go.V
def codeOf (fn : Func) : Code := fn.body.getD .skip
def inl (C : Cx) (fn : Func) : CRule := inlC C fn (codeOf fn)
theorem csound_in {P : Program} {C : Cx} {f : Nat} {fn : Func} (hf : P.funcs[f]? = some fn) (hname : (fn.name == "runtime.NumGoroutine") = false) (hb : fn.body = some (codeOf fn)) (hC : CallsOK P C TT) : CSound P f (inl C fn) := csound_of hf hname hb hC
def tidyK (H : HL) (K : Res → HL → Prop) (r : Res) (H' : HL) : Prop := match r with
  | .pan d => K (.pan d) H'
  | .ret d => ∃ (d' : D) (H2 : HL), (idsOK H.length [(0, d')] H2 none = true ∧ lenB H2 H = true) ∧ impA noGh d d' (impH noGh H' H2 (K (.ret d') H2))
def tidy (c : CRule) : CRule := fun ds H K => c ds H (tidyK H K)
theorem tidy_ok {P : Program} {f : Nat} {c : CRule} (h : CSound P f c) : CSound P f (tidy c) := by
  refine ⟨h.enters, fun ds H K hk S w μ vs hr hRL => Calls.mono (h.calls ds H _ hk S w μ vs hr hRL) fun e w' hp => ?_⟩
  obtain ⟨S', μ', r, H', k1, k2, k3, k4⟩ := hp
  cases r with
  | pan d => exact ⟨S', μ', .pan d, H', k1, k2, k3, k4⟩
  | ret d =>
    obtain ⟨d', H2, ⟨hids, hlen⟩, himp⟩ := k1
    cases e with
    | returned v =>
      have k2' : R S' w' μ' d v := k2
      have hst : RelSt none 1 none S' w' μ' ⟨upd (fun _ => .top) 0 d, H', none⟩ { tmps := #[v], defers := [] } := ⟨k3, fun i => by
        cases i with
        | zero => exact k2'
        | succ i => exact .top _, rfl, trivial, .inl rfl⟩
      obtain ⟨μ2, g1, g2, g3⟩ := cut_state (s := ⟨upd (fun _ => .top) 0 d, H', none⟩) (sl := [(0, d')]) (Hg := H2) (H0 := H) (gs := noGh) hst k4 hr.2 (lenB_len hlen) (fun o ho => by cases ho) hids himp
      exact ⟨S', μ2, .ret d', H2, g3, g1.env 0, g1.rel, g2⟩
    | _ => exact k2.elim
theorem csound_mono {P : Program} {f : Nat} {c c' : CRule} (h : CSound P f c) (hi : ∀ ds H K, c' ds H K → c ds H K) : CSound P f c' :=
  ⟨h.enters, fun ds H K hk S w μ vs hr hRL => h.calls ds H K (hi ds H K hk) S w μ vs hr hRL⟩
theorem csound_mk {P : Program} {C : Cx} {f : Nat} {fn : Func} {c : CRule} (hf : P.funcs[f]? = some fn) (hname : (fn.name == "runtime.NumGoroutine") = false) (hb : fn.body = some (codeOf fn)) (hC : CallsOK P C TT) (hi : ∀ ds H K, c ds H K → tidy (inl C fn) ds H K) : CSound P f c :=
  csound_mono (tidy_ok (csound_in hf hname hb hC)) hi
end Go.V
end
section
namespace Go.V
inductive CK where
  | int (k : IntKind)
  | bool
  | str
  | sl (ks : List CK)
def fieldsCK (P : Program) (K : Nat → Option (List CK)) : Nat → List Field → Option (List CK)
  | _, [] => some []
  | off, f :: r => match K f.type with
    | some ks => if f.offset = off ∧ P.cellsOf f.type = ks.length then (fieldsCK P K (off + ks.length) r).map (ks ++ ·) else none
    | none => none
def repCK (ks : List CK) : Nat → List CK
  | 0 => []
  | n + 1 => ks ++ repCK ks n
def cks (P : Program) : Nat → Nat → Option (List CK)
  | 0, _ => none
  | f + 1, t => match P.underlying t with
    | some .bool => some [.bool]
    | some (.int k) => some [.int k]
    | some .string => some [.str]
    | some (.slice e) => match cks P f e with
      | some ks => if P.cellsOf e = ks.length ∧ 0 < ks.length then some [.sl ks] else none
      | none => none
    | some (.struct fs) => match fieldsCK P (cks P f) 0 fs.toList with
      | some ks => if P.cellsOf t = ks.length then some ks else none
      | none => none
    | some (.array n e) => match cks P f e with
      | some ks => if P.cellsOf e = ks.length ∧ P.cellsOf t = n * ks.length then some (repCK ks n) else none
      | none => none
    | _ => none
def Is : Nat → CK → D → Prop
  | 0, _, _ => False
  | _ + 1, .int k, d => ∃ n, d = .int k n ∧ k.min ≤ n ∧ n ≤ k.max
  | _ + 1, .bool, d => ∃ b, d = .bool b
  | _ + 1, .str, d => ∃ s, d = .str s ∧ s.size ≤ 9223372036854775807
  | f + 1, .sl ks, d => ∃ n g, d = .rsl ks.length n g ∧ n ≤ 9223372036854775807 ∧ ∀ i j c, i < n → ks[j]? = some c → Is f c (g i j)
theorem Is.one {f : Nat} {c : CK} {d : D} (h : Is f c d) : one d = true := by
  cases f with
  | zero => exact h.elim
  | succ f =>
    cases c with
    | int k => obtain ⟨n, rfl, _⟩ := h; rfl
    | bool => obtain ⟨b, rfl⟩ := h; rfl
    | str => obtain ⟨s, rfl, _⟩ := h; rfl
    | sl ks => obtain ⟨n, g, rfl, _⟩ := h; rfl
def Told (w : World) (f : Nat) (ks : List CK) (cs : List Value) : Prop := ∃ ds : List D, ds.length = ks.length ∧ cs.length = ks.length ∧ (∀ (i : Nat) c d, ks[i]? = some c → ds[i]? = some d → Is f c d) ∧
  ∀ (i : Nat) d v, ds[i]? = some d → cs[i]? = some v → R (fun b => b < w.heap.size) w Mu0 d v
theorem Told.nil (w : World) (f : Nat) : Told w f [] [] := ⟨[], rfl, rfl, fun i c d h => (by simp at h), fun i d v h => (by simp at h)⟩
theorem Told.append {w : World} {f : Nat} {k1 k2 : List CK} {c1 c2 : List Value} (h1 : Told w f k1 c1) (h2 : Told w f k2 c2) : Told w f (k1 ++ k2) (c1 ++ c2) := by
  obtain ⟨d1, a1, b1, e1, r1⟩ := h1
  obtain ⟨d2, a2, b2, e2, r2⟩ := h2
  refine ⟨d1 ++ d2, by simp [a1, a2], by simp [b1, b2], fun i c d hc hd => ?_, fun i d v hd hv => ?_⟩
  · by_cases hi : i < k1.length
    · rw [List.getElem?_append_left hi] at hc
      rw [List.getElem?_append_left (by omega)] at hd
      exact e1 i c d hc hd
    · rw [List.getElem?_append_right (by omega)] at hc
      rw [List.getElem?_append_right (by omega), a1] at hd
      exact e2 _ c d hc hd
  · by_cases hi : i < k1.length
    · rw [List.getElem?_append_left (by omega)] at hd hv
      exact r1 i d v hd hv
    · rw [List.getElem?_append_right (by omega), a1] at hd
      rw [List.getElem?_append_right (by omega), b1] at hv
      exact r2 _ d v hd hv
theorem Told.one {w : World} {f : Nat} {c : CK} {d : D} {v : Value} (h : Is f c d) (hr : R (fun b => b < w.heap.size) w Mu0 d v) : Told w f [c] [v] := by
  refine ⟨[d], rfl, rfl, fun i c' d' hc hd => ?_, fun i d' v' hd hv => ?_⟩
  · cases i with
    | zero => simp at hc hd; subst hc; subst hd; exact h
    | succ i => simp at hc
  · cases i with
    | zero => simp at hd hv; subst hd; subst hv; exact hr
    | succ i => simp at hd
theorem wf_kind {k : IntKind} {n : Int} (h : (Lit.int k n).wf = true) : k.min ≤ n ∧ n ≤ k.max := by
  simpa [Lit.wf] using h
section
variable {H : Type} {enc : TypeId × Value → H} {P : Program} {w : World} {spare : Nat → Bool} {held : Bool}
theorem told_fields {K : Nat → Option (List CK)} {f n : Nat} {cs : List Value} (ih : ∀ t ks cs x, DataW.trod enc P w 0 spare held n t cs = some x → K t = some ks → Told w f ks cs) :
    ∀ {l : List Field} {off : Nat} {ks : List CK}, (∀ (i : Nat) (f : Field), l[i]? = some f → ∃ y, DataW.trod enc P w 0 spare held n f.type ((cs.drop f.offset).take (P.cellsOf f.type)) = some y) →
      fieldsCK P K off l = some ks → Told w f ks ((cs.drop off).take ks.length)
  | [], off, ks, _, h => by
    simp only [fieldsCK, Option.some.injEq] at h
    subst h
    simpa using Told.nil w f
  | fd :: r, off, ks, hf, h => by
    simp only [fieldsCK] at h
    split at h
    · rename_i k1 hk1
      split at h
      · rename_i hc
        obtain ⟨h1, h2⟩ := hc
        rw [Option.map_eq_some_iff] at h
        obtain ⟨k2, hk2, rfl⟩ := h
        obtain ⟨y, hy⟩ := hf 0 fd rfl
        rw [h1, h2] at hy
        have g1 := ih _ _ _ _ hy hk1
        have g2 := told_fields ih (l := r) (fun i f hi => hf (i + 1) f (by simpa using hi)) hk2
        have := g1.append g2
        rwa [← List.drop_drop, ← List.take_add, ← List.length_append] at this
      · cases h
    · cases h
theorem told_rep {f n e : Nat} {cs : List Value} {ks : List CK} (ih : ∀ cs x, DataW.trod enc P w 0 spare held n e cs = some x → Told w f ks cs) (he : P.cellsOf e = ks.length) :
    ∀ (m off : Nat), (∀ i, i < m → ∃ y, DataW.trod enc P w 0 spare held n e ((cs.drop ((off + i) * P.cellsOf e)).take (P.cellsOf e)) = some y) → Told w f (repCK ks m) ((cs.drop (off * ks.length)).take (m * ks.length))
  | 0, off, _ => by simpa [repCK] using Told.nil w f
  | m + 1, off, h => by
    obtain ⟨y, hy⟩ := h 0 (by omega)
    rw [he] at hy
    have g1 := ih _ _ hy
    have g2 := told_rep ih he m (off + 1) fun i hi => by
      have := h (i + 1) (by omega)
      rwa [show off + (i + 1) = off + 1 + i by omega] at this
    have := g1.append g2
    rw [Nat.add_zero, Nat.add_mul, Nat.one_mul, ← List.drop_drop, ← List.take_add] at this
    rwa [repCK, show (m + 1) * ks.length = ks.length + m * ks.length by rw [Nat.add_mul]; omega]
theorem cell_lt {w : World} {a : Addr} {v : Value} (h : w.cell? a = some v) : a.block < w.heap.size := by
  unfold World.cell? at h
  split at h
  · rename_i hb
    exact (Array.getElem?_eq_some_iff.1 hb).1
  · cases h
theorem cells_get {w : World} {a : Addr} {n : Nat} {cs : List Value} (h : w.cells? 0 a n = some cs) : cs.length = n ∧ ∀ j, j < n → w.cell? (a.add j) = cs[j]? := by
  unfold World.cells? at h
  rw [if_pos (Nat.zero_le _)] at h
  exact ⟨by simpa using mapM_some_length h, fun j hj => mapM_some_get h j j (by simp [hj])⟩
theorem add_of {a : Addr} {m n : Nat} {v : Value} {w : World} (h : w.cell? ((a.add m).add n) = some v) (h0 : a.spot = none) : w.cell? ⟨a.block, a.off + (m + n), none⟩ = some v := by
  obtain ⟨b, o, s⟩ := a
  simp only at h0
  subst h0
  rw [← h]
  unfold Addr.add
  by_cases hm : m = 0
  · subst hm
    by_cases hn : n = 0
    · subst hn; simp
    · simp [hn]
  · by_cases hn : n = 0
    · subst hn; simp [hm]
    · simp [hm, hn, Nat.add_assoc]
theorem told_of_trod : ∀ (f : Nat) {n t : Nat} {cs : List Value} {x : DataW H × List MemPlace} {ks : List CK}, DataW.trod enc P w 0 spare held n t cs = some x → cks P f t = some ks → Told w f ks cs
  | 0, n, t, cs, x, ks, _, h => by cases h
  | f + 1, n, t, cs, x, ks, ht, h => by
    have up : ∀ {ks : List CK} {cs : List Value}, Told w f ks cs → Told w (f + 1) ks cs := by
      intro ks cs h
      obtain ⟨ds, a, b, e, r⟩ := h
      have mono : ∀ (f : Nat) (c : CK) (d : D), Is f c d → Is (f + 1) c d := by
        intro f
        induction f with
        | zero => intro c d h; exact h.elim
        | succ f ih =>
          intro c d h
          cases c with
          | int k => exact h
          | bool => exact h
          | str => exact h
          | sl ks => obtain ⟨n, g, rfl, hn, hg⟩ := h; exact ⟨n, g, rfl, hn, fun i j c hi hj => ih c _ (hg i j c hi hj)⟩
      exact ⟨ds, a, b, fun i c d hc hd => mono f c d (e i c d hc hd), r⟩
    simp only [cks] at h
    split at h
    · rename_i hu
      obtain ⟨b, rfl, _⟩ := DataW.trod_bool hu ht
      cases h
      exact .one (d := .bool b) ⟨b, rfl⟩ (.bool b)
    · rename_i k hu
      obtain ⟨m, rfl, _, hw⟩ := DataW.trod_int hu ht
      cases h
      exact .one (d := .int k m) ⟨m, rfl, wf_kind hw⟩ (.int k m)
    · rename_i hu
      obtain ⟨s, rfl, _, hs⟩ := DataW.trod_string hu ht
      cases h
      exact .one (d := .str s) ⟨s, rfl, by unfold maxLen at hs; omega⟩ (.str s)
    · rename_i e hu
      split at h
      · rename_i ks' hks
        split at h
        · rename_i hc
          obtain ⟨hc1, hc2⟩ := hc
          cases h
          rcases DataW.trod_slice hu ht with ⟨rfl, _⟩ | ⟨a, len, cap, elems, rest, m, _, rfl, _, _, hl, hm, hlen, hel, _, _⟩
          · exact .one (d := .rsl ks'.length 0 fun _ _ => .top) ⟨0, _, rfl, by omega, fun i j c hi => absurd hi (by omega)⟩ (.rsl _ 0 _ none 0 (fun _ _ => undef) (Nat.le_refl _) (fun h => absurd h (by omega)) (fun i j hi => absurd hi (by omega)))
          · have hrow : ∀ i, i < len → ∃ cs' : List Value, w.cells? 0 (a.add (i * ks'.length)) ks'.length = some cs' ∧ Told w f ks' cs' := fun i hi => by
              have h1 := hel i hi
              rw [List.getElem?_eq_getElem (by omega)] at h1
              rw [Option.bind_eq_some_iff] at h1
              obtain ⟨cs', h2, h3⟩ := h1
              rw [hc1] at h2
              exact ⟨cs', h2, told_of_trod f h3 hks⟩
            have hex : ∀ i, ∃ (cs' : List Value) (ds : List D), i < len → w.cells? 0 (a.add (i * ks'.length)) ks'.length = some cs' ∧ ds.length = ks'.length ∧ (∀ (j : Nat) c d, ks'[j]? = some c → ds[j]? = some d → Is f c d) ∧
                ∀ (j : Nat) d v, ds[j]? = some d → cs'[j]? = some v → R (fun b => b < w.heap.size) w Mu0 d v := fun i => by
              by_cases hi : i < len
              · obtain ⟨cs', h1, ds, h2, h3, h4, h5⟩ := hrow i hi
                exact ⟨cs', ds, fun _ => ⟨h1, h2, h4, h5⟩⟩
              · exact ⟨[], [], fun h => absurd h hi⟩
            obtain ⟨csf, hcs⟩ := Classical.axiomOfChoice hex
            obtain ⟨dsf, hds⟩ := Classical.axiomOfChoice hcs
            have hcell : ∀ i j, i < len → j < ks'.length → ∃ v, (csf i)[j]? = some v ∧ w.cell? ((a.add (i * ks'.length)).add j) = some v := fun i j hi hj => by
              obtain ⟨h1, h2, _⟩ := hds i hi
              obtain ⟨g1, g2⟩ := cells_get h1
              refine ⟨(csf i)[j]'(by omega), List.getElem?_eq_getElem _, ?_⟩
              rw [g2 j hj, List.getElem?_eq_getElem]
            have hg : ∀ i j, i < len → j < ks'.length → ∃ d v, (dsf i)[j]? = some d ∧ (dsf i).getD j .top = d ∧ (csf i)[j]? = some v ∧ (csf i).getD j undef = v ∧ R (fun b => b < w.heap.size) w Mu0 d v ∧ v.oneCell' = true := fun i j hi hj => by
              obtain ⟨h1, h2, h3, h4⟩ := hds i hi
              obtain ⟨v, v1, v2⟩ := hcell i j hi hj
              have hd : (dsf i)[j]? = some ((dsf i)[j]'(by omega)) := List.getElem?_eq_getElem _
              have hr := h4 j _ v hd v1
              have hk : ks'[j]? = some (ks'[j]) := List.getElem?_eq_getElem _
              exact ⟨_, v, hd, by rw [List.getD_eq_getElem?_getD, hd]; rfl, v1, by rw [List.getD_eq_getElem?_getD, v1]; rfl, hr, hr.one (h3 j _ _ hk hd).one⟩
            refine .one (d := .rsl ks'.length len fun i j => (dsf i).getD j .top) ⟨len, _, rfl, by unfold maxLen at hm; omega, fun i j c hi hc => ?_⟩ ?_
            · have hj : j < ks'.length := (List.getElem?_eq_some_iff.1 hc).1
              obtain ⟨d, v, h1, h2, _⟩ := hg i j hi hj
              show Is f c ((dsf i).getD j .top)
              rw [h2]
              exact (hds i hi).2.2.1 j c d hc h1
            · refine .rsl ks'.length len _ (some a) cap (fun i j => (csf i).getD j undef) hl (fun h0 => ?_) fun i j hi hj => ?_
              · have hspot : a.spot = none := by
                  obtain ⟨v, _, h1⟩ := hcell 0 0 h0 hc2
                  simpa [Addr.add] using World.cell?_spot h1
                have hlt : a.block < w.heap.size := by
                  obtain ⟨v, _, h1⟩ := hcell 0 0 h0 hc2
                  simpa [Addr.add] using cell_lt h1
                obtain ⟨ab, ao, asp⟩ := a
                simp only at hspot hlt
                subst hspot
                refine ⟨ab, ao, rfl, hlt, fun i j hi hj => ?_⟩
                obtain ⟨d, v, _, _, h3, h4, _, h6⟩ := hg i j hi hj
                obtain ⟨v', h7, h8⟩ := hcell i j hi hj
                rw [h3] at h7
                cases h7
                show w.cell? ⟨ab, ao + (i * ks'.length + j), none⟩ = some ((csf i).getD j undef) ∧ ((csf i).getD j undef).oneCell' = true
                rw [h4]
                exact ⟨add_of h8 rfl, h6⟩
              · obtain ⟨d, v, _, h2, _, h4, h5, _⟩ := hg i j hi hj
                show R (fun b => b < w.heap.size) w Mu0 ((dsf i).getD j .top) ((csf i).getD j undef)
                rw [h2, h4]
                exact h5
        · cases h
      · cases h
    · rename_i fs hu
      split at h
      · rename_i ks' hks
        split at h
        · rename_i hc
          cases h
          obtain ⟨xs, m, _, _, hl, hlen, hf⟩ := DataW.trod_struct hu ht
          have g := told_fields (n := m) (w := w) (cs := cs) (fun t ks cs x h1 h2 => told_of_trod f h1 h2) (l := fs.toList) (off := 0) (fun i fd hi => by
            have h1 := hf i fd (by simpa using hi)
            have h2 : i < xs.length := by rw [hlen]; simpa using (List.getElem?_eq_some_iff.1 hi).1
            rw [List.getElem?_eq_getElem h2] at h1
            exact ⟨_, h1⟩) hks
          rw [List.drop_zero, ← hc, ← hl, List.take_length] at g
          exact up g
        · cases h
      · cases h
    · rename_i m e hu
      split at h
      · rename_i ks' hks
        split at h
        · rename_i hc
          obtain ⟨hc1, hc2⟩ := hc
          cases h
          obtain ⟨xs, m', _, _, hl, hlen, hf⟩ := DataW.trod_array hu ht
          have g := told_rep (n := m') (w := w) (cs := cs) (ks := ks') (e := e) (fun cs x h1 => told_of_trod f h1 hks) hc1 m 0 (fun i hi => by
            have h1 := hf i hi
            rw [List.getElem?_eq_getElem (by omega)] at h1
            rw [Nat.zero_add]
            exact ⟨_, h1⟩)
          rw [Nat.zero_mul, List.drop_zero, ← hc2, ← hl, List.take_length] at g
          exact up g
        · cases h
      · cases h
    · cases h
inductive AK where
  | one (c : CK)
  | agg (ks : List CK)
def akOf (P : Program) (t : Nat) : Option AK := match P.underlying t with
  | some (.struct _) => (cks P 8 t).map .agg
  | some (.array _ _) => (cks P 8 t).map .agg
  | some (.bool) | some (.int _) | some .string | some (.slice _) => match cks P 8 t with
    | some [c] => some (.one c)
    | _ => none
  | _ => none
def IsA (a : AK) (d : D) : Prop := match a with
  | .one c => Is 8 c d
  | .agg ks => ∃ ds : List D, d = .agg ds ∧ ds.length = ks.length ∧ ∀ (i : Nat) c d, ks[i]? = some c → ds[i]? = some d → Is 8 c d
def IsAL : List AK → List D → Prop
  | [], [] => True
  | a :: r, d :: s => IsA a d ∧ IsAL r s
  | _, _ => False
def aksOf (P : Program) : List Nat → Option (List AK)
  | [] => some []
  | t :: r => match akOf P t, aksOf P r with
    | some a, some l => some (a :: l)
    | _, _ => none
theorem isA_of_trod {t : Nat} {v : Value} {d : DataW H} {ps : List MemPlace} {a : AK} {base : Nat} (h : DataW.Trod enc P w 0 spare held t v d ps) (hok : Value.okWide P w .any base t v) (ha : akOf P t = some a) :
    ∃ d', IsA a d' ∧ R (fun b => b < w.heap.size) w Mu0 d' v := by
  obtain ⟨n, hn⟩ := h
  have agg : ∀ ks cs, v = .agg cs → cks P 8 t = some ks → ∃ d', IsA (.agg ks) d' ∧ R (fun b => b < w.heap.size) w Mu0 d' v := by
    intro ks cs hv hks
    subst hv
    obtain ⟨ds, h1, h2, h3, h4⟩ := told_of_trod 8 hn hks
    have h2' : cs.size = ks.length := by simpa [Value.cells] using h2
    exact ⟨.agg ds, ⟨ds, rfl, h1, h3⟩, .agg ds cs (by rw [h1, h2']) fun i d v hd hv => h4 i d v hd (by simpa [Value.cells] using hv)⟩
  have one : ∀ c, v.cells = #[v] → cks P 8 t = some [c] → ∃ d', IsA (.one c) d' ∧ R (fun b => b < w.heap.size) w Mu0 d' v := by
    intro c hv hks
    obtain ⟨ds, h1, h2, h3, h4⟩ := told_of_trod 8 hn hks
    rw [hv] at h2 h4
    match ds, h1 with
    | [d], _ => exact ⟨d, h3 0 c d rfl rfl, h4 0 d v rfl rfl⟩
  unfold akOf at ha
  unfold Value.okWide at hok
  split at ha
  · rename_i fs hu
    rw [hu] at hok
    obtain ⟨cs, hv, _⟩ := hok
    rw [Option.map_eq_some_iff] at ha
    obtain ⟨ks, hks, rfl⟩ := ha
    exact agg ks cs hv hks
  · rename_i m e hu
    rw [hu] at hok
    obtain ⟨cs, hv, _⟩ := hok
    rw [Option.map_eq_some_iff] at ha
    obtain ⟨ks, hks, rfl⟩ := ha
    exact agg ks cs hv hks
  all_goals first
    | (rename_i hu
       rw [hu] at hok
       split at ha
       · rename_i c hks
         cases ha
         refine one c ?_ hks
         cases v <;> simp [Cell.okWide, Cell.ok, hu] at hok <;> rfl
       · cases ha)
    | cases ha
theorem isAL_of_trod {base : Nat} : ∀ {ts : List Nat} {vs : List Value} {ds : List (DataW H)} {ps : List MemPlace} {l : List AK}, DataW.TrodAll enc P w 0 spare held ts vs ds ps →
    (∀ (j : Nat) t v, ts[j]? = some t → vs[j]? = some v → Value.okWide P w .any base t v) → aksOf P ts = some l → ∃ ds', IsAL l ds' ∧ RL (fun b => b < w.heap.size) w Mu0 ds' vs
  | [], vs, ds, ps, l, h, _, hl => by
    obtain ⟨rfl, _, _⟩ := ChangeShapes.trodAll_nil h
    cases hl
    exact ⟨[], trivial, rfl, fun i d v h => by simp at h⟩
  | t :: ts, vs, ds, ps, l, h, hok, hl => by
    obtain ⟨v, vs1, d, ds1, p1, p2, rfl, _, _, h1, h2⟩ := ChangeShapes.trodAll_cons h
    simp only [aksOf] at hl
    split at hl
    · rename_i a l' ha hl'
      cases hl
      obtain ⟨d', g1, g2⟩ := isA_of_trod h1 (hok 0 t v rfl rfl) ha
      obtain ⟨ds', g3, g4⟩ := isAL_of_trod h2 (fun j t v a b => hok (j + 1) t v (by simpa using a) (by simpa using b)) hl'
      refine ⟨d' :: ds', ⟨g1, g3⟩, by simp [g4.1], fun i x y hx hy => ?_⟩
      cases i with
      | zero => simp at hx hy; subst hx; subst hy; exact g2
      | succ i => exact g4.2 i x y (by simpa using hx) (by simpa using hy)
    · cases hl
end
def allI : List CK → Bool
  | [] => true
  | .int .i64 :: r => allI r
  | _ => false
theorem allI_get : ∀ {ks : List CK}, allI ks = true → ∀ j, j < ks.length → ks[j]? = some (.int .i64)
  | [], _, j, hj => absurd hj (Nat.not_lt_zero _)
  | c :: r, h, j, hj => by
    unfold allI at h
    split at h
    · rename_i heq; cases heq
    · rename_i heq
      cases heq
      cases j with
      | zero => rfl
      | succ j => exact allI_get h j (by simpa using hj)
    · cases h
theorem IM_of {f n : Nat} {ks : List CK} {g : Nat → Nat → D} (h : ∀ i j c, i < n → ks[j]? = some c → Is (f + 1) c (g i j)) (hk : allI ks = true) : IM n ks.length g := fun i j hi hj => by
  obtain ⟨x, hx, _⟩ := h i j _ hi (allI_get hk j hj)
  simp only [imD, im, hx, toI]
theorem SM_of {f n : Nat} {ks : List CK} {g : Nat → Nat → D} (h : ∀ i j c, i < n → (.str :: ks)[j]? = some c → Is (f + 1) c (g i j)) (hk : allI ks = true) : SM n (ks.length + 1) g ∧ ∀ i, i < n → (nmOf g i).size ≤ 9223372036854775807 := by
  have hs : ∀ i, i < n → ∃ s, g i 0 = .str s ∧ s.size ≤ 9223372036854775807 := fun i hi => h i 0 _ hi rfl
  refine ⟨fun i j hi hj => ?_, fun i hi => ?_⟩
  · cases j with
    | zero =>
      obtain ⟨s, hs, _⟩ := hs i hi
      simp only [smD, nmOf, hs, toS]
    | succ j =>
      obtain ⟨x, hx, _⟩ := h i (j + 1) (.int .i64) hi (by simpa using allI_get hk j (by omega))
      simp only [smD, imS, hx, toI]
  · obtain ⟨s, hs, h2⟩ := hs i hi
    simp only [nmOf, hs, toS]
    exact h2
section
variable {H : Type} {enc : TypeId × Value → H} {P : Program}
theorem trodAll_stays (hl : laidOutB P = true) {W W' : World} (hb : RowKit.Below W.heap.size W W') {sp : Nat → Bool} : ∀ {ts : List Nat} {vs : List Value} {ds : List (DataW H)} {ps : List MemPlace}, (∀ t ∈ ts, P.readableRec t = true ∧ t < P.types.size) →
    DataW.TrodAll enc P W 0 (fun _ => true) true ts vs ds ps → (∀ p ∈ ps, p.block < W.heap.size) → (∀ p ∈ ps, sp p.block = true) → DataW.TrodAll enc P W' 0 sp true ts vs ds ps
  | [], vs, ds, ps, _, h, _, _ => by
    obtain ⟨rfl, rfl, rfl⟩ := ChangeShapes.trodAll_nil h
    exact rfl
  | t :: ts, vs, ds, ps, ht, h, hlt, hs => by
    obtain ⟨v, vs1, d, ds1, p1, p2, rfl, rfl, rfl, h1, h2⟩ := ChangeShapes.trodAll_cons h
    exact ⟨p1, p2, WideElems.Trod_stays hl (ht t (List.mem_cons_self ..)).1 (ht t (List.mem_cons_self ..)).2 h1 (fun p hp => hb.same (hlt p (List.mem_append_left _ hp))) (fun p hp => hs p (List.mem_append_left _ hp)),
      trodAll_stays hl hb (fun t ht' => ht t (List.mem_cons_of_mem _ ht')) h2 (fun p hp => hlt p (List.mem_append_right _ hp)) (fun p hp => hs p (List.mem_append_right _ hp)), rfl⟩
theorem law_contract {f tb : Nat} {fn : Func} {s : ChangeSpec} {rule : List D → Option (Prop × D)} {l : List AK} {fresh handsOn again : Bool} (hl : laidOutB P = true) (hs : PSound P f (mk rule)) (ha : aksOf P fn.params.toList = some l)
    (hread : (fn.params.toList.all fun t => P.readableRec t && decide (t < P.types.size)) = true) (hres : fn.resultTypes = #[tb]) (htb : P.underlying tb = some .bool)
    (hrule : ∀ ds, IsAL l ds → ∃ p d, rule ds = some (p, d) ∧ p ∧ (d = .tt ∨ d = .bool true)) (hvars : s.vars = [])
    (hfn : ∀ ds : List (DataW H), ds.length = fn.params.size → (s.fn H ds).results = [.lit (.bool true)] ∧ (s.fn H ds).args = ds ∧ (s.fn H ds).vars = [])
    (W : World) (base : Nat) (args : Array Value) (ds gs : List (DataW H)) (before : List MemPlace)
    (hok : ∀ (j : Nat) t v, fn.params[j]? = some t → args[j]? = some v → Value.okWide P W .any base t v)
    (hW : DataW.Whole enc P fn.params.toList s.vars false W args.toList ds gs before) :
    Calls P f args W fun e W' => ∃ v, e = .returned v ∧ s.post enc P fn false fresh handsOn again W args v W' := by
  have hWW := hW
  obtain ⟨p, q, hA, hV, rfl, hfz, _⟩ := hW
  rw [hvars] at hV
  obtain ⟨rfl, rfl⟩ := ChangeShapes.trodVars_none hV
  obtain ⟨ds', h1, h2⟩ := isAL_of_trod hA (fun j t v ht hv => hok j t v (by simpa using ht) (by simpa using hv)) ha
  obtain ⟨pr, d, hr, hp, hd⟩ := hrule ds' h1
  have hlen : ds.length = fn.params.size := by simpa using (trodAll_length hA).2
  have hk : mk rule ds' (fun x => x = d) := by unfold mk; rw [hr]; exact ⟨hp, rfl⟩
  have hc := hs.calls ds' _ hk (fun b => b < W.heap.size) W args.toList (fun b hb => hb) h2
  rw [Array.toArray_toList] at hc
  refine hc.mono ?_
  rintro e W' ⟨v, S', d1, rfl, rfl, hR, hg⟩
  have hv : v = .bool true := by
    rcases hd with rfl | rfl
    · cases hR; rfl
    · cases hR; rfl
  subst hv
  have hb : RowKit.Below W.heap.size W W' := ⟨hg.os, hg.tape, hg.output, hg.size, hg.block⟩
  obtain ⟨f1, f2, f3⟩ := hfn (ds ++ []) (by simpa using hlen)
  have hlt : ∀ x ∈ p ++ [], x.block < W.heap.size := fun x hx => by simpa using hWW.lt x hx
  have hlt' : ∀ x ∈ p, x.block < W.heap.size := fun x hx => hlt x (by simpa using hx)
  have hread' : ∀ t ∈ fn.params.toList, P.readableRec t = true ∧ t < P.types.size := fun t ht => by
    have := List.all_eq_true.1 hread t ht
    simpa using this
  have hbool : ∀ (b : Nat) (sp : Nat → Bool) (hd : Bool), DataW.TrodAll enc P W' b sp hd fn.resultTypes.toList ((Value.bool true).resultList fn.resultTypes.size) [.lit (.bool true)] [] := fun b sp hd => by
    rw [hres]
    exact ⟨[], [], RowKit.shut_bool htb true, rfl, rfl⟩
  have hokr : ∀ (j : Nat) (t : TypeId) (r : Value), fn.resultTypes[j]? = some t → ((Value.bool true).resultList fn.resultTypes.size)[j]? = some r → Value.okWide P W' .any 0 t r := fun j t r h1 h2 => by
    rw [hres] at h1 h2
    cases j with
    | zero =>
      simp at h1
      subst h1
      have h2' : some (Value.bool true) = some r := h2
      cases h2'
      exact RowKit.okWide_bool_mk htb true
    | succ j => simp at h1
  refine ⟨_, rfl, ds, [], p ++ [], [], p, [], hWW, by rw [f1]; exact hbool _ _ _, ?_, by rw [hvars, f3]; exact rfl, hb.frame _, fun _ => ⟨hokr, [.lit (.bool true)] ++ ds, [], p, ?_, fun x hx _ => by simpa using hx⟩⟩
  · rw [f2, List.append_nil]
    exact trodAll_stays hl hb hread' hA hlt' fun x hx => decide_eq_true (hlt' x hx)
  · refine ⟨[] ++ p, [], ?_, by rw [hvars]; exact rfl, by simp, fun b off hbo => ?_, fun h => by cases h⟩
    · exact ChangeShapes.trodAll_append (trodAll_stays hl hb hread' hA hlt' fun _ _ => rfl) (hbool _ _ _)
    · have hm : MemPlace.cell b off ∈ p := by simpa using hbo
      rw [hb.frozen (p := ⟨b, off, none⟩) (hlt' _ hm)]
      exact hfz b off (by simpa using hm)
end
end Go.V
end
section
namespace Go.V
section
variable {P : Program} {S : Nat → Prop} {w : World} {μ : Mu} {H : HL}
end
end Go.V
end
section
namespace Go.V
def refs : Nat → D → List Nat
  | 0, _ => []
  | f + 1, d => match d with
    | .ptr o _ => [o]
    | .own o _ => [o]
    | .optr o _ _ _ _ => [o]
    | .osl o _ _ _ => [o]
    | .map o => [o]
    | .agg l => l.flatMap (refs f)
    | .tup l => l.flatMap (refs f)
    | .fn _ a b => a.flatMap (refs f) ++ b.flatMap (refs f)
    | _ => []
def refsO : Option Ob → List Nat
  | some (.row cs) => cs.flatMap (refs 3)
  | _ => []
def addN (acc : List Nat) (x : Nat) : List Nat := bif memB x acc then acc else acc ++ [x]
def nubN (l : List Nat) : List Nat := l.foldl addN []
def cl1 (H : HL) (l : List Nat) : List Nat := l ++ l.flatMap fun o => refsO (hget H o)
def frIds (ds : List D) (H : HL) : List Nat := nubN (cl1 H (cl1 H (ds.flatMap (refs 3))))
def ren (σ : Nat → Nat) : Nat → D → D
  | 0, d => d
  | f + 1, d => match d with
    | .ptr o i => .ptr (σ o) i
    | .own o n => .own (σ o) n
    | .optr o n s i j => .optr (σ o) n s i j
    | .osl o i n s => .osl (σ o) i n s
    | .map o => .map (σ o)
    | .agg l => .agg (l.map (ren σ f))
    | .tup l => .tup (l.map (ren σ f))
    | .fn g a b => .fn g (a.map (ren σ f)) (b.map (ren σ f))
    | d => d
def renOK (q : Nat → Bool) : Nat → D → Bool
  | 0, d => okb d
  | f + 1, d => match d with
    | .ptr o _ => q o
    | .own o _ => q o
    | .optr o _ _ _ _ => q o
    | .osl o _ _ _ => q o
    | .map o => q o
    | .agg l => l.all (renOK q f)
    | .tup l => l.all (renOK q f)
    | .fn _ a b => a.all (renOK q f) && b.all (renOK q f)
    | .iface _ d => noRef1 d
    | d => okb d
def renB (σ : Nat → Nat) : Ob → Ob
  | .row cs => .row (cs.map (ren σ 3))
  | x => x
def renO (σ : Nat → Nat) : Option Ob → Option Ob
  | some x => some (renB σ x)
  | none => none
def renOOK (q : Nat → Bool) : Option Ob → Bool
  | some (.row cs) => cs.all (renOK q 3)
  | _ => true
def smI : List Nat → Nat → Nat
  | [], _ => 0
  | x :: l, o => bif Nat.beq x o then 0 else smI l o + 1
def bgI (ids : List Nat) (n j : Nat) : Nat := match ids[j]? with
  | some i => i
  | none => n + (j - ids.length)
def isOb (H : HL) (o : Nat) : Bool := match hget H o with
  | some _ => true
  | none => false
def idxB : List Nat → Bool
  | [] => true
  | x :: l => !memB x l && idxB l
def frOK (ids : List Nat) (ds : List D) (H : HL) : Bool := (idxB ids && ids.all (isOb H)) && (ds.all (renOK (fun o => memB o ids) 3) && ids.all fun o => renOOK (fun o => memB o ids) (hget H o))
def putH (ids : List Nat) (σ : Nat → Nat) (H1 : HL) : Nat → HL → HL
  | _, [] => (H1.drop ids.length).map (renO σ)
  | i, x :: r => (bif memB i ids then renO σ (hget H1 (smI ids i)) else x) :: putH ids σ H1 (i + 1) r
def fzc1 (d : D) (k : D → Prop) : Prop := fz d fun d => match d with
  | .ptr o i => fzn o fun o => k (.ptr o i)
  | .own o n => fzn o fun o => k (.own o n)
  | d => k d
theorem fzc1_iff (d : D) (k : D → Prop) : fzc1 d k ↔ k d := by
  unfold fzc1
  rw [fz_iff]
  split <;> simp only [fzn_eq]
def fzcl1 (l : List D) : (List D → Prop) → Prop := @List.rec D (fun _ => (List D → Prop) → Prop) (fun k => k []) (fun d _ ih k => fzc1 d fun d => ih fun r => k (d :: r)) l
theorem fzcl1_iff : ∀ (l : List D) (k : List D → Prop), fzcl1 l k ↔ k l
  | [], k => Iff.rfl
  | d :: r, k => by show fzc1 d (fun d => fzcl1 r fun r => k (d :: r)) ↔ _; rw [fzc1_iff, fzcl1_iff r]
def fzc (d : D) (k : D → Prop) : Prop := fz d fun d => match d with
  | .ptr o i => fzn o fun o => k (.ptr o i)
  | .own o n => fzn o fun o => k (.own o n)
  | .fn g fs cs => fzcl1 fs fun fs => fzcl1 cs fun cs => k (.fn g fs cs)
  | .agg l => fzcl1 l fun l => k (.agg l)
  | .tup l => fzcl1 l fun l => k (.tup l)
  | d => k d
theorem fzc_iff (d : D) (k : D → Prop) : fzc d k ↔ k d := by
  unfold fzc
  rw [fz_iff]
  split <;> simp only [fzn_eq, fzcl1_iff]
def fzcl (l : List D) : (List D → Prop) → Prop := @List.rec D (fun _ => (List D → Prop) → Prop) (fun k => k []) (fun d _ ih k => fzc d fun d => ih fun r => k (d :: r)) l
theorem fzcl_iff : ∀ (l : List D) (k : List D → Prop), fzcl l k ↔ k l
  | [], k => Iff.rfl
  | d :: r, k => by show fzc d (fun d => fzcl r fun r => k (d :: r)) ↔ _; rw [fzc_iff, fzcl_iff r]
def fzhcB (x : Option Ob) (ih : (HL → Prop) → Prop) (k : HL → Prop) : Prop := match x with
  | none => ih fun r => k (none :: r)
  | some (.row cs) => fzcl cs fun cs => ih fun r => k (some (.row cs) :: r)
  | some (.buf e s n g) => ih fun r => k (some (.buf e s n g) :: r)
  | some (.mp m) => ih fun r => k (some (.mp m) :: r)
  | some (.lp l p) => ih fun r => k (some (.lp l p) :: r)
  | some .dead => ih fun r => k (some .dead :: r)
def fzhc (l : HL) : (HL → Prop) → Prop := @List.rec (Option Ob) (fun _ => (HL → Prop) → Prop) (fun k => k []) (fun x _ ih => fzhcB x ih) l
theorem fzhc_iff : ∀ (l : HL) (k : HL → Prop), fzhc l k ↔ k l
  | [], k => Iff.rfl
  | none :: r, k => by show fzhc r (fun r => k (none :: r)) ↔ _; rw [fzhc_iff r]
  | some (.row cs) :: r, k => by show fzcl cs (fun cs => fzhc r fun r => k (some (.row cs) :: r)) ↔ _; rw [fzcl_iff, fzhc_iff r]
  | some (.buf e s n g) :: r, k => by show fzhc r (fun r => k (some (.buf e s n g) :: r)) ↔ _; rw [fzhc_iff r]
  | some (.mp m) :: r, k => by show fzhc r (fun r => k (some (.mp m) :: r)) ↔ _; rw [fzhc_iff r]
  | some (.lp l p) :: r, k => by show fzhc r (fun r => k (some (.lp l p) :: r)) ↔ _; rw [fzhc_iff r]
  | some .dead :: r, k => by show fzhc r (fun r => k (some .dead :: r)) ↔ _; rw [fzhc_iff r]
def fznn (l : List Nat) : (List Nat → Prop) → Prop := @List.rec Nat (fun _ => (List Nat → Prop) → Prop) (fun k => k []) (fun n _ ih k => fzn n fun n => ih fun r => k (n :: r)) l
theorem fznn_iff : ∀ (l : List Nat) (k : List Nat → Prop), fznn l k ↔ k l
  | [], k => Iff.rfl
  | d :: r, k => by show fzn d (fun d => fznn r fun r => k (d :: r)) ↔ _; rw [fzn_eq, fznn_iff r]
def resD : Res → D
  | .ret d => d
  | .pan d => d
def frR (K : Res → HL → Prop) (r : Res) (d : D) (H : HL) : Prop := match r with
  | .ret _ => K (.ret d) H
  | .pan _ => K (.pan d) H
def frK (ids : List Nat) (n : Nat) (H : HL) (K : Res → HL → Prop) (r : Res) (H1 : HL) : Prop :=
  gate (Nat.ble ids.length H1.length && (renOK (fun o => Nat.blt o H1.length) 3 (resD r) && H1.all (renOOK fun o => Nat.blt o H1.length))) (fzc (ren (bgI ids n) 3 (resD r)) fun d => fzhc (putH ids (bgI ids n) H1 0 H) fun H2 => frR K r d H2)
def frameC (c : CRule) : CRule := fun ds H K => fznn (frIds ds H) fun ids => gate (frOK ids ds H) (fzcl (ds.map (ren (smI ids) 3)) fun ds0 => fzhc (ids.map fun o => renO (smI ids) (hget H o)) fun H0 => fzn H.length fun n => c ds0 H0 (frK ids n H K))
section
variable {P : Program} {S : Nat → Prop} {w : World} {μ : Mu} {H : HL}
theorem okb_R {μ' : Mu} {d : D} {v : Value} (h : okb d = true) (hR : R S w μ d v) : R S w μ' d v := by
  unfold okb at h
  rw [Bool.or_eq_true] at h
  rcases h with h | h
  · exact (noRef1_R hR h).of0
  · split at h
    · exact .top v
    · cases h
theorem ren_R {μ' : Mu} {σ : Nat → Nat} {q : Nat → Bool} (hq : ∀ o v, q o = true → μ o = some v → μ' (σ o) = some v) : ∀ (f : Nat) {d : D} {v : Value}, renOK q f d = true → R S w μ d v → R S w μ' (ren σ f d) v
  | 0, d, v, h, hR => okb_R h hR
  | f + 1, d, v, h, hR => by
    have parts : ∀ {cs : List D} {vs : Array Value}, cs.all (renOK q f) = true → (∀ (i : Nat) d v, cs[i]? = some d → vs[i]? = some v → R S w μ d v) → ∀ (i : Nat) d v, (cs.map (ren σ f))[i]? = some d → vs[i]? = some v → R S w μ' d v := fun hc hr i d v h1 h2 => by
      rw [List.getElem?_map] at h1
      obtain ⟨d0, h3, rfl⟩ := Option.map_eq_some_iff.1 h1
      exact ren_R hq f (List.all_eq_true.1 hc d0 (List.mem_of_getElem? h3)) (hr i d0 v h3 h2)
    have hR0 := hR
    cases hR with
    | ptr o off b hm => exact .ptr _ _ b (hq o _ h hm)
    | own o n A m c v hm h1 h2 h3 => exact .own _ _ A m c _ (hq o _ h hm) h1 h2 h3
    | optr o n size i j A m c b hm h1 h2 => exact .optr _ _ _ _ _ A m c b (hq o _ h hm) h1 h2
    | osl o off n size b c hm h1 => exact .osl _ _ _ _ b c (hq o _ h hm) h1
    | map o r ks hm => exact .map _ r ks (hq o _ h hm)
    | agg cs vs hl hr => exact .agg _ _ (by simpa using hl) (parts h hr)
    | tup cs vs hl hr => exact .tup _ _ (by simpa using hl) (parts h hr)
    | fn g fs cs vf vc h1 h2 h3 h4 =>
      have h : (fs.all (renOK q f) && cs.all (renOK q f)) = true := h
      rw [Bool.and_eq_true] at h
      exact .fn g _ _ _ _ (by simpa using h1) (by simpa using h2) (parts h.1 h3) (parts h.2 h4)
    | iface t d v hd => exact .iface t d v (noRef1_R hd h).of0
    | yld o l hm => cases h
    | stamp o k r ks i born hm hi => cases h
    | top v => exact .top v
    | tt => exact .tt
    | ff => exact .ff
    | int k n => exact .int k n
    | bool b => exact .bool b
    | str s => exact .str s
    | rsl size n g A c val h1 h2 h3 => exact .rsl size n g A c val h1 h2 h3
    | eptr n g b off val h1 h2 h3 => exact .eptr n g b off val h1 h2 h3
    | nilI => exact .nilI
    | nilS => exact .nilS
    | nilP => exact .nilP
theorem renB_R {μ' : Mu} {σ : Nat → Nat} {q : Nat → Bool} (hq : ∀ o v, q o = true → μ o = some v → μ' (σ o) = some v) {mv : Value} {ob : Ob} (h : renOOK q (some ob) = true) (hR : ObR S w μ mv ob) : ObR S w μ' mv (renB σ ob) := by
  cases ob with
  | row cs =>
    obtain ⟨b, cells, T, h1, h2, h3, h4, h5⟩ := hR
    refine ⟨b, cells, T, h1, h2, by simpa using h3, fun i d v g1 g2 => ?_, h5⟩
    rw [List.getElem?_map] at g1
    obtain ⟨d0, g3, rfl⟩ := Option.map_eq_some_iff.1 g1
    exact ren_R hq 3 (List.all_eq_true.1 h d0 (List.mem_of_getElem? g3)) (h4 i d0 v g3 g2)
  | _ => exact hR
theorem smI_get : ∀ {ids : List Nat} {o : Nat}, o ∈ ids → ids[smI ids o]? = some o
  | [], o, h => by cases h
  | x :: l, o, h => by
    unfold smI
    cases hb : Nat.beq x o with
    | true => simp [Nat.eq_of_beq_eq_true hb]
    | false =>
      have hne : x ≠ o := fun e => by rw [e, Nat.beq_refl] at hb; cases hb
      have h1 : o ∈ l := by
        rcases List.mem_cons.1 h with h | h
        · exact absurd h.symm hne
        · exact h
      simpa using smI_get h1
theorem get_smI : ∀ {ids : List Nat} {j i : Nat}, idxB ids = true → ids[j]? = some i → smI ids i = j
  | [], j, i, h, hj => by simp at hj
  | x :: l, j, i, h, hj => by
    simp only [idxB, Bool.and_eq_true, Bool.not_eq_true'] at h
    unfold smI
    cases j with
    | zero => simp at hj; subst hj; simp
    | succ j =>
      have hj' : l[j]? = some i := by simpa using hj
      have hne : Nat.beq x i = false := by
        cases hb : Nat.beq x i with
        | false => rfl
        | true =>
          have e := Nat.eq_of_beq_eq_true hb
          subst e
          have := (memB_iff x l).2 (List.mem_of_getElem? hj')
          rw [this] at h; cases h.1
      rw [hne, cond_false, get_smI h.2 hj']
theorem renO_some {σ : Nat → Nat} {x : Option Ob} {ob : Ob} (h : renO σ x = some ob) : ∃ ob0, x = some ob0 ∧ ob = renB σ ob0 := by
  cases x with
  | none => cases h
  | some y => injection h with h; exact ⟨y, rfl, h.symm⟩
theorem putH_len (ids : List Nat) (σ : Nat → Nat) (H1 : HL) : ∀ (r : HL) (i : Nat), (putH ids σ H1 i r).length = r.length + (H1.length - ids.length)
  | [], i => by simp [putH]
  | x :: r, i => by simp only [putH, List.length_cons, putH_len ids σ H1 r (i + 1)]; omega
theorem hget_cons_succ (x : Option Ob) (r : HL) (o : Nat) : hget (x :: r) (o + 1) = hget r o := by simp [hget]
theorem hget_map_renO (σ : Nat → Nat) (l : HL) (o : Nat) : hget (l.map (renO σ)) o = renO σ (hget l o) := by
  unfold hget
  rw [List.getD_eq_getElem?_getD, List.getD_eq_getElem?_getD, List.getElem?_map]
  cases l[o]? <;> rfl
theorem putH_get (ids : List Nat) (σ : Nat → Nat) (H1 : HL) : ∀ (r : HL) (i o : Nat), hget (putH ids σ H1 i r) o =
    if o < r.length then (bif memB (i + o) ids then renO σ (hget H1 (smI ids (i + o))) else hget r o) else renO σ (hget H1 (ids.length + (o - r.length)))
  | [], i, o => by
    rw [if_neg (by simp)]
    simp only [putH, hget_map_renO, List.length_nil, Nat.sub_zero]
    congr 1
    unfold hget
    rw [List.getD_eq_getElem?_getD, List.getD_eq_getElem?_getD, List.getElem?_drop]
  | x :: r, i, 0 => by
    rw [if_pos (by simp)]
    simp only [putH, Nat.add_zero]
    rfl
  | x :: r, i, o + 1 => by
    simp only [putH, hget_cons_succ, putH_get ids σ H1 r (i + 1) o, List.length_cons]
    by_cases h : o < r.length
    · rw [if_pos h, if_pos (by omega), show i + 1 + o = i + (o + 1) by omega]
    · rw [if_neg h, if_neg (by omega), show o + 1 - (r.length + 1) = o - r.length by omega]
theorem csound_frame {f : Nat} {c : CRule} (hs : CSound P f c) : CSound P f (frameC c) := by
  refine ⟨hs.enters, fun ds H K hk S w μ vs hr hRL => ?_⟩
  unfold frameC at hk
  rw [fznn_iff] at hk
  generalize frIds ds H = ids at hk
  obtain ⟨hok, hk⟩ := hk
  rw [fzcl_iff, fzhc_iff, fzn_eq] at hk
  have hok : frOK ids ds H = true := hok
  simp only [frOK, Bool.and_eq_true] at hok
  obtain ⟨⟨hnd, hob⟩, hds, hrows⟩ := hok
  have hsome : ∀ i, i ∈ ids → ∃ ob, hget H i = some ob := fun i hi => by
    have h := List.all_eq_true.1 hob i hi
    unfold isOb at h
    split at h
    · exact ⟨_, by assumption⟩
    · cases h
  have hlt : ∀ i, i ∈ ids → i < H.length := fun i hi => by
    obtain ⟨ob, h⟩ := hsome i hi
    exact lt_of_hget h
  generalize hμ0 : (fun j => match ids[j]? with | some i => μ i | none => none : Mu) = μ0
  have m0 : ∀ j i, ids[j]? = some i → μ0 j = μ i := fun j i h => by rw [← hμ0]; simp only [h]
  have m0n : ∀ j, ids[j]? = none → μ0 j = none := fun j h => by rw [← hμ0]; simp only [h]
  generalize hH0 : (ids.map fun o => renO (smI ids) (hget H o)) = H0 at hk
  have g0 : ∀ j i, ids[j]? = some i → hget H0 j = renO (smI ids) (hget H i) := fun j i h => by
    rw [← hH0]
    unfold hget
    rw [List.getD_eq_getElem?_getD, List.getElem?_map, h]
    rfl
  have g0n : ∀ j, ids[j]? = none → hget H0 j = none := fun j h => by
    rw [← hH0]
    unfold hget
    rw [List.getD_eq_getElem?_getD, List.getElem?_map, h]
    rfl
  have h0 : ∀ j ob, hget H0 j = some ob → ∃ i ob1, ids[j]? = some i ∧ hget H i = some ob1 ∧ ob = renB (smI ids) ob1 ∧ μ0 j = μ i := fun j ob h => by
    cases hj : ids[j]? with
    | none => rw [g0n j hj] at h; cases h
    | some i =>
      rw [g0 j i hj] at h
      obtain ⟨ob1, e1, e2⟩ := renO_some h
      exact ⟨i, ob1, rfl, e1, e2, m0 j i hj⟩
  have hq : ∀ o v, memB o ids = true → μ o = some v → μ0 (smI ids o) = some v := fun o v h hv => by
    rw [m0 _ o (smI_get ((memB_iff _ _).1 h))]; exact hv
  have hr0 : RelL S w μ0 H0 := by
    refine ⟨⟨fun j ob hj => ?_, fun j j' ob ob' v v' b hj hj' hne hv hv' hb => ?_, fun b hb => ⟨(hr.1.stat b hb).1, fun j ob v hj hv => ?_⟩⟩, fun j hj => ?_⟩
    · obtain ⟨i, ob1, e1, e2, rfl, e4⟩ := h0 j ob hj
      obtain ⟨mv, k1, k2⟩ := hr.1.obs i ob1 e2
      have := List.all_eq_true.1 hrows i (List.mem_of_getElem? e1)
      rw [e2] at this
      exact ⟨mv, by rw [e4, k1], renB_R hq this k2⟩
    · obtain ⟨i, ob1, e1, e2, _, e4⟩ := h0 j ob hj
      obtain ⟨i', ob1', e1', e2', _, e4'⟩ := h0 j' ob' hj'
      have hne' : i ≠ i' := fun e => hne (by rw [← get_smI hnd e1, ← get_smI hnd e1', e])
      rw [e4] at hv
      rw [e4'] at hv'
      exact hr.1.sep i i' ob1 ob1' v v' b e2 e2' hne' hv hv' hb
    · obtain ⟨i, ob1, e1, e2, _, e4⟩ := h0 j ob hj
      rw [e4] at hv
      exact (hr.1.stat b hb).2 i ob1 v e2 hv
    · refine m0n j ?_
      rw [← hH0] at hj
      exact List.getElem?_eq_none (by simpa using hj)
  have hRL0 : RL S w μ0 (ds.map (ren (smI ids) 3)) vs := ⟨by simpa using hRL.1, fun i d v h1 h2 => by
    rw [List.getElem?_map] at h1
    obtain ⟨d0, h3, rfl⟩ := Option.map_eq_some_iff.1 h1
    exact ren_R hq 3 (List.all_eq_true.1 hds d0 (List.mem_of_getElem? h3)) (hRL.2 i d0 v h3 h2)⟩
  refine (hs.calls _ _ _ hk S w μ0 vs hr0 hRL0).mono ?_
  rintro e w' ⟨S', μ1, r, H1, k1, k2, k3, t⟩
  obtain ⟨gk, k1⟩ := k1
  rw [fzc_iff, fzhc_iff] at k1
  have gk : (Nat.ble ids.length H1.length && (renOK (fun o => Nat.blt o H1.length) 3 (resD r) && H1.all (renOOK fun o => Nat.blt o H1.length))) = true := gk
  simp only [Bool.and_eq_true] at gk
  obtain ⟨gl, gr, gh⟩ := gk
  have gl := Nat.le_of_ble_eq_true gl
  generalize hσ : bgI ids H.length = σ at k1
  have s1 : ∀ j i, ids[j]? = some i → σ j = i := fun j i h => by rw [← hσ]; simp only [bgI, h]
  have s2 : ∀ j, ids[j]? = none → σ j = H.length + (j - ids.length) := fun j h => by rw [← hσ]; simp only [bgI, h]
  generalize hμ' : (fun o => if o ∈ ids then μ1 (smI ids o) else if o < H.length then μ o else μ1 (ids.length + (o - H.length)) : Mu) = μ'
  have hH2 := putH_get ids σ H1 H 0
  have hl2 := putH_len ids σ H1 H 0
  generalize putH ids σ H1 0 H = H2 at hH2 hl2 k1
  -- what an object is: one of the callee's, or one that it has not seen
  have new : ∀ j, hget H2 (σ j) = renO σ (hget H1 j) ∧ μ' (σ j) = μ1 j := fun j => by
    cases hj : ids[j]? with
    | some i =>
      have hi := List.mem_of_getElem? hj
      have e1 := get_smI hnd hj
      rw [s1 j i hj]
      refine ⟨?_, by rw [← hμ']; simp only [if_pos hi, e1]⟩
      rw [hH2 i, if_pos (hlt i hi), Nat.zero_add, (memB_iff _ _).2 hi, cond_true, e1]
    | none =>
      have hj' : ids.length ≤ j := by
        rcases Nat.lt_or_ge j ids.length with h | h
        · rw [List.getElem?_eq_getElem h] at hj; cases hj
        · exact h
      rw [s2 j hj]
      refine ⟨?_, ?_⟩
      · rw [hH2, if_neg (by omega), show ids.length + (H.length + (j - ids.length) - H.length) = j by omega]
      · rw [← hμ']
        simp only
        rw [if_neg (fun h => by have := hlt _ h; omega), if_neg (by omega), show ids.length + (H.length + (j - ids.length) - H.length) = j by omega]
  have cls : ∀ o, (∃ j, o = σ j) ∨ (o < H.length ∧ o ∉ ids ∧ hget H2 o = hget H o ∧ μ' o = μ o) := fun o => by
    by_cases hi : o ∈ ids
    · exact .inl ⟨smI ids o, (s1 _ _ (smI_get hi)).symm⟩
    · by_cases ho : o < H.length
      · refine .inr ⟨ho, hi, ?_, by rw [← hμ']; simp only [if_neg hi, if_pos ho]⟩
        rw [hH2 o, if_pos ho, Nat.zero_add]
        cases hm : memB o ids with
        | true => exact absurd ((memB_iff _ _).1 hm) hi
        | false => rfl
      · refine .inl ⟨ids.length + (o - H.length), ?_⟩
        rw [s2 _ (List.getElem?_eq_none (by omega))]
        omega
  have hq1 : ∀ o v, Nat.blt o H1.length = true → μ1 o = some v → μ' (σ o) = some v := fun o v _ hv => by rw [(new o).2]; exact hv
  have hle : MuLe μ μ' := fun o v hv => by
    rcases cls o with ⟨j, rfl⟩ | ⟨_, _, _, h4⟩
    · cases hj : ids[j]? with
      | some i =>
        rw [s1 j i hj] at hv
        obtain ⟨v', q1, q2⟩ := t.mu j v (by rw [m0 j i hj]; exact hv)
        exact ⟨v', by rw [(new j).2]; exact q1, q2⟩
      | none =>
        have : ids.length ≤ j := by
          rcases Nat.lt_or_ge j ids.length with h | h
          · rw [List.getElem?_eq_getElem h] at hj; cases hj
          · exact h
        rw [s2 j hj, hr.2 _ (by omega)] at hv
        cases hv
    · exact ⟨v, by rw [h4]; exact hv, .refl v⟩
  -- blocks of objects that the callee has not seen
  have far : ∀ o ob v b, o ∉ ids → hget H o = some ob → μ o = some v → blk v = some b → b < w.heap.size ∧ ∀ j ob v, hget H0 j = some ob → μ0 j = some v → blk v ≠ some b := fun o ob v b hi ho hv hb => by
    obtain ⟨mv, m1, m2⟩ := hr.1.obs o ob ho
    rw [hv] at m1; injection m1 with m1; subst m1
    refine ⟨m2.blk_lt hb, fun j ob' v' hj hv' hb' => ?_⟩
    obtain ⟨i, ob1, e1, e2, _, e4⟩ := h0 j ob' hj
    rw [e4] at hv'
    exact hr.1.sep o i ob ob1 v v' b ho e2 (fun e => hi (e ▸ List.mem_of_getElem? e1)) hv hv' hb hb'
  have apart : ∀ j o ob ob' v v' b, o ∉ ids → hget H1 j = some ob → μ1 j = some v → hget H o = some ob' → μ o = some v' → blk v = some b → blk v' = some b → False := fun j o ob ob' v v' b hi hj hv ho hv' hb hb' => by
    obtain ⟨f1, f2⟩ := far o ob' v' b hi ho hv' hb'
    rcases t.blks j ob v b hj hv hb with h | ⟨j3, ob3, v3, e1, e2, e3⟩
    · omega
    · exact f2 j3 ob3 v3 e1 e2 e3
  have hS : ∀ b, S b → w'.heap[b]? = w.heap[b]? := hr0.1.static t
  have hrel : RelL S' w' μ' H2 := by
    refine ⟨⟨fun o ob ho => ?_, fun o o' ob ob' v v' b ho ho' hne hv hv' hb hb' => ?_, fun b hb => ⟨(k3.1.stat b hb).1, fun o ob v ho hv hbv => ?_⟩⟩, fun o ho => ?_⟩
    · rcases cls o with ⟨j, rfl⟩ | ⟨h1, h2, h3, h4⟩
      · rw [(new j).1] at ho
        obtain ⟨ob1, e1, rfl⟩ := renO_some ho
        obtain ⟨mv, m1, m2⟩ := k3.1.obs j ob1 e1
        refine ⟨mv, by rw [(new j).2]; exact m1, renB_R hq1 ?_ m2⟩
        have hmem : some ob1 ∈ H1 := by
          have hj := lt_of_hget e1
          have : hget H1 j = H1[j] := by simp [hget, List.getElem?_eq_getElem hj]
          rw [← e1, this]
          exact List.getElem_mem hj
        exact List.all_eq_true.1 gh _ hmem
      · rw [h3] at ho
        obtain ⟨mv, m1, m2⟩ := hr.1.obs o ob ho
        exact ⟨mv, by rw [h4]; exact m1, m2.keep t.sub hS hle fun b hb => t.block b (m2.blk_lt hb) (far o ob mv b h2 ho m1 hb).2⟩
    · rcases cls o with ⟨j, rfl⟩ | ⟨h1, h2, h3, h4⟩ <;> rcases cls o' with ⟨j', rfl⟩ | ⟨h1', h2', h3', h4'⟩
      · rw [(new j).1] at ho
        rw [(new j').1] at ho'
        rw [(new j).2] at hv
        rw [(new j').2] at hv'
        obtain ⟨ob1, e1, _⟩ := renO_some ho
        obtain ⟨ob1', e1', _⟩ := renO_some ho'
        exact k3.1.sep j j' ob1 ob1' v v' b e1 e1' (fun e => hne (by rw [e])) hv hv' hb hb'
      · rw [(new j).1] at ho
        rw [(new j).2] at hv
        rw [h3'] at ho'
        rw [h4'] at hv'
        obtain ⟨ob1, e1, _⟩ := renO_some ho
        exact apart j o' ob1 ob' v v' b h2' e1 hv ho' hv' hb hb'
      · rw [(new j').1] at ho'
        rw [(new j').2] at hv'
        rw [h3] at ho
        rw [h4] at hv
        obtain ⟨ob1, e1, _⟩ := renO_some ho'
        exact apart j' o ob1 ob v' v b h2 e1 hv' ho hv hb' hb
      · rw [h3] at ho
        rw [h4] at hv
        rw [h3'] at ho'
        rw [h4'] at hv'
        exact hr.1.sep o o' ob ob' v v' b ho ho' hne hv hv' hb hb'
    · rcases cls o with ⟨j, rfl⟩ | ⟨h1, h2, h3, h4⟩
      · rw [(new j).1] at ho
        rw [(new j).2] at hv
        obtain ⟨ob1, e1, _⟩ := renO_some ho
        exact (k3.1.stat b hb).2 j ob1 v e1 hv hbv
      · rw [h3] at ho
        rw [h4] at hv
        obtain ⟨f1, f2⟩ := far o ob v b h2 ho hv hbv
        rcases t.new b hb with h | h | ⟨j3, ob3, v3, e1, e2, e3⟩
        · exact (hr.1.stat b h).2 o ob v ho hv hbv
        · omega
        · exact f2 j3 ob3 v3 e1 e2 e3
    · rw [hl2] at ho
      rcases cls o with ⟨j, rfl⟩ | ⟨h1, _⟩
      · rw [(new j).2]
        refine k3.2 j ?_
        cases hj : ids[j]? with
        | some i => rw [s1 j i hj] at ho; have := hlt i (List.mem_of_getElem? hj); omega
        | none =>
          have : ids.length ≤ j := by
            rcases Nat.lt_or_ge j ids.length with h | h
            · rw [List.getElem?_eq_getElem h] at hj; cases hj
            · exact h
          rw [s2 j hj] at ho; omega
      · omega
  have htr : Tr S w μ (hget H) S' w' μ' (hget H2) := by
    refine ⟨t.os, t.tape, t.output, t.size, fun b hb hno => t.block b hb fun j ob v hj hv => ?_, t.sub, fun b hb => ?_, hle, fun o ob v b ho hv hb => ?_, fun o v ho hv => ?_, fun o ho => ?_⟩
    · obtain ⟨i, ob1, e1, e2, _, e4⟩ := h0 j ob hj
      rw [e4] at hv
      exact hno i ob1 v e2 hv
    · rcases t.new b hb with h | h | ⟨j, ob, v, hj, hv, hb⟩
      · exact .inl h
      · exact .inr (.inl h)
      · obtain ⟨i, ob1, e1, e2, _, e4⟩ := h0 j ob hj
        rw [e4] at hv
        exact .inr (.inr ⟨i, ob1, v, e2, hv, hb⟩)
    · rcases cls o with ⟨j, rfl⟩ | ⟨h1, h2, h3, h4⟩
      · rw [(new j).1] at ho
        rw [(new j).2] at hv
        obtain ⟨ob1, e1, _⟩ := renO_some ho
        rcases t.blks j ob1 v b e1 hv hb with h | ⟨j3, ob3, v3, e1, e2, e3⟩
        · exact .inl h
        · obtain ⟨i, ob4, q1, q2, _, q4⟩ := h0 j3 ob3 e1
          rw [q4] at e2
          exact .inr ⟨i, ob4, v3, q2, e2, e3⟩
      · rw [h3] at ho
        rw [h4] at hv
        exact .inr ⟨o, ob, v, ho, hv, hb⟩
    · rcases cls o with ⟨j, rfl⟩ | ⟨h1, h2, h3, h4⟩
      · cases hj : ids[j]? with
        | some i =>
          rw [s1 j i hj] at ho
          obtain ⟨ob, h⟩ := hsome i (List.mem_of_getElem? hj)
          rw [h] at ho; cases ho
        | none =>
          have : ids.length ≤ j := by
            rcases Nat.lt_or_ge j ids.length with h | h
            · rw [List.getElem?_eq_getElem h] at hj; cases hj
            · exact h
          rw [s2 j hj, hr.2 _ (by omega)] at hv
          cases hv
      · exact ⟨by rw [h3]; exact ho, by rw [h4]; exact hv⟩
    · rcases cls o with ⟨j, rfl⟩ | ⟨h1, h2, h3, h4⟩
      · rw [(new j).2] at ho
        refine .inl ?_
        rw [(new j).1]
        rcases t.dom j ho with h | ⟨h, h'⟩
        · cases hj : hget H1 j with
          | none => exact absurd hj h
          | some ob => exact fun e => by cases e
        · cases hj : ids[j]? with
          | some i =>
            rw [g0 j i hj] at h'
            obtain ⟨ob, h2⟩ := hsome i (List.mem_of_getElem? hj)
            rw [h2] at h'; cases h'
          | none => exact absurd (m0n j hj) h
      · rw [h4] at ho
        rw [h3]
        exact dom_refl o ho
  cases r with
  | ret d =>
    cases e <;> first | exact k2.elim | exact ⟨S', μ', .ret _, H2, k1, ren_R hq1 3 gr k2, hrel, htr⟩
  | pan d =>
    cases e <;> first
      | exact k2.elim
      | (obtain ⟨v, rfl, h2⟩ := k2
         exact ⟨S', μ', .pan _, H2, k1, ⟨v, rfl, ren_R hq1 3 gr h2⟩, hrel, htr⟩)
end
structure NSound (P : Program) (f : Nat) (c : PRule) : Prop where
  enters : Enters P f
  calls : ∀ ds k, c ds k → ∀ S w (vs : List Value), (∀ b, S b → b < w.heap.size) → RL S w Mu0 ds vs →
    Calls P f vs.toArray w fun e w' => ∃ v N d, e = .returned v ∧ k d ∧ (∀ b, N b → w.heap.size ≤ b ∧ b < w'.heap.size) ∧ R N w' Mu0 d v ∧ Grow S w (fun b => S b ∨ N b) w'
section
variable {P : Program} {S : Nat → Prop} {w : World} {μ : Mu} {H : HL}
end
end Go.V
end
section
namespace Go.V
abbrev QRule := List D → (Res → Prop) → Prop
structure QSound (P : Program) (f : Nat) (q : QRule) : Prop where
  enters : Enters P f
  calls : ∀ ds K, q ds K → ∀ S w (vs : List Value), (∀ b, S b → b < w.heap.size) → RL S w Mu0 ds vs →
    Calls P f vs.toArray w fun e w' => ∃ S' r, K r ∧ ResR S' w' Mu0 r e ∧ Grow S w S' w'
def noRefT (d : D) : Bool := match d with
  | .top => true
  | d => noRef d
def finQ (K : Res → Prop) (ds : List D) (H : HL) : Prop := viewal H ds fun ds => bif ds.all noRefT then (match ds with
  | [d] => K (.ret d)
  | ds => K (.ret (.tup ds))) else False
def flatP : D → Bool
  | .iface _ d => flat d
  | d => flat d
def finQP (K : Res → Prop) (d : D) (H : HL) : Prop := bif flatP d then K (.pan d) else False
section
variable {P : Program} {C : Cx} {w : World} {S : Nat → Prop} {μ : Mu} {H : HL}
theorem flatP_R {S' : Nat → Prop} {w' : World} {μ' : Mu} {d : D} {v : Value} (h : R S w μ d v) (hn : flatP d = true) : R S' w' μ' d v := by
  cases d <;> first
    | exact (flat_R (S' := S') (w' := w') h hn).of0
    | (cases h; rename_i hv; exact .iface _ _ _ (flat_R (S' := S') (w' := w') hv hn).of0)
theorem noRefT_RL {ds : List D} {vs : List Value} (hn : ds.all noRefT = true) : ∀ (i : Nat) d v, ds[i]? = some d → vs[i]? = some v → (noRef d = true → R S w Mu0 d v) → R S w Mu0 d v := fun i d v h1 h2 h3 => by
  have := List.all_eq_true.1 hn d (List.mem_of_getElem? h1)
  cases d <;> first | exact .top v | exact h3 this
theorem sound_viewal1 {H : HL} (hr : Rel S w μ (hget H)) : ∀ (ds : List D) (vs : List Value) {k : List D → Prop}, RL S w μ ds vs → viewal H ds k → ∃ ds', k ds' ∧ ds'.length = vs.length ∧ ∀ (i : Nat) d v, ds'[i]? = some d → vs[i]? = some v → noRef d = true → R (withH S μ (hget H)) w Mu0 d v
  | [], vs, k, hl, h => ⟨[], h, hl.1, fun i d v h1 => by simp at h1⟩
  | d :: ds, [], k, hl, h => by have := hl.1; simp at this
  | d :: ds, v :: vs, k, hl, h => by
    obtain ⟨hd, hl'⟩ := hl.cons_inv
    have h : viewa H d (fun d => viewal H ds fun r => k (d :: r)) := h
    obtain ⟨d', h1, h2⟩ := sound_viewa hr hd h
    obtain ⟨ds', h3, h4, h5⟩ := sound_viewal1 hr ds vs hl' h1
    refine ⟨d' :: ds', h3, by simpa using h4, fun i d v e1 e2 hn => ?_⟩
    cases i with
    | zero =>
      simp at e1 e2
      subst e1
      subst e2
      exact h2 hn
    | succ i => exact h5 i d v (by simpa using e1) (by simpa using e2) hn
theorem qsound_of {f : Nat} {fn : Func} {code : Code} {q : QRule} (hf : P.funcs[f]? = some fn) (hname : (fn.name == "runtime.NumGoroutine") = false) (hb : fn.body = some code) (hC : CallsOK P C TT)
    (h : ∀ ds K, q ds K → ds.length ≤ fn.ntmps ∧ ∃ ds', impAL noGh ds ds' (vbody C fn code (finQ K) (finQP K) ds' [])) : QSound P f q := by
  refine ⟨enters_of hf hname hb, fun ds K hk S w vs hS hRL => ?_⟩
  obtain ⟨hle, ds', hi⟩ := h ds K hk
  obtain ⟨g1, g2⟩ := impAL_sound (gs := noGh) (fun o ho => by cases ho) hRL hi
  have hr0 : RelL S w Mu0 [] := ⟨⟨fun o ob ho => by simp [hget] at ho, fun o o' ob ob' v v' b ho => by simp [hget] at ho, fun b hb => ⟨hS b hb, fun o ob v ho => by simp [hget] at ho⟩⟩, fun _ _ => rfl⟩
  refine (body_sound hC hf hb g2 (by have := g1.1; have := hRL.1; omega) trivial hr0 g1).mono ?_
  rintro e w' ⟨S', μ', H', hr, t, ho⟩
  have hgrow : Grow S w (withH S' μ' (hget H')) w' := ⟨t.os, t.tape, t.output, t.size, fun b hb => t.block b hb fun o ob v ho => by simp [hget] at ho, fun b hb => .inl (t.sub b hb), fun b hb => by
    rcases hb with hb | ⟨o, ob, v, ho, hv, hbv⟩
    · exact (t.new b hb).imp_right fun h => h.elim id fun ⟨o, ob, v, h1, _⟩ => by simp [hget] at h1
    · rcases t.blks o ob v b ho hv hbv with h1 | ⟨o', ob', v', h1, _⟩
      · exact .inr h1
      · simp [hget] at h1, fun b hb => by
    rcases hb with hb | ⟨o, ob, v, ho, hv, hbv⟩
    · exact (hr.1.stat b hb).1
    · obtain ⟨mv, m1, m2⟩ := hr.1.obs o ob ho
      rw [hv] at m1; injection m1 with m1; subst m1
      exact m2.blk_lt hbv⟩
  rcases ho with ⟨ds1, vs1, h1, h2, rfl⟩ | ⟨d, v, h1, h2, rfl⟩
  · unfold finQ at h1
    obtain ⟨ds2, g4, g5, g6⟩ := sound_viewal1 hr.1 ds1 vs1 h2 h1
    cases hn : ds2.all noRefT with
    | false => simp [hn] at g4
    | true =>
      simp only [hn, cond_true] at g4
      have g7 : RL (withH S' μ' (hget H')) w' Mu0 ds2 vs1 := ⟨g5, fun i d v e1 e2 => noRefT_RL hn i d v e1 e2 (g6 i d v e1 e2)⟩
      split at g4
      · rename_i d
        match vs1, g7 with
        | [v], g7 => exact ⟨_, .ret d, g4, by simpa [ResR, resV] using g7.cons_inv.1, hgrow⟩
        | [], g7 => have := g7.1; simp at this
        | _ :: _ :: _, g7 => have := g7.1; simp at this
      · rename_i hne
        have : ¬ vs1.toArray.size = 1 := fun h1 => by
          have h2 := g7.1
          simp only [List.size_toArray] at h1
          match ds2, h2 with
          | [d], _ => exact hne d rfl
          | [], h2 => simp at h2; omega
          | _ :: _ :: _, h2 => simp at h2; omega
        refine ⟨_, .ret (.tup ds2), g4, ?_, hgrow⟩
        show R _ w' Mu0 (.tup ds2) (resV vs1)
        unfold resV
        rw [dif_neg this]
        exact .tup _ _ (by simpa using g7.1) fun i d v a b => g7.2 i d v a (by simpa using b)
  · unfold finQP at h1
    cases hn : flatP d with
    | false => simp [hn] at h1
    | true =>
      simp only [hn, cond_true] at h1
      exact ⟨_, .pan d, h1, ⟨v, rfl, flatP_R h2 hn⟩, hgrow⟩
def qRes (fl : Bool) (K : Res → HL → Prop) (H : HL) (r : Res) : Prop := match r with
  | .ret d => fza d fun d => bif fl || flat d then K (.ret d) H else False
  | .pan d => bif flatP d then K (.pan d) H else False
def qC (q : QRule) : CRule := fun ds H K => bif ds.all noRef then q ds (qRes true K H) else viewal H ds fun ds => bif ds.all noRef then q ds (qRes false K H) else False
theorem csound_q {f : Nat} {q : QRule} (hs : QSound P f q) : CSound P f (qC q) := by
  refine ⟨hs.enters, fun ds H K hk S w μ vs hr hRL => ?_⟩
  unfold qC at hk
  have hst := fun b (hb : S b) => (hr.1.stat b hb).1
  cases hn : ds.all noRef with
  | true =>
    rw [hn, cond_true] at hk
    refine (hs.calls ds _ hk S w vs hst ⟨hRL.1, fun i d v h1 h2 => noRef_R (hRL.2 i d v h1 h2) (List.all_eq_true.1 hn d (List.mem_of_getElem? h1))⟩).mono ?_
    rintro e w' ⟨S', r, h1, h2, hg⟩
    obtain ⟨r1, r2⟩ := hr.1.grow hg.os hg.tape hg.output hg.size hg.block hg.sub hg.new hg.lt
    cases r with
    | ret d =>
      simp only [qRes, fza_iff, Bool.true_or, cond_true] at h1
      cases e with
      | returned v => exact ⟨S', μ, .ret d, H, h1, R.of0 h2, ⟨r1, hr.2⟩, r2⟩
      | _ => exact h2.elim
    | pan d =>
      cases hf : flatP d with
      | false => simp [qRes, hf] at h1
      | true =>
        simp only [qRes, hf, cond_true] at h1
        cases e with
        | panicked ch =>
          obtain ⟨v, rfl, hv⟩ := h2
          exact ⟨S', μ, .pan d, H, h1, ⟨v, rfl, hv.of0⟩, ⟨r1, hr.2⟩, r2⟩
        | _ => exact h2.elim
  | false =>
    rw [hn, cond_false] at hk
    obtain ⟨ds', h3, h4⟩ := sound_viewal hr.1 ds vs hRL hk
    cases hn' : ds'.all noRef with
    | false => simp [hn'] at h3
    | true =>
      rw [hn', cond_true] at h3
      have hst' : ∀ b, withH S μ (hget H) b → b < w.heap.size := fun b hb => by
        rcases hb with hb | ⟨o, ob, v, ho, hv, hbv⟩
        · exact hst b hb
        · obtain ⟨mv, m1, m2⟩ := hr.1.obs o ob ho
          rw [hv] at m1; injection m1 with m1; subst m1
          exact m2.blk_lt hbv
      refine (hs.calls ds' _ h3 _ w vs hst' (h4 hn')).mono ?_
      rintro e w' ⟨S', r, h1, h2, hg⟩
      obtain ⟨r1, r2⟩ := hr.1.grow (S' := S) hg.os hg.tape hg.output hg.size hg.block (fun _ h => h) (fun _ h => .inl h) (fun b hb => Nat.lt_of_lt_of_le (hst b hb) hg.size)
      cases r with
      | ret d =>
        simp only [qRes, fza_iff, Bool.false_or] at h1
        cases hf : flat d with
        | false => simp [hf] at h1
        | true =>
          rw [hf, cond_true] at h1
          cases e with
          | returned v => exact ⟨S, μ, .ret d, H, h1, (flat_R (S' := S) (w' := w') h2 hf).of0, ⟨r1, hr.2⟩, r2⟩
          | _ => exact h2.elim
      | pan d =>
        cases hf : flatP d with
        | false => simp [qRes, hf] at h1
        | true =>
          simp only [qRes, hf, cond_true] at h1
          cases e with
          | panicked ch =>
            obtain ⟨v, rfl, hv⟩ := h2
            exact ⟨S, μ, .pan d, H, h1, ⟨v, rfl, flatP_R hv hf⟩, ⟨r1, hr.2⟩, r2⟩
          | _ => exact h2.elim
def inlD1 (C : Cx) (fn : Func) (code : Code) : DRule := fun md ds H K => match code with
  | .seq (.region _ ops false) rest => match ops.toList with
    | [o1] => bif recOp o1 && Nat.ble ds.length fn.ntmps then fz (recD md) fun d0 => vput fn.ntmps (initE ds) o1.dst d0 fun e =>
            vc { C with iter := fun _ => none } fn.ntmps rest (fun x s => match x with
              | .ret => match s.df with | some [] => K .ret s.H | _ => False
              | .normal => match s.df with | some [] => K .ret s.H | _ => False
              | _ => False) ⟨e, H, some []⟩ else False
    | _ => False
  | _ => False
theorem dsound1_of {f : Nat} {fn : Func} {code : Code} (hf : P.funcs[f]? = some fn) (hname : (fn.name == "runtime.NumGoroutine") = false) (hb : fn.body = some code) (hres : fn.results = #[]) (hC : CallsOK P C TT) : DSound P f (inlD1 C fn code) := by
  refine ⟨enters_of hf hname hb, fun md ds H K h S w μ vs u n hr hRL hmd => ?_⟩
  unfold inlD1 at h
  split at h
  · rename_i id ops rest
    split at h
    · rename_i o1 hops
      cases hq : (recOp o1 && Nat.ble ds.length fn.ntmps) with
      | false => rw [hq] at h; exact h.elim
      | true =>
        rw [hq, cond_true] at h
        simp only [Bool.and_eq_true] at hq
        obtain ⟨hro, hle⟩ := hq
        have hle := Nat.le_of_ble_eq_true hle
        rw [fz_iff] at h
        obtain ⟨ops⟩ := ops
        simp only at hops
        subst hops
        have hC' : CallsOK P { C with iter := fun _ => none } TT := ⟨⟨hC.ok.ty, hC.ok.zero, hC.ok.eq⟩, hC.mixed, hC.pure, hC.call, (fun f i e => by cases e), hC.dfr, hC.yld, hC.step⟩
        have hl := hRL.1
        have hrec : o1.guard = none ∧ ∃ ats, o1.op = .call { callee := .builtin .recover, args := #[], argTypes := ats } := by
          unfold recOp at hro
          split at hro
          · rename_i hg
            split at hro
            · rename_i c hop
              obtain ⟨callee, args, ats⟩ := c
              split at hro
              · rename_i hcal
                simp only at hcal
                subst hcal
                have := nilB_eq hro
                have : args = #[] := by simpa using this
                subst this
                exact ⟨hg, ats, hop⟩
              · cases hro
            · cases hro
          · cases hro
        obtain ⟨hg1, ats, hop1⟩ := hrec
        obtain ⟨v0, u0, hv0, hrd, hset⟩ : ∃ v0 u0, R S w μ (recD md) v0 ∧ (∀ (c₀ : Frame) (cs : List Frame), c₀.mode = u → (recoverD (c₀ :: cs) = some (v0, { c₀ with mode := u0 } :: cs) ∨ (recoverD (c₀ :: cs) = none ∧ v0 = .nilIface ∧ u0 = u))) ∧ settle u0 = .returning := by
          cases md with
          | ret =>
            have hmd : u = .returning := hmd
            subst hmd
            refine ⟨.nilIface, .returning, .nilI, fun c₀ cs hc => .inr ⟨?_, rfl, rfl⟩, rfl⟩
            simp [recoverD, hc]
          | pan d =>
            obtain ⟨v, rfl, hv⟩ := hmd
            refine ⟨v, .panicking [{ v, recovered := true }], hv, fun c₀ cs hc => .inl ?_, by simp [settle]⟩
            simp [recoverD, hc]
        refine callsDIn_of_wpSIn (F := FW none) hf hb trivial fun c₀ cs hc => ?_
        have hN : (vs.toArray ++ Array.replicate (fn.ntmps - vs.toArray.size) undef).size = fn.ntmps := by simp; omega
        have he0 : EnvR S w μ (initE ds) { tmps := vs.toArray ++ Array.replicate (fn.ntmps - vs.toArray.size) undef, defers := [] } := init_env hRL _ _
        obtain ⟨e1, h1, he1⟩ := sound_put he0 hN hv0 h
        refine wpSIn_seq (wpSIn_region ?_)
        have fin : ∀ (cs' : List Frame), cs' = { c₀ with mode := u0 } :: cs →
            wpOpsSIn (FW none) n P #[o1] (Exit.thenS (rest.wpSIn (FW none) n P (bodyPostS P fn c₀ cs fun e u' w' => (∃ v, e = Ending.returned v) ∧ ∃ S' μ' md' H', K md' H' ∧ MdR S' w' μ' md' (settle u') ∧ RelL S' w' μ' H' ∧ Tr S w μ (hget H) S' w' μ' (hget H')))
              (bodyPostS P fn c₀ cs fun e u' w' => (∃ v, e = Ending.returned v) ∧ ∃ S' μ' md' H', K md' H' ∧ MdR S' w' μ' md' (settle u') ∧ RelL S' w' μ' H' ∧ Tr S w μ (hget H) S' w' μ' (hget H'))) []
              (({ tmps := vs.toArray ++ Array.replicate (fn.ntmps - vs.toArray.size) undef, defers := [] } : Act).put o1.dst v0) cs' w := fun cs' hcs => by
          subst hcs
          simp only [wpOpsSIn]
          simp only [Exit.thenS]
          refine wpSIn_of_wpIn rfl ?_
          have hst : RelSt none fn.ntmps none S w μ ⟨e1, H, some []⟩ (({ tmps := vs.toArray ++ Array.replicate (fn.ntmps - vs.toArray.size) undef, defers := [] } : Act).put o1.dst v0) :=
            ⟨hr, he1, by rw [V.Act.put_size]; exact hN, by rw [V.Act.put_defers]; exact .nil, .inl rfl⟩
          refine wpIn_mono (sound_vc hC' (.inr fun _ => rfl) rest none n _ _ S w μ _ hst (fun b e => by cases e) trivial h1) ?_
          rintro x a' w' ⟨S', μ', s', x', q1, q2, q3, q4⟩
          have out : (match s'.df with | some [] => K .ret s'.H | _ => False) → a'.defers = [] ∧ ∃ u', ({ c₀ with mode := u0 } :: cs : List Frame) = { c₀ with mode := u' } :: cs ∧ ∃ v, (results fn a'.tmps).run P w' = .ok v w' ∧ (∃ v', Ending.returned v = Ending.returned v') ∧ ∃ S' μ' md' H', K md' H' ∧ MdR S' w' μ' md' (settle u') ∧ RelL S' w' μ' H' ∧ Tr S w μ (hget H) S' w' μ' (hget H') := fun q => by
            have hdf := q3.df
            cases hsd : s'.df with
            | none => rw [hsd] at q; exact q.elim
            | some df =>
              cases df with
              | cons _ _ => rw [hsd] at q; exact q.elim
              | nil =>
                rw [hsd] at q hdf
                have hd0 := DfL.none_nil hdf
                refine ⟨hd0, u0, rfl, .tuple #[], ?_, ⟨_, rfl⟩, S', μ', .ret, s'.H, q, hset, q3.rel, q4⟩
                simp [results, hres]
          cases x' with
          | normal => cases x <;> first | exact q2.elim | exact out q1
          | ret => cases x <;> first | exact q2.elim | exact out q1
          | exit i => exact q1.elim
          | panic d => exact q1.elim
        have hrange : List.range (#[o1] : Array Oper).size = [0] := rfl
        rw [hrange]
        simp only [wpOpsSIn, List.getElem?_toArray, List.getElem?_cons_zero]
        refine ⟨fun _ _ => trivial, ?_⟩
        have hw1 : Region.wanted o1 (yielded #[o1] (vs.toArray ++ Array.replicate (fn.ntmps - vs.toArray.size) undef)) = true := by simp [Region.wanted, hg1]
        rw [if_pos hw1]
        have hrun1 : ∀ (a : Act), (execOp a.eval o1).run P w = .ok .recover w := fun a => by simp [execOp, hop1, resolve, invoke, builtin]
        rw [hrun1]
        simp only
        rcases hrd c₀ cs hc with h3 | ⟨h3, rfl, rfl⟩
        · rw [h3]
          exact fin _ rfl
        · rw [h3]
          have hf1 := fin (c₀ :: cs) (by cases c₀; simp only at hc; rw [hc])
          simp only [wpOpsSIn] at hf1 ⊢
          exact hf1
    · exact h.elim
  · exact h.elim
end
end Go.V
end
