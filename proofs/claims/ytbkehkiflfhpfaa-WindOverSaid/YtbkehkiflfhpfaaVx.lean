/-
  A small logic of our own, part 16: what is read of arguments; a law out of the contract of its function.
-/
import Derived.Test.YtbkehkiflfhpfaaVw
import Derived.ProofKit
import Derived.OpenShut
import Derived.ChangeCalls
set_option linter.unusedVariables false
set_option linter.unusedSimpArgs false
namespace Go.V

/-- The kinds of cells. -/
inductive CK where
  | int (k : IntKind)
  | bool
  | str
  | sl (ks : List CK)

def fieldsCK (P : Program) (K : Nat → Option (List CK)) : Nat → List Field → Option (List CK)
  | _, [] => some []
  | off, f :: r => match K f.type with
    | some ks => if f.offset = off ∧ P.cellsOf f.type = ks.length then (fieldsCK P K (off + ks.length) r).map (ks ++ ·) else none
    | none => none
def repCK (ks : List CK) : Nat → List CK
  | 0 => []
  | n + 1 => ks ++ repCK ks n
/-- The kinds of a type's cells. -/
def cks (P : Program) : Nat → Nat → Option (List CK)
  | 0, _ => none
  | f + 1, t => match P.underlying t with
    | some .bool => some [.bool]
    | some (.int k) => some [.int k]
    | some .string => some [.str]
    | some (.slice e) => match cks P f e with
      | some ks => if P.cellsOf e = ks.length ∧ 0 < ks.length then some [.sl ks] else none
      | none => none
    | some (.struct fs) => match fieldsCK P (cks P f) 0 fs.toList with
      | some ks => if P.cellsOf t = ks.length then some ks else none
      | none => none
    | some (.array n e) => match cks P f e with
      | some ks => if P.cellsOf e = ks.length ∧ P.cellsOf t = n * ks.length then some (repCK ks n) else none
      | none => none
    | _ => none

/-- What a cell tells. -/
def Is : Nat → CK → D → Prop
  | 0, _, _ => False
  | _ + 1, .int k, d => ∃ n, d = .int k n ∧ k.min ≤ n ∧ n ≤ k.max
  | _ + 1, .bool, d => ∃ b, d = .bool b
  | _ + 1, .str, d => ∃ s, d = .str s ∧ s.size ≤ 9223372036854775807
  | f + 1, .sl ks, d => ∃ n g, d = .rsl ks.length n g ∧ n ≤ 9223372036854775807 ∧ ∀ i j c, i < n → ks[j]? = some c → Is f c (g i j)
theorem Is.one {f : Nat} {c : CK} {d : D} (h : Is f c d) : one d = true := by
  cases f with
  | zero => exact h.elim
  | succ f =>
    cases c with
    | int k => obtain ⟨n, rfl, _⟩ := h; rfl
    | bool => obtain ⟨b, rfl⟩ := h; rfl
    | str => obtain ⟨s, rfl, _⟩ := h; rfl
    | sl ks => obtain ⟨n, g, rfl, _⟩ := h; rfl

/-- Cells of some kinds, told. -/
def Told (w : World) (f : Nat) (ks : List CK) (cs : List Value) : Prop := ∃ ds : List D, ds.length = ks.length ∧ cs.length = ks.length ∧ (∀ (i : Nat) c d, ks[i]? = some c → ds[i]? = some d → Is f c d) ∧
  ∀ (i : Nat) d v, ds[i]? = some d → cs[i]? = some v → R (fun b => b < w.heap.size) w Mu0 d v
theorem Told.nil (w : World) (f : Nat) : Told w f [] [] := ⟨[], rfl, rfl, fun i c d h => (by simp at h), fun i d v h => (by simp at h)⟩
theorem Told.append {w : World} {f : Nat} {k1 k2 : List CK} {c1 c2 : List Value} (h1 : Told w f k1 c1) (h2 : Told w f k2 c2) : Told w f (k1 ++ k2) (c1 ++ c2) := by
  obtain ⟨d1, a1, b1, e1, r1⟩ := h1
  obtain ⟨d2, a2, b2, e2, r2⟩ := h2
  refine ⟨d1 ++ d2, by simp [a1, a2], by simp [b1, b2], fun i c d hc hd => ?_, fun i d v hd hv => ?_⟩
  · by_cases hi : i < k1.length
    · rw [List.getElem?_append_left hi] at hc
      rw [List.getElem?_append_left (by omega)] at hd
      exact e1 i c d hc hd
    · rw [List.getElem?_append_right (by omega)] at hc
      rw [List.getElem?_append_right (by omega), a1] at hd
      exact e2 _ c d hc hd
  · by_cases hi : i < k1.length
    · rw [List.getElem?_append_left (by omega)] at hd hv
      exact r1 i d v hd hv
    · rw [List.getElem?_append_right (by omega), a1] at hd
      rw [List.getElem?_append_right (by omega), b1] at hv
      exact r2 _ d v hd hv
theorem Told.one {w : World} {f : Nat} {c : CK} {d : D} {v : Value} (h : Is f c d) (hr : R (fun b => b < w.heap.size) w Mu0 d v) : Told w f [c] [v] := by
  refine ⟨[d], rfl, rfl, fun i c' d' hc hd => ?_, fun i d' v' hd hv => ?_⟩
  · cases i with
    | zero => simp at hc hd; subst hc; subst hd; exact h
    | succ i => simp at hc
  · cases i with
    | zero => simp at hd hv; subst hd; subst hv; exact hr
    | succ i => simp at hd

theorem wf_kind {k : IntKind} {n : Int} (h : (Lit.int k n).wf = true) : k.min ≤ n ∧ n ≤ k.max := by
  simpa [Lit.wf] using h

section
variable {H : Type} {enc : TypeId × Value → H} {P : Program} {w : World} {spare : Nat → Bool} {held : Bool}

theorem told_fields {K : Nat → Option (List CK)} {f n : Nat} {cs : List Value} (ih : ∀ t ks cs x, DataW.trod enc P w 0 spare held n t cs = some x → K t = some ks → Told w f ks cs) :
    ∀ {l : List Field} {off : Nat} {ks : List CK}, (∀ (i : Nat) (f : Field), l[i]? = some f → ∃ y, DataW.trod enc P w 0 spare held n f.type ((cs.drop f.offset).take (P.cellsOf f.type)) = some y) →
      fieldsCK P K off l = some ks → Told w f ks ((cs.drop off).take ks.length)
  | [], off, ks, _, h => by
    simp only [fieldsCK, Option.some.injEq] at h
    subst h
    simpa using Told.nil w f
  | fd :: r, off, ks, hf, h => by
    simp only [fieldsCK] at h
    split at h
    · rename_i k1 hk1
      split at h
      · rename_i hc
        obtain ⟨h1, h2⟩ := hc
        rw [Option.map_eq_some_iff] at h
        obtain ⟨k2, hk2, rfl⟩ := h
        obtain ⟨y, hy⟩ := hf 0 fd rfl
        rw [h1, h2] at hy
        have g1 := ih _ _ _ _ hy hk1
        have g2 := told_fields ih (l := r) (fun i f hi => hf (i + 1) f (by simpa using hi)) hk2
        have := g1.append g2
        rwa [← List.drop_drop, ← List.take_add, ← List.length_append] at this
      · cases h
    · cases h

theorem told_rep {f n e : Nat} {cs : List Value} {ks : List CK} (ih : ∀ cs x, DataW.trod enc P w 0 spare held n e cs = some x → Told w f ks cs) (he : P.cellsOf e = ks.length) :
    ∀ (m off : Nat), (∀ i, i < m → ∃ y, DataW.trod enc P w 0 spare held n e ((cs.drop ((off + i) * P.cellsOf e)).take (P.cellsOf e)) = some y) → Told w f (repCK ks m) ((cs.drop (off * ks.length)).take (m * ks.length))
  | 0, off, _ => by simpa [repCK] using Told.nil w f
  | m + 1, off, h => by
    obtain ⟨y, hy⟩ := h 0 (by omega)
    rw [he] at hy
    have g1 := ih _ _ hy
    have g2 := told_rep ih he m (off + 1) fun i hi => by
      have := h (i + 1) (by omega)
      rwa [show off + (i + 1) = off + 1 + i by omega] at this
    have := g1.append g2
    rw [Nat.add_zero, Nat.add_mul, Nat.one_mul, ← List.drop_drop, ← List.take_add] at this
    rwa [repCK, show (m + 1) * ks.length = ks.length + m * ks.length by rw [Nat.add_mul]; omega]

theorem cell_lt {w : World} {a : Addr} {v : Value} (h : w.cell? a = some v) : a.block < w.heap.size := by
  unfold World.cell? at h
  split at h
  · rename_i hb
    exact (Array.getElem?_eq_some_iff.1 hb).1
  · cases h

theorem cells_get {w : World} {a : Addr} {n : Nat} {cs : List Value} (h : w.cells? 0 a n = some cs) : cs.length = n ∧ ∀ j, j < n → w.cell? (a.add j) = cs[j]? := by
  unfold World.cells? at h
  rw [if_pos (Nat.zero_le _)] at h
  exact ⟨by simpa using mapM_some_length h, fun j hj => mapM_some_get h j j (by simp [hj])⟩

theorem add_add (a : Addr) (m n : Nat) (h : (a.add (m + n)).spot = none) : (a.add m).add n = a.add (m + n) := by
  obtain ⟨b, o, s⟩ := a
  unfold Addr.add at *
  by_cases hm : m = 0
  · subst hm; simp
  · by_cases hn : n = 0
    · subst hn; simp [hm]
    · have : m + n ≠ 0 := by omega
      simp [hm, hn, this, Nat.add_assoc]
theorem add_of {a : Addr} {m n : Nat} {v : Value} {w : World} (h : w.cell? ((a.add m).add n) = some v) (h0 : a.spot = none) : w.cell? ⟨a.block, a.off + (m + n), none⟩ = some v := by
  obtain ⟨b, o, s⟩ := a
  simp only at h0
  subst h0
  rw [← h]
  unfold Addr.add
  by_cases hm : m = 0
  · subst hm
    by_cases hn : n = 0
    · subst hn; simp
    · simp [hn]
  · by_cases hn : n = 0
    · subst hn; simp [hm]
    · simp [hm, hn, Nat.add_assoc]

theorem told_of_trod : ∀ (f : Nat) {n t : Nat} {cs : List Value} {x : DataW H × List MemPlace} {ks : List CK}, DataW.trod enc P w 0 spare held n t cs = some x → cks P f t = some ks → Told w f ks cs
  | 0, n, t, cs, x, ks, _, h => by cases h
  | f + 1, n, t, cs, x, ks, ht, h => by
    have up : ∀ {ks : List CK} {cs : List Value}, Told w f ks cs → Told w (f + 1) ks cs := by
      intro ks cs h
      obtain ⟨ds, a, b, e, r⟩ := h
      have mono : ∀ (f : Nat) (c : CK) (d : D), Is f c d → Is (f + 1) c d := by
        intro f
        induction f with
        | zero => intro c d h; exact h.elim
        | succ f ih =>
          intro c d h
          cases c with
          | int k => exact h
          | bool => exact h
          | str => exact h
          | sl ks => obtain ⟨n, g, rfl, hn, hg⟩ := h; exact ⟨n, g, rfl, hn, fun i j c hi hj => ih c _ (hg i j c hi hj)⟩
      exact ⟨ds, a, b, fun i c d hc hd => mono f c d (e i c d hc hd), r⟩
    simp only [cks] at h
    split at h
    · rename_i hu
      obtain ⟨b, rfl, _⟩ := DataW.trod_bool hu ht
      cases h
      exact .one (d := .bool b) ⟨b, rfl⟩ (.bool b)
    · rename_i k hu
      obtain ⟨m, rfl, _, hw⟩ := DataW.trod_int hu ht
      cases h
      exact .one (d := .int k m) ⟨m, rfl, wf_kind hw⟩ (.int k m)
    · rename_i hu
      obtain ⟨s, rfl, _, hs⟩ := DataW.trod_string hu ht
      cases h
      exact .one (d := .str s) ⟨s, rfl, by unfold maxLen at hs; omega⟩ (.str s)
    · rename_i e hu
      split at h
      · rename_i ks' hks
        split at h
        · rename_i hc
          obtain ⟨hc1, hc2⟩ := hc
          cases h
          rcases DataW.trod_slice hu ht with ⟨rfl, _⟩ | ⟨a, len, cap, elems, rest, m, _, rfl, _, _, hl, hm, hlen, hel, _, _⟩
          · exact .one (d := .rsl ks'.length 0 fun _ _ => .top) ⟨0, _, rfl, by omega, fun i j c hi => absurd hi (by omega)⟩ (.rsl _ 0 _ none 0 (fun _ _ => undef) (Nat.le_refl _) (fun h => absurd h (by omega)) (fun i j hi => absurd hi (by omega)))
          · have hrow : ∀ i, i < len → ∃ cs' : List Value, w.cells? 0 (a.add (i * ks'.length)) ks'.length = some cs' ∧ Told w f ks' cs' := fun i hi => by
              have h1 := hel i hi
              rw [List.getElem?_eq_getElem (by omega)] at h1
              rw [Option.bind_eq_some_iff] at h1
              obtain ⟨cs', h2, h3⟩ := h1
              rw [hc1] at h2
              exact ⟨cs', h2, told_of_trod f h3 hks⟩
            have hex : ∀ i, ∃ (cs' : List Value) (ds : List D), i < len → w.cells? 0 (a.add (i * ks'.length)) ks'.length = some cs' ∧ ds.length = ks'.length ∧ (∀ (j : Nat) c d, ks'[j]? = some c → ds[j]? = some d → Is f c d) ∧
                ∀ (j : Nat) d v, ds[j]? = some d → cs'[j]? = some v → R (fun b => b < w.heap.size) w Mu0 d v := fun i => by
              by_cases hi : i < len
              · obtain ⟨cs', h1, ds, h2, h3, h4, h5⟩ := hrow i hi
                exact ⟨cs', ds, fun _ => ⟨h1, h2, h4, h5⟩⟩
              · exact ⟨[], [], fun h => absurd h hi⟩
            obtain ⟨csf, hcs⟩ := Classical.axiomOfChoice hex
            obtain ⟨dsf, hds⟩ := Classical.axiomOfChoice hcs
            have hcell : ∀ i j, i < len → j < ks'.length → ∃ v, (csf i)[j]? = some v ∧ w.cell? ((a.add (i * ks'.length)).add j) = some v := fun i j hi hj => by
              obtain ⟨h1, h2, _⟩ := hds i hi
              obtain ⟨g1, g2⟩ := cells_get h1
              refine ⟨(csf i)[j]'(by omega), List.getElem?_eq_getElem _, ?_⟩
              rw [g2 j hj, List.getElem?_eq_getElem]
            have hg : ∀ i j, i < len → j < ks'.length → ∃ d v, (dsf i)[j]? = some d ∧ (dsf i).getD j .top = d ∧ (csf i)[j]? = some v ∧ (csf i).getD j undef = v ∧ R (fun b => b < w.heap.size) w Mu0 d v ∧ v.oneCell' = true := fun i j hi hj => by
              obtain ⟨h1, h2, h3, h4⟩ := hds i hi
              obtain ⟨v, v1, v2⟩ := hcell i j hi hj
              have hd : (dsf i)[j]? = some ((dsf i)[j]'(by omega)) := List.getElem?_eq_getElem _
              have hr := h4 j _ v hd v1
              have hk : ks'[j]? = some (ks'[j]) := List.getElem?_eq_getElem _
              exact ⟨_, v, hd, by rw [List.getD_eq_getElem?_getD, hd]; rfl, v1, by rw [List.getD_eq_getElem?_getD, v1]; rfl, hr, hr.one (h3 j _ _ hk hd).one⟩
            refine .one (d := .rsl ks'.length len fun i j => (dsf i).getD j .top) ⟨len, _, rfl, by unfold maxLen at hm; omega, fun i j c hi hc => ?_⟩ ?_
            · have hj : j < ks'.length := (List.getElem?_eq_some_iff.1 hc).1
              obtain ⟨d, v, h1, h2, _⟩ := hg i j hi hj
              show Is f c ((dsf i).getD j .top)
              rw [h2]
              exact (hds i hi).2.2.1 j c d hc h1
            · refine .rsl ks'.length len _ (some a) cap (fun i j => (csf i).getD j undef) hl (fun h0 => ?_) fun i j hi hj => ?_
              · have hspot : a.spot = none := by
                  obtain ⟨v, _, h1⟩ := hcell 0 0 h0 hc2
                  simpa [Addr.add] using World.cell?_spot h1
                have hlt : a.block < w.heap.size := by
                  obtain ⟨v, _, h1⟩ := hcell 0 0 h0 hc2
                  simpa [Addr.add] using cell_lt h1
                obtain ⟨ab, ao, asp⟩ := a
                simp only at hspot hlt
                subst hspot
                refine ⟨ab, ao, rfl, hlt, fun i j hi hj => ?_⟩
                obtain ⟨d, v, _, _, h3, h4, _, h6⟩ := hg i j hi hj
                obtain ⟨v', h7, h8⟩ := hcell i j hi hj
                rw [h3] at h7
                cases h7
                show w.cell? ⟨ab, ao + (i * ks'.length + j), none⟩ = some ((csf i).getD j undef) ∧ ((csf i).getD j undef).oneCell' = true
                rw [h4]
                exact ⟨add_of h8 rfl, h6⟩
              · obtain ⟨d, v, _, h2, _, h4, h5, _⟩ := hg i j hi hj
                show R (fun b => b < w.heap.size) w Mu0 ((dsf i).getD j .top) ((csf i).getD j undef)
                rw [h2, h4]
                exact h5
        · cases h
      · cases h
    · rename_i fs hu
      split at h
      · rename_i ks' hks
        split at h
        · rename_i hc
          cases h
          obtain ⟨xs, m, _, _, hl, hlen, hf⟩ := DataW.trod_struct hu ht
          have g := told_fields (n := m) (w := w) (cs := cs) (fun t ks cs x h1 h2 => told_of_trod f h1 h2) (l := fs.toList) (off := 0) (fun i fd hi => by
            have h1 := hf i fd (by simpa using hi)
            have h2 : i < xs.length := by rw [hlen]; simpa using (List.getElem?_eq_some_iff.1 hi).1
            rw [List.getElem?_eq_getElem h2] at h1
            exact ⟨_, h1⟩) hks
          rw [List.drop_zero, ← hc, ← hl, List.take_length] at g
          exact up g
        · cases h
      · cases h
    · rename_i m e hu
      split at h
      · rename_i ks' hks
        split at h
        · rename_i hc
          obtain ⟨hc1, hc2⟩ := hc
          cases h
          obtain ⟨xs, m', _, _, hl, hlen, hf⟩ := DataW.trod_array hu ht
          have g := told_rep (n := m') (w := w) (cs := cs) (ks := ks') (e := e) (fun cs x h1 => told_of_trod f h1 hks) hc1 m 0 (fun i hi => by
            have h1 := hf i hi
            rw [List.getElem?_eq_getElem (by omega)] at h1
            rw [Nat.zero_add]
            exact ⟨_, h1⟩)
          rw [Nat.zero_mul, List.drop_zero, ← hc2, ← hl, List.take_length] at g
          exact up g
        · cases h
      · cases h
    · cases h

/-- Arguments: one cell, or several. -/
inductive AK where
  | one (c : CK)
  | agg (ks : List CK)
def akOf (P : Program) (t : Nat) : Option AK := match P.underlying t with
  | some (.struct _) => (cks P 5 t).map .agg
  | some (.array _ _) => (cks P 5 t).map .agg
  | some (.bool) | some (.int _) | some .string | some (.slice _) => match cks P 5 t with
    | some [c] => some (.one c)
    | _ => none
  | _ => none
def IsA (a : AK) (d : D) : Prop := match a with
  | .one c => Is 5 c d
  | .agg ks => ∃ ds : List D, d = .agg ds ∧ ds.length = ks.length ∧ ∀ (i : Nat) c d, ks[i]? = some c → ds[i]? = some d → Is 5 c d
def IsAL : List AK → List D → Prop
  | [], [] => True
  | a :: r, d :: s => IsA a d ∧ IsAL r s
  | _, _ => False
def aksOf (P : Program) : List Nat → Option (List AK)
  | [] => some []
  | t :: r => match akOf P t, aksOf P r with
    | some a, some l => some (a :: l)
    | _, _ => none

theorem isA_of_trod {t : Nat} {v : Value} {d : DataW H} {ps : List MemPlace} {a : AK} {base : Nat} (h : DataW.Trod enc P w 0 spare held t v d ps) (hok : Value.okWide P w .any base t v) (ha : akOf P t = some a) :
    ∃ d', IsA a d' ∧ R (fun b => b < w.heap.size) w Mu0 d' v := by
  obtain ⟨n, hn⟩ := h
  have agg : ∀ ks cs, v = .agg cs → cks P 5 t = some ks → ∃ d', IsA (.agg ks) d' ∧ R (fun b => b < w.heap.size) w Mu0 d' v := by
    intro ks cs hv hks
    subst hv
    obtain ⟨ds, h1, h2, h3, h4⟩ := told_of_trod 5 hn hks
    have h2' : cs.size = ks.length := by simpa [Value.cells] using h2
    exact ⟨.agg ds, ⟨ds, rfl, h1, h3⟩, .agg ds cs (by rw [h1, h2']) fun i d v hd hv => h4 i d v hd (by simpa [Value.cells] using hv)⟩
  have one : ∀ c, v.cells = #[v] → cks P 5 t = some [c] → ∃ d', IsA (.one c) d' ∧ R (fun b => b < w.heap.size) w Mu0 d' v := by
    intro c hv hks
    obtain ⟨ds, h1, h2, h3, h4⟩ := told_of_trod 5 hn hks
    rw [hv] at h2 h4
    match ds, h1 with
    | [d], _ => exact ⟨d, h3 0 c d rfl rfl, h4 0 d v rfl rfl⟩
  unfold akOf at ha
  unfold Value.okWide at hok
  split at ha
  · rename_i fs hu
    rw [hu] at hok
    obtain ⟨cs, hv, _⟩ := hok
    rw [Option.map_eq_some_iff] at ha
    obtain ⟨ks, hks, rfl⟩ := ha
    exact agg ks cs hv hks
  · rename_i m e hu
    rw [hu] at hok
    obtain ⟨cs, hv, _⟩ := hok
    rw [Option.map_eq_some_iff] at ha
    obtain ⟨ks, hks, rfl⟩ := ha
    exact agg ks cs hv hks
  all_goals first
    | (rename_i hu
       rw [hu] at hok
       split at ha
       · rename_i c hks
         cases ha
         refine one c ?_ hks
         cases v <;> simp [Cell.okWide, Cell.ok, hu] at hok <;> rfl
       · cases ha)
    | cases ha

theorem isAL_of_trod {base : Nat} : ∀ {ts : List Nat} {vs : List Value} {ds : List (DataW H)} {ps : List MemPlace} {l : List AK}, DataW.TrodAll enc P w 0 spare held ts vs ds ps →
    (∀ (j : Nat) t v, ts[j]? = some t → vs[j]? = some v → Value.okWide P w .any base t v) → aksOf P ts = some l → ∃ ds', IsAL l ds' ∧ RL (fun b => b < w.heap.size) w Mu0 ds' vs
  | [], vs, ds, ps, l, h, _, hl => by
    obtain ⟨rfl, _, _⟩ := ChangeShapes.trodAll_nil h
    cases hl
    exact ⟨[], trivial, rfl, fun i d v h => by simp at h⟩
  | t :: ts, vs, ds, ps, l, h, hok, hl => by
    obtain ⟨v, vs1, d, ds1, p1, p2, rfl, _, _, h1, h2⟩ := ChangeShapes.trodAll_cons h
    simp only [aksOf] at hl
    split at hl
    · rename_i a l' ha hl'
      cases hl
      obtain ⟨d', g1, g2⟩ := isA_of_trod h1 (hok 0 t v rfl rfl) ha
      obtain ⟨ds', g3, g4⟩ := isAL_of_trod h2 (fun j t v a b => hok (j + 1) t v (by simpa using a) (by simpa using b)) hl'
      refine ⟨d' :: ds', ⟨g1, g3⟩, by simp [g4.1], fun i x y hx hy => ?_⟩
      cases i with
      | zero => simp at hx hy; subst hx; subst hy; exact g2
      | succ i => exact g4.2 i x y (by simpa using hx) (by simpa using hy)
    · cases hl
end

/-- Kinds that are all whole numbers. -/
def allI : List CK → Bool
  | [] => true
  | .int .i64 :: r => allI r
  | _ => false
theorem allI_get : ∀ {ks : List CK}, allI ks = true → ∀ j, j < ks.length → ks[j]? = some (.int .i64)
  | [], _, j, hj => absurd hj (Nat.not_lt_zero _)
  | c :: r, h, j, hj => by
    unfold allI at h
    split at h
    · rename_i heq; cases heq
    · rename_i heq
      cases heq
      cases j with
      | zero => rfl
      | succ j => exact allI_get h j (by simpa using hj)
    · cases h
theorem IM_of {f n : Nat} {ks : List CK} {g : Nat → Nat → D} (h : ∀ i j c, i < n → ks[j]? = some c → Is (f + 1) c (g i j)) (hk : allI ks = true) : IM n ks.length g := fun i j hi hj => by
  obtain ⟨x, hx, _⟩ := h i j _ hi (allI_get hk j hj)
  simp only [imD, im, hx, toI]
theorem SM_of {f n : Nat} {ks : List CK} {g : Nat → Nat → D} (h : ∀ i j c, i < n → (.str :: ks)[j]? = some c → Is (f + 1) c (g i j)) (hk : allI ks = true) : SM n (ks.length + 1) g ∧ ∀ i, i < n → (nmOf g i).size ≤ 9223372036854775807 := by
  have hs : ∀ i, i < n → ∃ s, g i 0 = .str s ∧ s.size ≤ 9223372036854775807 := fun i hi => h i 0 _ hi rfl
  refine ⟨fun i j hi hj => ?_, fun i hi => ?_⟩
  · cases j with
    | zero =>
      obtain ⟨s, hs, _⟩ := hs i hi
      simp only [smD, nmOf, hs, toS]
    | succ j =>
      obtain ⟨x, hx, _⟩ := h i (j + 1) (.int .i64) hi (by simpa using allI_get hk j (by omega))
      simp only [smD, imS, hx, toI]
  · obtain ⟨s, hs, h2⟩ := hs i hi
    simp only [nmOf, hs, toS]
    exact h2

section
variable {H : Type} {enc : TypeId × Value → H} {P : Program}
theorem trodAll_stays (hl : laidOutB P = true) {W W' : World} (hb : RowKit.Below W.heap.size W W') {sp : Nat → Bool} : ∀ {ts : List Nat} {vs : List Value} {ds : List (DataW H)} {ps : List MemPlace}, (∀ t ∈ ts, P.readableRec t = true ∧ t < P.types.size) →
    DataW.TrodAll enc P W 0 (fun _ => true) true ts vs ds ps → (∀ p ∈ ps, p.block < W.heap.size) → (∀ p ∈ ps, sp p.block = true) → DataW.TrodAll enc P W' 0 sp true ts vs ds ps
  | [], vs, ds, ps, _, h, _, _ => by
    obtain ⟨rfl, rfl, rfl⟩ := ChangeShapes.trodAll_nil h
    exact rfl
  | t :: ts, vs, ds, ps, ht, h, hlt, hs => by
    obtain ⟨v, vs1, d, ds1, p1, p2, rfl, rfl, rfl, h1, h2⟩ := ChangeShapes.trodAll_cons h
    exact ⟨p1, p2, WideElems.Trod_stays hl (ht t (List.mem_cons_self ..)).1 (ht t (List.mem_cons_self ..)).2 h1 (fun p hp => hb.same (hlt p (List.mem_append_left _ hp))) (fun p hp => hs p (List.mem_append_left _ hp)),
      trodAll_stays hl hb (fun t ht' => ht t (List.mem_cons_of_mem _ ht')) h2 (fun p hp => hlt p (List.mem_append_right _ hp)) (fun p hp => hs p (List.mem_append_right _ hp)), rfl⟩

/-- A law's function: what its contract tells is the statement. -/
theorem law_contract {f tb : Nat} {fn : Func} {s : ChangeSpec} {rule : List D → Option (Prop × D)} {l : List AK} {fresh handsOn again : Bool} (hl : laidOutB P = true) (hs : PSound P f (mk rule)) (ha : aksOf P fn.params.toList = some l)
    (hread : (fn.params.toList.all fun t => P.readableRec t && decide (t < P.types.size)) = true) (hres : fn.resultTypes = #[tb]) (htb : P.underlying tb = some .bool)
    (hrule : ∀ ds, IsAL l ds → ∃ p d, rule ds = some (p, d) ∧ p ∧ (d = .tt ∨ d = .bool true)) (hvars : s.vars = [])
    (hfn : ∀ ds : List (DataW H), ds.length = fn.params.size → (s.fn H ds).results = [.lit (.bool true)] ∧ (s.fn H ds).args = ds ∧ (s.fn H ds).vars = [])
    (W : World) (base : Nat) (args : Array Value) (ds gs : List (DataW H)) (before : List MemPlace)
    (hok : ∀ (j : Nat) t v, fn.params[j]? = some t → args[j]? = some v → Value.okWide P W .any base t v)
    (hW : DataW.Whole enc P fn.params.toList s.vars false W args.toList ds gs before) :
    Calls P f args W fun e W' => ∃ v, e = .returned v ∧ s.post enc P fn false fresh handsOn again W args v W' := by
  have hWW := hW
  obtain ⟨p, q, hA, hV, rfl, hfz, _⟩ := hW
  rw [hvars] at hV
  obtain ⟨rfl, rfl⟩ := ChangeShapes.trodVars_none hV
  obtain ⟨ds', h1, h2⟩ := isAL_of_trod hA (fun j t v ht hv => hok j t v (by simpa using ht) (by simpa using hv)) ha
  obtain ⟨pr, d, hr, hp, hd⟩ := hrule ds' h1
  have hlen : ds.length = fn.params.size := by simpa using (trodAll_length hA).2
  have hk : mk rule ds' (fun x => x = d) := by unfold mk; rw [hr]; exact ⟨hp, rfl⟩
  have hc := hs.calls ds' _ hk (fun b => b < W.heap.size) W args.toList (fun b hb => hb) h2
  rw [Array.toArray_toList] at hc
  refine hc.mono ?_
  rintro e W' ⟨v, S', d1, rfl, rfl, hR, hg⟩
  have hv : v = .bool true := by
    rcases hd with rfl | rfl
    · cases hR; rfl
    · cases hR; rfl
  subst hv
  have hb : RowKit.Below W.heap.size W W' := ⟨hg.os, hg.tape, hg.output, hg.size, hg.block⟩
  obtain ⟨f1, f2, f3⟩ := hfn (ds ++ []) (by simpa using hlen)
  have hlt : ∀ x ∈ p ++ [], x.block < W.heap.size := fun x hx => by simpa using hWW.lt x hx
  have hlt' : ∀ x ∈ p, x.block < W.heap.size := fun x hx => hlt x (by simpa using hx)
  have hread' : ∀ t ∈ fn.params.toList, P.readableRec t = true ∧ t < P.types.size := fun t ht => by
    have := List.all_eq_true.1 hread t ht
    simpa using this
  have hbool : ∀ (b : Nat) (sp : Nat → Bool) (hd : Bool), DataW.TrodAll enc P W' b sp hd fn.resultTypes.toList ((Value.bool true).resultList fn.resultTypes.size) [.lit (.bool true)] [] := fun b sp hd => by
    rw [hres]
    exact ⟨[], [], RowKit.shut_bool htb true, rfl, rfl⟩
  have hokr : ∀ (j : Nat) (t : TypeId) (r : Value), fn.resultTypes[j]? = some t → ((Value.bool true).resultList fn.resultTypes.size)[j]? = some r → Value.okWide P W' .any 0 t r := fun j t r h1 h2 => by
    rw [hres] at h1 h2
    cases j with
    | zero =>
      simp at h1
      subst h1
      have h2' : some (Value.bool true) = some r := h2
      cases h2'
      exact RowKit.okWide_bool_mk htb true
    | succ j => simp at h1
  refine ⟨_, rfl, ds, [], p ++ [], [], p, [], hWW, by rw [f1]; exact hbool _ _ _, ?_, by rw [hvars, f3]; exact rfl, hb.frame _, fun _ => ⟨hokr, [.lit (.bool true)] ++ ds, [], p, ?_, fun x hx _ => by simpa using hx⟩⟩
  · rw [f2, List.append_nil]
    exact trodAll_stays hl hb hread' hA hlt' fun x hx => decide_eq_true (hlt' x hx)
  · refine ⟨[] ++ p, [], ?_, by rw [hvars]; exact rfl, by simp, fun b off hbo => ?_, fun h => by cases h⟩
    · exact ChangeShapes.trodAll_append (trodAll_stays hl hb hread' hA hlt' fun _ _ => rfl) (hbool _ _ _)
    · have hm : MemPlace.cell b off ∈ p := by simpa using hbo
      rw [hb.frozen (p := ⟨b, off, none⟩) (hlt' _ hm)]
      exact hfz b off (by simpa using hm)
end
end Go.V
