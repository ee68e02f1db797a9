/-
  A small logic of our own, part 5: literals, slices of the call's own.
-/
import Derived.Test.YtbkehkiflfhpfaaVd
set_option linter.unusedVariables false
set_option linter.unusedSimpArgs false
namespace Go.V

/-- The parts of a literal laid over its cells. -/
def vfillB (place : Nat → Option (Nat × Nat)) (p : Nat × D) (ih : List D → Prop) (cs : List D) : Prop := match place p.1 with
  | none => False
  | some (off, size) => bif Nat.beq (cellsD p.2).length size && (cellsD p.2).all one && Nat.ble (off + size) cs.length then ih (splice cs off (cellsD p.2)) else False
def vfill (place : Nat → Option (Nat × Nat)) (k : List D → Prop) (cs : List D) (l : List (Nat × D)) : Prop := @List.rec (Nat × D) (fun _ => List D → Prop) k (fun p _ ih => vfillB place p ih) l cs
theorem vfill_cons (place : Nat → Option (Nat × Nat)) (k : List D → Prop) (cs : List D) (p : Nat × D) (r : List (Nat × D)) : vfill place k cs (p :: r) = vfillB place p (fun cs => vfill place k cs r) cs := rfl

section
variable {P : Program} {o : Oper} {a : Act} {w : World} {S : Nat → Prop} {μ : Mu} {H : HL}

/-- Cells that read as abstract cells. -/
def CR (S : Nat → Prop) (w : World) (μ : Mu) (cs : List D) (vs : Array Value) : Prop :=
  vs.size = cs.length ∧ (∀ (i : Nat) d v, cs[i]? = some d → vs[i]? = some v → R S w μ d v) ∧ ∀ (i : Nat) v, vs[i]? = some v → v.oneCell' = true

theorem foldl_set (off : Nat) : ∀ (vs : List Value) (j : Nat) (cur : Array Value), off + j + vs.length ≤ cur.size →
    ((vs.zipIdx j).foldl (fun cs (x : Value × Nat) => cs.setIfInBounds (off + x.2) x.1) cur).size = cur.size ∧
      ∀ i, ((vs.zipIdx j).foldl (fun cs (x : Value × Nat) => cs.setIfInBounds (off + x.2) x.1) cur)[i]? = if off + j ≤ i ∧ i < off + j + vs.length then vs[i - (off + j)]? else cur[i]?
  | [], j, cur, _ => by
    refine ⟨rfl, fun i => ?_⟩
    rw [if_neg (by simp)]
    rfl
  | v :: vs, j, cur, h => by
    simp only [List.length_cons] at h
    obtain ⟨h1, h2⟩ := foldl_set off vs (j + 1) (cur.setIfInBounds (off + j) v) (by simp; omega)
    simp only [List.zipIdx_cons, List.foldl_cons]
    refine ⟨by rw [h1]; simp, fun i => ?_⟩
    rw [h2 i]
    simp only [List.length_cons]
    by_cases hi : off + j = i
    · subst hi
      rw [if_neg (by omega), if_pos (by omega)]
      have hlt : off + j < cur.size := by omega
      simp [hlt]
    · by_cases hi2 : off + j ≤ i ∧ i < off + j + (vs.length + 1)
      · rw [if_pos (by omega), if_pos hi2]
        rw [show i - (off + j) = (i - (off + (j + 1))) + 1 by omega]
        simp
      · rw [if_neg (by omega), if_neg hi2]
        simp [hi]

theorem CR.splice {cs : List D} {cur : Array Value} {v : Value} {off : Nat} {d : D} (h : CR S w μ cs cur) (hd : R S w μ d v) (h1 : (cellsD d).all one = true) (hfit : off + (cellsD d).length ≤ cs.length) :
    CR S w μ (splice cs off (cellsD d)) (v.cells.zipIdx.foldl (fun cs (x : Value × Nat) => cs.setIfInBounds (off + x.2) x.1) cur) := by
  obtain ⟨hl, hR, hone⟩ := cells_R hd h1
  have e : v.cells.zipIdx.foldl (fun cs (x : Value × Nat) => cs.setIfInBounds (off + x.2) x.1) cur = (v.cells.toList.zipIdx 0).foldl (fun cs (x : Value × Nat) => cs.setIfInBounds (off + x.2) x.1) cur := by
    rw [← Array.foldl_toList, Array.toList_zipIdx]
  have hlen : v.cells.toList.length = v.cells.size := by simp
  obtain ⟨g1, g2⟩ := foldl_set off v.cells.toList 0 cur (by have := h.1; omega)
  rw [e]
  refine ⟨by rw [g1, length_splice _ _ _ hfit]; exact h.1, fun i d' u hi hu => ?_, fun i u hu => ?_⟩
  · rw [getElem?_splice _ _ _ hfit] at hi
    rw [g2] at hu
    by_cases hc : off ≤ i ∧ i < off + (cellsD d).length
    · rw [if_pos hc] at hi
      rw [if_pos (by omega)] at hu
      exact hR _ _ _ hi (by simpa using hu)
    · rw [if_neg hc] at hi
      rw [if_neg (by omega)] at hu
      exact h.2.1 _ _ _ hi hu
  · rw [g2] at hu
    split at hu
    · exact hone u (List.mem_of_getElem? hu)
    · exact h.2.2 i u hu

theorem sound_fill {place : Nat → Option (Nat × Nat)} {K : List D → Prop} : ∀ (ps : List (Nat × D)) (vs : List (Nat × Value)) (cs : List D) (cur : Array Value),
    ps.map (·.1) = vs.map (·.1) → (∀ (j : Nat) p q, ps[j]? = some p → vs[j]? = some q → R S w μ p.2 q.2) → CR S w μ cs cur → vfill place K cs ps →
    ∃ cs' cur', Instr.fill place cur vs = some cur' ∧ CR S w μ cs' cur' ∧ K cs'
  | [], vs, cs, cur, he, _, hc, h => by
    cases vs with
    | nil => exact ⟨cs, cur, rfl, hc, h⟩
    | cons q vs => simp at he
  | (i, d) :: ps, vs, cs, cur, he, hr, hc, h => by
    cases vs with
    | nil => simp at he
    | cons q vs =>
      obtain ⟨i', v⟩ := q
      simp only [List.map_cons, List.cons.injEq] at he
      obtain ⟨rfl, he⟩ := he
      rw [vfill_cons] at h
      simp only [vfillB] at h
      cases hp : place i with
      | none => simp [hp] at h
      | some os =>
        obtain ⟨off, size⟩ := os
        simp only [hp] at h
        cases hb : (Nat.beq (cellsD d).length size && (cellsD d).all one && Nat.ble (off + size) cs.length) with
        | false => simp [hb] at h
        | true =>
          simp only [hb, cond_true] at h
          simp only [Bool.and_eq_true] at hb
          obtain ⟨⟨hb1, hb2⟩, hb3⟩ := hb
          have e1 : (cellsD d).length = size := Nat.eq_of_beq_eq_true hb1
          have e3 : off + size ≤ cs.length := Nat.le_of_ble_eq_true hb3
          have hd : R S w μ d v := hr 0 _ _ rfl rfl
          obtain ⟨hl, _, _⟩ := cells_R hd hb2
          have hc' := hc.splice (off := off) hd hb2 (by omega)
          obtain ⟨cs', cur', g1, g2, g3⟩ := sound_fill ps vs _ _ he (fun j p q h1 h2 => hr (j + 1) p q (by simpa using h1) (by simpa using h2)) hc' h
          refine ⟨cs', cur', ?_, g2, g3⟩
          simp only [Instr.fill, hp]
          rw [if_neg (by simp only [Bool.or_eq_true, decide_eq_true_eq]; have := hc.1; omega)]
          exact g1

/-- A slice literal: an object of its own. -/
theorem new_buf (hr : RelL S w μ H) {nid : Nat} (hno : μ nid = none) (hle : nid ≤ H.length) (cells : Array Value) {e n size : Nat} {cs : List D} (hn : cs.length = n * size) (hmax : n ≤ maxLen) (hc : CR S w μ cs cells) (h0 : ∀ d ∈ cs, noRef1 d = true ∨ d = .top) :
    RelL S (w.alloc (.cells cells e)) (updM μ nid (.slice (some ⟨w.heap.size, 0, none⟩) n n)) (hnew H nid (.buf e size n fun i j => cs.getD (i * size + j) .top)) ∧
      Tr S w μ (hget H) S (w.alloc (.cells cells e)) (updM μ nid (.slice (some ⟨w.heap.size, 0, none⟩) n n)) (hget (hnew H nid (.buf e size n fun i j => cs.getD (i * size + j) .top))) ∧
      R S (w.alloc (.cells cells e)) (updM μ nid (.slice (some ⟨w.heap.size, 0, none⟩) n n)) (.own nid n) (.slice (some ⟨w.heap.size, 0, none⟩) n n) := by
  have hblk : ∀ b, b < w.heap.size → (w.alloc (.cells cells e)).heap[b]? = w.heap[b]? := fun b hb => RowKit.Below.heap_alloc w _ b hb
  have hcs := hc.1
  have hput := hr.1.put (o := nid) (ob := .buf e size n fun i j => cs.getD (i * size + j) .top) (mv := .slice (some ⟨w.heap.size, 0, none⟩) n n) (w' := w.alloc (.cells cells e)) rfl rfl rfl (by simp) (fun b hb _ => hblk b hb)
    (fun v hv => by rw [hno] at hv; cases hv) (fun b hb => by simp only [blk, Option.some.injEq] at hb; exact .inl (by omega))
    ⟨cells.toList, ⟨by simp; omega, .inr ⟨w.heap.size, n, cells, rfl, Nat.zero_le _, heap_alloc_new w _, Nat.le_refl _, hmax, by omega, by rw [List.take_of_length_le (by simp; omega)]⟩⟩, fun i j hi hj => by
      have hlt : i * size + j < cs.length := by
        rw [hn]
        calc i * size + j < i * size + size := by omega
          _ = (i + 1) * size := by rw [Nat.add_mul, Nat.one_mul]
          _ ≤ n * size := Nat.mul_le_mul_right _ (by omega)
      have hlt' : i * size + j < cells.size := by omega
      refine ⟨cells[i * size + j], by simp [hlt'], hc.2.2 (i * size + j) _ (by simp [hlt']), ?_⟩
      have hg : cs.getD (i * size + j) .top = cs[i * size + j] := by simp [List.getElem?_eq_getElem hlt]
      show R S _ Mu0 (cs.getD (i * size + j) .top) _
      rw [hg]
      have hd := hc.2.1 (i * size + j) cs[i * size + j] cells[i * size + j] (by simp [hlt]) (by simp [hlt'])
      rcases h0 _ (List.getElem_mem hlt) with h1 | h1
      · exact (noRef1_R hd h1).keep (fun _ h => h) (fun b hb => hblk b (hr.1.stat b hb).1) (.refl _)
      · rw [h1]; exact .top _⟩ (fun _ => hno)
  exact ⟨hr.new hle hput.1, by rw [hget_new _ hle]; exact hput.2, .own _ _ (some ⟨w.heap.size, 0, none⟩) n n _ (by simp [updM]) (Nat.le_refl _) rfl (fun _ => rfl)⟩

/-- A nil slice that may grow: an object of its own, without memory. -/
theorem new_nil (hr : RelL S w μ H) {nid : Nat} (hno : μ nid = none) (hle : nid ≤ H.length) (e size : Nat) (g : Nat → Nat → D) :
    RelL S w (updM μ nid (.slice none 0 0)) (hnew H nid (.buf e size 0 g)) ∧ Tr S w μ (hget H) S w (updM μ nid (.slice none 0 0)) (hget (hnew H nid (.buf e size 0 g))) ∧
      R S w (updM μ nid (.slice none 0 0)) (.own nid 0) (.slice none 0 0) := by
  have hput := hr.1.put (o := nid) (ob := .buf e size 0 g) (mv := .slice none 0 0) (w' := w) rfl rfl rfl (Nat.le_refl _) (fun b hb _ => rfl)
    (fun v hv => by rw [hno] at hv; cases hv) (fun b hb => by simp [blk] at hb) ⟨[], World.ownsRow_nil w 0 e size, fun i j hi => absurd hi (by omega)⟩ (fun _ => hno)
  exact ⟨hr.new hle hput.1, by rw [hget_new _ hle]; exact hput.2, .own _ _ none 0 0 _ (by simp [updM]) (Nat.le_refl _) rfl (fun _ => rfl)⟩

theorem lt_of_hget {oid : Nat} {ob : Ob} (h : hget H oid = some ob) : oid < H.length := by
  rcases Nat.lt_or_ge oid H.length with h' | h'
  · exact h'
  · simp [hget, List.getElem?_eq_none h'] at h

/-- A slice of the call's own is turned: it grows, or one of its elements is written. -/
theorem turn_buf (hr : RelL S w μ H) {w' : World} {oid e size n n' : Nat} {g g' : Nat → Nat → D} {mv mv' : Value} {xs' : List Value} (ho : hget H oid = some (.buf e size n g)) (hm : μ oid = some mv) (hle : Le mv mv')
    (hg : w.grownBy w' mv.ownBlock) (hb : mv'.ownBlock = mv.ownBlock ∨ mv'.ownBlock = some w.heap.size) (hown : w'.ownsRow 0 e size mv' n' xs')
    (hx : ∀ i j, i < n' → j < size → ∃ v, xs'[i * size + j]? = some v ∧ v.oneCell' = true ∧ R S w Mu0 (g' i j) v) :
    RelL S w' (updM μ oid mv') (H.set oid (some (.buf e size n' g'))) ∧ Tr S w μ (hget H) S w' (updM μ oid mv') (hget (H.set oid (some (.buf e size n' g')))) := by
  have hoid := lt_of_hget ho
  obtain ⟨mv0, h1, xs, hown0, _⟩ := hr.1.obs oid _ ho
  rw [hm] at h1
  injection h1 with h1
  subst h1
  have hblkown : ∀ (v : Value) b, v.ownBlock = some b → (∃ A m c, v = .slice A m c) → blk v = some b := fun v b h ⟨A, m, c, e⟩ => by
    subst e
    cases A <;> simp [Value.ownBlock, blk] at h ⊢
    exact h
  have hform : ∀ {v : Value} {n xs} {w : World}, w.ownsRow 0 e size v n xs → ∃ A m c, v = .slice A m c := fun h => by
    rcases h.2 with ⟨rfl, _⟩ | ⟨b, cap, cur, rfl, _⟩ <;> exact ⟨_, _, _, rfl⟩
  have hbo : ∀ (v : Value), (∃ A m c, v = .slice A m c) → blk v = v.ownBlock := fun v ⟨A, m, c, e⟩ => by subst e; cases A <;> rfl
  have hS : ∀ b, S b → w'.heap[b]? = w.heap[b]? := fun b hb => hg.block b (hr.1.stat b hb).1 fun e => (hr.1.stat b hb).2 oid _ _ ho hm (by rw [hbo _ (hform hown0), ← e])
  have hput := hr.1.put (o := oid) (ob := .buf e size n' g') (mv := mv') (w' := w') hg.os hg.tape hg.output hg.size
    (fun b hb hno => hg.block b hb fun e => hno _ _ ho hm (by rw [hbo _ (hform hown0), ← e]))
    (fun v hv => by rw [hm] at hv; injection hv with hv; subst hv; exact hle)
    (fun b hb' => by
      rw [hbo _ (hform hown)] at hb'
      rcases hb with h | h
      · exact .inr ⟨_, _, ho, hm, by rw [hbo _ (hform hown0), ← h, hb']⟩
      · rw [h] at hb'; injection hb' with hb'; exact .inl (by omega))
    ⟨xs', hown, fun i j hi hj => let ⟨v, a, b, c⟩ := hx i j hi hj; ⟨v, a, b, c.keep (fun _ h => h) hS (.refl _)⟩⟩ (fun e => by rw [ho] at e; cases e)
  rw [hget_set _ _ _ hoid]
  refine ⟨⟨by rw [hget_set _ _ _ hoid]; exact hput.1, fun o ho' => ?_⟩, hput.2⟩
  have hne : o ≠ oid := by simp at ho'; omega
  simp only [updM, hne, if_false]
  exact hr.2 o (by simpa using ho')
end
end Go.V
