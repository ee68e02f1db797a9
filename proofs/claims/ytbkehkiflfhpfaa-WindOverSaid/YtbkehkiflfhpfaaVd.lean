/-
  A small logic of our own, part 4: new variables, stores, literals, slices of the call's own.
-/
import Derived.Test.YtbkehkiflfhpfaaVc
import Derived.Laws.AppendOwnNone
set_option linter.unusedVariables false
set_option linter.unusedSimpArgs false
namespace Go.V

def tsz : Ty → Nat
  | .struct n _ => n
  | .array _ _ _ n => n
  | .no => 0
  | _ => 1
def Ty.known : Ty → Bool
  | .no => false
  | _ => true
def cellsD : D → List D
  | .agg l => l
  | d => [d]
def splice (cs : List D) (off : Nat) (xs : List D) : List D := cs.take off ++ xs ++ cs.drop (off + xs.length)
/-- Needs no object of the abstract heap; fits one cell. -/
def noRef1 : D → Bool
  | .tt | .ff | .int _ _ | .bool _ | .str _ | .rsl _ _ _ | .eptr _ _ | .nilI | .nilS => true
  | _ => false

section
variable {P : Program} {o : Oper} {a : Act} {w : World} {S : Nat → Prop} {μ : Mu} {H : HL}

theorem tyOK.sz {t : Nat} {T : Ty} (h : tyOK P t T) (hk : T.known = true) : szOf P t (tsz T) := by
  cases T
  case struct n fs => obtain ⟨_, _, h, _⟩ := h; exact h
  case array n e es sz => obtain ⟨_, h, _⟩ := h; exact h
  case slice e es eb => obtain ⟨_, h, _⟩ := h; exact h
  case map ks ek k e => obtain ⟨_, h, _⟩ := h; exact h
  case no => cases hk
  all_goals (obtain ⟨_, h⟩ := h; exact h)

theorem noRef1_R {d : D} {v : Value} (h : R S w μ d v) (hn : noRef1 d = true) : R S w Mu0 d v := by
  cases h <;> first
    | (cases hn; done)
    | exact .tt | exact .ff | exact .int _ _ | exact .bool _ | exact .str _ | exact .nilI | exact .nilS
    | (constructor <;> assumption)

theorem cells_R {d : D} {v : Value} (h : R S w μ d v) (h1 : (cellsD d).all one = true) :
    (cellsD d).length = v.cells.size ∧ (∀ (j : Nat) x u, (cellsD d)[j]? = some x → v.cells[j]? = some u → R S w μ x u) ∧ ∀ u ∈ v.cells.toList, u.oneCell' = true := by
  by_cases ha : ∃ cs, d = .agg cs
  · obtain ⟨cs, rfl⟩ := ha
    cases h with
    | agg _ vs hl hr =>
      refine ⟨hl, hr, fun u hu => ?_⟩
      obtain ⟨j, hj, rfl⟩ := List.getElem_of_mem hu
      have hj' : j < vs.size := by simpa [Value.cells] using hj
      have hjc : j < cs.length := by omega
      have := hr j cs[j] vs[j] (by simp [hjc]) (by simp [hj'])
      exact this.one (by
        have := List.all_eq_true.1 h1 cs[j] (List.getElem_mem hjc)
        exact this)
  · have e : cellsD d = [d] := by
      cases d <;> first | rfl | exact absurd ⟨_, rfl⟩ ha
    rw [e] at h1
    have h1' : one d = true := by simpa using h1
    have hv := h.one h1'
    have ev : v.cells = #[v] := by cases v <;> first | rfl | cases hv
    rw [e, ev]
    refine ⟨rfl, fun j x u hx hu => ?_, fun u hu => by simp at hu; subst hu; exact hv⟩
    cases j with
    | zero => simp at hx hu; subst hx; subst hu; exact h
    | succ j => simp at hx

theorem getElem?_splice (cs : List D) (off : Nat) (xs : List D) (h : off + xs.length ≤ cs.length) (i : Nat) :
    (splice cs off xs)[i]? = if off ≤ i ∧ i < off + xs.length then xs[i - off]? else cs[i]? := by
  unfold splice
  rw [List.getElem?_append, List.getElem?_append]
  simp only [List.length_append, List.length_take, Nat.min_eq_left (show off ≤ cs.length by omega), List.getElem?_take, List.getElem?_drop]
  by_cases h1 : i < off
  · have h2 : ¬ (off ≤ i ∧ i < off + xs.length) := by omega
    rw [if_pos (by omega), if_pos h1, if_pos h1, if_neg h2]
  · by_cases h2 : i < off + xs.length
    · rw [if_pos h2, if_neg h1, if_pos ⟨by omega, h2⟩]
    · rw [if_neg h2, if_neg (by omega)]
      congr 1
      omega
theorem length_splice (cs : List D) (off : Nat) (xs : List D) (h : off + xs.length ≤ cs.length) : (splice cs off xs).length = cs.length := by
  unfold splice
  simp only [List.length_append, List.length_take, List.length_drop]
  omega

theorem getElem?_vsplice (cur : Array Value) (off : Nat) (vs : List Value) (h : off + vs.length ≤ cur.size) (i : Nat) :
    ((cur.toList.take off ++ vs ++ cur.toList.drop (off + vs.length)).toArray)[i]? = if off ≤ i ∧ i < off + vs.length then vs[i - off]? else cur[i]? := by
  have hl : off ≤ cur.toList.length := by simp; omega
  simp only [List.getElem?_toArray]
  rw [List.getElem?_append, List.getElem?_append]
  simp only [List.length_append, List.length_take, Nat.min_eq_left hl, List.getElem?_take, List.getElem?_drop]
  by_cases h1 : i < off
  · have h2 : ¬ (off ≤ i ∧ i < off + vs.length) := by omega
    rw [if_pos (by omega), if_pos h1, if_pos h1, if_neg h2]
    simp
  · by_cases h2 : i < off + vs.length
    · rw [if_pos h2, if_neg h1, if_pos ⟨by omega, h2⟩]
    · rw [if_neg h2, if_neg (by omega)]
      rw [show off + vs.length + (i - (off + vs.length)) = i by omega]
      simp

/-- A new row of cells. -/
theorem new_row (hr : RelL S w μ H) {nid : Nat} (hno : μ nid = none) (hle : nid ≤ H.length) (cells : Array Value) (T : Nat) (cs : List D) (hl : cells.size = cs.length) (hR : ∀ (i : Nat) d v, cs[i]? = some d → cells[i]? = some v → R S w μ d v)
    (h1 : ∀ (i : Nat) v, cells[i]? = some v → v.oneCell' = true) :
    RelL S (w.alloc (.cells cells T)) (updM μ nid (.pointer (some ⟨w.heap.size, 0, none⟩))) (hnew H nid (.row cs)) ∧
      Tr S w μ (hget H) S (w.alloc (.cells cells T)) (updM μ nid (.pointer (some ⟨w.heap.size, 0, none⟩))) (hget (hnew H nid (.row cs))) ∧
      R S (w.alloc (.cells cells T)) (updM μ nid (.pointer (some ⟨w.heap.size, 0, none⟩))) (.ptr nid 0) (.pointer (some ⟨w.heap.size, 0, none⟩)) := by
  have hmu : MuLe μ (updM μ nid (.pointer (some ⟨w.heap.size, 0, none⟩))) := fun o v hv => by
    by_cases e : o = nid
    · subst e; rw [hno] at hv; cases hv
    · exact ⟨v, by simp [updM, e, hv], .refl v⟩
  have hblk : ∀ b, b < w.heap.size → (w.alloc (.cells cells T)).heap[b]? = w.heap[b]? := fun b hb => RowKit.Below.heap_alloc w _ b hb
  have hput := hr.1.put (o := nid) (ob := .row cs) (mv := .pointer (some ⟨w.heap.size, 0, none⟩)) (w' := w.alloc (.cells cells T)) rfl rfl rfl (by simp) (fun b hb _ => hblk b hb)
    (fun v hv => by rw [hno] at hv; cases hv) (fun b hb => by simp only [blk, Option.some.injEq] at hb; exact .inl (by omega))
    ⟨w.heap.size, cells, T, rfl, heap_alloc_new w _, hl, fun i d v h2 h3 => (hR i d v h2 h3).keep (fun _ h => h) (fun b hb => hblk b (hr.1.stat b hb).1) hmu, h1⟩ (fun _ => hno)
  exact ⟨hr.new hle hput.1, by rw [hget_new _ hle]; exact hput.2, .ptr _ _ w.heap.size (by simp [updM])⟩

/-- A row is turned. -/
theorem set_row (hr : RelL S w μ H) {oid b off : Nat} {cs xs : List D} {vs : List Value} (ho : hget H oid = some (.row cs)) (hm : μ oid = some (.pointer (some ⟨b, 0, none⟩))) (hfit : off + xs.length ≤ cs.length)
    (hl : xs.length = vs.length) (hR : ∀ (j : Nat) x u, xs[j]? = some x → vs[j]? = some u → R S w μ x u) (h1 : ∀ u ∈ vs, u.oneCell' = true) :
    ∃ w', (storeCells ⟨b, off, none⟩ vs 0).run P w = .ok () w' ∧ RelL S w' μ (H.set oid (some (.row (splice cs off xs)))) ∧ Tr S w μ (hget H) S w' μ (hget (H.set oid (some (.row (splice cs off xs))))) := by
  obtain ⟨mv, hm', b', cells, T, e, hheap, hlen, hcs, hone⟩ := hr.1.obs oid _ ho
  rw [hm] at hm'
  injection hm' with hm'
  subst hm'
  injection e with e
  injection e with e
  injection e with e
  subst e
  have hoid : oid < H.length := by
    rcases Nat.lt_or_ge oid H.length with h | h
    · exact h
    · simp [hget, List.getElem?_eq_none h] at ho
  have hst := run_storeCells_at P b off T vs 0 cells w hheap (by omega) h1
  simp only [Nat.add_zero] at hst
  have hupd : updM μ oid (.pointer (some ⟨b, 0, none⟩)) = μ := by
    funext o'
    unfold updM
    split
    · rename_i h; rw [h, hm]
    · rfl
  refine ⟨_, hst, ?_⟩
  have hother : ∀ k, k ≠ b → (w.setRow b (cells.toList.take off ++ vs ++ cells.toList.drop (off + vs.length)).toArray).heap[k]? = w.heap[k]? := fun k hk => setRow_other w b k _ hk
  have hnb : ∀ k, S k → k ≠ b := fun k hk e => (hr.1.stat k hk).2 oid _ _ ho hm (by simp [blk, e])
  have hput := hr.1.put (o := oid) (ob := .row (splice cs off xs)) (mv := .pointer (some ⟨b, 0, none⟩)) (w' := w.setRow b (cells.toList.take off ++ vs ++ cells.toList.drop (off + vs.length)).toArray) rfl rfl rfl (by simp)
    (fun k hk hno => hother k (fun e => hno _ _ ho hm (by simp [blk, e]))) (fun v hv => by rw [hm] at hv; injection hv with hv; subst hv; exact .refl _)
    (fun k hk => .inr ⟨_, _, ho, hm, hk⟩)
    ⟨b, _, T, rfl, setRow_heap w b cells _ T _ hheap, by simp [length_splice _ _ _ hfit]; omega, fun i d v h2 h3 => by
      rw [hupd]
      rw [getElem?_splice _ _ _ hfit] at h2
      rw [getElem?_vsplice _ _ _ (by omega)] at h3
      have hk : R S w μ d v := by
        by_cases hi : off ≤ i ∧ i < off + xs.length
        · rw [if_pos hi] at h2
          rw [if_pos (by omega)] at h3
          exact hR _ _ _ h2 h3
        · rw [if_neg hi] at h2
          rw [if_neg (by omega)] at h3
          exact hcs _ _ _ h2 h3
      exact hk.keep (fun _ h => h) (fun k hk => hother k (hnb k hk)) (.refl _), fun i v h3 => by
      rw [getElem?_vsplice _ _ _ (by omega)] at h3
      split at h3
      · exact h1 v (List.mem_of_getElem? h3)
      · exact hone i v h3⟩ (fun e => by rw [ho] at e; cases e)
  rw [hupd] at hput
  rw [hget_set _ _ _ hoid]
  refine ⟨⟨by rw [hget_set _ _ _ hoid]; exact hput.1, fun o ho' => hr.2 o (by simpa using ho')⟩, hput.2⟩
end
end Go.V
