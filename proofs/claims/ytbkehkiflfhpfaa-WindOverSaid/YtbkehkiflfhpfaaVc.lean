/-
  A small logic of our own, part 3: loads, stores, addresses, on abstract values.
-/
import Derived.Test.YtbkehkiflfhpfaaVb
set_option linter.unusedVariables false
set_option linter.unusedSimpArgs false
namespace Go.V

def aggSize : Ty → Option Nat
  | .struct n _ => some n
  | .array _ _ _ n => some n
  | _ => none

/-- What is loaded, as a type, from a row of n cells that is only read. -/
def vfrom (T : Ty) (n : Nat) (g : Nat → D) (k : D → Prop) : Prop := match aggSize T with
  | some c => bif Nat.ble c n then fzl ((List.range c).map g) fun l => k (.agg l) else False
  | none => bif T.one && Nat.ble 1 n then fz (g 0) k else False

def vload (T : Ty) (d : D) (H : HL) (k : D → Prop) : Prop := match d with
  | .eptr n g => vfrom T n g k
  | .ptr o off => match hget H o with
    | some (.row cs) => vfrom T (cs.length - off) (fun j => cs.getD (off + j) .top) k
    | _ => False
  | .optr o n s i j => match hget H o with
    | some (.buf _ size m g) => (n = m ∧ i < m) ∧ (bif Nat.beq s size then vfrom T (size - j) (fun x => g i (j + x)) k else False)
    | _ => False
  | _ => False

section
variable {P : Program} {o : Oper} {a : Act} {w : World} {S : Nat → Prop} {μ : Mu} {H : HL}

theorem tyOK.agg {t : Nat} {T : Ty} {c : Nat} (h : tyOK P t T) (hc : aggSize T = some c) : szOf P t c ∧ ∃ d, P.underlying t = some d ∧ plainT d = false := by
  cases T <;> simp only [aggSize, reduceCtorEq, Option.some.injEq] at hc <;> subst hc <;> simp only [tyOK] at h
  · obtain ⟨f, h1, h2, _⟩ := h; exact ⟨h2, _, h1, rfl⟩
  · exact ⟨h.2.1, _, h.1, rfl⟩

theorem run_isAgg_agg {t : Nat} {d : TypeDesc} (h : P.underlying t = some d) (hp : plainT d = false) (w : World) : (isAgg t).run P w = .ok true w := by
  simp only [isAgg, Sem.run_bind, run_underlying h, Result.andThen_ok]
  cases d <;> first | rfl | cases hp

/-- The one theorem on loads: the cells at an address are known. -/
theorem run_load_cells {t : Nat} {T : Ty} {n : Nat} {g : Nat → D} {val : Nat → Value} {b off : Nat} {K : D → Prop} (hT : tyOK P t T)
    (hc : ∀ j, j < n → w.cell? ⟨b, off + j, none⟩ = some (val j)) (hr : ∀ j, j < n → R S w μ (g j) (val j)) (h : vfrom T n g K) :
    ∃ d v, (Instr.loadAt t (.pointer (some ⟨b, off, none⟩))).run P w = .ok v w ∧ R S w μ d v ∧ K d := by
  unfold vfrom at h
  cases ha : aggSize T with
  | some c =>
    obtain ⟨hs, d, hu, hp⟩ := hT.agg ha
    simp only [ha] at h
    cases hn : Nat.ble c n with
    | false => simp [hn] at h
    | true =>
      have hcn : c ≤ n := Nat.le_of_ble_eq_true hn
      simp only [hn, cond_true, fzl_iff] at h
      refine ⟨_, .agg ((List.range c).map val).toArray, ?_, .agg _ _ (by simp) (fun i d v h1 h2 => ?_), h⟩
      · have hl := run_loadCells (P := P) w ⟨b, off, none⟩ c val (fun j hj => by rw [Addr.add_lit]; exact hc j (by omega))
        simp [Instr.loadAt, Instr.sureAddr, loadVar, run_isAgg_agg hu hp, run_sizeOf hs, hl]
      · simp only [List.getElem?_map, List.getElem?_toArray] at h1 h2
        by_cases hi : i < c
        · simp [hi] at h1 h2
          subst h1; subst h2
          exact hr i (by omega)
        · simp [Nat.le_of_not_lt hi] at h1
  | none =>
    simp only [ha] at h
    cases h1 : T.one with
    | false => simp [h1] at h
    | true =>
      cases hn : Nat.ble 1 n with
      | false => simp [h1, hn] at h
      | true =>
        have hn1 : 1 ≤ n := Nat.le_of_ble_eq_true hn
        simp only [h1, hn, Bool.and_self, cond_true, fz_iff] at h
        obtain ⟨d, hu, hp⟩ := hT.plain h1
        have hc0 := hc 0 (by omega)
        rw [Nat.add_zero] at hc0
        refine ⟨_, val 0, ?_, hr 0 (by omega), h⟩
        simp [Instr.loadAt, Instr.sureAddr, loadVar, run_isAgg_plain hu hp, hc0]

theorem R.of0 {d : D} {v : Value} (h : R S w Mu0 d v) : R S w μ d v := h.keep (fun _ hb => hb) (fun _ _ => rfl) (fun _ _ h => by cases h)

theorem row_cell {b : Nat} {cells : Array Value} {T : Nat} {f : Nat × Nat} (h : w.heap[b]? = some (.cells cells T f)) (j : Nat) : w.cell? ⟨b, j, none⟩ = cells[j]? := cell_of_row w b j cells T f h

theorem own_cell {b e size n : Nat} {mv : Value} {xs : List Value} {m c : Nat} (h : w.ownsRow 0 e size mv n xs) (he : mv = .slice (some ⟨b, 0, none⟩) m c) (j : Nat) (v : Value) (hj : xs[j]? = some v) : w.cell? ⟨b, j, none⟩ = some v := by
  have := h.cells (g := b) (by rw [he]; rfl) j v hj
  rwa [Addr.add_lit, Nat.zero_add] at this

theorem sound_load {t : Nat} {T : Ty} {d : D} {v : Value} {K : D → Prop} (hT : tyOK P t T) (hr : RelL S w μ H) (hd : R S w μ d v) (h : vload T d H K) :
    ∃ d' v', (Instr.loadAt t v).run P w = .ok v' w ∧ R S w μ d' v' ∧ K d' := by
  cases hd <;> simp only [vload] at h
  case eptr n g b off val hb hc hv => exact run_load_cells hT (fun j hj => (hc j hj).1) (fun j hj => (hv j hj).of0) h
  case ptr o off b hm =>
    cases ho : hget H o with
    | none => simp [ho] at h
    | some ob =>
      cases ob with
      | buf _ _ _ _ => simp [ho] at h
      | mp _ => simp [ho] at h
      | lp _ _ => simp [ho] at h
      | row cs =>
        simp only [ho] at h
        obtain ⟨mv, h1, b', cells, T', e, hheap, hlen, hcs, _⟩ := hr.1.obs o _ ho
        rw [hm] at h1
        injection h1 with h1
        subst h1
        injection e with e
        injection e with e
        injection e with e
        subst e
        refine run_load_cells (val := fun j => cells.getD (off + j) undef) hT (fun j hj => ?_) (fun j hj => ?_) h
        · have hlt : off + j < cells.size := by omega
          simp [row_cell hheap, Array.getD, hlt]
        · have hlt : off + j < cells.size := by omega
          have hlt' : off + j < cs.length := by omega
          exact hcs (off + j) _ _ (by simp [List.getElem?_eq_getElem hlt']) (by simp [Array.getD, hlt])
  case optr o n s i j A m c b hn hv hm =>
    cases ho : hget H o with
    | none => simp [ho] at h
    | some ob =>
      cases ob with
      | row cs => simp [ho] at h
      | mp _ => simp [ho] at h
      | lp _ _ => simp [ho] at h
      | buf e size m' g =>
        simp only [ho] at h
        obtain ⟨⟨hnm, him⟩, h⟩ := h
        cases hs : Nat.beq s size with
        | false => simp [hs] at h
        | true =>
          have hss : s = size := Nat.eq_of_beq_eq_true hs
          simp only [hs, cond_true] at h
          obtain ⟨mv, h1, xs, hown, hx⟩ := hr.1.obs o _ ho
          rw [hm] at h1
          injection h1 with h1
          have hm' : m = m' := by
            rcases hown.2 with ⟨e1, e2⟩ | ⟨b, cap, cur, e1, _⟩
            · rw [← h1] at e1; injection e1 with _ e1 _; omega
            · rw [← h1] at e1; injection e1
          have hA := hv (by omega)
          subst hss
          refine run_load_cells (val := fun x => xs.getD (i * s + (j + x)) undef) hT (fun x hx' => ?_) (fun x hx' => ?_) h
          · obtain ⟨u, hu, _, _⟩ := hx i (j + x) (by omega) (by omega)
            rw [Nat.add_assoc]
            exact own_cell hown (by rw [← h1, hA]) _ _ (by simp [hu])
          · obtain ⟨u, hu, _, hur⟩ := hx i (j + x) (by omega) (by omega)
            simp only [List.getD_eq_getElem?_getD, hu, Option.getD_some]
            exact hur.of0

def vfield (T : Ty) (d : D) (f : Nat) (k : D → Prop) : Prop := match T with
  | .struct _ fs => match fs[f]? with
    | some x => match d with
      | .ptr o off => k (.ptr o (off + x.1))
      | .eptr n g => bif Nat.ble x.1 n then k (.eptr (n - x.1) fun j => g (x.1 + j)) else False
      | .optr o n s i j => k (.optr o n s i (j + x.1))
      | _ => False
    | none => False
  | _ => False

theorem run_fieldAt {t f : Nat} {fields : Array Field} {fd : Field} {b off n : Nat} (hu : P.underlying t = some (.struct fields)) (hf : fields[f]? = some fd) (hs : szOf P fd.type n) (hn : n ≠ 0) :
    (Instr.fieldAt t (.pointer (some ⟨b, off, none⟩)) f).run P w = .ok (.pointer (some ⟨b, off + fd.offset, none⟩)) w := by
  simp [Instr.fieldAt, run_underlying hu, hf, Instr.sureAddr, fieldPlace, run_sizeOf hs, hn, Addr.add_lit]

theorem sound_field {t f : Nat} {T : Ty} {d : D} {v : Value} {K : D → Prop} (hT : tyOK P t T) (hr : RelL S w μ H) (hd : R S w μ d v) (h : vfield T d f K) :
    ∃ d' v', (Instr.fieldAt t v f).run P w = .ok v' w ∧ R S w μ d' v' ∧ K d' := by
  cases T <;> simp only [vfield] at h
  case struct sz fs =>
    obtain ⟨fields, hu, _, hfs, _⟩ := hT
    cases hx : fs[f]? with
    | none => simp [hx] at h
    | some x =>
      obtain ⟨fd, hf, ho, ht, hsz, hne⟩ := hfs f x hx
      simp only [hx] at h
      cases hd <;> simp only at h
      case ptr o off b hm => exact ⟨_, _, run_fieldAt hu hf hsz hne, by rw [ho]; exact .ptr o (off + x.1) b hm, h⟩
      case eptr n g b off val hb hc hv =>
        cases hn : Nat.ble x.1 n with
        | false => simp [hn] at h
        | true =>
          have hxn : x.1 ≤ n := Nat.le_of_ble_eq_true hn
          simp only [hn, cond_true] at h
          refine ⟨_, _, run_fieldAt hu hf hsz hne, ?_, h⟩
          rw [ho]
          exact .eptr _ _ b (off + x.1) (fun j => val (x.1 + j)) hb (fun j hj => by rw [Nat.add_assoc]; exact hc _ (by omega)) (fun j hj => hv _ (by omega))
      case optr o n s i j A m c b hn hv hm =>
        refine ⟨_, _, run_fieldAt hu hf hsz hne, ?_, h⟩
        rw [ho, Nat.add_assoc]
        exact .optr o n s i (j + x.1) A m c b hm hn hv
end
end Go.V
