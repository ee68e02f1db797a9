/-
  A row that a call owns, whose frozen range lies outside its cells (what a string's bytes are laid into), may be appended to and written (plain).
-/
import Derived.WalkKit
import Derived.Maps.AppendAt
import Derived.Lib.FrozenHead
import Derived.WalkSpells
import Derived.WalkLawsBesides
import Derived.MapKept
import Derived.Maps.Own
import Derived.OrdersIn
import Derived.RangeFuncRecord
import Derived.RecoverIn
import Derived.Laws.AppendOwnNone
import Derived.Laws.MakeOwn
set_option linter.unusedVariables false
set_option linter.unusedSimpArgs false
section
namespace Go
def World.ownsG (w : World) (base : Nat) (e : TypeId) (size : Nat) (v : Value) (n : Nat) (xs : List Value) : Prop :=
  xs.length = n * size ∧
  ((v = .slice none 0 0 ∧ n = 0) ∨
   ∃ g cap cur fz, v = .slice (some ⟨g, 0, none⟩) n cap ∧ base ≤ g ∧ w.heap[g]? = some (.cells cur e fz) ∧ (fz = (0, 0) ∨ cur.size ≤ fz.1) ∧ n ≤ cap ∧ cap ≤ maxLen ∧ cur.size = cap * size ∧ cur.toList.take (n * size) = xs)
section
variable {w : World} {base : Nat} {e : TypeId} {size : Nat} {v : Value} {n : Nat} {xs : List Value}
theorem World.ownsG_of (h : w.ownsRow base e size v n xs) : w.ownsG base e size v n xs := by
  refine ⟨h.1, ?_⟩
  rcases h.2 with hn | ⟨g, cap, cur, hv, hb, hg, rest⟩
  · exact .inl hn
  · exact .inr ⟨g, cap, cur, (0, 0), hv, hb, hg, .inl rfl, rest⟩
theorem World.ownsG_nil (w : World) (base : Nat) (e : TypeId) (size : Nat) : w.ownsG base e size (.slice none 0 0) 0 [] := ⟨by simp, .inl ⟨rfl, rfl⟩⟩
theorem World.ownsG.lt (h : w.ownsG base e size v n xs) : ∀ k, v.ownBlock = some k → base ≤ k ∧ k < w.heap.size := by
  intro k hk
  rcases h.2 with ⟨rfl, _⟩ | ⟨g, cap, cur, fz, rfl, hb, hg, _⟩
  · simp [Value.ownBlock] at hk
  · simp [Value.ownBlock] at hk
    subst hk
    exact ⟨hb, (Array.getElem?_eq_some_iff.1 hg).1⟩
theorem World.ownsG.cells (h : w.ownsG base e size v n xs) {g : Nat} (hg : v.ownBlock = some g) : ∀ j u, xs[j]? = some u → w.cell? ((⟨g, 0, none⟩ : Addr).add j) = some u := by
  intro j u hu
  rcases h.2 with ⟨rfl, _⟩ | ⟨g', cap, cur, fz, rfl, _, hgg, _, _, _, _, htake⟩
  · simp [Value.ownBlock] at hg
  · simp [Value.ownBlock] at hg
    subst hg
    have hadd : (⟨g', 0, none⟩ : Addr).add j = ⟨g', j, none⟩ := by unfold Addr.add; split <;> simp_all
    rw [hadd, cell_of_row w g' j cur e fz hgg]
    rw [← htake, List.getElem?_take] at hu
    split at hu
    · simpa using hu
    · cases hu
end
theorem run_storeCells_atG (P : Program) (g o : Nat) (t : TypeId) (fz : Nat × Nat) : ∀ (vs : List Value) (i : Nat) (cur : Array Value) (w : World), w.heap[g]? = some (.cells cur t fz) → (fz = (0, 0) ∨ cur.size ≤ fz.1) → o + i + vs.length ≤ cur.size → (∀ v ∈ vs, v.oneCell' = true) →
    (storeCells ⟨g, o, none⟩ vs i).run P w = .ok () (w.setRow g (cur.toList.take (o + i) ++ vs ++ cur.toList.drop (o + i + vs.length)).toArray)
  | [], i, cur, w, hg, _, _, _ => by
    simp only [storeCells, List.append_nil, List.length_nil, Nat.add_zero, List.take_append_drop, Array.toArray_toList]
    rw [setRow_self w g cur t fz hg]
    rfl
  | v :: rest, i, cur, w, hg, hfz, hl, h1 => by
    have hi : o + i < cur.size := by simp at hl; omega
    have hadd : (⟨g, o, none⟩ : Addr).add i = ⟨g, o + i, none⟩ := by unfold Addr.add; split <;> simp_all
    have hcell : w.cell? ⟨g, o + i, none⟩ = some cur[o + i] := by simp [World.cell?, hg, hi]
    have hfro : w.frozen? ⟨g, o + i, none⟩ = false := by
      obtain ⟨lo, hi'⟩ := fz
      simp only [World.frozen?, hg, Bool.and_eq_false_iff, decide_eq_false_iff_not]
      simp only [Prod.mk.injEq] at hfz
      omega
    have hst : (store ((⟨g, o, none⟩ : Addr).add i) v).run P w = .ok () (w.setRow g (cur.setIfInBounds (o + i) v)) := by
      rw [hadd, run_store P w _ v _ (h1 v (by simp)), hcell]
      simp [hfro, setCell_eq_setRow w g (o + i) cur t fz v hg]
    have ih := run_storeCells_atG P g o t fz rest (i + 1) (cur.setIfInBounds (o + i) v) (w.setRow g (cur.setIfInBounds (o + i) v)) (setRow_heap w g cur _ t _ hg) (by simpa using hfz) (by simp at hl ⊢; omega) (fun x hx => h1 x (by simp [hx]))
    simp only [storeCells, Sem.run_bind, hst, Result.andThen_ok, ih, setRow_setRow]
    congr 3
    have e := list_seg_step cur.toList (o + i) v rest (by simp at hl ⊢; omega)
    simpa [Array.toList_setIfInBounds, Nat.add_assoc] using e
section
variable {P : Program} (w : World)
theorem run_append_roomG (t ty e : TypeId) (i : TypeInfo) (ht : P.underlying t = some (.slice e)) (hi : P.info? e = some i)
    (g sLen sCap : Nat) (cur : Array Value) (fz : Nat × Nat) (hg : w.heap[g]? = some (.cells cur e fz)) (hfz : fz = (0, 0) ∨ cur.size ≤ fz.1)
    (a : Addr) (m c : Nat) (news : List Value) (hl : news.length = m * i.size) (hnews : ∀ j u, news[j]? = some u → w.cell? (a.add j) = some u) (h1 : ∀ u ∈ news, u.oneCell' = true)
    (hroom : sLen + m ≤ sCap) (hfit : sLen * i.size + news.length ≤ cur.size) :
    (Builtin.append_ #[t, t] ty #[.slice (some ⟨g, 0, none⟩) sLen sCap, .slice (some a) m c]).run P w =
      .ok (.slice (some ⟨g, 0, none⟩) (sLen + m) sCap) (w.setRow g (cur.toList.take (sLen * i.size) ++ news ++ cur.toList.drop (sLen * i.size + news.length)).toArray) := by
  have hf := run_firstCells_some (P := P) w i.size m a m c news hl hnews
  have hst := run_storeCells_atG P g (sLen * i.size) e fz news 0 cur w hg hfz (by simpa using hfit) h1
  simp only [Nat.add_zero] at hst
  simp [Builtin.append_, run_underlying ht, sizeOf, typeInfo, hi, Builtin.lenOf, hroom, hf, Addr.add_lit, hst]
theorem run_append_ownG (base : Nat) (t ty e : TypeId) (i : TypeInfo) (z : Value) (size bytes : Nat) (ht : P.underlying t = some (.slice e)) (hi : P.info? e = some i) (hz : i.zero = some z)
    (hsize : i.size = size) (hby : i.bytes = bytes) (hzs : z.cells.size = size) (hsz : 0 < size)
    (v : Value) (n : Nat) (xs : List Value) (hown : w.ownsG base e size v n xs)
    (a : Addr) (m c : Nat) (news : List Value) (hl : news.length = m * size) (hnews : ∀ j u, news[j]? = some u → w.cell? (a.add j) = some u) (h1 : ∀ u ∈ news, u.oneCell' = true)
    (h63 : n + m ≤ maxLen) (hbytes : (n + m) * bytes ≤ 140737488355328) (hbase : base ≤ w.heap.size) :
    ∃ v' w', (Builtin.append_ #[t, t] ty #[v, .slice (some a) m c]).run P w = .ok v' w' ∧ w'.ownsG base e size v' (n + m) (xs ++ news) ∧ w.grownBy w' v.ownBlock ∧
      (v' = .slice none 0 0 ↔ v = .slice none 0 0 ∧ m = 0) ∧ (v'.ownBlock = v.ownBlock ∨ v'.ownBlock = some w.heap.size) := by
  rcases hown.2 with ⟨hv, hn⟩ | ⟨g, cap, cur, fz, rfl, hbg, hg, hfz, hnc, hcm, hcs, htake⟩
  · obtain ⟨v', w', q1, q2, q3, q4, q5⟩ := run_append_own_at w base t ty e i z size bytes ht hi hz hsize hby hzs hsz v n xs ⟨hown.1, .inl ⟨hv, hn⟩⟩ a m c news hl hnews h1 h63 hbytes hbase
    exact ⟨v', w', q1, World.ownsG_of q2, q3, q4, q5⟩
  · have holds : ∀ j u, xs[j]? = some u → w.cell? ((⟨g, 0, none⟩ : Addr).add j) = some u := hown.cells (g := g) rfl
    subst hsize
    subst hby
    have hsmall : n + m ≤ 9223372036854775807 := by simp only [maxLen] at h63; omega
    have hlen : (xs ++ news).length = (n + m) * i.size := by rw [List.length_append, hown.1, hl, Nat.add_mul]
    by_cases hroom : n + m ≤ cap
    · have hfit : n * i.size + news.length ≤ cur.size := by rw [hl, hcs, ← Nat.add_mul]; exact Nat.mul_le_mul_right _ hroom
      have hr := run_append_roomG (P := P) w t ty e i ht hi g n cap cur fz hg hfz a m c news hl hnews h1 hroom hfit
      have hcz : (cur.toList.take (n * i.size) ++ news ++ cur.toList.drop (n * i.size + news.length)).toArray.size = cur.size := by
        simp only [List.size_toArray, List.length_append, List.length_take, List.length_drop, Array.length_toList]
        omega
      refine ⟨_, _, hr, ⟨hlen, .inr ⟨g, cap, _, fz, rfl, hbg, setRow_heap w g cur _ e _ hg, by rw [hcz]; exact hfz, hroom, hcm, by rw [hcz]; exact hcs, ?_⟩⟩, ⟨rfl, rfl, rfl, by simp, fun k _ hk => setRow_other w g k _ (fun e => hk (by simp [Value.ownBlock, e]))⟩, by simp, Or.inl rfl⟩
      rw [htake, ← hlen]
      exact List.take_left
    · have hr := run_append_grow (P := P) w t ty e i z ht hi hz ⟨g, 0, none⟩ n cap xs hown.1 holds a m c news hl hnews (by omega) (by omega) (growslice_fits (by omega) hbytes)
      have hge := grownCap_ge w (n + m) cap e
      have hcm2 : grownCap w (n + m) cap e ≤ maxLen := grownCap_le_maxLen w (n + m) cap e h63
      refine ⟨_, _, hr, ⟨hlen, .inr ⟨w.heap.size, _, _, (0, 0), rfl, hbase, heap_alloc_new w.drew _, .inl rfl, hge, hcm2, ?_, ?_⟩⟩, ⟨rfl, rfl, rfl, by simp, fun k hk _ => heap_alloc_old w.drew _ hk⟩, by simp, Or.inr rfl⟩
      · simp only [Array.size_append, List.size_toArray, size_zeroCells, hzs, hown.1, hl, ← Nat.add_mul]
        congr 1
        omega
      · simp only [Array.toList_append, List.append_assoc]
        rw [← List.append_assoc, ← hlen]
        exact List.take_left
end
open Lib
section
variable {P : Program} (w : World)
theorem run_append_room_stringG (t u ty e : TypeId) (i : TypeInfo) (ht : P.underlying t = some (.slice e)) (hu : P.underlying u = some .string) (hi : P.info? e = some i) (hs1 : i.size = 1)
    (g sLen sCap : Nat) (cur : Array Value) (fz : Nat × Nat) (hg : w.heap[g]? = some (.cells cur e fz)) (hfz : fz = (0, 0) ∨ cur.size ≤ fz.1) (s : ByteArray)
    (hroom : sLen + s.size ≤ sCap) (hfit : sLen + s.size ≤ cur.size) :
    (Builtin.append_ #[t, u] ty #[.slice (some ⟨g, 0, none⟩) sLen sCap, .string s]).run P w =
      .ok (.slice (some ⟨g, 0, none⟩) (sLen + s.size) sCap) (w.setRow g (cur.toList.take sLen ++ strCells s ++ cur.toList.drop (sLen + s.size)).toArray) := by
  have hf := run_firstCells_string (P := P) w 1 s
  have hst := run_storeCells_atG P g sLen e fz (strCells s) 0 cur w hg hfz (by simpa [strCells_length] using hfit) (strCells_oneCell s)
  simp only [Nat.add_zero, strCells_length] at hst
  simp [Builtin.append_, run_underlying ht, run_underlying hu, sizeOf, typeInfo, hi, hs1, Builtin.lenOf, hroom, hf, Addr.add_lit, hst]
theorem run_append_own_stringG (base : Nat) (t u ty e : TypeId) (i : TypeInfo) (ht : P.underlying t = some (.slice e)) (hu : P.underlying u = some .string) (hi : P.info? e = some i) {z : Value} (hz : i.zero = some z) (hzs : z.cells.size = 1)
    (hsize : i.size = 1) (hby : i.bytes = 1)
    (v : Value) (n : Nat) (xs : List Value) (hown : w.ownsG base e 1 v n xs) (s : ByteArray)
    (h63 : n + s.size ≤ maxLen) (hbytes : n + s.size ≤ 140737488355328) (hbase : base ≤ w.heap.size) :
    ∃ v' w', (Builtin.append_ #[t, u] ty #[v, .string s]).run P w = .ok v' w' ∧ w'.ownsG base e 1 v' (n + s.size) (xs ++ strCells s) ∧ w.grownBy w' v.ownBlock ∧
      (s.size = 0 → v' = v) ∧ (v'.ownBlock = v.ownBlock ∨ v'.ownBlock = some w.heap.size) := by
  rcases hown.2 with ⟨rfl, rfl⟩ | ⟨g, cap, cur, fz, rfl, hbg, hg, hfz, hnc, hcm, hcs, htake⟩
  · have hx : xs = [] := List.eq_nil_of_length_eq_zero (by simpa using hown.1)
    subst hx
    by_cases hm : s.size = 0
    · have hn : strCells s = [] := List.eq_nil_of_length_eq_zero (by rw [strCells_length]; exact hm)
      refine ⟨.slice none 0 0, w, ?_, by rw [hm, hn]; exact World.ownsG_nil w base e 1, ⟨rfl, rfl, rfl, Nat.le_refl _, fun _ _ _ => rfl⟩, fun _ => rfl, .inl rfl⟩
      have hf := run_firstCells_string (P := P) w 1 s
      rw [hm] at hf
      simp [Builtin.append_, run_underlying ht, run_underlying hu, sizeOf, typeInfo, hi, hsize, Builtin.lenOf, hm, hf]
    · have hr := run_append_nil_string (P := P) w t u ty e i z ht hu hi hz s (by omega) (by simp only [maxLen] at h63; omega) (by rw [hby]; omega)
      have e1 : (s.data.map fun b => Value.int .u8 b.toNat) = (strCells s).toArray := by
        apply Array.ext'
        simp [strCells]
      rw [e1] at hr
      have hge := grownCap_ge w (0 + s.size) 0 e
      have hcm2 : grownCap w (0 + s.size) 0 e ≤ maxLen := grownCap_le_maxLen w (0 + s.size) 0 e h63
      have hlen : (strCells s).length = s.size * 1 := by rw [strCells_length, Nat.mul_one]
      simp only [Nat.zero_add, List.nil_append] at hge hcm2 ⊢
      refine ⟨_, _, hr, ⟨hlen, .inr ⟨w.heap.size, _, _, (0, 0), rfl, hbase, heap_alloc_new w.drew _, .inl rfl, hge, hcm2, ?_, ?_⟩⟩, ⟨rfl, rfl, rfl, by simp, fun k hk _ => heap_alloc_old w.drew _ hk⟩, fun h => absurd h hm, .inr rfl⟩
      · simp only [Array.size_append, List.size_toArray, size_zeroCells, hzs, strCells_length]
        omega
      · simp only [Array.toList_append, ← hlen]
        exact List.take_left
  · have hsmall : n + s.size ≤ 9223372036854775807 := by simp only [maxLen] at h63; omega
    have hxl : xs.length = n := by simpa using hown.1
    have hlen : (xs ++ strCells s).length = (n + s.size) * 1 := by rw [List.length_append, hxl, strCells_length, Nat.mul_one]
    by_cases hroom : n + s.size ≤ cap
    · have hcs' : cur.size = cap := by simpa using hcs
      have hr := run_append_room_stringG (P := P) w t u ty e i ht hu hi hsize g n cap cur fz hg hfz s hroom (by omega)
      have hcz : (cur.toList.take n ++ strCells s ++ cur.toList.drop (n + s.size)).toArray.size = cur.size := by
        simp only [List.size_toArray, List.length_append, List.length_take, List.length_drop, Array.length_toList, strCells_length]
        omega
      refine ⟨_, _, hr, ⟨hlen, .inr ⟨g, cap, _, fz, rfl, hbg, setRow_heap w g cur _ e _ hg, by rw [hcz]; exact hfz, hroom, hcm, by rw [hcz]; exact hcs, ?_⟩⟩, ⟨rfl, rfl, rfl, by simp, fun k _ hk => setRow_other w g k _ (fun e => hk (by simp [Value.ownBlock, e]))⟩, fun h => by rw [h, Nat.add_zero], Or.inl rfl⟩
      have ht' : cur.toList.take n = xs := by simpa using htake
      rw [ht', ← hlen]
      exact List.take_left
    · have holds : ∀ j u, xs[j]? = some u → w.cell? ((⟨g, 0, none⟩ : Addr).add j) = some u := hown.cells (g := g) rfl
      have hr := run_append_grow_string (P := P) w t u ty e i z ht hu hi hz ⟨g, 0, none⟩ n cap xs (by rw [hsize]; simpa using hxl) holds s (by omega) (by omega) (by rw [hby]; exact growslice_fits (by omega) (by omega))
      have hge := grownCap_ge w (n + s.size) cap e
      have hcm2 : grownCap w (n + s.size) cap e ≤ maxLen := grownCap_le_maxLen w (n + s.size) cap e h63
      refine ⟨_, _, hr, ⟨hlen, .inr ⟨w.heap.size, _, _, (0, 0), rfl, hbase, heap_alloc_new w.drew _, .inl rfl, hge, hcm2, ?_, ?_⟩⟩, ⟨rfl, rfl, rfl, by simp, fun k hk _ => heap_alloc_old w.drew _ hk⟩, fun h => absurd h (by omega), Or.inr rfl⟩
      · simp only [Array.size_append, List.size_toArray, size_zeroCells, hzs, hxl, strCells_length]
        omega
      · simp only [Array.toList_append, List.append_assoc]
        rw [← List.append_assoc, ← hlen]
        exact List.take_left
end
theorem run_convert_ownG {P : Program} (w : World) {base t e el size : Nat} {g n c m : Nat} {xs : List Value} (ht : P.underlying t = some (.slice e)) (he : P.underlying e = some (.int .u8)) (hown : w.ownsG base el size (.slice (some ⟨g, 0, none⟩) n c) m xs) :
    ∃ w', (convert t t (.slice (some ⟨g, 0, none⟩) n c)).run P w = .ok (.slice (some ⟨g, 0, none⟩) n c) w' ∧ w'.ownsG base el size (.slice (some ⟨g, 0, none⟩) n c) m xs ∧ w.grownBy w' (some g) := by
  obtain ⟨hlen, h⟩ := hown
  rcases h with ⟨hv, _⟩ | ⟨g', cap, cur, fz, hv, hb, hg, hfz, rest⟩
  · cases hv
  · injection hv with h1 h2 h3
    injection h1 with h1
    injection h1 with h1
    subst h1
    have hsh : w.shape? g = some (el, cur.size) := by unfold World.shape?; rw [hg]
    obtain ⟨lo, hi⟩ := fz
    refine ⟨w.freeze ⟨g, cur.size, none⟩ 1, ?_, ⟨hlen, .inr ⟨g, cap, cur, if lo == hi then (cur.size, cur.size + 1) else (min lo cur.size, max hi (cur.size + 1)), by rw [h2, h3], hb, ?_, ?_, rest⟩⟩, ?_⟩
    · simp [convert, run_underlying ht, run_underlying he, markStringish, hsh]
    · have hlt := (Array.getElem?_eq_some_iff.1 hg).1
      unfold World.freeze
      rw [if_neg (by decide)]
      simp only [Array.getElem?_modify, if_true, hg, Option.map_some]
    · right
      simp only [Prod.mk.injEq] at hfz
      by_cases h : lo = hi
      · simp [h]
      · have : (lo == hi) = false := by simpa using h
        rw [this]
        simp only [Bool.false_eq_true, if_false]
        omega
    · refine ⟨?_, ?_, ?_, ?_, fun k hk hne => ?_⟩
      · unfold World.freeze; rw [if_neg (by decide)]
      · unfold World.freeze; rw [if_neg (by decide)]
      · unfold World.freeze; rw [if_neg (by decide)]
      · unfold World.freeze; rw [if_neg (by decide)]; simp
      · unfold World.freeze
        rw [if_neg (by decide)]
        have hne' : ¬ g = k := fun e => hne (by rw [e])
        simp [Array.getElem?_modify, hne']
end Go
end
section
namespace Go.V
inductive D where
  | top
  | tt
  | ff
  | int (k : IntKind) (n : Int)
  | bool (b : Bool)
  | str (s : ByteArray)
  | agg (cs : List D)
  | tup (cs : List D)
  | rsl (size n : Nat) (get : Nat → Nat → D)
  | eptr (n : Nat) (get : Nat → D)
  | ptr (o off : Nat)
  | own (o n : Nat)
  | optr (o n size i j : Nat)
  | osl (o off n size : Nat)
  | map (o : Nat)
  | fn (f : Nat) (first caps : List D)
  | iface (t : Nat) (d : D)
  | nilI
  | nilS
  | nilP
  | yld (o : Nat)
  | stamp (o : Nat) (k : Value)
inductive KS where
  | str
  | int (k : IntKind)
  | ints (m : Nat)
inductive EK where
  | bool
  | ints (m : Nat)
structure Mp where
  ks : KS
  ek : EK
  n : Nat
  has : Value → Bool
  get : Value → Nat → Int
inductive Pj where
  | ready
  | busy
  | ret
  | exit (id : Nat)
  | gone
inductive Ob where
  | row (cs : List D)
  | buf (e size n : Nat) (get : Nat → Nat → D)
  | mp (m : Mp)
  | lp (r : Loop) (p : Pj)
  | dead
abbrev Mu := Nat → Option Value
def Mu0 : Mu := fun _ => none
def mapMk (r : Nat) (ks : Array Value) : Value := .func (.func 0) #[.map (some r)] ks
def marks (es : Array MapEntry) : Array Value := es.map fun x => .tuple #[x.key, .int .i64 x.born]
def Cells (S : Nat → Prop) (w : World) (A : Option Addr) (n size : Nat) (val : Nat → Nat → Value) : Prop :=
  0 < n → ∃ b off, A = some ⟨b, off, none⟩ ∧ S b ∧ ∀ i j, i < n → j < size → w.cell? ⟨b, off + (i * size + j), none⟩ = some (val i j) ∧ (val i j).oneCell' = true
inductive R (S : Nat → Prop) (w : World) : Mu → D → Value → Prop
  | top {μ} (v) : R S w μ .top v
  | tt {μ} : R S w μ .tt (.bool true)
  | ff {μ} : R S w μ .ff (.bool false)
  | int {μ} (k n) : R S w μ (.int k n) (.int k n)
  | bool {μ} (b) : R S w μ (.bool b) (.bool b)
  | str {μ} (s) : R S w μ (.str s) (.string s)
  | agg {μ} (cs : List D) (vs : Array Value) : cs.length = vs.size → (∀ (i : Nat) d v, cs[i]? = some d → vs[i]? = some v → R S w μ d v) → R S w μ (.agg cs) (.agg vs)
  | tup {μ} (cs : List D) (vs : Array Value) : cs.length = vs.size → (∀ (i : Nat) d v, cs[i]? = some d → vs[i]? = some v → R S w μ d v) → R S w μ (.tup cs) (.tuple vs)
  | rsl {μ} (size n g A c) (val : Nat → Nat → Value) : n ≤ c → Cells S w A n size val → (∀ i j, i < n → j < size → R S w Mu0 (g i j) (val i j)) → R S w μ (.rsl size n g) (.slice A n c)
  | eptr {μ} (n g b off) (val : Nat → Value) : S b → (∀ j, j < n → w.cell? ⟨b, off + j, none⟩ = some (val j) ∧ (val j).oneCell' = true) → (∀ j, j < n → R S w Mu0 (g j) (val j)) → R S w μ (.eptr n g) (.pointer (some ⟨b, off, none⟩))
  | ptr {μ : Mu} (o off b) : μ o = some (.pointer (some ⟨b, 0, none⟩)) → R S w μ (.ptr o off) (.pointer (some ⟨b, off, none⟩))
  | own {μ : Mu} (o n A m c v) : μ o = some (.slice A m c) → n ≤ m → v.oneCell' = true → (n = m → v = .slice A m c) → R S w μ (.own o n) v
  | optr {μ : Mu} (o n size i j A m c b) : μ o = some (.slice A m c) → n ≤ m → (n = m → A = some ⟨b, 0, none⟩) → R S w μ (.optr o n size i j) (.pointer (some ⟨b, i * size + j, none⟩))
  | osl {μ : Mu} (o off n size b c) : μ o = some (.pointer (some ⟨b, 0, none⟩)) → n ≤ c → R S w μ (.osl o off n size) (.slice (some ⟨b, off, none⟩) n c)
  | map {μ : Mu} (o r ks) : μ o = some (mapMk r ks) → R S w μ (.map o) (.map (some r))
  | yld {μ : Mu} (o l) : μ o = some (.func (.yield l) #[] #[]) → R S w μ (.yld o) (.func (.yield l) #[] #[])
  | stamp {μ : Mu} (o k r ks) (i born : Nat) : μ o = some (mapMk r ks) → ks[i]? = some (.tuple #[k, .int .i64 born]) → R S w μ (.stamp o k) (.int .i64 born)
  | fn {μ} (f) (fs cs : List D) (vf vc : Array Value) : fs.length = vf.size → cs.length = vc.size → (∀ (i : Nat) d v, fs[i]? = some d → vf[i]? = some v → R S w μ d v) → (∀ (i : Nat) d v, cs[i]? = some d → vc[i]? = some v → R S w μ d v) →
      R S w μ (.fn f fs cs) (.func (.func f) vf vc)
  | iface {μ} (t d v) : R S w μ d v → R S w μ (.iface t d) (.iface t v)
  | nilI {μ} : R S w μ .nilI .nilIface
  | nilS {μ} : R S w μ .nilS (.slice none 0 0)
  | nilP {μ} : R S w μ .nilP (.pointer none)
def blk : Value → Option Nat
  | .pointer (some a) => some a.block
  | .slice (some a) _ _ => some a.block
  | .map (some r) => some r
  | .func (.func _) first _ => match (first[0]? : Option Value) with
    | some (Value.map (some r)) => some r
    | _ => none
  | .func (.yield l) _ _ => some l
  | _ => none
theorem blk_mapMk (r : Nat) (ks : Array Value) : blk (mapMk r ks) = some r := by simp [blk, mapMk]
def keyOK : KS → Value → Prop
  | .str, v => ∃ s : ByteArray, v = .string s ∧ s.size ≤ maxLen
  | .int k, v => ∃ n, v = .int k n ∧ (Lit.int k n).wf = true
  | .ints m, v => ∃ ns : List Int, ns.length = m ∧ v = .agg (ns.map (Value.int .i64)).toArray ∧ ∀ n ∈ ns, (Lit.int .i64 n).wf = true
def elemV : EK → (Nat → Int) → Value
  | .bool, g => .bool (decide (g 0 = 1))
  | .ints m, g => .agg ((List.range m).map fun j => Value.int .i64 (g j)).toArray
def MapR (w : World) (mv : Value) (m : Mp) : Prop := ∃ r es clock, mv = mapMk r (marks es) ∧ w.heap[r]? = some (.map es clock) ∧ MapKept.Stamped es clock ∧ es.size = m.n ∧
  (∀ x ∈ es.toList, keyOK m.ks x.key ∧ m.has x.key = true ∧ x.val = elemV m.ek (m.get x.key)) ∧ ∀ k, keyOK m.ks k → m.has k = true → ∃ x ∈ es.toList, x.key = k
def lpR (r : Loop) : Pj → Loop → Prop
  | .ready, x => x = { r with state := .ready, pending := none }
  | .busy, x => x = { r with state := .busy, pending := none }
  | .ret, x => x = { r with state := .done, pending := some .ret }
  | .exit id, x => x = { r with state := .done, pending := some (.exit id) }
  | .gone, _ => True
def ObR (S : Nat → Prop) (w : World) (μ : Mu) (mv : Value) : Ob → Prop
  | .row cs => ∃ b cells T, mv = .pointer (some ⟨b, 0, none⟩) ∧ w.heap[b]? = some (.cells cells T (0, 0)) ∧ cells.size = cs.length ∧
      (∀ (i : Nat) d v, cs[i]? = some d → cells[i]? = some v → R S w μ d v) ∧ (∀ (i : Nat) v, cells[i]? = some v → v.oneCell' = true)
  | .buf e size n g => ∃ xs, w.ownsG 0 e size mv n xs ∧ (∀ i j, i < n → j < size → ∃ v, xs[i * size + j]? = some v ∧ v.oneCell' = true ∧ R S w Mu0 (g i j) v)
  | .mp m => MapR w mv m
  | .lp r p => ∃ l x, mv = .func (.yield l) #[] #[] ∧ w.heap[l]? = some (.loop x) ∧ lpR r p x
  | .dead => ∃ m c, mv = .slice none m c
abbrev Hp := Nat → Option Ob
structure Rel (S : Nat → Prop) (w : World) (μ : Mu) (H : Hp) : Prop where
  obs : ∀ o ob, H o = some ob → ∃ mv, μ o = some mv ∧ ObR S w μ mv ob
  sep : ∀ o o' ob ob' v v' b, H o = some ob → H o' = some ob' → o ≠ o' → μ o = some v → μ o' = some v' → blk v = some b → blk v' ≠ some b
  stat : ∀ b, S b → b < w.heap.size ∧ ∀ o ob v, H o = some ob → μ o = some v → blk v ≠ some b
def Le (v v' : Value) : Prop := v' = v ∨ (∃ A m c A' m' c', v = .slice A m c ∧ v' = .slice A' m' c' ∧ m < m') ∨ ∃ r ks ys, v = mapMk r ks ∧ v' = mapMk r (ks ++ ys)
theorem Le.refl (v : Value) : Le v v := .inl rfl
theorem mapMk_inj {r r' : Nat} {ks ks' : Array Value} (h : mapMk r ks = mapMk r' ks') : r = r' ∧ ks = ks' := by
  unfold mapMk at h
  injection h with _ h1 h2
  simp at h1
  exact ⟨h1, h2⟩
theorem Le.trans {a b c : Value} (h : Le a b) (k : Le b c) : Le a c := by
  rcases h with rfl | ⟨A, m, c1, A', m', c', rfl, rfl, h1⟩ | ⟨r, ks, ys, rfl, rfl⟩
  · exact k
  · rcases k with rfl | ⟨B, n, d, B', n', d', e, rfl, h2⟩ | ⟨r, ks, ys, e, _⟩
    · exact .inr (.inl ⟨_, _, _, _, _, _, rfl, rfl, h1⟩)
    · injection e with e1 e2 e3
      subst e2
      exact .inr (.inl ⟨_, _, _, _, _, _, rfl, rfl, by omega⟩)
    · cases e
  · rcases k with rfl | ⟨B, n, d, B', n', d', e, _, _⟩ | ⟨r', ks', ys', e, rfl⟩
    · exact .inr (.inr ⟨r, ks, ys, rfl, rfl⟩)
    · cases e
    · obtain ⟨rfl, rfl⟩ := mapMk_inj e
      exact .inr (.inr ⟨r, ks, ys ++ ys', rfl, by rw [Array.append_assoc]⟩)
def MuLe (μ μ' : Mu) : Prop := ∀ o v, μ o = some v → ∃ v', μ' o = some v' ∧ Le v v'
theorem MuLe.refl (μ : Mu) : MuLe μ μ := fun _ v h => ⟨v, h, .refl v⟩
theorem MuLe.trans {a b c : Mu} (h : MuLe a b) (k : MuLe b c) : MuLe a c := fun o v hv =>
  let ⟨v1, h1, l1⟩ := h o v hv
  let ⟨v2, h2, l2⟩ := k o v1 h1
  ⟨v2, h2, l1.trans l2⟩
structure Tr (S : Nat → Prop) (w : World) (μ : Mu) (H : Hp) (S' : Nat → Prop) (w' : World) (μ' : Mu) (H' : Hp) : Prop where
  os : w'.os = w.os
  tape : w'.tape = w.tape
  output : w'.output = w.output
  size : w.heap.size ≤ w'.heap.size
  block : ∀ b, b < w.heap.size → (∀ o ob v, H o = some ob → μ o = some v → blk v ≠ some b) → w'.heap[b]? = w.heap[b]?
  sub : ∀ b, S b → S' b
  new : ∀ b, S' b → S b ∨ w.heap.size ≤ b ∨ ∃ o ob v, H o = some ob ∧ μ o = some v ∧ blk v = some b
  mu : MuLe μ μ'
  blks : ∀ o ob v b, H' o = some ob → μ' o = some v → blk v = some b → w.heap.size ≤ b ∨ ∃ o ob v, H o = some ob ∧ μ o = some v ∧ blk v = some b
  off : ∀ o v, H o = none → μ o = some v → H' o = none ∧ μ' o = some v
  dom : ∀ o, μ' o ≠ none → H' o ≠ none ∨ (μ o ≠ none ∧ H o = none)
theorem dom_refl {H : Hp} {μ : Mu} (o : Nat) (h : μ o ≠ none) : H o ≠ none ∨ (μ o ≠ none ∧ H o = none) := by
  by_cases e : H o = none
  · exact .inr ⟨h, e⟩
  · exact .inl e
theorem R.keep {S S' : Nat → Prop} {w w' : World} (hS : ∀ b, S b → S' b) (hw : ∀ b, S b → w'.heap[b]? = w.heap[b]?) {μ : Mu} {d : D} {v : Value} (h : R S w μ d v) :
    ∀ {μ' : Mu}, MuLe μ μ' → R S' w' μ' d v := by
  induction h with
  | top v => intro μ' _; exact .top v
  | tt => intro μ' _; exact .tt
  | ff => intro μ' _; exact .ff
  | int k n => intro μ' _; exact .int k n
  | bool b => intro μ' _; exact .bool b
  | str s => intro μ' _; exact .str s
  | agg cs vs hl _ ih => intro μ' hm; exact .agg cs vs hl fun i d v h1 h2 => ih i d v h1 h2 hm
  | tup cs vs hl _ ih => intro μ' hm; exact .tup cs vs hl fun i d v h1 h2 => ih i d v h1 h2 hm
  | rsl size n g A c val hn hc _ ih =>
    intro μ' hm
    refine .rsl size n g A c val hn (fun h0 => ?_) fun i j hi hj => ih i j hi hj (.refl _)
    obtain ⟨b, off, rfl, hb, hcell⟩ := hc h0
    exact ⟨b, off, rfl, hS b hb, fun i j hi hj => ⟨(World.cell?_of_block (a := ⟨b, _, none⟩) (hw b hb)).trans (hcell i j hi hj).1, (hcell i j hi hj).2⟩⟩
  | eptr n g b off val hb hcell _ ih =>
    intro μ' hm
    exact .eptr n g b off val (hS b hb) (fun j hj => ⟨(World.cell?_of_block (a := ⟨b, _, none⟩) (hw b hb)).trans (hcell j hj).1, (hcell j hj).2⟩) fun j hj => ih j hj (.refl _)
  | ptr o off b h =>
    intro μ' hm
    obtain ⟨v', h1, h2⟩ := hm o _ h
    rcases h2 with rfl | ⟨A, m, c, A', m', c', e, _⟩ | ⟨r, ks, ys, e, _⟩
    · exact .ptr o off b h1
    · cases e
    · cases e
  | osl o off n size b c h hn =>
    intro μ' hm
    obtain ⟨v', h1, h2⟩ := hm o _ h
    rcases h2 with rfl | ⟨A, m, c, A', m', c', e, _⟩ | ⟨r, ks, ys, e, _⟩
    · exact .osl o off n size b c h1 hn
    · cases e
    · cases e
  | own o n A m c v h hn h1c hv =>
    intro μ' hm
    obtain ⟨v', h1, h2⟩ := hm o _ h
    rcases h2 with rfl | ⟨A1, m1, c1, A', m', c', e, rfl, hlt⟩ | ⟨r, ks, ys, e, _⟩
    · exact .own o n A m c v h1 hn h1c hv
    · injection e with e1 e2 e3
      subst e2
      exact .own o n A' m' c' v h1 (by omega) h1c (fun e => by omega)
    · cases e
  | optr o n size i j A m c b h hn hv =>
    intro μ' hm
    obtain ⟨v', h1, h2⟩ := hm o _ h
    rcases h2 with rfl | ⟨A1, m1, c1, A', m', c', e, rfl, hlt⟩ | ⟨r, ks, ys, e, _⟩
    · exact .optr o n size i j A m c b h1 hn hv
    · injection e with e1 e2 e3
      subst e2
      exact .optr o n size i j A' m' c' b h1 (by omega) (fun e => by omega)
    · cases e
  | map o r ks h =>
    intro μ' hm
    obtain ⟨v', h1, h2⟩ := hm o _ h
    rcases h2 with rfl | ⟨A, m, c, A', m', c', e, _⟩ | ⟨r', ks', ys, e, rfl⟩
    · exact .map o r ks h1
    · cases e
    · obtain ⟨rfl, rfl⟩ := mapMk_inj e
      exact .map o r _ h1
  | yld o l h =>
    intro μ' hm
    obtain ⟨v', h1, h2⟩ := hm o _ h
    rcases h2 with rfl | ⟨A, m, c, A', m', c', e, _⟩ | ⟨r', ks', ys, e, _⟩
    · exact .yld o l h1
    · cases e
    · injection e with e; cases e
  | stamp o k r ks i born h hi =>
    intro μ' hm
    obtain ⟨v', h1, h2⟩ := hm o _ h
    rcases h2 with rfl | ⟨A, m, c, A', m', c', e, _⟩ | ⟨r', ks', ys, e, rfl⟩
    · exact .stamp o k r ks i born h1 hi
    · cases e
    · obtain ⟨rfl, rfl⟩ := mapMk_inj e
      refine .stamp o k r _ i born h1 ?_
      have hlt := (Array.getElem?_eq_some_iff.1 hi).1
      rw [Array.getElem?_append_left hlt]
      exact hi
  | fn f fs cs vf vc h1 h2 _ _ ih1 ih2 => intro μ' hm; exact .fn f fs cs vf vc h1 h2 (fun i d v a b => ih1 i d v a b hm) fun i d v a b => ih2 i d v a b hm
  | iface t d v _ ih => intro μ' hm; exact .iface t d v (ih hm)
  | nilI => intro μ' _; exact .nilI
  | nilS => intro μ' _; exact .nilS
  | nilP => intro μ' _; exact .nilP
theorem Rel.static {S : Nat → Prop} {w : World} {μ : Mu} {H : Hp} (h : Rel S w μ H) {S' : Nat → Prop} {w' : World} {μ' : Mu} {H' : Hp} (t : Tr S w μ H S' w' μ' H') :
    ∀ b, S b → w'.heap[b]? = w.heap[b]? := fun b hb =>
  t.block b (h.stat b hb).1 fun o ob v h1 h2 => (h.stat b hb).2 o ob v h1 h2
theorem R.tr {S : Nat → Prop} {w : World} {μ : Mu} {H : Hp} {S' : Nat → Prop} {w' : World} {μ' : Mu} {H' : Hp} {d : D} {v : Value}
    (h : R S w μ d v) (hr : Rel S w μ H) (t : Tr S w μ H S' w' μ' H') : R S' w' μ' d v := h.keep t.sub (hr.static t) t.mu
theorem Tr.refl (S : Nat → Prop) (w : World) (μ : Mu) (H : Hp) : Tr S w μ H S w μ H :=
  ⟨rfl, rfl, rfl, Nat.le_refl _, fun _ _ _ => rfl, fun _ h => h, fun _ h => .inl h, .refl _, fun o ob v b h1 h2 h3 => .inr ⟨o, ob, v, h1, h2, h3⟩, fun o v h1 h2 => ⟨h1, h2⟩, dom_refl⟩
theorem Tr.trans {S S1 S2 : Nat → Prop} {w w1 w2 : World} {μ μ1 μ2 : Mu} {H H1 H2 : Hp} (h : Tr S w μ H S1 w1 μ1 H1) (k : Tr S1 w1 μ1 H1 S2 w2 μ2 H2) : Tr S w μ H S2 w2 μ2 H2 where
  os := k.os.trans h.os
  tape := k.tape.trans h.tape
  output := k.output.trans h.output
  size := Nat.le_trans h.size k.size
  block := fun b hb hno => (k.block b (Nat.lt_of_lt_of_le hb h.size) (fun o ob v h1 h2 h3 => by
    rcases h.blks o ob v b h1 h2 h3 with hge | ⟨o', ob', v', e1, e2, e3⟩
    · omega
    · exact hno o' ob' v' e1 e2 e3)).trans (h.block b hb hno)
  sub := fun b hb => k.sub b (h.sub b hb)
  new := fun b hb => by
    rcases k.new b hb with h1 | h1 | ⟨o, ob, v, h1, h2, h3⟩
    · exact h.new b h1
    · exact .inr (.inl (Nat.le_trans h.size h1))
    · rcases h.blks o ob v b h1 h2 h3 with hge | h4
      · exact .inr (.inl hge)
      · exact .inr (.inr h4)
  mu := h.mu.trans k.mu
  blks := fun o ob v b h1 h2 h3 => by
    rcases k.blks o ob v b h1 h2 h3 with hge | ⟨o', ob', v', e1, e2, e3⟩
    · exact .inl (Nat.le_trans h.size hge)
    · exact h.blks o' ob' v' b e1 e2 e3
  off := fun o v h1 h2 => let ⟨g1, g2⟩ := h.off o v h1 h2; k.off o v g1 g2
  dom := fun o ho => by
    rcases k.dom o ho with h1 | ⟨h1, h2⟩
    · exact .inl h1
    · rcases h.dom o h1 with h3 | h3
      · exact absurd h2 h3
      · exact .inr h3
theorem Tr.drew {S : Nat → Prop} {w : World} {μ : Mu} {H : Hp} : Tr S w μ H S w.drew μ H :=
  ⟨rfl, rfl, rfl, Nat.le_refl _, fun _ _ _ => rfl, fun _ h => h, fun _ h => .inl h, .refl _, fun o ob v b h1 h2 h3 => .inr ⟨o, ob, v, h1, h2, h3⟩, fun o v h1 h2 => ⟨h1, h2⟩, dom_refl⟩
theorem ObR.keep {S S' : Nat → Prop} {w w' : World} {μ μ' : Mu} {mv : Value} {ob : Ob} (h : ObR S w μ mv ob) (hS : ∀ b, S b → S' b) (hw : ∀ b, S b → w'.heap[b]? = w.heap[b]?) (hm : MuLe μ μ')
    (hb : ∀ b, blk mv = some b → w'.heap[b]? = w.heap[b]?) : ObR S' w' μ' mv ob := by
  cases ob with
  | row cs =>
    obtain ⟨b, cells, T, rfl, h1, h2, h3, h4⟩ := h
    exact ⟨b, cells, T, rfl, (hb b rfl).trans h1, h2, fun i d v a c => (h3 i d v a c).keep hS hw hm, h4⟩
  | buf e size n g =>
    obtain ⟨xs, ⟨h0, h1⟩, h2⟩ := h
    refine ⟨xs, ⟨h0, ?_⟩, fun i j hi hj => ?_⟩
    · rcases h1 with h1 | ⟨b, cap, cur, fz, rfl, hb0, hg, hr⟩
      · exact .inl h1
      · exact .inr ⟨b, cap, cur, fz, rfl, hb0, (hb b rfl).trans hg, hr⟩
    · obtain ⟨v, a, c, r⟩ := h2 i j hi hj
      exact ⟨v, a, c, r.keep hS hw (.refl _)⟩
  | mp m =>
    obtain ⟨r, es, clock, rfl, h1, h2⟩ := h
    exact ⟨r, es, clock, rfl, (hb r (blk_mapMk _ _)).trans h1, h2⟩
  | lp r p =>
    obtain ⟨l, x, rfl, h1, h2⟩ := h
    exact ⟨l, x, rfl, (hb l rfl).trans h1, h2⟩
  | dead => exact h
theorem Rel.drew {S : Nat → Prop} {w : World} {μ : Mu} {H : Hp} (h : Rel S w μ H) : Rel S w.drew μ H :=
  ⟨fun o ob ho => let ⟨mv, h1, h2⟩ := h.obs o ob ho; ⟨mv, h1, h2.keep (fun _ hb => hb) (fun _ _ => rfl) (.refl _) (fun _ _ => rfl)⟩, h.sep, h.stat⟩
theorem ObR.blk_lt {S : Nat → Prop} {w : World} {μ : Mu} {mv : Value} {ob : Ob} (h : ObR S w μ mv ob) {b : Nat} (hb : blk mv = some b) : b < w.heap.size := by
  cases ob with
  | row cs =>
    obtain ⟨b', cells, T, rfl, h1, _⟩ := h
    simp only [blk, Option.some.injEq] at hb
    subst hb
    exact (Array.getElem?_eq_some_iff.1 h1).1
  | buf e size n g =>
    obtain ⟨xs, hown, _⟩ := h
    rcases hown.2 with ⟨rfl, _⟩ | ⟨g, cap, cur, fz, rfl, _, hg, _⟩
    · simp [blk] at hb
    · simp only [blk, Option.some.injEq] at hb
      subst hb
      exact (Array.getElem?_eq_some_iff.1 hg).1
  | mp m =>
    obtain ⟨r, es, clock, rfl, h1, _⟩ := h
    rw [blk_mapMk] at hb
    injection hb with hb
    subst hb
    exact (Array.getElem?_eq_some_iff.1 h1).1
  | lp r p =>
    obtain ⟨l, x, rfl, h1, _⟩ := h
    simp only [blk, Option.some.injEq] at hb
    subst hb
    exact (Array.getElem?_eq_some_iff.1 h1).1
  | dead =>
    obtain ⟨m, c, rfl⟩ := h
    cases hb
def one : D → Bool
  | .top | .agg _ | .tup _ => false
  | _ => true
theorem R.one {S : Nat → Prop} {w : World} {μ : Mu} {d : D} {v : Value} (h : R S w μ d v) (h1 : one d = true) : v.oneCell' = true := by
  cases h <;> first | rfl | assumption | (simp [V.one] at h1)
abbrev HL := List (Option Ob)
def hget (H : HL) (o : Nat) : Option Ob := H.getD o none
def RelL (S : Nat → Prop) (w : World) (μ : Mu) (H : HL) : Prop := Rel S w μ (hget H) ∧ ∀ o, H.length ≤ o → μ o = none
def updM (μ : Mu) (o : Nat) (v : Value) : Mu := fun o' => if o' = o then some v else μ o'
def updH (H : Hp) (o : Nat) (ob : Ob) : Hp := fun o' => if o' = o then some ob else H o'
theorem hget_push (H : HL) (ob : Ob) : hget (H ++ [some ob]) = updH (hget H) H.length ob := by
  funext o
  unfold hget updH
  by_cases h : o = H.length
  · subst h; simp
  · simp only [h, if_false, List.getD_eq_getElem?_getD, List.getElem?_append]
    by_cases hlt : o < H.length
    · simp [hlt]
    · have : o - H.length ≠ 0 := by omega
      rw [if_neg hlt, List.getElem?_eq_none (l := H) (by omega), List.getElem?_eq_none (by simp; omega)]
theorem hget_set (H : HL) (o : Nat) (ob : Ob) (ho : o < H.length) : hget (H.set o (some ob)) = updH (hget H) o ob := by
  funext o'
  unfold hget updH
  by_cases h : o' = o
  · subst h; simp [ho]
  · simp only [h, if_false, List.getD_eq_getElem?_getD, List.getElem?_set]
    rw [if_neg (by omega)]
theorem Rel.put {S : Nat → Prop} {w w' : World} {μ : Mu} {H : Hp} (h : Rel S w μ H) {o : Nat} {ob : Ob} {mv : Value}
    (hos : w'.os = w.os) (htape : w'.tape = w.tape) (hout : w'.output = w.output) (hsize : w.heap.size ≤ w'.heap.size)
    (hblock : ∀ b, b < w.heap.size → (∀ ob v, H o = some ob → μ o = some v → blk v ≠ some b) → w'.heap[b]? = w.heap[b]?)
    (hle : ∀ v, μ o = some v → Le v mv)
    (hblk : ∀ b, blk mv = some b → w.heap.size ≤ b ∨ ∃ ob v, H o = some ob ∧ μ o = some v ∧ blk v = some b)
    (hob : ObR S w' (updM μ o mv) mv ob) (hfresh : H o = none → μ o = none) : Rel S w' (updM μ o mv) (updH H o ob) ∧ Tr S w μ H S w' (updM μ o mv) (updH H o ob) := by
  have hmu : MuLe μ (updM μ o mv) := fun o' v hv => by
    by_cases e : o' = o
    · subst e; exact ⟨mv, by simp [updM], hle v hv⟩
    · exact ⟨v, by simp [updM, e, hv], .refl v⟩
  have hkeep : ∀ b, b < w.heap.size → (∀ ob v, H o = some ob → μ o = some v → blk v ≠ some b) → w'.heap[b]? = w.heap[b]? := hblock
  have hst : ∀ b, S b → w'.heap[b]? = w.heap[b]? := fun b hb => hkeep b (h.stat b hb).1 fun ob v h1 h2 => (h.stat b hb).2 o ob v h1 h2
  refine ⟨⟨fun o' ob' ho' => ?_, ?_, ?_⟩, ⟨hos, htape, hout, hsize, fun b hb hno => hkeep b hb fun ob v h1 h2 => hno o ob v h1 h2, fun _ hb => hb, fun _ hb => .inl hb, hmu, ?_, ?_, ?_⟩⟩
  · by_cases e : o' = o
    · subst e
      simp only [updH, if_true, Option.some.injEq] at ho'
      subst ho'
      exact ⟨mv, by simp [updM], hob⟩
    · simp only [updH, e, if_false] at ho'
      obtain ⟨mv', h1, h2⟩ := h.obs o' ob' ho'
      refine ⟨mv', by simp [updM, e, h1], h2.keep (fun _ hb => hb) hst hmu fun b hb => hkeep b (h2.blk_lt hb) fun ob v h3 h4 h5 => ?_⟩
      exact h.sep o' o ob' ob mv' v b ho' h3 e h1 h4 hb h5
  · intro o1 o2 ob1 ob2 v1 v2 b h1 h2 hne m1 m2 hb
    by_cases e1 : o1 = o
    · subst e1
      have e2 : o2 ≠ o1 := fun e => hne e.symm
      simp only [updH, e2, if_false] at h2
      simp only [updM, if_true, Option.some.injEq] at m1
      simp only [updM, e2, if_false] at m2
      subst m1
      intro hb2
      obtain ⟨mv2, g1, g2⟩ := h.obs o2 ob2 h2
      rw [m2] at g1
      obtain rfl : v2 = mv2 := by injection g1
      rcases hblk b hb with hge | ⟨ob, v, h3, h4, h5⟩
      · exact absurd (g2.blk_lt hb2) (by omega)
      · exact h.sep o1 o2 ob ob2 v v2 b h3 h2 hne h4 m2 h5 hb2
    · simp only [updH, e1, if_false] at h1
      simp only [updM, e1, if_false] at m1
      by_cases e2 : o2 = o
      · subst e2
        simp only [updM, if_true, Option.some.injEq] at m2
        subst m2
        intro hb2
        obtain ⟨mv1, g1, g2⟩ := h.obs o1 ob1 h1
        rw [m1] at g1
        obtain rfl : v1 = mv1 := by injection g1
        rcases hblk b hb2 with hge | ⟨ob, v, h3, h4, h5⟩
        · exact absurd (g2.blk_lt hb) (by omega)
        · exact h.sep o2 o1 ob ob1 v v1 b h3 h1 (fun e => hne e.symm) h4 m1 h5 hb
      · simp only [updH, e2, if_false] at h2
        simp only [updM, e2, if_false] at m2
        exact h.sep o1 o2 ob1 ob2 v1 v2 b h1 h2 hne m1 m2 hb
  · intro b hb
    refine ⟨Nat.lt_of_lt_of_le (h.stat b hb).1 hsize, fun o' ob' v ho' hv hbv => ?_⟩
    by_cases e : o' = o
    · subst e
      simp only [updM, if_true, Option.some.injEq] at hv
      subst hv
      rcases hblk b hbv with hge | ⟨ob, v, h3, h4, h5⟩
      · exact absurd (h.stat b hb).1 (by omega)
      · exact (h.stat b hb).2 o' ob v h3 h4 h5
    · simp only [updH, e, if_false] at ho'
      simp only [updM, e, if_false] at hv
      exact (h.stat b hb).2 o' ob' v ho' hv hbv
  · intro o' ob' v b ho' hv hbv
    by_cases e : o' = o
    · subst e
      simp only [updM, if_true, Option.some.injEq] at hv
      subst hv
      rcases hblk b hbv with hge | ⟨ob, v, h3, h4, h5⟩
      · exact .inl hge
      · exact .inr ⟨o', ob, v, h3, h4, h5⟩
    · simp only [updH, e, if_false] at ho'
      simp only [updM, e, if_false] at hv
      exact .inr ⟨o', ob', v, ho', hv, hbv⟩
  · intro o' v h1 h2
    have hne : o' ≠ o := fun e => by subst e; rw [hfresh h1] at h2; cases h2
    simp only [updH, updM, hne, if_false]
    exact ⟨h1, h2⟩
  · intro o' h1
    by_cases e : o' = o
    · subst e; exact .inl (by simp [updH])
    · simp only [updM, e, if_false] at h1
      simp only [updH, e, if_false]
      exact dom_refl o' h1
section
variable {S : Nat → Prop} {w : World} {μ : Mu}
theorem Rel.grow {H : Hp} (h : Rel S w μ H) {w' : World} (hos : w'.os = w.os) (htape : w'.tape = w.tape) (hout : w'.output = w.output) (hsize : w.heap.size ≤ w'.heap.size) (hblock : ∀ b, b < w.heap.size → w'.heap[b]? = w.heap[b]?)
    {S' : Nat → Prop} (hsub : ∀ b, S b → S' b) (hnew : ∀ b, S' b → S b ∨ w.heap.size ≤ b) (hlt : ∀ b, S' b → b < w'.heap.size) : Rel S' w' μ H ∧ Tr S w μ H S' w' μ H := by
  refine ⟨⟨fun o ob ho => ?_, h.sep, fun b hb => ⟨hlt b hb, fun o ob v ho hv hbv => ?_⟩⟩, ⟨hos, htape, hout, hsize, fun b hb _ => hblock b hb, hsub, fun b hb => (hnew b hb).imp_right .inl, .refl _, fun o ob v b h1 h2 h3 => .inr ⟨o, ob, v, h1, h2, h3⟩, fun o v h1 h2 => ⟨h1, h2⟩, dom_refl⟩⟩
  · obtain ⟨mv, h1, h2⟩ := h.obs o ob ho
    exact ⟨mv, h1, h2.keep hsub (fun b hb => hblock b (h.stat b hb).1) (.refl _) fun b hb => hblock b (h2.blk_lt hb)⟩
  · rcases hnew b hb with h1 | h1
    · exact (h.stat b h1).2 o ob v ho hv hbv
    · obtain ⟨mv, h2, h3⟩ := h.obs o ob ho
      rw [hv] at h2
      injection h2 with h2
      subst h2
      exact absurd (h3.blk_lt hbv) (by omega)
end
def hnew (H : HL) (nid : Nat) (ob : Ob) : HL := bif Nat.blt nid H.length then H.set nid (some ob) else H ++ [some ob]
theorem hnew_len (H : HL) (nid : Nat) (ob : Ob) : H.length ≤ (hnew H nid ob).length := by
  unfold hnew
  cases Nat.blt nid H.length <;> simp
theorem blt_iff (a b : Nat) : Nat.blt a b = true ↔ a < b := by
  show Nat.ble (a + 1) b = true ↔ _
  rw [Nat.ble_eq]
  exact Iff.rfl
theorem hnew_lt {H : HL} {nid : Nat} (ob : Ob) (h : nid ≤ H.length) : nid < (hnew H nid ob).length := by
  unfold hnew
  cases hb : Nat.blt nid H.length with
  | true => simpa using (blt_iff _ _).1 hb
  | false => simp; omega
theorem hget_new {H : HL} {nid : Nat} (ob : Ob) (h : nid ≤ H.length) : hget (hnew H nid ob) = updH (hget H) nid ob := by
  unfold hnew
  cases hb : Nat.blt nid H.length with
  | true => exact hget_set H nid ob ((blt_iff _ _).1 hb)
  | false =>
    have : ¬ nid < H.length := fun hl => by rw [(blt_iff _ _).2 hl] at hb; cases hb
    obtain rfl : nid = H.length := by omega
    exact hget_push H ob
theorem RelL.new {S S' : Nat → Prop} {w w' : World} {μ : Mu} {H : HL} {nid : Nat} {ob : Ob} {v : Value} (hr : RelL S w μ H) (hle : nid ≤ H.length) (h : Rel S' w' (updM μ nid v) (updH (hget H) nid ob)) : RelL S' w' (updM μ nid v) (hnew H nid ob) := by
  refine ⟨by rw [hget_new ob hle]; exact h, fun o ho => ?_⟩
  have h1 := hnew_len H nid ob
  have h2 := hnew_lt (H := H) ob hle
  have : o ≠ nid := by omega
  simp only [updM, this, if_false]
  exact hr.2 o (by omega)
end Go.V
end
section
namespace Go.V
inductive Ty where
  | int (k : IntKind)
  | bool
  | str
  | struct (size : Nat) (fs : List (Nat × Nat × Nat))
  | array (n e esize size : Nat)
  | slice (e esize ebytes : Nat)
  | map (ks : KS) (ek : EK) (k e : Nat)
  | ptr (e : Nat)
  | iface
  | other
  | no
def szOf (P : Program) (t : Nat) (n : Nat) : Prop := (P.info? t).map (·.size) = some n
def plainT : TypeDesc → Bool
  | .struct _ | .array _ _ => false
  | _ => true
def tyOK (P : Program) (t : Nat) : Ty → Prop
  | .int k => P.underlying t = some (.int k) ∧ szOf P t 1
  | .bool => P.underlying t = some .bool ∧ szOf P t 1
  | .str => P.underlying t = some .string ∧ szOf P t 1
  | .struct sz fs => ∃ fields, P.underlying t = some (.struct fields) ∧ szOf P t sz ∧ (∀ (i : Nat) x, fs[i]? = some x → ∃ f, fields[i]? = some f ∧ f.offset = x.1 ∧ f.type = x.2.1 ∧ szOf P f.type x.2.2 ∧ x.2.2 ≠ 0) ∧
      fields.toList.mapM (fun f => (P.info? f.type).map fun i => (f.offset, i.size)) = some (fs.map fun x => (x.1, x.2.2))
  | .array n e es sz => P.underlying t = some (.array n e) ∧ szOf P t sz ∧ szOf P e es
  | .slice e es eb => P.underlying t = some (.slice e) ∧ szOf P t 1 ∧ szOf P e es ∧ 0 < es ∧ ∃ i z, P.info? e = some i ∧ i.zero = some z ∧ i.size = es ∧ i.bytes = eb ∧ z.cells.size = es ∧ ∀ v ∈ z.cells.toList, v.oneCell' = true
  | .map ks ek k e => P.underlying t = some (.map k e) ∧ szOf P t 1 ∧ Go.Maps.Keyed P k ∧ (∀ v, keyOK ks v → ∃ l, keyOf P k v = some l) ∧ ∀ w, (zeroValue e).run P w = .ok (elemV ek fun _ => 0) w
  | .ptr e => P.underlying t = some (.pointer e) ∧ szOf P t 1
  | .iface => (∃ ms, P.underlying t = some (.interface ms)) ∧ szOf P t 1
  | .other => (∃ d, P.underlying t = some d ∧ plainT d = true) ∧ szOf P t 1
  | .no => True
def zeroOK (P : Program) (t : Nat) (cs : List D) : Prop :=
  ∃ i z, P.info? t = some i ∧ i.zero = some z ∧ i.size = cs.length ∧ z.cells.size = cs.length ∧
    (∀ (j : Nat) v, z.cells[j]? = some v → v.oneCell' = true) ∧ ∀ S w (j : Nat) d v, cs[j]? = some d → z.cells[j]? = some v → R S w Mu0 d v
abbrev PRule := List D → (D → Prop) → Prop
inductive VX where
  | normal
  | exit (id : Nat)
  | ret
  | panic (d : D)
inductive Res where
  | ret (d : D)
  | pan (d : D)
inductive Md where
  | ret
  | pan (d : D)
abbrev CRule := List D → HL → (Res → HL → Prop) → Prop
abbrev IRule := Nat → CRule → CRule
abbrev DRule := Md → List D → HL → (Md → HL → Prop) → Prop
structure Cx where
  ty : Nat → Ty
  zero : Nat → Option (List D)
  pure : Nat → Option PRule
  eq : Nat → Bool
  call : Nat → Option CRule
  iter : Nat → Option IRule
  dfr : Nat → Option DRule
  yld : Option (Nat × CRule)
abbrev Env := Nat → D
def upd (e : Env) (i : Nat) (d : D) : Env := fun j => bif Nat.beq j i then d else e j
def fz (d : D) (k : D → Prop) : Prop := match d with
  | .top => k .top | .tt => k .tt | .ff => k .ff | .int a b => k (.int a b) | .bool b => k (.bool b) | .str s => k (.str s) | .agg c => k (.agg c) | .tup c => k (.tup c)
  | .rsl s n g => k (.rsl s n g) | .eptr n g => k (.eptr n g) | .ptr o f => k (.ptr o f) | .own o n => k (.own o n) | .optr o n s i j => k (.optr o n s i j) | .osl o f n s => k (.osl o f n s) | .map o => k (.map o)
  | .fn f a c => k (.fn f a c) | .iface t d => k (.iface t d) | .nilI => k .nilI | .nilS => k .nilS | .nilP => k .nilP | .yld o => k (.yld o) | .stamp o q => k (.stamp o q)
theorem fz_iff (d : D) (k : D → Prop) : fz d k ↔ k d := by cases d <;> exact Iff.rfl
def fzl (l : List D) : (List D → Prop) → Prop := @List.rec D (fun _ => (List D → Prop) → Prop) (fun k => k []) (fun d _ ih k => fz d fun d => ih fun r => k (d :: r)) l
theorem fzl_iff : ∀ (l : List D) (k : List D → Prop), fzl l k ↔ k l
  | [], k => Iff.rfl
  | d :: r, k => by show fz d (fun d => fzl r fun r => k (d :: r)) ↔ _; rw [fz_iff, fzl_iff r]
def ofV : Value → D
  | .int k n => .int k n
  | .bool true => .tt
  | .bool false => .ff
  | .string s => .str s
  | .slice none 0 0 => .nilS
  | .nilIface => .nilI
  | .pointer none => .nilP
  | _ => .top
theorem R_ofV (S : Nat → Prop) (w : World) (μ : Mu) (v : Value) : R S w μ (ofV v) v := by
  unfold ofV
  split <;> first | exact .int _ _ | exact .tt | exact .ff | exact .str _ | exact .nilI | exact .top _ | exact .nilS | exact .nilP
def ev (e : Env) : Operand → D
  | .tmp t => e t
  | .const v => ofV v
  | .func f => .fn f [] []
  | .global _ => .top
def EnvR (S : Nat → Prop) (w : World) (μ : Mu) (e : Env) (a : Act) : Prop := ∀ i, R S w μ (e i) (a.tmps.getD i undef)
theorem EnvR.ev {S : Nat → Prop} {w : World} {μ : Mu} {e : Env} {a : Act} (h : EnvR S w μ e a) (x : Operand) : R S w μ (ev e x) (a.eval x) := by
  cases x with
  | tmp t => exact h t
  | const v => exact R_ofV S w μ v
  | global g => exact .top _
  | func f => exact .fn f [] [] #[] #[] rfl rfl (fun i d v h => by simp at h) (fun i d v h => by simp at h)
def keq : IntKind → IntKind → Bool
  | .i8, .i8 | .i16, .i16 | .i32, .i32 | .i64, .i64 | .u8, .u8 | .u16, .u16 | .u32, .u32 | .u64, .u64 => true
  | _, _ => false
theorem keq_eq {a b : IntKind} (h : keq a b = true) : a = b := by cases a <;> cases b <;> first | rfl | cases h
def deq : D → D → Option Bool
  | .int q a, .int q' b => bif keq q q' then some (decide (a = b)) else none
  | .str a, .str b => some (decide (a = b))
  | .tt, .tt => some true
  | .ff, .ff => some true
  | .tt, .ff => some false
  | .ff, .tt => some false
  | .bool a, .tt => some a
  | .bool a, .ff => some (!a)
  | .tt, .bool a => some a
  | .ff, .bool a => some (!a)
  | .bool a, .bool b => some (a == b)
  | .iface _ _, .nilI => some false
  | .nilI, .iface _ _ => some false
  | _, _ => none
def fits (k : IntKind) (n : Int) (c : D → Prop) : Prop := match k with
  | .i64 => (-9223372036854775808 ≤ n ∧ n ≤ 9223372036854775807) ∧ c (.int .i64 n)
  | k => c (.int k (k.wrap n))
theorem fits_iff {k : IntKind} {n : Int} {c : D → Prop} (h : fits k n c) : c (.int k (k.wrap n)) := by
  cases k <;> simp only [fits] at h <;> try exact h
  obtain ⟨⟨h1, h2⟩, h3⟩ := h
  have e : IntKind.i64.wrap n = n := by rw [IntKind.wrap_i64]; omega
  rwa [e]
def vbin (op : BinOp) (x y : D) (k : D → Prop) : Prop := match op with
  | .eql => match deq x y with
    | some b => k (.bool b)
    | none => False
  | .neq => match deq x y with
    | some b => k (.bool !b)
    | none => False
  | .shl => match x, y with
    | .int q a, .int _ b => 0 ≤ b ∧ fits q (a * 2 ^ (min b.toNat q.bits)) k
    | _, _ => False
  | .shr => match x, y with
    | .int q a, .int _ b => 0 ≤ b ∧ k (.int q (a.fdiv (2 ^ (min b.toNat q.bits))))
    | _, _ => False
  | op => match x, y with
    | .int q a, .int q' b => bif keq q q' then (match op with
      | .lss => k (.bool (decide (a < b)))
      | .leq => k (.bool (decide (a ≤ b)))
      | .gtr => k (.bool (decide (b < a)))
      | .geq => k (.bool (decide (b ≤ a)))
      | .add => fits q (a + b) k
      | .sub => fits q (a - b) k
      | .mul => fits q (a * b) k
      | .quo => b ≠ 0 ∧ fits q (a.tdiv b) k
      | .rem => b ≠ 0 ∧ k (.int q (a.tmod b))
      | .or => k (.int q (bits .or q a b))
      | .and => k (.int q (bits .and q a b))
      | _ => False) else False
    | _, _ => False
section
variable {P : Program} {o : Oper} {a : Act} {w : World}
def FW (r : Option Nat) : Fence := { fn := fun _ => True, depth := none, alive := false, round := r }
theorem callsIn_FW {r : Option Nat} {n : Nat} {f : FuncId} {args : Array Value} {R : Ending → World → Prop} : CallsIn (FW r) n P f args w R ↔ Calls P f args w R := callsIn_wide (n := n)
def Does (P : Program) (o : Oper) (a : Act) (w : World) (Q : Value → World → Prop) : Prop :=
  ∀ (r : Option Nat) (n : Nat) (K : Act → World → Prop) Q', (∀ v w', Q v w' → K (a.put o.dst v) w') → o.wpIn (FW r) n P a w K Q'
theorem run_at {r : Option Nat} (h : ∀ c, o.op ≠ .defer c) : (o.semAt r a.eval).run P w = (execOp a.eval o).run P w := by rw [Oper.semAt_eq r _ _ h]
theorem not_defer {d : Next} {w' : World} (h : (execOp a.eval o).run P w = .ok d w') (hd : ∀ x, d ≠ .defer x) : ∀ c, o.op ≠ .defer c := fun c hc => by
  simp only [execOp, hc, Sem.run_bind] at h
  cases hr : (resolve a.eval c o.type).run P w with
  | ok x w2 =>
    rw [hr] at h
    simp only [Result.andThen_ok, Sem.run_pure] at h
    injection h with h1 h2
    exact hd _ h1.symm
  | halt x w2 => rw [hr] at h; cases h
theorem does_ok {v : Value} {w' : World} {Q : Value → World → Prop} (h : (execOp a.eval o).run P w = .ok (.value v) w') (q : Q v w') : Does P o a w Q := by
  intro r n K Q' hK
  refine ⟨fun _ _ => trivial, ?_⟩
  rw [run_at (not_defer h fun x e => by cases e), h]
  exact hK _ _ q
theorem does_skip {w' : World} {Q : Value → World → Prop} (h : (execOp a.eval o).run P w = .ok .skip w') (q : Q undef w') : Does P o a w Q := by
  intro r n K Q' hK
  refine ⟨fun _ _ => trivial, ?_⟩
  rw [run_at (not_defer h fun x e => by cases e), h]
  exact hK _ _ q
def Post (S : Nat → Prop) (w : World) (μ : Mu) (H : HL) (k : D → HL → Prop) (v : Value) (w' : World) : Prop :=
  ∃ S' μ' d H', k d H' ∧ R S' w' μ' d v ∧ RelL S' w' μ' H' ∧ Tr S w μ (hget H) S' w' μ' (hget H')
variable {S : Nat → Prop} {μ : Mu} {H : HL} {k : D → HL → Prop}
theorem Post.same {d : D} {v : Value} (hr : RelL S w μ H) (hk : k d H) (h : R S w μ d v) : Post S w μ H k v w := ⟨S, μ, d, H, hk, h, hr, .refl ..⟩
theorem run_sizeOf {t n : Nat} (h : szOf P t n) (w : World) : (sizeOf t).run P w = .ok n w := by
  unfold szOf at h
  cases hi : P.info? t with
  | none => simp [hi] at h
  | some i =>
    simp [hi] at h
    simp [sizeOf, typeInfo, hi, h]
theorem run_isAgg_plain {t : Nat} {d : TypeDesc} (h : P.underlying t = some d) (hp : plainT d = true) (w : World) : (isAgg t).run P w = .ok false w := by
  simp only [isAgg, Sem.run_bind, run_underlying h, Result.andThen_ok]
  cases d <;> first | rfl | cases hp
def Ty.one : Ty → Bool
  | .struct _ _ | .array _ _ _ _ | .no => false
  | _ => true
theorem tyOK.plain {t : Nat} {T : Ty} (h : tyOK P t T) (h1 : T.one = true) : ∃ d, P.underlying t = some d ∧ plainT d = true := by
  cases T <;> (try (cases h1; done)) <;> simp only [tyOK] at h <;> first | exact ⟨_, h.1, rfl⟩ | exact h.1 | (obtain ⟨⟨ms, h⟩, _⟩ := h; exact ⟨_, h, rfl⟩)
def eqTy (T : Ty) (x y : D) : Bool := match x, y with
  | .int _ _, .int _ _ => true
  | .str _, .str _ => true
  | .iface _ _, .nilI => match T with | .iface => true | _ => false
  | .nilI, .iface _ _ => match T with | .iface => true | _ => false
  | _, _ => match T with | .bool => true | _ => false
theorem toList_beq (a b : ByteArray) : (a.toList == b.toList) = decide (a = b) := by
  by_cases h : a = b
  · subst h; simp
  · have h2 : a.toList ≠ b.toList := fun e => h (by
      rw [ByteArray.toList_eq, ByteArray.toList_eq] at e
      obtain ⟨x⟩ := a
      obtain ⟨y⟩ := b
      exact congrArg ByteArray.mk (Array.toList_inj.1 e))
    rw [beq_eq_false_iff_ne.2 h2, decide_eq_false h]
theorem run_equalIn_nilR (d : Nat) {t : Nat} {ms} (hu : P.underlying t = some (.interface ms)) (u : Nat) (x : Value) : (Op.equalIn (d + 1) t (.iface u x) .nilIface).run P w = .ok false w := by
  simp [Op.equalIn, run_underlying hu]
theorem run_equalIn_nilL (d : Nat) {t : Nat} {ms} (hu : P.underlying t = some (.interface ms)) (u : Nat) (x : Value) : (Op.equalIn (d + 1) t .nilIface (.iface u x)).run P w = .ok false w := by
  simp [Op.equalIn, run_underlying hu]
theorem run_eq_of {t : Nat} {x y : Value} {cx cy : Operand} {b : Bool} (hg : ∀ op, eqGuard op t cx cy x y = Pure.pure ()) (h1 : binOp .eql t x y = do Pure.pure (.bool (← Op.equal t x y)))
    (h2 : binOp .neq t x y = do Pure.pure (.bool (!(← Op.equal t x y)))) (h : (Op.equalIn (9999 + 1) t x y).run P w = .ok b w) :
    (do eqGuard .eql t cx cy x y; binOp .eql t x y : Sem Value).run P w = .ok (.bool b) w ∧ (do eqGuard .neq t cx cy x y; binOp .neq t x y : Sem Value).run P w = .ok (.bool !b) w := by
  rw [hg, hg, h1, h2]
  have h' : (Op.equal t x y).run P w = .ok b w := h
  constructor <;> simp only [Sem.run_bind, Sem.run_pure, Result.andThen_ok, h']
theorem run_deq {t : Nat} {T : Ty} {x y : D} {vx vy : Value} {cx cy : Operand} {b : Bool} (hx : R S w μ x vx) (hy : R S w μ y vy) (h : deq x y = some b) (hT : tyOK P t T) (ht : eqTy T x y = true) :
    (do eqGuard .eql t cx cy vx vy; binOp .eql t vx vy : Sem Value).run P w = .ok (.bool b) w ∧ (do eqGuard .neq t cx cy vx vy; binOp .neq t vx vy : Sem Value).run P w = .ok (.bool !b) w := by
  have hb : ∀ a b : Bool, P.underlying t = some .bool → (do eqGuard .eql t cx cy (.bool a) (.bool b); binOp .eql t (.bool a) (.bool b) : Sem Value).run P w = .ok (.bool (a == b)) w ∧
      (do eqGuard .neq t cx cy (.bool a) (.bool b); binOp .neq t (.bool a) (.bool b) : Sem Value).run P w = .ok (.bool !(a == b)) w := fun a b hu =>
    run_eq_of (fun op => eqGuard_at_bool _ _ _ _ _ _) rfl rfl (run_equalIn_bool w _ t a b hu)
  have hnil : ∀ u v', (∃ ms, P.underlying t = some (.interface ms)) → (do eqGuard .eql t cx cy (.iface u v') .nilIface; binOp .eql t (.iface u v') .nilIface : Sem Value).run P w = .ok (.bool false) w ∧
      (do eqGuard .neq t cx cy (.iface u v') .nilIface; binOp .neq t (.iface u v') .nilIface : Sem Value).run P w = .ok (.bool !false) w := fun u v' ⟨ms, hu⟩ =>
    run_eq_of (fun op => eqGuard_at_iface _ _ _ _ _ _ _) rfl rfl (run_equalIn_nilR _ hu _ _)
  have hnil' : ∀ u v', (∃ ms, P.underlying t = some (.interface ms)) → (do eqGuard .eql t cx cy .nilIface (.iface u v'); binOp .eql t .nilIface (.iface u v') : Sem Value).run P w = .ok (.bool false) w ∧
      (do eqGuard .neq t cx cy .nilIface (.iface u v'); binOp .neq t .nilIface (.iface u v') : Sem Value).run P w = .ok (.bool !false) w := fun u v' ⟨ms, hu⟩ =>
    run_eq_of (fun op => eqGuard_nil_iface _ _ _ _ _ _) rfl rfl (run_equalIn_nilL _ hu _ _)
  have hu : T = .bool → P.underlying t = some .bool := fun e => by subst e; exact hT.1
  have hi : T = .iface → ∃ ms, P.underlying t = some (.interface ms) := fun e => by subst e; exact hT.1
  cases hx <;> cases hy <;> simp only [deq, reduceCtorEq] at h
  case int.int k a k' b =>
    cases hk : keq k k' with
    | false => simp [hk] at h
    | true =>
      obtain rfl := keq_eq hk
      simp only [hk, cond_true, Option.some.injEq] at h
      subst h
      simp [go_sem, bne]
      constructor <;> rfl
  case str.str a b =>
    simp only [Option.some.injEq] at h
    subst h
    simp [go_sem, binOp, Op.stringOp, toList_beq]
  all_goals (simp only [Option.some.injEq] at h; subst h)
  all_goals cases T <;> first | (cases ht; done) | skip
  all_goals first
    | exact hnil _ _ (hi rfl)
    | exact hnil' _ _ (hi rfl)
    | exact hb true true (hu rfl)
    | exact hb true false (hu rfl)
    | exact hb false true (hu rfl)
    | exact hb false false (hu rfl)
    | exact hb _ _ (hu rfl)
    | (rename_i b; cases b <;> first | exact hb true true (hu rfl) | exact hb true false (hu rfl) | exact hb false true (hu rfl) | exact hb false false (hu rfl))
end
end Go.V
end
section
namespace Go.V
def aggSize : Ty → Option Nat
  | .struct n _ => some n
  | .array _ _ _ n => some n
  | _ => none
def vfrom (T : Ty) (n : Nat) (g : Nat → D) (k : D → Prop) : Prop := match aggSize T with
  | some c => bif Nat.ble c n then fzl ((List.range c).map g) fun l => k (.agg l) else False
  | none => bif T.one && Nat.ble 1 n then fz (g 0) k else False
def vload (T : Ty) (d : D) (H : HL) (k : D → Prop) : Prop := match d with
  | .eptr n g => vfrom T n g k
  | .ptr o off => match hget H o with
    | some (.row cs) => vfrom T (cs.length - off) (fun j => cs.getD (off + j) .top) k
    | _ => False
  | .optr o n s i j => match hget H o with
    | some (.buf _ size m g) => (n = m ∧ i < m) ∧ (bif Nat.beq s size then vfrom T (size - j) (fun x => g i (j + x)) k else False)
    | _ => False
  | _ => False
section
variable {P : Program} {o : Oper} {a : Act} {w : World} {S : Nat → Prop} {μ : Mu} {H : HL}
theorem tyOK.agg {t : Nat} {T : Ty} {c : Nat} (h : tyOK P t T) (hc : aggSize T = some c) : szOf P t c ∧ ∃ d, P.underlying t = some d ∧ plainT d = false := by
  cases T <;> simp only [aggSize, reduceCtorEq, Option.some.injEq] at hc <;> subst hc <;> simp only [tyOK] at h
  · obtain ⟨f, h1, h2, _⟩ := h; exact ⟨h2, _, h1, rfl⟩
  · exact ⟨h.2.1, _, h.1, rfl⟩
theorem run_isAgg_agg {t : Nat} {d : TypeDesc} (h : P.underlying t = some d) (hp : plainT d = false) (w : World) : (isAgg t).run P w = .ok true w := by
  simp only [isAgg, Sem.run_bind, run_underlying h, Result.andThen_ok]
  cases d <;> first | rfl | cases hp
theorem run_load_cells {t : Nat} {T : Ty} {n : Nat} {g : Nat → D} {val : Nat → Value} {b off : Nat} {K : D → Prop} (hT : tyOK P t T)
    (hc : ∀ j, j < n → w.cell? ⟨b, off + j, none⟩ = some (val j)) (hr : ∀ j, j < n → R S w μ (g j) (val j)) (h : vfrom T n g K) :
    ∃ d v, (Instr.loadAt t (.pointer (some ⟨b, off, none⟩))).run P w = .ok v w ∧ R S w μ d v ∧ K d := by
  unfold vfrom at h
  cases ha : aggSize T with
  | some c =>
    obtain ⟨hs, d, hu, hp⟩ := hT.agg ha
    simp only [ha] at h
    cases hn : Nat.ble c n with
    | false => simp [hn] at h
    | true =>
      have hcn : c ≤ n := Nat.le_of_ble_eq_true hn
      simp only [hn, cond_true, fzl_iff] at h
      refine ⟨_, .agg ((List.range c).map val).toArray, ?_, .agg _ _ (by simp) (fun i d v h1 h2 => ?_), h⟩
      · have hl := run_loadCells (P := P) w ⟨b, off, none⟩ c val (fun j hj => by rw [Addr.add_lit]; exact hc j (by omega))
        simp [Instr.loadAt, Instr.sureAddr, loadVar, run_isAgg_agg hu hp, run_sizeOf hs, hl]
      · simp only [List.getElem?_map, List.getElem?_toArray] at h1 h2
        by_cases hi : i < c
        · simp [hi] at h1 h2
          subst h1; subst h2
          exact hr i (by omega)
        · simp [Nat.le_of_not_lt hi] at h1
  | none =>
    simp only [ha] at h
    cases h1 : T.one with
    | false => simp [h1] at h
    | true =>
      cases hn : Nat.ble 1 n with
      | false => simp [h1, hn] at h
      | true =>
        have hn1 : 1 ≤ n := Nat.le_of_ble_eq_true hn
        simp only [h1, hn, Bool.and_self, cond_true, fz_iff] at h
        obtain ⟨d, hu, hp⟩ := hT.plain h1
        have hc0 := hc 0 (by omega)
        rw [Nat.add_zero] at hc0
        refine ⟨_, val 0, ?_, hr 0 (by omega), h⟩
        simp [Instr.loadAt, Instr.sureAddr, loadVar, run_isAgg_plain hu hp, hc0]
theorem R.of0 {d : D} {v : Value} (h : R S w Mu0 d v) : R S w μ d v := h.keep (fun _ hb => hb) (fun _ _ => rfl) (fun _ _ h => by cases h)
theorem row_cell {b : Nat} {cells : Array Value} {T : Nat} {f : Nat × Nat} (h : w.heap[b]? = some (.cells cells T f)) (j : Nat) : w.cell? ⟨b, j, none⟩ = cells[j]? := cell_of_row w b j cells T f h
theorem own_cell {b e size n : Nat} {mv : Value} {xs : List Value} {m c : Nat} (h : w.ownsG 0 e size mv n xs) (he : mv = .slice (some ⟨b, 0, none⟩) m c) (j : Nat) (v : Value) (hj : xs[j]? = some v) : w.cell? ⟨b, j, none⟩ = some v := by
  have := h.cells (g := b) (by rw [he]; rfl) j v hj
  rwa [Addr.add_lit, Nat.zero_add] at this
theorem sound_load {t : Nat} {T : Ty} {d : D} {v : Value} {K : D → Prop} (hT : tyOK P t T) (hr : RelL S w μ H) (hd : R S w μ d v) (h : vload T d H K) :
    ∃ d' v', (Instr.loadAt t v).run P w = .ok v' w ∧ R S w μ d' v' ∧ K d' := by
  cases hd <;> simp only [vload] at h
  case eptr n g b off val hb hc hv => exact run_load_cells hT (fun j hj => (hc j hj).1) (fun j hj => (hv j hj).of0) h
  case ptr o off b hm =>
    cases ho : hget H o with
    | none => simp [ho] at h
    | some ob =>
      cases ob with
      | buf _ _ _ _ => simp [ho] at h
      | mp _ => simp [ho] at h
      | lp _ _ => simp [ho] at h
      | dead => simp [ho] at h
      | row cs =>
        simp only [ho] at h
        obtain ⟨mv, h1, b', cells, T', e, hheap, hlen, hcs, _⟩ := hr.1.obs o _ ho
        rw [hm] at h1
        injection h1 with h1
        subst h1
        injection e with e
        injection e with e
        injection e with e
        subst e
        refine run_load_cells (val := fun j => cells.getD (off + j) undef) hT (fun j hj => ?_) (fun j hj => ?_) h
        · have hlt : off + j < cells.size := by omega
          simp [row_cell hheap, Array.getD, hlt]
        · have hlt : off + j < cells.size := by omega
          have hlt' : off + j < cs.length := by omega
          exact hcs (off + j) _ _ (by simp [List.getElem?_eq_getElem hlt']) (by simp [Array.getD, hlt])
  case optr o n s i j A m c b hn hv hm =>
    cases ho : hget H o with
    | none => simp [ho] at h
    | some ob =>
      cases ob with
      | row cs => simp [ho] at h
      | mp _ => simp [ho] at h
      | lp _ _ => simp [ho] at h
      | dead => simp [ho] at h
      | buf e size m' g =>
        simp only [ho] at h
        obtain ⟨⟨hnm, him⟩, h⟩ := h
        cases hs : Nat.beq s size with
        | false => simp [hs] at h
        | true =>
          have hss : s = size := Nat.eq_of_beq_eq_true hs
          simp only [hs, cond_true] at h
          obtain ⟨mv, h1, xs, hown, hx⟩ := hr.1.obs o _ ho
          rw [hm] at h1
          injection h1 with h1
          have hm' : m = m' := by
            rcases hown.2 with ⟨e1, e2⟩ | ⟨b, cap, cur, fz, e1, _⟩
            · rw [← h1] at e1; injection e1 with _ e1 _; omega
            · rw [← h1] at e1; injection e1
          have hA := hv (by omega)
          subst hss
          refine run_load_cells (val := fun x => xs.getD (i * s + (j + x)) undef) hT (fun x hx' => ?_) (fun x hx' => ?_) h
          · obtain ⟨u, hu, _, _⟩ := hx i (j + x) (by omega) (by omega)
            rw [Nat.add_assoc]
            exact own_cell hown (by rw [← h1, hA]) _ _ (by simp [hu])
          · obtain ⟨u, hu, _, hur⟩ := hx i (j + x) (by omega) (by omega)
            simp only [List.getD_eq_getElem?_getD, hu, Option.getD_some]
            exact hur.of0
def vfield (T : Ty) (d : D) (f : Nat) (k : D → Prop) : Prop := match T with
  | .struct _ fs => match fs[f]? with
    | some x => match d with
      | .ptr o off => k (.ptr o (off + x.1))
      | .eptr n g => bif Nat.ble x.1 n then k (.eptr (n - x.1) fun j => g (x.1 + j)) else False
      | .optr o n s i j => k (.optr o n s i (j + x.1))
      | _ => False
    | none => False
  | _ => False
theorem run_fieldAt {t f : Nat} {fields : Array Field} {fd : Field} {b off n : Nat} (hu : P.underlying t = some (.struct fields)) (hf : fields[f]? = some fd) (hs : szOf P fd.type n) (hn : n ≠ 0) :
    (Instr.fieldAt t (.pointer (some ⟨b, off, none⟩)) f).run P w = .ok (.pointer (some ⟨b, off + fd.offset, none⟩)) w := by
  simp [Instr.fieldAt, run_underlying hu, hf, Instr.sureAddr, fieldPlace, run_sizeOf hs, hn, Addr.add_lit]
theorem sound_field {t f : Nat} {T : Ty} {d : D} {v : Value} {K : D → Prop} (hT : tyOK P t T) (hr : RelL S w μ H) (hd : R S w μ d v) (h : vfield T d f K) :
    ∃ d' v', (Instr.fieldAt t v f).run P w = .ok v' w ∧ R S w μ d' v' ∧ K d' := by
  cases T <;> simp only [vfield] at h
  case struct sz fs =>
    obtain ⟨fields, hu, _, hfs, _⟩ := hT
    cases hx : fs[f]? with
    | none => simp [hx] at h
    | some x =>
      obtain ⟨fd, hf, ho, ht, hsz, hne⟩ := hfs f x hx
      simp only [hx] at h
      cases hd <;> simp only at h
      case ptr o off b hm => exact ⟨_, _, run_fieldAt hu hf hsz hne, by rw [ho]; exact .ptr o (off + x.1) b hm, h⟩
      case eptr n g b off val hb hc hv =>
        cases hn : Nat.ble x.1 n with
        | false => simp [hn] at h
        | true =>
          have hxn : x.1 ≤ n := Nat.le_of_ble_eq_true hn
          simp only [hn, cond_true] at h
          refine ⟨_, _, run_fieldAt hu hf hsz hne, ?_, h⟩
          rw [ho]
          exact .eptr _ _ b (off + x.1) (fun j => val (x.1 + j)) hb (fun j hj => by rw [Nat.add_assoc]; exact hc _ (by omega)) (fun j hj => hv _ (by omega))
      case optr o n s i j A m c b hn hv hm =>
        refine ⟨_, _, run_fieldAt hu hf hsz hne, ?_, h⟩
        rw [ho, Nat.add_assoc]
        exact .optr o n s i (j + x.1) A m c b hm hn hv
end
end Go.V
end
section
namespace Go.V
def tsz : Ty → Nat
  | .struct n _ => n
  | .array _ _ _ n => n
  | .no => 0
  | _ => 1
def Ty.known : Ty → Bool
  | .no => false
  | _ => true
def cellsD : D → List D
  | .agg l => l
  | d => [d]
def splice (cs : List D) (off : Nat) (xs : List D) : List D := cs.take off ++ xs ++ cs.drop (off + xs.length)
def noRef1 : D → Bool
  | .tt | .ff | .int _ _ | .bool _ | .str _ | .rsl _ _ _ | .eptr _ _ | .nilI | .nilS | .nilP => true
  | _ => false
def bl : D → D
  | .tt => .bool true
  | .ff => .bool false
  | d => d
theorem R_bl {S : Nat → Prop} {w : World} {μ : Mu} {d : D} {v : Value} (h : R S w μ d v) : R S w μ (bl d) v := by
  cases d <;> first | exact h | (cases h; exact .bool _)
section
variable {P : Program} {o : Oper} {a : Act} {w : World} {S : Nat → Prop} {μ : Mu} {H : HL}
theorem tyOK.sz {t : Nat} {T : Ty} (h : tyOK P t T) (hk : T.known = true) : szOf P t (tsz T) := by
  cases T
  case struct n fs => obtain ⟨_, _, h, _⟩ := h; exact h
  case array n e es sz => obtain ⟨_, h, _⟩ := h; exact h
  case slice e es eb => obtain ⟨_, h, _⟩ := h; exact h
  case map ks ek k e => obtain ⟨_, h, _⟩ := h; exact h
  case no => cases hk
  all_goals (obtain ⟨_, h⟩ := h; exact h)
theorem noRef1_R {d : D} {v : Value} (h : R S w μ d v) (hn : noRef1 d = true) : R S w Mu0 d v := by
  cases h <;> first
    | (cases hn; done)
    | exact .tt | exact .ff | exact .int _ _ | exact .bool _ | exact .str _ | exact .nilI | exact .nilS | exact .nilP
    | (constructor <;> assumption)
theorem cells_R {d : D} {v : Value} (h : R S w μ d v) (h1 : (cellsD d).all one = true) :
    (cellsD d).length = v.cells.size ∧ (∀ (j : Nat) x u, (cellsD d)[j]? = some x → v.cells[j]? = some u → R S w μ x u) ∧ ∀ u ∈ v.cells.toList, u.oneCell' = true := by
  by_cases ha : ∃ cs, d = .agg cs
  · obtain ⟨cs, rfl⟩ := ha
    cases h with
    | agg _ vs hl hr =>
      refine ⟨hl, hr, fun u hu => ?_⟩
      obtain ⟨j, hj, rfl⟩ := List.getElem_of_mem hu
      have hj' : j < vs.size := by simpa [Value.cells] using hj
      have hjc : j < cs.length := by omega
      have := hr j cs[j] vs[j] (by simp [hjc]) (by simp [hj'])
      exact this.one (by
        have := List.all_eq_true.1 h1 cs[j] (List.getElem_mem hjc)
        exact this)
  · have e : cellsD d = [d] := by
      cases d <;> first | rfl | exact absurd ⟨_, rfl⟩ ha
    rw [e] at h1
    have h1' : one d = true := by simpa using h1
    have hv := h.one h1'
    have ev : v.cells = #[v] := by cases v <;> first | rfl | cases hv
    rw [e, ev]
    refine ⟨rfl, fun j x u hx hu => ?_, fun u hu => by simp at hu; subst hu; exact hv⟩
    cases j with
    | zero => simp at hx hu; subst hx; subst hu; exact h
    | succ j => simp at hx
theorem getElem?_splice (cs : List D) (off : Nat) (xs : List D) (h : off + xs.length ≤ cs.length) (i : Nat) :
    (splice cs off xs)[i]? = if off ≤ i ∧ i < off + xs.length then xs[i - off]? else cs[i]? := by
  unfold splice
  rw [List.getElem?_append, List.getElem?_append]
  simp only [List.length_append, List.length_take, Nat.min_eq_left (show off ≤ cs.length by omega), List.getElem?_take, List.getElem?_drop]
  by_cases h1 : i < off
  · have h2 : ¬ (off ≤ i ∧ i < off + xs.length) := by omega
    rw [if_pos (by omega), if_pos h1, if_pos h1, if_neg h2]
  · by_cases h2 : i < off + xs.length
    · rw [if_pos h2, if_neg h1, if_pos ⟨by omega, h2⟩]
    · rw [if_neg h2, if_neg (by omega)]
      congr 1
      omega
theorem length_splice (cs : List D) (off : Nat) (xs : List D) (h : off + xs.length ≤ cs.length) : (splice cs off xs).length = cs.length := by
  unfold splice
  simp only [List.length_append, List.length_take, List.length_drop]
  omega
theorem getElem?_vsplice (cur : Array Value) (off : Nat) (vs : List Value) (h : off + vs.length ≤ cur.size) (i : Nat) :
    ((cur.toList.take off ++ vs ++ cur.toList.drop (off + vs.length)).toArray)[i]? = if off ≤ i ∧ i < off + vs.length then vs[i - off]? else cur[i]? := by
  have hl : off ≤ cur.toList.length := by simp; omega
  simp only [List.getElem?_toArray]
  rw [List.getElem?_append, List.getElem?_append]
  simp only [List.length_append, List.length_take, Nat.min_eq_left hl, List.getElem?_take, List.getElem?_drop]
  by_cases h1 : i < off
  · have h2 : ¬ (off ≤ i ∧ i < off + vs.length) := by omega
    rw [if_pos (by omega), if_pos h1, if_pos h1, if_neg h2]
    simp
  · by_cases h2 : i < off + vs.length
    · rw [if_pos h2, if_neg h1, if_pos ⟨by omega, h2⟩]
    · rw [if_neg h2, if_neg (by omega)]
      rw [show off + vs.length + (i - (off + vs.length)) = i by omega]
      simp
theorem new_row (hr : RelL S w μ H) {nid : Nat} (hno : μ nid = none) (hle : nid ≤ H.length) (cells : Array Value) (T : Nat) (cs : List D) (hl : cells.size = cs.length) (hR : ∀ (i : Nat) d v, cs[i]? = some d → cells[i]? = some v → R S w μ d v)
    (h1 : ∀ (i : Nat) v, cells[i]? = some v → v.oneCell' = true) :
    RelL S (w.alloc (.cells cells T)) (updM μ nid (.pointer (some ⟨w.heap.size, 0, none⟩))) (hnew H nid (.row cs)) ∧
      Tr S w μ (hget H) S (w.alloc (.cells cells T)) (updM μ nid (.pointer (some ⟨w.heap.size, 0, none⟩))) (hget (hnew H nid (.row cs))) ∧
      R S (w.alloc (.cells cells T)) (updM μ nid (.pointer (some ⟨w.heap.size, 0, none⟩))) (.ptr nid 0) (.pointer (some ⟨w.heap.size, 0, none⟩)) := by
  have hmu : MuLe μ (updM μ nid (.pointer (some ⟨w.heap.size, 0, none⟩))) := fun o v hv => by
    by_cases e : o = nid
    · subst e; rw [hno] at hv; cases hv
    · exact ⟨v, by simp [updM, e, hv], .refl v⟩
  have hblk : ∀ b, b < w.heap.size → (w.alloc (.cells cells T)).heap[b]? = w.heap[b]? := fun b hb => RowKit.Below.heap_alloc w _ b hb
  have hput := hr.1.put (o := nid) (ob := .row cs) (mv := .pointer (some ⟨w.heap.size, 0, none⟩)) (w' := w.alloc (.cells cells T)) rfl rfl rfl (by simp) (fun b hb _ => hblk b hb)
    (fun v hv => by rw [hno] at hv; cases hv) (fun b hb => by simp only [blk, Option.some.injEq] at hb; exact .inl (by omega))
    ⟨w.heap.size, cells, T, rfl, heap_alloc_new w _, hl, fun i d v h2 h3 => (hR i d v h2 h3).keep (fun _ h => h) (fun b hb => hblk b (hr.1.stat b hb).1) hmu, h1⟩ (fun _ => hno)
  exact ⟨hr.new hle hput.1, by rw [hget_new _ hle]; exact hput.2, .ptr _ _ w.heap.size (by simp [updM])⟩
theorem set_row (hr : RelL S w μ H) {oid b off : Nat} {cs xs : List D} {vs : List Value} (ho : hget H oid = some (.row cs)) (hm : μ oid = some (.pointer (some ⟨b, 0, none⟩))) (hfit : off + xs.length ≤ cs.length)
    (hl : xs.length = vs.length) (hR : ∀ (j : Nat) x u, xs[j]? = some x → vs[j]? = some u → R S w μ x u) (h1 : ∀ u ∈ vs, u.oneCell' = true) :
    ∃ w', (storeCells ⟨b, off, none⟩ vs 0).run P w = .ok () w' ∧ RelL S w' μ (H.set oid (some (.row (splice cs off xs)))) ∧ Tr S w μ (hget H) S w' μ (hget (H.set oid (some (.row (splice cs off xs))))) := by
  obtain ⟨mv, hm', b', cells, T, e, hheap, hlen, hcs, hone⟩ := hr.1.obs oid _ ho
  rw [hm] at hm'
  injection hm' with hm'
  subst hm'
  injection e with e
  injection e with e
  injection e with e
  subst e
  have hoid : oid < H.length := by
    rcases Nat.lt_or_ge oid H.length with h | h
    · exact h
    · simp [hget, List.getElem?_eq_none h] at ho
  have hst := run_storeCells_at P b off T vs 0 cells w hheap (by omega) h1
  simp only [Nat.add_zero] at hst
  have hupd : updM μ oid (.pointer (some ⟨b, 0, none⟩)) = μ := by
    funext o'
    unfold updM
    split
    · rename_i h; rw [h, hm]
    · rfl
  refine ⟨_, hst, ?_⟩
  have hother : ∀ k, k ≠ b → (w.setRow b (cells.toList.take off ++ vs ++ cells.toList.drop (off + vs.length)).toArray).heap[k]? = w.heap[k]? := fun k hk => setRow_other w b k _ hk
  have hnb : ∀ k, S k → k ≠ b := fun k hk e => (hr.1.stat k hk).2 oid _ _ ho hm (by simp [blk, e])
  have hput := hr.1.put (o := oid) (ob := .row (splice cs off xs)) (mv := .pointer (some ⟨b, 0, none⟩)) (w' := w.setRow b (cells.toList.take off ++ vs ++ cells.toList.drop (off + vs.length)).toArray) rfl rfl rfl (by simp)
    (fun k hk hno => hother k (fun e => hno _ _ ho hm (by simp [blk, e]))) (fun v hv => by rw [hm] at hv; injection hv with hv; subst hv; exact .refl _)
    (fun k hk => .inr ⟨_, _, ho, hm, hk⟩)
    ⟨b, _, T, rfl, setRow_heap w b cells _ T _ hheap, by simp [length_splice _ _ _ hfit]; omega, fun i d v h2 h3 => by
      rw [hupd]
      rw [getElem?_splice _ _ _ hfit] at h2
      rw [getElem?_vsplice _ _ _ (by omega)] at h3
      have hk : R S w μ d v := by
        by_cases hi : off ≤ i ∧ i < off + xs.length
        · rw [if_pos hi] at h2
          rw [if_pos (by omega)] at h3
          exact hR _ _ _ h2 h3
        · rw [if_neg hi] at h2
          rw [if_neg (by omega)] at h3
          exact hcs _ _ _ h2 h3
      exact hk.keep (fun _ h => h) (fun k hk => hother k (hnb k hk)) (.refl _), fun i v h3 => by
      rw [getElem?_vsplice _ _ _ (by omega)] at h3
      split at h3
      · exact h1 v (List.mem_of_getElem? h3)
      · exact hone i v h3⟩ (fun e => by rw [ho] at e; cases e)
  rw [hupd] at hput
  rw [hget_set _ _ _ hoid]
  refine ⟨⟨by rw [hget_set _ _ _ hoid]; exact hput.1, fun o ho' => hr.2 o (by simpa using ho')⟩, hput.2⟩
end
end Go.V
end
section
namespace Go.V
def vfillB (place : Nat → Option (Nat × Nat)) (p : Nat × D) (ih : List D → Prop) (cs : List D) : Prop := match place p.1 with
  | none => False
  | some (off, size) => bif Nat.beq (cellsD p.2).length size && (cellsD p.2).all one && Nat.ble (off + size) cs.length then ih (splice cs off (cellsD p.2)) else False
def vfill (place : Nat → Option (Nat × Nat)) (k : List D → Prop) (cs : List D) (l : List (Nat × D)) : Prop := @List.rec (Nat × D) (fun _ => List D → Prop) k (fun p _ ih => vfillB place p ih) l cs
theorem vfill_cons (place : Nat → Option (Nat × Nat)) (k : List D → Prop) (cs : List D) (p : Nat × D) (r : List (Nat × D)) : vfill place k cs (p :: r) = vfillB place p (fun cs => vfill place k cs r) cs := rfl
section
variable {P : Program} {o : Oper} {a : Act} {w : World} {S : Nat → Prop} {μ : Mu} {H : HL}
def CR (S : Nat → Prop) (w : World) (μ : Mu) (cs : List D) (vs : Array Value) : Prop :=
  vs.size = cs.length ∧ (∀ (i : Nat) d v, cs[i]? = some d → vs[i]? = some v → R S w μ d v) ∧ ∀ (i : Nat) v, vs[i]? = some v → v.oneCell' = true
theorem foldl_set (off : Nat) : ∀ (vs : List Value) (j : Nat) (cur : Array Value), off + j + vs.length ≤ cur.size →
    ((vs.zipIdx j).foldl (fun cs (x : Value × Nat) => cs.setIfInBounds (off + x.2) x.1) cur).size = cur.size ∧
      ∀ i, ((vs.zipIdx j).foldl (fun cs (x : Value × Nat) => cs.setIfInBounds (off + x.2) x.1) cur)[i]? = if off + j ≤ i ∧ i < off + j + vs.length then vs[i - (off + j)]? else cur[i]?
  | [], j, cur, _ => by
    refine ⟨rfl, fun i => ?_⟩
    rw [if_neg (by simp)]
    rfl
  | v :: vs, j, cur, h => by
    simp only [List.length_cons] at h
    obtain ⟨h1, h2⟩ := foldl_set off vs (j + 1) (cur.setIfInBounds (off + j) v) (by simp; omega)
    simp only [List.zipIdx_cons, List.foldl_cons]
    refine ⟨by rw [h1]; simp, fun i => ?_⟩
    rw [h2 i]
    simp only [List.length_cons]
    by_cases hi : off + j = i
    · subst hi
      rw [if_neg (by omega), if_pos (by omega)]
      have hlt : off + j < cur.size := by omega
      simp [hlt]
    · by_cases hi2 : off + j ≤ i ∧ i < off + j + (vs.length + 1)
      · rw [if_pos (by omega), if_pos hi2]
        rw [show i - (off + j) = (i - (off + (j + 1))) + 1 by omega]
        simp
      · rw [if_neg (by omega), if_neg hi2]
        simp [hi]
theorem CR.splice {cs : List D} {cur : Array Value} {v : Value} {off : Nat} {d : D} (h : CR S w μ cs cur) (hd : R S w μ d v) (h1 : (cellsD d).all one = true) (hfit : off + (cellsD d).length ≤ cs.length) :
    CR S w μ (splice cs off (cellsD d)) (v.cells.zipIdx.foldl (fun cs (x : Value × Nat) => cs.setIfInBounds (off + x.2) x.1) cur) := by
  obtain ⟨hl, hR, hone⟩ := cells_R hd h1
  have e : v.cells.zipIdx.foldl (fun cs (x : Value × Nat) => cs.setIfInBounds (off + x.2) x.1) cur = (v.cells.toList.zipIdx 0).foldl (fun cs (x : Value × Nat) => cs.setIfInBounds (off + x.2) x.1) cur := by
    rw [← Array.foldl_toList, Array.toList_zipIdx]
  have hlen : v.cells.toList.length = v.cells.size := by simp
  obtain ⟨g1, g2⟩ := foldl_set off v.cells.toList 0 cur (by have := h.1; omega)
  rw [e]
  refine ⟨by rw [g1, length_splice _ _ _ hfit]; exact h.1, fun i d' u hi hu => ?_, fun i u hu => ?_⟩
  · rw [getElem?_splice _ _ _ hfit] at hi
    rw [g2] at hu
    by_cases hc : off ≤ i ∧ i < off + (cellsD d).length
    · rw [if_pos hc] at hi
      rw [if_pos (by omega)] at hu
      exact hR _ _ _ hi (by simpa using hu)
    · rw [if_neg hc] at hi
      rw [if_neg (by omega)] at hu
      exact h.2.1 _ _ _ hi hu
  · rw [g2] at hu
    split at hu
    · exact hone u (List.mem_of_getElem? hu)
    · exact h.2.2 i u hu
theorem sound_fill {place : Nat → Option (Nat × Nat)} {K : List D → Prop} : ∀ (ps : List (Nat × D)) (vs : List (Nat × Value)) (cs : List D) (cur : Array Value),
    ps.map (·.1) = vs.map (·.1) → (∀ (j : Nat) p q, ps[j]? = some p → vs[j]? = some q → R S w μ p.2 q.2) → CR S w μ cs cur → vfill place K cs ps →
    ∃ cs' cur', Instr.fill place cur vs = some cur' ∧ CR S w μ cs' cur' ∧ K cs'
  | [], vs, cs, cur, he, _, hc, h => by
    cases vs with
    | nil => exact ⟨cs, cur, rfl, hc, h⟩
    | cons q vs => simp at he
  | (i, d) :: ps, vs, cs, cur, he, hr, hc, h => by
    cases vs with
    | nil => simp at he
    | cons q vs =>
      obtain ⟨i', v⟩ := q
      simp only [List.map_cons, List.cons.injEq] at he
      obtain ⟨rfl, he⟩ := he
      rw [vfill_cons] at h
      simp only [vfillB] at h
      cases hp : place i with
      | none => simp [hp] at h
      | some os =>
        obtain ⟨off, size⟩ := os
        simp only [hp] at h
        cases hb : (Nat.beq (cellsD d).length size && (cellsD d).all one && Nat.ble (off + size) cs.length) with
        | false => simp [hb] at h
        | true =>
          simp only [hb, cond_true] at h
          simp only [Bool.and_eq_true] at hb
          obtain ⟨⟨hb1, hb2⟩, hb3⟩ := hb
          have e1 : (cellsD d).length = size := Nat.eq_of_beq_eq_true hb1
          have e3 : off + size ≤ cs.length := Nat.le_of_ble_eq_true hb3
          have hd : R S w μ d v := hr 0 _ _ rfl rfl
          obtain ⟨hl, _, _⟩ := cells_R hd hb2
          have hc' := hc.splice (off := off) hd hb2 (by omega)
          obtain ⟨cs', cur', g1, g2, g3⟩ := sound_fill ps vs _ _ he (fun j p q h1 h2 => hr (j + 1) p q (by simpa using h1) (by simpa using h2)) hc' h
          refine ⟨cs', cur', ?_, g2, g3⟩
          simp only [Instr.fill, hp]
          rw [if_neg (by simp only [Bool.or_eq_true, decide_eq_true_eq]; have := hc.1; omega)]
          exact g1
theorem new_buf (hr : RelL S w μ H) {nid : Nat} (hno : μ nid = none) (hle : nid ≤ H.length) (cells : Array Value) {e n size : Nat} {cs : List D} (hn : cs.length = n * size) (hmax : n ≤ maxLen) (hc : CR S w μ cs cells) (h0 : ∀ d ∈ cs, noRef1 d = true ∨ d = .top) :
    RelL S (w.alloc (.cells cells e)) (updM μ nid (.slice (some ⟨w.heap.size, 0, none⟩) n n)) (hnew H nid (.buf e size n fun i j => cs.getD (i * size + j) .top)) ∧
      Tr S w μ (hget H) S (w.alloc (.cells cells e)) (updM μ nid (.slice (some ⟨w.heap.size, 0, none⟩) n n)) (hget (hnew H nid (.buf e size n fun i j => cs.getD (i * size + j) .top))) ∧
      R S (w.alloc (.cells cells e)) (updM μ nid (.slice (some ⟨w.heap.size, 0, none⟩) n n)) (.own nid n) (.slice (some ⟨w.heap.size, 0, none⟩) n n) := by
  have hblk : ∀ b, b < w.heap.size → (w.alloc (.cells cells e)).heap[b]? = w.heap[b]? := fun b hb => RowKit.Below.heap_alloc w _ b hb
  have hcs := hc.1
  have hput := hr.1.put (o := nid) (ob := .buf e size n fun i j => cs.getD (i * size + j) .top) (mv := .slice (some ⟨w.heap.size, 0, none⟩) n n) (w' := w.alloc (.cells cells e)) rfl rfl rfl (by simp) (fun b hb _ => hblk b hb)
    (fun v hv => by rw [hno] at hv; cases hv) (fun b hb => by simp only [blk, Option.some.injEq] at hb; exact .inl (by omega))
    ⟨cells.toList, ⟨by simp; omega, .inr ⟨w.heap.size, n, cells, (0, 0), rfl, Nat.zero_le _, heap_alloc_new w _, .inl rfl, Nat.le_refl _, hmax, by omega, by rw [List.take_of_length_le (by simp; omega)]⟩⟩, fun i j hi hj => by
      have hlt : i * size + j < cs.length := by
        rw [hn]
        calc i * size + j < i * size + size := by omega
          _ = (i + 1) * size := by rw [Nat.add_mul, Nat.one_mul]
          _ ≤ n * size := Nat.mul_le_mul_right _ (by omega)
      have hlt' : i * size + j < cells.size := by omega
      refine ⟨cells[i * size + j], by simp [hlt'], hc.2.2 (i * size + j) _ (by simp [hlt']), ?_⟩
      have hg : cs.getD (i * size + j) .top = cs[i * size + j] := by simp [List.getElem?_eq_getElem hlt]
      show R S _ Mu0 (cs.getD (i * size + j) .top) _
      rw [hg]
      have hd := hc.2.1 (i * size + j) cs[i * size + j] cells[i * size + j] (by simp [hlt]) (by simp [hlt'])
      rcases h0 _ (List.getElem_mem hlt) with h1 | h1
      · exact (noRef1_R hd h1).keep (fun _ h => h) (fun b hb => hblk b (hr.1.stat b hb).1) (.refl _)
      · rw [h1]; exact .top _⟩ (fun _ => hno)
  exact ⟨hr.new hle hput.1, by rw [hget_new _ hle]; exact hput.2, .own _ _ (some ⟨w.heap.size, 0, none⟩) n n _ (by simp [updM]) (Nat.le_refl _) rfl (fun _ => rfl)⟩
theorem new_made (hr : RelL S w μ H) {nid : Nat} (hno : μ nid = none) (hle : nid ≤ H.length) {e n size : Nat} {z : Value} {zs : List D} (hzl : zs.length = size) (hzc : z.cells.size = size) (h1 : ∀ v ∈ z.cells.toList, v.oneCell' = true)
    (hR : ∀ S w (j : Nat) d v, zs[j]? = some d → z.cells[j]? = some v → R S w Mu0 d v) (hpos : 0 < size) (hmax : n ≤ maxLen) :
    RelL S (w.alloc (.cells (madeCells z.cells (n * size)) e)) (updM μ nid (.slice (some ⟨w.heap.size, 0, none⟩) n n)) (hnew H nid (.buf e size n fun _ j => zs.getD j .top)) ∧
      Tr S w μ (hget H) S (w.alloc (.cells (madeCells z.cells (n * size)) e)) (updM μ nid (.slice (some ⟨w.heap.size, 0, none⟩) n n)) (hget (hnew H nid (.buf e size n fun _ j => zs.getD j .top))) ∧
      R S (w.alloc (.cells (madeCells z.cells (n * size)) e)) (updM μ nid (.slice (some ⟨w.heap.size, 0, none⟩) n n)) (.own nid n) (.slice (some ⟨w.heap.size, 0, none⟩) n n) := by
  have hblk : ∀ b, b < w.heap.size → (w.alloc (.cells (madeCells z.cells (n * size)) e)).heap[b]? = w.heap[b]? := fun b hb => RowKit.Below.heap_alloc w _ b hb
  have hcs := size_madeCells z.cells (n * size)
  have hput := hr.1.put (o := nid) (ob := .buf e size n fun _ j => zs.getD j .top) (mv := .slice (some ⟨w.heap.size, 0, none⟩) n n) (w' := w.alloc (.cells (madeCells z.cells (n * size)) e)) rfl rfl rfl (by simp) (fun b hb _ => hblk b hb)
    (fun v hv => by rw [hno] at hv; cases hv) (fun b hb => by simp only [blk, Option.some.injEq] at hb; exact .inl (by omega))
    ⟨(madeCells z.cells (n * size)).toList, ⟨by simp [hcs], .inr ⟨w.heap.size, n, madeCells z.cells (n * size), (0, 0), rfl, Nat.zero_le _, heap_alloc_new w _, .inl rfl, Nat.le_refl _, hmax, hcs, by rw [List.take_of_length_le (by simp [hcs])]⟩⟩, fun i j hi hj => by
      have hlt : i * size + j < n * size := by
        calc i * size + j < i * size + size := by omega
          _ = (i + 1) * size := by rw [Nat.add_mul, Nat.one_mul]
          _ ≤ n * size := Nat.mul_le_mul_right _ (by omega)
      have hmod : (i * size + j) % size = j := by rw [Nat.mul_comm, Nat.mul_add_mod, Nat.mod_eq_of_lt hj]
      have hjz : j < z.cells.size := by omega
      have hjs : j < zs.length := by omega
      refine ⟨z.cells[j], by simp [madeCells, hlt, hzc, hmod, hjz, getElem!_pos z.cells j hjz], h1 _ (by simp), ?_⟩
      have hd : zs.getD j .top = zs[j] := by simp [List.getElem?_eq_getElem hjs]
      show R S _ Mu0 (zs.getD j .top) _
      rw [hd]
      exact hR S _ j _ _ (by simp [hjs]) (by simp [hjz])⟩ (fun _ => hno)
  exact ⟨hr.new hle hput.1, by rw [hget_new _ hle]; exact hput.2, .own _ _ (some ⟨w.heap.size, 0, none⟩) n n _ (by simp [updM]) (Nat.le_refl _) rfl (fun _ => rfl)⟩
theorem new_nil (hr : RelL S w μ H) {nid : Nat} (hno : μ nid = none) (hle : nid ≤ H.length) (e size : Nat) (g : Nat → Nat → D) :
    RelL S w (updM μ nid (.slice none 0 0)) (hnew H nid (.buf e size 0 g)) ∧ Tr S w μ (hget H) S w (updM μ nid (.slice none 0 0)) (hget (hnew H nid (.buf e size 0 g))) ∧
      R S w (updM μ nid (.slice none 0 0)) (.own nid 0) (.slice none 0 0) := by
  have hput := hr.1.put (o := nid) (ob := .buf e size 0 g) (mv := .slice none 0 0) (w' := w) rfl rfl rfl (Nat.le_refl _) (fun b hb _ => rfl)
    (fun v hv => by rw [hno] at hv; cases hv) (fun b hb => by simp [blk] at hb) ⟨[], World.ownsG_nil w 0 e size, fun i j hi => absurd hi (by omega)⟩ (fun _ => hno)
  exact ⟨hr.new hle hput.1, by rw [hget_new _ hle]; exact hput.2, .own _ _ none 0 0 _ (by simp [updM]) (Nat.le_refl _) rfl (fun _ => rfl)⟩
theorem lt_of_hget {oid : Nat} {ob : Ob} (h : hget H oid = some ob) : oid < H.length := by
  rcases Nat.lt_or_ge oid H.length with h' | h'
  · exact h'
  · simp [hget, List.getElem?_eq_none h'] at h
theorem turn_buf (hr : RelL S w μ H) {w' : World} {oid e size n n' : Nat} {g g' : Nat → Nat → D} {mv mv' : Value} {xs' : List Value} (ho : hget H oid = some (.buf e size n g)) (hm : μ oid = some mv) (hle : Le mv mv')
    (hg : w.grownBy w' mv.ownBlock) (hb : mv'.ownBlock = mv.ownBlock ∨ mv'.ownBlock = some w.heap.size) (hown : w'.ownsG 0 e size mv' n' xs')
    (hx : ∀ i j, i < n' → j < size → ∃ v, xs'[i * size + j]? = some v ∧ v.oneCell' = true ∧ R S w Mu0 (g' i j) v) :
    RelL S w' (updM μ oid mv') (H.set oid (some (.buf e size n' g'))) ∧ Tr S w μ (hget H) S w' (updM μ oid mv') (hget (H.set oid (some (.buf e size n' g')))) := by
  have hoid := lt_of_hget ho
  obtain ⟨mv0, h1, xs, hown0, _⟩ := hr.1.obs oid _ ho
  rw [hm] at h1
  injection h1 with h1
  subst h1
  have hblkown : ∀ (v : Value) b, v.ownBlock = some b → (∃ A m c, v = .slice A m c) → blk v = some b := fun v b h ⟨A, m, c, e⟩ => by
    subst e
    cases A <;> simp [Value.ownBlock, blk] at h ⊢
    exact h
  have hform : ∀ {v : Value} {n xs} {w : World}, w.ownsG 0 e size v n xs → ∃ A m c, v = .slice A m c := fun h => by
    rcases h.2 with ⟨rfl, _⟩ | ⟨b, cap, cur, fz, rfl, _⟩ <;> exact ⟨_, _, _, rfl⟩
  have hbo : ∀ (v : Value), (∃ A m c, v = .slice A m c) → blk v = v.ownBlock := fun v ⟨A, m, c, e⟩ => by subst e; cases A <;> rfl
  have hS : ∀ b, S b → w'.heap[b]? = w.heap[b]? := fun b hb => hg.block b (hr.1.stat b hb).1 fun e => (hr.1.stat b hb).2 oid _ _ ho hm (by rw [hbo _ (hform hown0), ← e])
  have hput := hr.1.put (o := oid) (ob := .buf e size n' g') (mv := mv') (w' := w') hg.os hg.tape hg.output hg.size
    (fun b hb hno => hg.block b hb fun e => hno _ _ ho hm (by rw [hbo _ (hform hown0), ← e]))
    (fun v hv => by rw [hm] at hv; injection hv with hv; subst hv; exact hle)
    (fun b hb' => by
      rw [hbo _ (hform hown)] at hb'
      rcases hb with h | h
      · exact .inr ⟨_, _, ho, hm, by rw [hbo _ (hform hown0), ← h, hb']⟩
      · rw [h] at hb'; injection hb' with hb'; exact .inl (by omega))
    ⟨xs', hown, fun i j hi hj => let ⟨v, a, b, c⟩ := hx i j hi hj; ⟨v, a, b, c.keep (fun _ h => h) hS (.refl _)⟩⟩ (fun e => by rw [ho] at e; cases e)
  rw [hget_set _ _ _ hoid]
  refine ⟨⟨by rw [hget_set _ _ _ hoid]; exact hput.1, fun o ho' => ?_⟩, hput.2⟩
  have hne : o ≠ oid := by simp at ho'; omega
  simp only [updM, hne, if_false]
  exact hr.2 o (by simpa using ho')
end
end Go.V
end
section
namespace Go.V
def numOf : D → Int
  | .int _ n => n
  | _ => 0
def isI64 : D → Bool
  | .int .i64 _ => true
  | _ => false
def ksEq : KS → KS → Bool
  | .str, .str => true
  | .int a, .int b => keq a b
  | .ints m, .ints n => Nat.beq m n
  | _, _ => false
theorem ksEq_eq {a b : KS} (h : ksEq a b = true) : a = b := by
  cases a <;> cases b <;> simp only [ksEq, Bool.false_eq_true] at h
  · rfl
  · rw [keq_eq h]
  · rw [Nat.eq_of_beq_eq_true h]
def ekEq : EK → EK → Bool
  | .bool, .bool => true
  | .ints m, .ints n => Nat.beq m n
  | _, _ => false
theorem ekEq_eq {a b : EK} (h : ekEq a b = true) : a = b := by
  cases a <;> cases b <;> simp only [ekEq, Bool.false_eq_true] at h
  · rfl
  · rw [Nat.eq_of_beq_eq_true h]
def rngL (cs : List D) (k : Prop) : Prop := @List.rec D (fun _ => Prop) k (fun d _ ih => (-9223372036854775808 ≤ numOf d ∧ numOf d ≤ 9223372036854775807) ∧ ih) cs
theorem rngL_iff : ∀ (cs : List D) (k : Prop), rngL cs k ↔ (∀ n ∈ cs.map numOf, -9223372036854775808 ≤ n ∧ n ≤ 9223372036854775807) ∧ k
  | [], k => by simp [rngL]
  | d :: r, k => by
    show (_ ∧ rngL r k) ↔ _
    rw [rngL_iff r k]
    simp [and_assoc]
def vkey (ks : KS) (d : D) (k : Value → Prop) : Prop := match ks with
  | .str => match d with
    | .str s => s.size ≤ 9223372036854775807 ∧ k (.string s)
    | _ => False
  | .int q => match d with
    | .int q' n => bif keq q' q && keq q .i64 then (-9223372036854775808 ≤ n ∧ n ≤ 9223372036854775807) ∧ k (.int q' n) else False
    | _ => False
  | .ints m => match d with
    | .agg cs => bif cs.all isI64 && Nat.beq cs.length m then rngL cs (k (.agg ((cs.map numOf).map (Value.int .i64)).toArray)) else False
    | _ => False
def velem (ek : EK) (d : D) (k : (Nat → Int) → Prop) : Prop := match ek with
  | .bool => match d with
    | .tt => k fun _ => 1
    | .ff => k fun _ => 0
    | .bool b => k fun _ => if b = true then 1 else 0
    | _ => False
  | .ints m => match d with
    | .agg cs => bif cs.all isI64 && Nat.beq cs.length m then k fun j => (cs.map numOf).getD j 0 else False
    | _ => False
def elemD (ek : EK) (has : Bool) (g : Nat → Int) : D := match ek with
  | .bool => .bool (has && decide (g 0 = 1))
  | .ints m => .agg ((List.range m).map fun j => .int .i64 (if has = true then g j else 0))
def vmap (T : Ty) (m : D) (H : HL) (k : Nat → Mp → Prop) : Prop := match T with
  | .map ks ek _ _ => match m with
    | .map o => match hget H o with
      | some (.mp M) => bif ksEq M.ks ks && ekEq M.ek ek then k o M else False
      | _ => False
    | _ => False
  | _ => False
def vlookup (T : Ty) (m key : D) (ok : Bool) (H : HL) (k : D → Prop) : Prop := vmap T m H fun _ M => vkey M.ks key fun kv =>
  bif ok then k (.tup [elemD M.ek (M.has kv) (M.get kv), .bool (M.has kv)]) else k (elemD M.ek (M.has kv) (M.get kv))
def vmakeMap (T : Ty) (nid : Nat) (H : HL) (k : D → HL → Prop) : Prop := match T with
  | .map ks ek _ _ => k (.map nid) (hnew H nid (.mp ⟨ks, ek, 0, fun _ => false, fun _ _ => 0⟩))
  | _ => False
def numV : Value → Int
  | .int _ n => n
  | _ => 0
def veqV : Value → Value → Bool
  | .string a, .string b => decide (a = b)
  | .int j a, .int k b => keq j k && decide (a = b)
  | .agg a, .agg b => decide (a.toList.map numV = b.toList.map numV)
  | _, _ => false
theorem veqV_self {ks : KS} {a : Value} (h : keyOK ks a) : veqV a a = true := by
  cases ks with
  | str => obtain ⟨s, rfl, _⟩ := h; simp [veqV]
  | int k => obtain ⟨n, rfl, _⟩ := h; cases k <;> simp [veqV, keq]
  | ints m => obtain ⟨ns, _, rfl, _⟩ := h; simp [veqV]
theorem veqV_eq {ks : KS} {a b : Value} (ha : keyOK ks a) (hb : keyOK ks b) (h : veqV a b = true) : a = b := by
  cases ks with
  | str =>
    obtain ⟨s, rfl, _⟩ := ha
    obtain ⟨t, rfl, _⟩ := hb
    rw [of_decide_eq_true h]
  | int k =>
    obtain ⟨n, rfl, _⟩ := ha
    obtain ⟨m, rfl, _⟩ := hb
    simp only [veqV, Bool.and_eq_true, decide_eq_true_eq] at h
    rw [h.2]
  | ints m =>
    obtain ⟨ns, _, rfl, _⟩ := ha
    obtain ⟨ms, _, rfl, _⟩ := hb
    have e : ∀ l : List Int, (l.map (Value.int .i64)).map numV = l := fun l => by
      rw [List.map_map]
      exact List.map_id l
    have h := of_decide_eq_true h
    rw [List.toList_toArray, List.toList_toArray, e, e] at h
    rw [h]
def withKey (M : Mp) (kv : Value) : Mp := ⟨M.ks, M.ek, if M.has kv = true then M.n else M.n + 1, fun x => M.has x || veqV x kv, fun x j => if M.has x = true then M.get x j else 0⟩
def withElem (M : Mp) (kv : Value) (g : Nat → Int) : Mp := ⟨M.ks, M.ek, M.n, M.has, fun x j => bif veqV x kv then g j else M.get x j⟩
def vmapEntry (T : Ty) (m key : D) (H : HL) (k : D → HL → Prop) : Prop := vmap T m H fun o M => vkey M.ks key fun kv => k (.tup [.top, .stamp o kv]) (H.set o (some (.mp (withKey M kv))))
def ventryStore (T : Ty) (m stamp x : D) (H : HL) (k : D → HL → Prop) : Prop := vmap T m H fun o M => match stamp with
  | .stamp o' kv => bif Nat.beq o' o then velem M.ek x fun g => M.has kv = true ∧ k .top (H.set o (some (.mp (withElem M kv g)))) else False
  | _ => False
def vmapUpdate (T : Ty) (m key x : D) (H : HL) (k : D → HL → Prop) : Prop := vmap T m H fun o M => vkey M.ks key fun kv => velem M.ek x fun g => k .top (H.set o (some (.mp (withElem (withKey M kv) kv g))))
section
variable {P : Program} {o : Oper} {a : Act} {w : World} {S : Nat → Prop} {μ : Mu} {H : HL}
theorem isI64_form {cs : List D} (h : cs.all isI64 = true) : cs = (cs.map numOf).map (D.int .i64) := by
  induction cs with
  | nil => rfl
  | cons d r ih =>
    simp only [List.all_cons, Bool.and_eq_true] at h
    rw [List.map_cons, List.map_cons, ← ih h.2]
    cases d with
    | int k n => cases k <;> first | rfl | (cases h.1)
    | _ => cases h.1
theorem R_ints {ns : List Int} {v : Value} (h : R S w μ (.agg (ns.map (D.int .i64))) v) : v = .agg (ns.map (Value.int .i64)).toArray := by
  cases h with
  | agg _ vs hl hR =>
    congr 1
    apply Array.ext_getElem?
    intro i
    simp only [List.length_map] at hl
    by_cases hi : i < ns.length
    · have hv : i < vs.size := by omega
      have := hR i (.int .i64 ns[i]) vs[i] (by simp [hi]) (by simp [hv])
      generalize hvi : vs[i] = u at this
      cases this
      simp [hi, hv, hvi]
    · have hv : ¬ i < vs.size := by omega
      simp [hi, hv]
theorem wf_i64 {n : Int} (h : -9223372036854775808 ≤ n ∧ n ≤ 9223372036854775807) : (Lit.int .i64 n).wf = true := by
  have h1 : IntKind.i64.min = -9223372036854775808 := rfl
  have h2 : IntKind.i64.max = 9223372036854775807 := rfl
  simp only [Lit.wf, h1, h2, Bool.and_eq_true, decide_eq_true_eq]
  exact h
theorem vkey_sound {ks : KS} {d : D} {v : Value} {k : Value → Prop} (hd : R S w μ d v) (h : vkey ks d k) : keyOK ks v ∧ k v := by
  unfold vkey at h
  cases ks with
  | str =>
    cases hd <;> simp only at h
    exact ⟨⟨_, rfl, h.1⟩, h.2⟩
  | int q =>
    cases hd <;> simp only at h
    rename_i q' n
    cases hq : (keq q' q && keq q .i64) with
    | false => rw [hq] at h; exact h.elim
    | true =>
      rw [hq, cond_true] at h
      simp only [Bool.and_eq_true] at hq
      obtain rfl := keq_eq hq.1
      obtain rfl := keq_eq hq.2
      exact ⟨⟨_, rfl, wf_i64 h.1⟩, h.2⟩
  | ints m =>
    cases d <;> simp only at h
    rename_i cs
    cases hq : (cs.all isI64 && Nat.beq cs.length m) with
    | false => rw [hq] at h; exact h.elim
    | true =>
      rw [hq, cond_true, rngL_iff] at h
      simp only [Bool.and_eq_true] at hq
      have e := isI64_form hq.1
      rw [e] at hd
      have hv := R_ints hd
      refine ⟨⟨cs.map numOf, by simpa using Nat.eq_of_beq_eq_true hq.2, hv, fun n hn => wf_i64 (h.1 n hn)⟩, ?_⟩
      rw [hv]
      exact h.2
theorem velem_sound {ek : EK} {d : D} {v : Value} {k : (Nat → Int) → Prop} (hd : R S w μ d v) (h : velem ek d k) : ∃ g, v = elemV ek g ∧ k g := by
  unfold velem at h
  cases ek with
  | bool =>
    cases hd <;> simp only at h
    · exact ⟨_, by simp [elemV], h⟩
    · exact ⟨_, by simp [elemV], h⟩
    · rename_i b
      exact ⟨_, by cases b <;> simp [elemV], h⟩
  | ints m =>
    cases d <;> simp only at h
    rename_i cs
    cases hq : (cs.all isI64 && Nat.beq cs.length m) with
    | false => rw [hq] at h; exact h.elim
    | true =>
      rw [hq, cond_true] at h
      simp only [Bool.and_eq_true] at hq
      have e := isI64_form hq.1
      rw [e] at hd
      refine ⟨_, ?_, h⟩
      rw [R_ints hd]
      have hl := Nat.eq_of_beq_eq_true hq.2
      simp only [elemV]
      congr 2
      apply List.ext_getElem?
      intro i
      by_cases hi : i < m
      · have hi' : i < cs.length := by omega
        simp [hi, hi']
      · have hi' : ¬ i < cs.length := by omega
        simp [hi, hi']
theorem elemD_R {ek : EK} {has : Bool} {g g' : Nat → Int} (h : ∀ j, g' j = if has = true then g j else 0) : R S w μ (elemD ek has g) (elemV ek g') := by
  cases ek with
  | bool =>
    have e : (has && decide (g 0 = 1)) = decide (g' 0 = 1) := by rw [h 0]; cases has <;> simp
    simp only [elemD, elemV, e]
    exact .bool _
  | ints m =>
    simp only [elemD, elemV]
    refine .agg _ _ (by simp) fun i d v h1 h2 => ?_
    simp only [List.getElem?_map, List.getElem?_toArray] at h1 h2
    by_cases hi : i < m
    · simp [hi] at h1 h2
      subst h1; subst h2
      rw [← h i]
      exact .int _ _
    · simp [Nat.le_of_not_lt hi] at h1
theorem vmap_sound {t : Nat} {T : Ty} {m : D} {v : Value} {k : Nat → Mp → Prop} (hT : tyOK P t T) (hr : RelL S w μ H) (hm : R S w μ m v) (h : vmap T m H k) :
    ∃ kt et o M r es clock, P.underlying t = some (.map kt et) ∧ Go.Maps.Keyed P kt ∧ (∀ v, keyOK M.ks v → ∃ l, keyOf P kt v = some l) ∧ (∀ w, (zeroValue et).run P w = .ok (elemV M.ek fun _ => 0) w) ∧
      v = .map (some r) ∧ hget H o = some (.mp M) ∧ m = .map o ∧ μ o = some (mapMk r (marks es)) ∧ w.heap[r]? = some (.map es clock) ∧ MapKept.Stamped es clock ∧ es.size = M.n ∧
      (∀ x ∈ es.toList, keyOK M.ks x.key ∧ M.has x.key = true ∧ x.val = elemV M.ek (M.get x.key)) ∧ (∀ k, keyOK M.ks k → M.has k = true → ∃ x ∈ es.toList, x.key = k) ∧ k o M := by
  unfold vmap at h
  cases T <;> simp only at h
  rename_i ks ek kt et
  cases hm <;> simp only at h
  rename_i o r ks0 hμ
  cases ho : hget H o with
  | none => rw [ho] at h; exact h.elim
  | some ob =>
    rw [ho] at h
    cases ob <;> simp only at h
    rename_i M
    cases hq : (ksEq M.ks ks && ekEq M.ek ek) with
    | false => rw [hq] at h; exact h.elim
    | true =>
      rw [hq, cond_true] at h
      simp only [Bool.and_eq_true] at hq
      obtain ⟨mv, h1, r', es, clock, h2, h3, h4, h5, h6, h7⟩ := hr.1.obs o _ ho
      rw [hμ] at h1
      injection h1 with h1
      rw [← h1] at h2
      obtain ⟨rfl, h8⟩ := mapMk_inj h2
      subst h8
      obtain ⟨g1, g2, g3, g4, g5⟩ := hT
      rw [← ksEq_eq hq.1] at g4
      rw [← ekEq_eq hq.2] at g5
      exact ⟨kt, et, o, M, r, es, clock, g1, g3, g4, g5, rfl, ho, rfl, hμ, h3, h4, h5, h6, h7, h⟩
theorem run_lookup {t kt et : Nat} {es : Array MapEntry} {clock r : Nat} {key z : Value} (c : Bool) (ht : P.underlying t = some (.map kt et)) (K : Go.Maps.Keyed P kt) (hz : (zeroValue et).run P w = .ok z w) (hb : w.heap[r]? = some (.map es clock))
    {kl : Lit} (hkey : keyOf P kt key = some kl) (hk : ∀ e ∈ es.toList, ∃ l, keyOf P kt e.key = some l) :
    ((Instr.lookup t (.map (some r)) key c).run P w = .ok (if c then .tuple #[z, .bool false] else z) w ∧ (∀ x ∈ es.toList, x.key ≠ key)) ∨
    ∃ e ∈ es.toList, e.key = key ∧ (Instr.lookup t (.map (some r)) key c).run P w = .ok (if c then .tuple #[e.val, .bool true] else e.val) w := by
  rcases K.find w hkey es.toList hk with ⟨h1, h2⟩ | ⟨j, e, h1, h2, h3⟩
  · exact .inl ⟨by simp [Instr.lookup, run_underlying ht, MapKept.run_getObj_map hb, K.check w _ hkey, h1, hz, Result.andThen], h2⟩
  · exact .inr ⟨e, List.mem_of_getElem? h2, h3, by simp [Instr.lookup, run_underlying ht, MapKept.run_getObj_map hb, K.check w _ hkey, h1, Result.andThen]⟩
theorem sound_lookup {t : Nat} {T : Ty} {m key : D} {vm vk : Value} {c : Bool} {K : D → Prop} (hT : tyOK P t T) (hr : RelL S w μ H) (hm : R S w μ m vm) (hk : R S w μ key vk) (h : vlookup T m key c H K) :
    ∃ d v, (Instr.lookup t vm vk c).run P w = .ok v w ∧ R S w μ d v ∧ K d := by
  obtain ⟨kt, et, o, M, r, es, clock, g1, g2, g3, g4, rfl, g6, _, g8, g9, g10, g11, g12, g13, h⟩ := vmap_sound hT hr hm h
  obtain ⟨h1, h2⟩ := vkey_sound hk h
  obtain ⟨kl, hkl⟩ := g3 _ h1
  have hR : ∀ (x : Value), (M.has vk = false → x = elemV M.ek fun _ => 0) → (M.has vk = true → x = elemV M.ek (M.get vk)) → R S w μ (elemD M.ek (M.has vk) (M.get vk)) x := fun x e1 e2 => by
    cases hh : M.has vk with
    | false => rw [e1 hh]; exact elemD_R (fun j => by simp)
    | true => rw [e2 hh]; exact elemD_R (fun j => by simp)
  have key : ∀ x, M.has vk = true ∧ x = elemV M.ek (M.get vk) ∨ M.has vk = false ∧ x = elemV M.ek (fun _ => 0) → (Instr.lookup t (.map (some r)) vk c).run P w = .ok (if c then .tuple #[x, .bool (M.has vk)] else x) w →
      ∃ d v, (Instr.lookup t (.map (some r)) vk c).run P w = .ok v w ∧ R S w μ d v ∧ K d := fun x hx hrun => by
    have hRx : R S w μ (elemD M.ek (M.has vk) (M.get vk)) x := hR x (fun e => by rcases hx with ⟨e1, _⟩ | ⟨_, e2⟩; rw [e] at e1; cases e1; exact e2) (fun e => by rcases hx with ⟨_, e2⟩ | ⟨e1, _⟩; exact e2; rw [e] at e1; cases e1)
    cases c with
    | false => exact ⟨_, _, hrun, hRx, h2⟩
    | true =>
      refine ⟨_, _, hrun, .tup _ _ rfl fun i d v a b => ?_, h2⟩
      match i with
      | 0 => simp at a b; subst a; subst b; exact hRx
      | 1 => simp at a b; subst a; subst b; exact .bool _
      | i + 2 => simp at a
  rcases run_lookup c g1 g2 (g4 w) g9 hkl (fun e he => g3 _ (g12 e he).1) with ⟨r1, r2⟩ | ⟨e, r1, r2, r3⟩
  · have hh : M.has vk = false := by
      cases hh : M.has vk with
      | false => rfl
      | true => obtain ⟨x, hx, e⟩ := g13 vk h1 hh; exact absurd e (r2 x hx)
    exact key _ (.inr ⟨hh, rfl⟩) (by rw [hh]; exact r1)
  · obtain ⟨k1, k2, k3⟩ := g12 e r1
    rw [r2] at k2 k3
    exact key _ (.inl ⟨k2, k3⟩) (by rw [k2]; exact r3)
theorem turn_map (hr : RelL S w μ H) {o r : Nat} {M M' : Mp} {es es' : Array MapEntry} {clock clock' : Nat} (ho : hget H o = some (.mp M)) (hm : μ o = some (mapMk r (marks es))) (hb : w.heap[r]? = some (.map es clock))
    (hpre : ∃ ys, marks es' = marks es ++ ys) (hst : MapKept.Stamped es' clock') (hn : es'.size = M'.n) (h1 : ∀ x ∈ es'.toList, keyOK M'.ks x.key ∧ M'.has x.key = true ∧ x.val = elemV M'.ek (M'.get x.key)) (h2 : ∀ k, keyOK M'.ks k → M'.has k = true → ∃ x ∈ es'.toList, x.key = k) :
    RelL S (w.putObj r (.map es' clock')) (updM μ o (mapMk r (marks es'))) (H.set o (some (.mp M'))) ∧ Tr S w μ (hget H) S (w.putObj r (.map es' clock')) (updM μ o (mapMk r (marks es'))) (hget (H.set o (some (.mp M')))) := by
  have hoid := lt_of_hget ho
  have hlt := (Array.getElem?_eq_some_iff.1 hb).1
  have hput := hr.1.put (o := o) (ob := .mp M') (mv := mapMk r (marks es')) (w' := w.putObj r (.map es' clock')) rfl rfl rfl (by simp)
    (fun b hb' hno => World.putObj_heap_other (fun e => hno _ _ ho hm (by rw [blk_mapMk, e])))
    (fun v hv => by rw [hm] at hv; injection hv with hv; subst hv; obtain ⟨ys, hy⟩ := hpre; exact .inr (.inr ⟨r, _, ys, rfl, by rw [hy]⟩))
    (fun b hb' => by rw [blk_mapMk] at hb'; exact .inr ⟨_, _, ho, hm, by rw [blk_mapMk, hb']⟩)
    ⟨r, es', clock', rfl, World.putObj_heap_same hlt, hst, hn, h1, h2⟩ (fun e => by rw [ho] at e; cases e)
  rw [hget_set _ _ _ hoid]
  refine ⟨⟨by rw [hget_set _ _ _ hoid]; exact hput.1, fun o' ho' => ?_⟩, hput.2⟩
  have hne : o' ≠ o := by simp at ho'; omega
  simp only [updM, hne, if_false]
  exact hr.2 o' (by simpa using ho')
theorem new_map (hr : RelL S w μ H) {nid : Nat} (hno : μ nid = none) (hle : nid ≤ H.length) (ks : KS) (ek : EK) :
    RelL S (w.alloc (.map #[] 0)) (updM μ nid (mapMk w.heap.size (marks #[]))) (hnew H nid (.mp ⟨ks, ek, 0, fun _ => false, fun _ _ => 0⟩)) ∧
      Tr S w μ (hget H) S (w.alloc (.map #[] 0)) (updM μ nid (mapMk w.heap.size (marks #[]))) (hget (hnew H nid (.mp ⟨ks, ek, 0, fun _ => false, fun _ _ => 0⟩))) ∧
      R S (w.alloc (.map #[] 0)) (updM μ nid (mapMk w.heap.size (marks #[]))) (.map nid) (.map (some w.heap.size)) := by
  have hblk : ∀ b, b < w.heap.size → (w.alloc (.map #[] 0)).heap[b]? = w.heap[b]? := fun b hb => RowKit.Below.heap_alloc w _ b hb
  have hput := hr.1.put (o := nid) (ob := .mp ⟨ks, ek, 0, fun _ => false, fun _ _ => 0⟩) (mv := mapMk w.heap.size (marks #[])) (w' := w.alloc (.map #[] 0)) rfl rfl rfl (by simp) (fun b hb _ => hblk b hb)
    (fun v hv => by rw [hno] at hv; cases hv) (fun b hb => by rw [blk_mapMk] at hb; injection hb with hb; exact .inl (by omega))
    ⟨w.heap.size, #[], 0, rfl, heap_alloc_new w _, MapKept.stamped_empty 0, rfl, fun x hx => by simp at hx, fun k _ hk => by cases hk⟩ (fun _ => hno)
  exact ⟨hr.new hle hput.1, by rw [hget_new _ hle]; exact hput.2, .map _ w.heap.size (marks #[]) (by simp [updM])⟩
theorem modify_same {es : Array MapEntry} {j : Nat} {e : MapEntry} (he : es.toList[j]? = some e) {key : Value} (hk : e.key = key) : es.modify j (fun e => { e with key := key }) = es := by
  have hj : es[j]? = some e := by simpa using he
  apply Array.ext_getElem?
  intro i
  by_cases hij : i = j
  · subst hij
    rw [Array.getElem?_modify, if_pos rfl, hj]
    simp only [Option.map_some]
    subst hk
    rfl
  · rw [Array.getElem?_modify, if_neg (fun e => hij e.symm)]
theorem run_mapEntry {t kt et : Nat} {es : Array MapEntry} {clock r : Nat} {key z : Value} (ht : P.underlying t = some (.map kt et)) (K : Go.Maps.Keyed P kt) (hz : (zeroValue et).run P w = .ok z w) (hb : w.heap[r]? = some (.map es clock))
    {kl : Lit} (hkey : keyOf P kt key = some kl) (hk : ∀ e ∈ es.toList, ∃ l, keyOf P kt e.key = some l) :
    (∃ (j : Nat) (e : MapEntry), es[j]? = some e ∧ e.key = key ∧ (Instr.mapEntry t (.map (some r)) key).run P w = .ok (.tuple #[e.val, .int .i64 e.born]) (w.putObj r (.map es clock))) ∨
    ((∀ x ∈ es.toList, x.key ≠ key) ∧ (Instr.mapEntry t (.map (some r)) key).run P w = .ok (.tuple #[z, .int .i64 clock]) (w.putObj r (.map (es.push { key, val := z, born := clock }) (clock + 1)))) := by
  have hset : ∀ o, (setObj r o).run P w = .ok () (w.putObj r o) := fun o => by simp [setObj, Sem.run, hb, World.putObj]
  rcases K.find w hkey es.toList hk with ⟨h1, h2⟩ | ⟨j, e, h1, h2, h3⟩
  · refine .inr ⟨h2, ?_⟩
    simp [Instr.mapEntry, run_underlying ht, MapKept.run_getObj_map hb, K.check w _ hkey, h1, hz, Result.andThen, hset, goInt]
  · refine .inl ⟨j, e, by simpa using h2, h3, ?_⟩
    have hj : es[j]? = some e := by simpa using h2
    have hst := K.stays w hkey
    simp [Instr.mapEntry, run_underlying ht, MapKept.run_getObj_map hb, K.check w _ hkey, h1, Result.andThen, hset, goInt, hj, h3, hst, modify_same h2 h3]
theorem marks_push (es : Array MapEntry) (x : MapEntry) : marks (es.push x) = marks es ++ #[.tuple #[x.key, .int .i64 x.born]] := by simp [marks]
theorem marks_get {es : Array MapEntry} {j : Nat} {e : MapEntry} (h : es[j]? = some e) : (marks es)[j]? = some (.tuple #[e.key, .int .i64 e.born]) := by simp [marks, h]
theorem marks_modify (es : Array MapEntry) (j : Nat) (f : MapEntry → MapEntry) (h : ∀ e, (f e).key = e.key ∧ (f e).born = e.born) : marks (es.modify j f) = marks es := by
  apply Array.ext_getElem?
  intro i
  simp only [marks, Array.getElem?_map, Array.getElem?_modify]
  split
  · cases es[i]? with
    | none => rfl
    | some e => simp [h e]
  · rfl
theorem sound_mapEntry {t : Nat} {T : Ty} {m key : D} {vm vk : Value} {K : D → HL → Prop} (hT : tyOK P t T) (hr : RelL S w μ H) (hm : R S w μ m vm) (hk : R S w μ key vk) (h : vmapEntry T m key H K) :
    ∃ v w', (Instr.mapEntry t vm vk).run P w = .ok v w' ∧ Post S w μ H K v w' := by
  obtain ⟨kt, et, o, M, r, es, clock, g1, g2, g3, g4, rfl, g6, _, g8, g9, g10, g11, g12, g13, h⟩ := vmap_sound hT hr hm h
  obtain ⟨h1, h2⟩ := vkey_sound hk h
  obtain ⟨kl, hkl⟩ := g3 _ h1
  have fin : ∀ (es' : Array MapEntry) (clock' : Nat) (u : Value) (j : Nat) (e : MapEntry), (∃ ys, marks es' = marks es ++ ys) → MapKept.Stamped es' clock' → es'.size = (withKey M vk).n → (∀ x ∈ es'.toList, keyOK M.ks x.key ∧ (withKey M vk).has x.key = true ∧ x.val = elemV M.ek ((withKey M vk).get x.key)) →
      (∀ k, keyOK M.ks k → (withKey M vk).has k = true → ∃ x ∈ es'.toList, x.key = k) → es'[j]? = some e → e.key = vk → (Instr.mapEntry t (.map (some r)) vk).run P w = .ok (.tuple #[u, .int .i64 e.born]) (w.putObj r (.map es' clock')) →
      ∃ v w', (Instr.mapEntry t (.map (some r)) vk).run P w = .ok v w' ∧ Post S w μ H K v w' := fun es' clock' u j e e1 e2 e3 e4 e5 e6 e7 e8 => by
    obtain ⟨t1, t2⟩ := turn_map (M' := withKey M vk) hr g6 g8 g9 e1 e2 e3 e4 e5
    refine ⟨_, _, e8, S, _, _, _, h2, .tup _ _ rfl fun i d v a b => ?_, t1, t2⟩
    match i with
    | 0 => simp at a b; subst a; subst b; exact .top _
    | 1 =>
      simp at a b; subst a; subst b
      have := marks_get e6
      rw [e7] at this
      exact .stamp o vk r (marks es') j e.born (by simp [updM]) this
    | i + 2 => simp at a
  rcases run_mapEntry g1 g2 (g4 w) g9 hkl (fun e he => g3 _ (g12 e he).1) with ⟨j, e, r1, r2, r3⟩ | ⟨r1, r2⟩
  · have hmem : e ∈ es.toList := List.mem_of_getElem? (by simpa using r1 : es.toList[j]? = some e)
    have hh : M.has vk = true := by rw [← r2]; exact (g12 e hmem).2.1
    refine fin es clock e.val j e ⟨#[], by simp⟩ g10 (by simp only [withKey]; rw [if_pos hh]; exact g11) (fun x hx => ?_) (fun k hok hkk => ?_) r1 r2 r3
    · obtain ⟨a1, a2, a3⟩ := g12 x hx
      refine ⟨a1, by simp [withKey, a2], ?_⟩
      rw [a3]
      congr 1
      funext j
      simp [withKey, a2]
    · simp only [withKey, Bool.or_eq_true] at hkk
      rcases hkk with hkk | hkk
      · exact g13 k hok hkk
      · exact ⟨e, hmem, by rw [r2]; exact (veqV_eq hok h1 hkk).symm⟩
  · have hh : M.has vk = false := by
      cases hh : M.has vk with
      | false => rfl
      | true => obtain ⟨x, hx, e⟩ := g13 vk h1 hh; exact absurd e (r1 x hx)
    refine fin (es.push { key := vk, val := elemV M.ek fun _ => 0, born := clock }) (clock + 1) _ es.size { key := vk, val := elemV M.ek fun _ => 0, born := clock } ⟨_, marks_push _ _⟩ (MapKept.stamped_push g10 r1)
      (by simp only [withKey, hh, Array.size_push]; simp [g11]) (fun x hx => ?_) (fun k hok hkk => ?_) (by simp) rfl r2
    · simp only [Array.toList_push, List.mem_append, List.mem_singleton] at hx
      rcases hx with hx | rfl
      · obtain ⟨a1, a2, a3⟩ := g12 x hx
        refine ⟨a1, by simp [withKey, a2], ?_⟩
        rw [a3]
        congr 1
        funext j
        simp [withKey, a2]
      · refine ⟨h1, by simp [withKey, veqV_self h1], ?_⟩
        simp only
        congr 1
        funext j
        simp [withKey, hh]
    · simp only [withKey, Bool.or_eq_true] at hkk
      rcases hkk with hkk | hkk
      · obtain ⟨x, hx, e⟩ := g13 k hok hkk
        exact ⟨x, by simp [hx], e⟩
      · exact ⟨{ key := vk, val := elemV M.ek fun _ => 0, born := clock }, by simp, (veqV_eq hok h1 hkk).symm⟩
theorem stamped_born {es : Array MapEntry} {clock : Nat} (h : MapKept.Stamped es clock) {i j : Nat} {x y : MapEntry} (hx : es[i]? = some x) (hy : es[j]? = some y) (hb : x.born = y.born) : i = j := by
  have hn := ((MapKept.stamped_iff es clock).1 h).2.1
  have h1 : (es.toList.map (·.born))[i]? = some x.born := by simp [hx]
  have h2 : (es.toList.map (·.born))[j]? = some y.born := by simp [hy]
  obtain ⟨hi, e1⟩ := List.getElem?_eq_some_iff.1 h1
  obtain ⟨hj, e2⟩ := List.getElem?_eq_some_iff.1 h2
  rcases Nat.lt_trichotomy i j with h | h | h
  · have := List.pairwise_iff_getElem.1 hn i j hi hj h
    rw [e1, e2, hb] at this; exact absurd rfl this
  · exact h
  · have := List.pairwise_iff_getElem.1 hn j i hj hi h
    rw [e1, e2, hb] at this; exact absurd rfl this
theorem turn_elem (hr : RelL S w μ H) {o r : Nat} {M : Mp} {es : Array MapEntry} {clock : Nat} (ho : hget H o = some (.mp M)) (hm : μ o = some (mapMk r (marks es))) (hb : w.heap[r]? = some (.map es clock))
    (hst : MapKept.Stamped es clock) (hn : es.size = M.n) (h1 : ∀ x ∈ es.toList, keyOK M.ks x.key ∧ M.has x.key = true ∧ x.val = elemV M.ek (M.get x.key)) (h2 : ∀ k, keyOK M.ks k → M.has k = true → ∃ x ∈ es.toList, x.key = k)
    {j : Nat} {e : MapEntry} (hj : es[j]? = some e) {kv : Value} (hk : e.key = kv) (hkv : keyOK M.ks kv) (g : Nat → Int) :
    RelL S (w.putObj r (.map (es.modify j fun e => { e with val := elemV M.ek g }) clock)) (updM μ o (mapMk r (marks (es.modify j fun e => { e with val := elemV M.ek g })))) (H.set o (some (.mp (withElem M kv g)))) ∧
      Tr S w μ (hget H) S (w.putObj r (.map (es.modify j fun e => { e with val := elemV M.ek g }) clock)) (updM μ o (mapMk r (marks (es.modify j fun e => { e with val := elemV M.ek g })))) (hget (H.set o (some (.mp (withElem M kv g))))) := by
  have hpw := ((MapKept.stamped_iff es clock).1 hst).2.2
  have huniq : ∀ (i : Nat) x, es[i]? = some x → x.key = kv → i = j := fun i x hi hx => by
    have h3 : es.toList[i]? = some x := by simpa using hi
    have h4 : es.toList[j]? = some e := by simpa using hj
    obtain ⟨hi', e1⟩ := List.getElem?_eq_some_iff.1 h3
    obtain ⟨hj', e2⟩ := List.getElem?_eq_some_iff.1 h4
    rcases Nat.lt_trichotomy i j with h | h | h
    · have := List.pairwise_iff_getElem.1 hpw i j hi' hj' h
      rw [e1, e2, hx, hk] at this; exact absurd rfl this
    · exact h
    · have := List.pairwise_iff_getElem.1 hpw j i hj' hi' h
      rw [e1, e2, hx, hk] at this; exact absurd rfl this
  have hget : ∀ (i : Nat) x, (es.modify j fun e => { e with val := elemV M.ek g })[i]? = some x → ∃ y, es[i]? = some y ∧ x.key = y.key ∧ (i = j → x.val = elemV M.ek g) ∧ (i ≠ j → x.val = y.val) := fun i x hi => by
    rw [Array.getElem?_modify] at hi
    split at hi
    · rename_i hij
      subst hij
      rw [hj] at hi ⊢
      simp only [Option.map_some, Option.some.injEq] at hi
      subst hi
      exact ⟨e, rfl, rfl, fun _ => rfl, fun h => absurd rfl h⟩
    · rename_i hij
      exact ⟨x, hi, rfl, fun h => absurd h.symm hij, fun _ => rfl⟩
  refine turn_map (M' := withElem M kv g) hr ho hm hb ⟨#[], by rw [marks_modify es j (fun e => { e with val := elemV M.ek g }) (fun e => ⟨rfl, rfl⟩)]; simp⟩ (MapKept.stamped_modify hst _ _ (fun _ _ => rfl) (fun _ _ _ => rfl)) (by simpa [withElem] using hn) (fun x hx => ?_) (fun k hok hk' => ?_)
  · obtain ⟨i, hi, e1⟩ := List.getElem_of_mem hx
    have hi' : (es.modify j fun e => { e with val := elemV M.ek g })[i]? = some x := by
      rw [← Array.getElem?_toList]; exact List.getElem?_eq_some_iff.2 ⟨hi, e1⟩
    obtain ⟨y, y1, y2, y3, y4⟩ := hget i x hi'
    obtain ⟨a1, a2, a3⟩ := h1 y (List.mem_of_getElem? (by simpa using y1 : es.toList[i]? = some y))
    rw [y2]
    refine ⟨a1, a2, ?_⟩
    by_cases hij : i = j
    · rw [y3 hij]
      subst hij
      rw [hj] at y1
      injection y1 with y1
      subst y1
      simp [withElem, hk, veqV_self hkv]
    · rw [y4 hij, a3]
      have : veqV y.key kv = false := by
        cases hv : veqV y.key kv with
        | false => rfl
        | true => exact absurd (huniq i y y1 (veqV_eq a1 hkv hv)) hij
      simp [withElem, this]
  · obtain ⟨x, hx, e1⟩ := h2 k hok hk'
    obtain ⟨i, hi, e2⟩ := List.getElem_of_mem hx
    have hxi : es[i]? = some x := by rw [← Array.getElem?_toList]; exact List.getElem?_eq_some_iff.2 ⟨hi, e2⟩
    refine ⟨if j = i then { x with val := elemV M.ek g } else x, List.mem_of_getElem? (i := i) ?_, ?_⟩
    · rw [Array.getElem?_toList, Array.getElem?_modify, hxi]
      split <;> rfl
    · split <;> exact e1
theorem sound_entryStore {t : Nat} {T : Ty} {m s x : D} {vm vs vx : Value} {K : D → HL → Prop} (hT : tyOK P t T) (hr : RelL S w μ H) (hm : R S w μ m vm) (hs : R S w μ s vs) (hx : R S w μ x vx) (h : ventryStore T m s x H K) :
    ∃ w', (Instr.entryStore t vm vs vx).run P w = .ok () w' ∧ Post S w μ H K undef w' := by
  obtain ⟨kt, et, o, M, r, es, clock, g1, g2, g3, g4, rfl, g6, _, g8, g9, g10, g11, g12, g13, h⟩ := vmap_sound hT hr hm h
  have hs' : ∃ (o' : Nat) (kv : Value) (r' : Nat) (ks : Array Value) (i born : Nat), s = .stamp o' kv ∧ μ o' = some (mapMk r' ks) ∧ (ks[i]? : Option Value) = some (.tuple #[kv, .int .i64 (born : Nat)]) ∧ vs = .int .i64 born := by
    cases hs <;> first | exact h.elim | exact ⟨_, _, _, _, _, _, rfl, by assumption, by assumption, rfl⟩
  obtain ⟨o', kv, r', ks, i, born, rfl, hμ, hi, rfl⟩ := hs'
  simp only at h
  cases hq : Nat.beq o' o with
  | false => rw [hq] at h; exact h.elim
  | true =>
    obtain rfl := Nat.eq_of_beq_eq_true hq
    rw [hq, cond_true] at h
    obtain ⟨g, rfl, hh, hk⟩ := velem_sound hx h
    rw [g8] at hμ
    injection hμ with hμ
    obtain ⟨rfl, rfl⟩ := mapMk_inj hμ
    simp only [marks, Array.getElem?_map] at hi
    cases he : es[i]? with
    | none => simp [he] at hi
    | some e =>
      simp only [he, Option.map_some, Option.some.injEq, Value.tuple.injEq] at hi
      have hi' := congrArg Array.toList hi
      simp at hi'
      obtain ⟨hik, hib⟩ := hi'
      have hfind : es.findIdx? (fun e => (e.born : Int) == (born : Int)) = some i := by
        rw [Array.findIdx?_eq_some_iff_getElem]
        have hlt := (Array.getElem?_eq_some_iff.1 he).1
        have hei := (Array.getElem?_eq_some_iff.1 he).2
        refine ⟨hlt, by rw [hei]; simp; omega, fun j hj => ?_⟩
        have hjl : j < es.size := by omega
        simp only [beq_iff_eq]
        intro hbj
        have := stamped_born g10 (i := j) (j := i) (x := es[j]) (y := e) (by simp [hjl]) he (by omega)
        omega
      have hkk : keyOK M.ks kv := by rw [← hik]; exact (g12 e (List.mem_of_getElem? (by simpa using he : es.toList[i]? = some e))).1
      obtain ⟨t1, t2⟩ := turn_elem hr g6 g8 g9 g10 g11 g12 g13 he hik hkk g
      have hset : ∀ ob, (setObj r ob).run P w = .ok () (w.putObj r ob) := fun ob => by simp [setObj, Sem.run, g9, World.putObj]
      refine ⟨_, ?_, S, _, _, _, hk, .top _, t1, t2⟩
      simp [Instr.entryStore, MapKept.run_getObj_map g9, asInt, asIntOf, hfind, hset, Result.andThen]
theorem run_mapUpdate {t kt et : Nat} {es : Array MapEntry} {clock r : Nat} {key x : Value} (ht : P.underlying t = some (.map kt et)) (K : Go.Maps.Keyed P kt) (hb : w.heap[r]? = some (.map es clock))
    {kl : Lit} (hkey : keyOf P kt key = some kl) (hk : ∀ e ∈ es.toList, ∃ l, keyOf P kt e.key = some l) :
    (∃ (j : Nat) (e : MapEntry), es[j]? = some e ∧ e.key = key ∧ (Instr.mapUpdate t (.map (some r)) key x).run P w = .ok () (w.putObj r (.map (es.modify j fun e => { e with val := x }) clock))) ∨
    ((∀ x ∈ es.toList, x.key ≠ key) ∧ (Instr.mapUpdate t (.map (some r)) key x).run P w = .ok () (w.putObj r (.map (es.push { key, val := x, born := clock }) (clock + 1)))) := by
  have hset : ∀ o, (setObj r o).run P w = .ok () (w.putObj r o) := fun o => by simp [setObj, Sem.run, hb, World.putObj]
  rcases K.find w hkey es.toList hk with ⟨h1, h2⟩ | ⟨j, e, h1, h2, h3⟩
  · refine .inr ⟨h2, ?_⟩
    simp [Instr.mapUpdate, run_underlying ht, MapKept.run_getObj_map hb, K.check w _ hkey, h1, Result.andThen, hset]
  · refine .inl ⟨j, e, by simpa using h2, h3, ?_⟩
    have hj : es[j]? = some e := by simpa using h2
    have hst := K.stays w hkey
    have hmod : es.modify j (fun e => { e with key := key, val := x }) = es.modify j fun e => { e with val := x } := by
      apply Array.ext_getElem?
      intro i
      simp only [Array.getElem?_modify]
      split
      · rename_i hij; subst hij; rw [hj]; simp [h3.symm]
      · rfl
    simp [Instr.mapUpdate, run_underlying ht, MapKept.run_getObj_map hb, K.check w _ hkey, h1, Result.andThen, hset, hj, h3, hst, hmod]
theorem sound_mapUpdate {t : Nat} {T : Ty} {m key x : D} {vm vk vx : Value} {K : D → HL → Prop} (hT : tyOK P t T) (hr : RelL S w μ H) (hm : R S w μ m vm) (hk : R S w μ key vk) (hx : R S w μ x vx) (h : vmapUpdate T m key x H K) :
    ∃ w', (Instr.mapUpdate t vm vk vx).run P w = .ok () w' ∧ Post S w μ H K undef w' := by
  obtain ⟨kt, et, o, M, r, es, clock, g1, g2, g3, g4, rfl, g6, _, g8, g9, g10, g11, g12, g13, h⟩ := vmap_sound hT hr hm h
  obtain ⟨h1, h2⟩ := vkey_sound hk h
  obtain ⟨g, rfl, h2⟩ := velem_sound hx h2
  obtain ⟨kl, hkl⟩ := g3 _ h1
  rcases run_mapUpdate (x := elemV M.ek g) g1 g2 g9 hkl (fun e he => g3 _ (g12 e he).1) with ⟨j, e, r1, r2, r3⟩ | ⟨r1, r2⟩
  · have hmem : e ∈ es.toList := List.mem_of_getElem? (by simpa using r1 : es.toList[j]? = some e)
    have hh : M.has vk = true := by rw [← r2]; exact (g12 e hmem).2.1
    obtain ⟨t1, t2⟩ := turn_elem hr g6 g8 g9 g10 g11 g12 g13 r1 r2 h1 g
    have eM : ∀ M' : Mp, M' = withElem (withKey M vk) vk g → K .top (H.set o (some (.mp M'))) := fun M' e => by rw [e]; exact h2
    have hee : (⟨M.ks, M.ek, M.n, M.has, (withElem M vk g).get⟩ : Mp) = withElem M vk g := rfl
    obtain ⟨s1, s2⟩ := turn_map (M' := withElem (withKey M vk) vk g) (es' := es.modify j fun e => { e with val := elemV M.ek g }) (clock' := clock) hr g6 g8 g9 ⟨#[], by rw [marks_modify es j (fun e => { e with val := elemV M.ek g }) (fun e => ⟨rfl, rfl⟩)]; simp⟩
      (MapKept.stamped_modify g10 _ _ (fun _ _ => rfl) (fun _ _ _ => rfl)) (by simp [withElem, withKey, hh, g11]) (fun x hx' => by
        obtain ⟨mv, m1, r', es1, cl1, m2, m3, m4, m5, m6, m7⟩ := t1.1.obs o (.mp (withElem M vk g)) (by rw [hget_set _ _ _ (lt_of_hget g6)]; simp [updH])
        simp only [updM, if_true, Option.some.injEq] at m1
        rw [← m1] at m2
        obtain ⟨rfl, _⟩ := mapMk_inj m2
        rw [World.putObj_heap_same (Array.getElem?_eq_some_iff.1 g9).1] at m3
        injection m3 with m3
        injection m3 with m3 _
        obtain ⟨a1, a2, a3⟩ := m6 x (by rw [← m3]; exact hx')
        refine ⟨a1, by simp only [withElem, withKey, Bool.or_eq_true]; exact .inl a2, ?_⟩
        rw [a3]
        congr 1
        funext j'
        have a2' : M.has x.key = true := a2
        simp [withElem, withKey, a2'])
      (fun k hok hk' => by
        have hk'' : M.has k = true := by
          simp only [withElem, withKey, Bool.or_eq_true] at hk'
          rcases hk' with h | h
          · exact h
          · rw [veqV_eq hok h1 h]; exact hh
        obtain ⟨mv, m1, r', es1, cl1, m2, m3, m4, m5, m6, m7⟩ := t1.1.obs o (.mp (withElem M vk g)) (by rw [hget_set _ _ _ (lt_of_hget g6)]; simp [updH])
        simp only [updM, if_true, Option.some.injEq] at m1
        rw [← m1] at m2
        obtain ⟨rfl, _⟩ := mapMk_inj m2
        rw [World.putObj_heap_same (Array.getElem?_eq_some_iff.1 g9).1] at m3
        injection m3 with m3
        injection m3 with m3 _
        obtain ⟨x, hx', e1⟩ := m7 k hok hk''
        exact ⟨x, by rw [m3]; exact hx', e1⟩)
    exact ⟨_, r3, S, _, _, _, h2, .top _, s1, s2⟩
  · have hh : M.has vk = false := by
      cases hh : M.has vk with
      | false => rfl
      | true => obtain ⟨x, hx, e⟩ := g13 vk h1 hh; exact absurd e (r1 x hx)
    obtain ⟨s1, s2⟩ := turn_map (M' := withElem (withKey M vk) vk g) hr g6 g8 g9 ⟨_, marks_push es { key := vk, val := elemV M.ek g, born := clock }⟩ (MapKept.stamped_push g10 r1) (by simp [withElem, withKey, hh, g11]) (fun x hx' => by
      simp only [Array.toList_push, List.mem_append, List.mem_singleton] at hx'
      rcases hx' with hx' | rfl
      · obtain ⟨a1, a2, a3⟩ := g12 x hx'
        have hne : veqV x.key vk = false := by
          cases hv : veqV x.key vk with
          | false => rfl
          | true => exact absurd (veqV_eq a1 h1 hv) (r1 x hx')
        refine ⟨a1, by simp [withElem, withKey, a2], ?_⟩
        rw [a3]
        congr 1
        funext j
        simp [withElem, withKey, a2, hne]
      · refine ⟨h1, by simp [withElem, withKey, veqV_self h1], ?_⟩
        simp only
        congr 1
        funext j
        simp [withElem, veqV_self h1]) (fun k hok hk' => by
      simp only [withElem, withKey, Bool.or_eq_true] at hk'
      rcases hk' with h | h
      · obtain ⟨x, hx', e⟩ := g13 k hok h
        exact ⟨x, by simp [hx'], e⟩
      · exact ⟨{ key := vk, val := elemV M.ek g, born := clock }, by simp, (veqV_eq hok h1 h).symm⟩)
    exact ⟨_, r2, S, _, _, _, h2, .top _, s1, s2⟩
end
end Go.V
end
