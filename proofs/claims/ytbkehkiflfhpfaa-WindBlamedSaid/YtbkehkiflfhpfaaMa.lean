/-
  A small logic of our own over the kit's Code.wp: abstract values and an abstract heap, their relation to the model's values and worlds, and how that relation is kept. No statement of the program here.
-/
import Derived.WalkKit
import Derived.WalkSpells
import Derived.WalkLawsBesides
import Derived.Maps.AppendAt
import Derived.MapKept
import Derived.Maps.Own
import Derived.OrdersIn
import Derived.RangeFuncRecord
import Derived.RecoverIn
import Derived.Laws.AppendOwnNone
import Derived.Laws.StructEq
import Derived.Laws.BytesArg
import Derived.Laws.IdiomStrings
section
set_option linter.unusedVariables false
set_option linter.unusedSimpArgs false
namespace Go.V

/-- Abstract values. 'rsl': a slice that is only read (element i, cell j); 'eptr': a pointer into memory that is only read; 'ptr', 'own', 'optr', 'map': references to objects of the abstract heap. -/
inductive D where
  | top
  | tt
  | ff
  | int (k : IntKind) (n : Int)
  | bool (b : Bool)
  | str (s : ByteArray)
  | agg (cs : List D)
  | tup (cs : List D)
  | rsl (size n : Nat) (get : Nat → Nat → D)
  | eptr (n : Nat) (get : Nat → D)
  | ptr (o off : Nat)
  | own (o n : Nat)
  | optr (o n size i j : Nat)
  | map (o : Nat)
  | fn (f : Nat) (first caps : List D)
  | iface (t : Nat) (d : D)
  | nilI
  | nilS
  | yld (o : Nat)
  | stamp (o : Nat) (k : Value)

/-- The kinds of keys, and of elements, of maps. -/
inductive KS where
  | str
  | int (k : IntKind)
  | ints (m : Nat)
inductive EK where
  | bool
  | ints (m : Nat)
/-- A map: the kind of its keys and elements; how many entries there are; whether a key is there; the cells of its element (a bool: 1 for true). -/
structure Mp where
  ks : KS
  ek : EK
  n : Nat
  has : Value → Bool
  get : Value → Nat → Int
/-- Where a range over a function stands: between two rounds; in a round; left by a round, and how; over. -/
inductive Pj where
  | ready
  | busy
  | ret
  | exit (id : Nat)
  | gone

/-- Abstract objects: a row of cells (a variable, a struct, an array); a slice of the call's own. -/
inductive Ob where
  | row (cs : List D)
  | buf (e size n : Nat) (get : Nat → Nat → D)
  | mp (m : Mp)
  | lp (r : Loop) (p : Pj)
  | dead

abbrev Mu := Nat → Option Value
def Mu0 : Mu := fun _ => none

/-- What stands for a map in 'Mu': its block, and its entries' keys and stamps. -/
def mapMk (r : Nat) (ks : Array Value) : Value := .func (.func 0) #[.map (some r)] ks
def marks (es : Array MapEntry) : Array Value := es.map fun x => .tuple #[x.key, .int .i64 x.born]

/-- The cells of a slice that is only read. -/
def Cells (S : Nat → Prop) (w : World) (A : Option Addr) (n size : Nat) (val : Nat → Nat → Value) : Prop :=
  0 < n → ∃ b off, A = some ⟨b, off, none⟩ ∧ S b ∧ ∀ i j, i < n → j < size → w.cell? ⟨b, off + (i * size + j), none⟩ = some (val i j) ∧ (val i j).oneCell' = true

inductive R (S : Nat → Prop) (w : World) : Mu → D → Value → Prop
  | top {μ} (v) : R S w μ .top v
  | tt {μ} : R S w μ .tt (.bool true)
  | ff {μ} : R S w μ .ff (.bool false)
  | int {μ} (k n) : R S w μ (.int k n) (.int k n)
  | bool {μ} (b) : R S w μ (.bool b) (.bool b)
  | str {μ} (s) : R S w μ (.str s) (.string s)
  | agg {μ} (cs : List D) (vs : Array Value) : cs.length = vs.size → (∀ (i : Nat) d v, cs[i]? = some d → vs[i]? = some v → R S w μ d v) → R S w μ (.agg cs) (.agg vs)
  | tup {μ} (cs : List D) (vs : Array Value) : cs.length = vs.size → (∀ (i : Nat) d v, cs[i]? = some d → vs[i]? = some v → R S w μ d v) → R S w μ (.tup cs) (.tuple vs)
  | rsl {μ} (size n g A c) (val : Nat → Nat → Value) : n ≤ c → Cells S w A n size val → (∀ i j, i < n → j < size → R S w Mu0 (g i j) (val i j)) → R S w μ (.rsl size n g) (.slice A n c)
  | eptr {μ} (n g b off) (val : Nat → Value) : S b → (∀ j, j < n → w.cell? ⟨b, off + j, none⟩ = some (val j) ∧ (val j).oneCell' = true) → (∀ j, j < n → R S w Mu0 (g j) (val j)) → R S w μ (.eptr n g) (.pointer (some ⟨b, off, none⟩))
  | ptr {μ : Mu} (o off b) : μ o = some (.pointer (some ⟨b, 0, none⟩)) → R S w μ (.ptr o off) (.pointer (some ⟨b, off, none⟩))
  | own {μ : Mu} (o n A m c v) : μ o = some (.slice A m c) → n ≤ m → v.oneCell' = true → (n = m → v = .slice A m c) → R S w μ (.own o n) v
  | optr {μ : Mu} (o n size i j A m c b) : μ o = some (.slice A m c) → n ≤ m → (n = m → A = some ⟨b, 0, none⟩) → R S w μ (.optr o n size i j) (.pointer (some ⟨b, i * size + j, none⟩))
  | map {μ : Mu} (o r ks) : μ o = some (mapMk r ks) → R S w μ (.map o) (.map (some r))
  | yld {μ : Mu} (o l) : μ o = some (.func (.yield l) #[] #[]) → R S w μ (.yld o) (.func (.yield l) #[] #[])
  | stamp {μ : Mu} (o k r ks) (i born : Nat) : μ o = some (mapMk r ks) → ks[i]? = some (.tuple #[k, .int .i64 born]) → R S w μ (.stamp o k) (.int .i64 born)
  | fn {μ} (f) (fs cs : List D) (vf vc : Array Value) : fs.length = vf.size → cs.length = vc.size → (∀ (i : Nat) d v, fs[i]? = some d → vf[i]? = some v → R S w μ d v) → (∀ (i : Nat) d v, cs[i]? = some d → vc[i]? = some v → R S w μ d v) →
      R S w μ (.fn f fs cs) (.func (.func f) vf vc)
  | iface {μ} (t d v) : R S w μ d v → R S w μ (.iface t d) (.iface t v)
  | nilI {μ} : R S w μ .nilI .nilIface
  | nilS {μ} : R S w μ .nilS (.slice none 0 0)

def blk : Value → Option Nat
  | .pointer (some a) => some a.block
  | .slice (some a) _ _ => some a.block
  | .map (some r) => some r
  | .func (.func _) first _ => match (first[0]? : Option Value) with
    | some (Value.map (some r)) => some r
    | _ => none
  | .func (.yield l) _ _ => some l
  | _ => none
theorem blk_mapMk (r : Nat) (ks : Array Value) : blk (mapMk r ks) = some r := by simp [blk, mapMk]

def keyOK : KS → Value → Prop
  | .str, v => ∃ s : ByteArray, v = .string s ∧ s.size ≤ maxLen
  | .int k, v => ∃ n, v = .int k n ∧ (Lit.int k n).wf = true
  | .ints m, v => ∃ ns : List Int, ns.length = m ∧ v = .agg (ns.map (Value.int .i64)).toArray ∧ ∀ n ∈ ns, (Lit.int .i64 n).wf = true
def elemV : EK → (Nat → Int) → Value
  | .bool, g => .bool (decide (g 0 = 1))
  | .ints m, g => .agg ((List.range m).map fun j => Value.int .i64 (g j)).toArray
def MapR (w : World) (mv : Value) (m : Mp) : Prop := ∃ r es clock, mv = mapMk r (marks es) ∧ w.heap[r]? = some (.map es clock) ∧ MapKept.Stamped es clock ∧ es.size = m.n ∧
  (∀ x ∈ es.toList, keyOK m.ks x.key ∧ m.has x.key = true ∧ x.val = elemV m.ek (m.get x.key)) ∧ ∀ k, keyOK m.ks k → m.has k = true → ∃ x ∈ es.toList, x.key = k
def lpR (r : Loop) : Pj → Loop → Prop
  | .ready, x => x = { r with state := .ready, pending := none }
  | .busy, x => x = { r with state := .busy, pending := none }
  | .ret, x => x = { r with state := .done, pending := some .ret }
  | .exit id, x => x = { r with state := .done, pending := some (.exit id) }
  | .gone, _ => True

def ObR (S : Nat → Prop) (w : World) (μ : Mu) (mv : Value) : Ob → Prop
  | .row cs => ∃ b cells T, mv = .pointer (some ⟨b, 0, none⟩) ∧ w.heap[b]? = some (.cells cells T (0, 0)) ∧ cells.size = cs.length ∧
      (∀ (i : Nat) d v, cs[i]? = some d → cells[i]? = some v → R S w μ d v) ∧ (∀ (i : Nat) v, cells[i]? = some v → v.oneCell' = true)
  | .buf e size n g => ∃ xs, w.ownsRow 0 e size mv n xs ∧ (∀ i j, i < n → j < size → ∃ v, xs[i * size + j]? = some v ∧ v.oneCell' = true ∧ R S w Mu0 (g i j) v)
  | .mp m => MapR w mv m
  | .lp r p => ∃ l x, mv = .func (.yield l) #[] #[] ∧ w.heap[l]? = some (.loop x) ∧ lpR r p x
  | .dead => ∃ m c, mv = .slice none m c

abbrev Hp := Nat → Option Ob
structure Rel (S : Nat → Prop) (w : World) (μ : Mu) (H : Hp) : Prop where
  obs : ∀ o ob, H o = some ob → ∃ mv, μ o = some mv ∧ ObR S w μ mv ob
  sep : ∀ o o' ob ob' v v' b, H o = some ob → H o' = some ob' → o ≠ o' → μ o = some v → μ o' = some v' → blk v = some b → blk v' ≠ some b
  stat : ∀ b, S b → b < w.heap.size ∧ ∀ o ob v, H o = some ob → μ o = some v → blk v ≠ some b

/-- A slice, or a map, that grows. -/
def Le (v v' : Value) : Prop := v' = v ∨ (∃ A m c A' m' c', v = .slice A m c ∧ v' = .slice A' m' c' ∧ m < m') ∨ ∃ r ks ys, v = mapMk r ks ∧ v' = mapMk r (ks ++ ys)
theorem Le.refl (v : Value) : Le v v := .inl rfl
theorem mapMk_inj {r r' : Nat} {ks ks' : Array Value} (h : mapMk r ks = mapMk r' ks') : r = r' ∧ ks = ks' := by
  unfold mapMk at h
  injection h with _ h1 h2
  simp at h1
  exact ⟨h1, h2⟩
theorem Le.trans {a b c : Value} (h : Le a b) (k : Le b c) : Le a c := by
  rcases h with rfl | ⟨A, m, c1, A', m', c', rfl, rfl, h1⟩ | ⟨r, ks, ys, rfl, rfl⟩
  · exact k
  · rcases k with rfl | ⟨B, n, d, B', n', d', e, rfl, h2⟩ | ⟨r, ks, ys, e, _⟩
    · exact .inr (.inl ⟨_, _, _, _, _, _, rfl, rfl, h1⟩)
    · injection e with e1 e2 e3
      subst e2
      exact .inr (.inl ⟨_, _, _, _, _, _, rfl, rfl, by omega⟩)
    · cases e
  · rcases k with rfl | ⟨B, n, d, B', n', d', e, _, _⟩ | ⟨r', ks', ys', e, rfl⟩
    · exact .inr (.inr ⟨r, ks, ys, rfl, rfl⟩)
    · cases e
    · obtain ⟨rfl, rfl⟩ := mapMk_inj e
      exact .inr (.inr ⟨r, ks, ys ++ ys', rfl, by rw [Array.append_assoc]⟩)

def MuLe (μ μ' : Mu) : Prop := ∀ o v, μ o = some v → ∃ v', μ' o = some v' ∧ Le v v'
theorem MuLe.refl (μ : Mu) : MuLe μ μ := fun _ v h => ⟨v, h, .refl v⟩
theorem MuLe.trans {a b c : Mu} (h : MuLe a b) (k : MuLe b c) : MuLe a c := fun o v hv =>
  let ⟨v1, h1, l1⟩ := h o v hv
  let ⟨v2, h2, l2⟩ := k o v1 h1
  ⟨v2, h2, l1.trans l2⟩

/-- What a step may do: blocks that are no object's stay as they are. -/
structure Tr (S : Nat → Prop) (w : World) (μ : Mu) (H : Hp) (S' : Nat → Prop) (w' : World) (μ' : Mu) (H' : Hp) : Prop where
  os : w'.os = w.os
  tape : w'.tape = w.tape
  output : w'.output = w.output
  size : w.heap.size ≤ w'.heap.size
  block : ∀ b, b < w.heap.size → (∀ o ob v, H o = some ob → μ o = some v → blk v ≠ some b) → w'.heap[b]? = w.heap[b]?
  sub : ∀ b, S b → S' b
  new : ∀ b, S' b → S b ∨ w.heap.size ≤ b ∨ ∃ o ob v, H o = some ob ∧ μ o = some v ∧ blk v = some b
  mu : MuLe μ μ'
  blks : ∀ o ob v b, H' o = some ob → μ' o = some v → blk v = some b → w.heap.size ≤ b ∨ ∃ o ob v, H o = some ob ∧ μ o = some v ∧ blk v = some b
  off : ∀ o v, H o = none → μ o = some v → H' o = none ∧ μ' o = some v
  dom : ∀ o, μ' o ≠ none → H' o ≠ none ∨ (μ o ≠ none ∧ H o = none)

theorem dom_refl {H : Hp} {μ : Mu} (o : Nat) (h : μ o ≠ none) : H o ≠ none ∨ (μ o ≠ none ∧ H o = none) := by
  by_cases e : H o = none
  · exact .inr ⟨h, e⟩
  · exact .inl e

/-- The relation is kept where the memory that it leans on is kept. -/
theorem R.keep {S S' : Nat → Prop} {w w' : World} (hS : ∀ b, S b → S' b) (hw : ∀ b, S b → w'.heap[b]? = w.heap[b]?) {μ : Mu} {d : D} {v : Value} (h : R S w μ d v) :
    ∀ {μ' : Mu}, MuLe μ μ' → R S' w' μ' d v := by
  induction h with
  | top v => intro μ' _; exact .top v
  | tt => intro μ' _; exact .tt
  | ff => intro μ' _; exact .ff
  | int k n => intro μ' _; exact .int k n
  | bool b => intro μ' _; exact .bool b
  | str s => intro μ' _; exact .str s
  | agg cs vs hl _ ih => intro μ' hm; exact .agg cs vs hl fun i d v h1 h2 => ih i d v h1 h2 hm
  | tup cs vs hl _ ih => intro μ' hm; exact .tup cs vs hl fun i d v h1 h2 => ih i d v h1 h2 hm
  | rsl size n g A c val hn hc _ ih =>
    intro μ' hm
    refine .rsl size n g A c val hn (fun h0 => ?_) fun i j hi hj => ih i j hi hj (.refl _)
    obtain ⟨b, off, rfl, hb, hcell⟩ := hc h0
    exact ⟨b, off, rfl, hS b hb, fun i j hi hj => ⟨(World.cell?_of_block (a := ⟨b, _, none⟩) (hw b hb)).trans (hcell i j hi hj).1, (hcell i j hi hj).2⟩⟩
  | eptr n g b off val hb hcell _ ih =>
    intro μ' hm
    exact .eptr n g b off val (hS b hb) (fun j hj => ⟨(World.cell?_of_block (a := ⟨b, _, none⟩) (hw b hb)).trans (hcell j hj).1, (hcell j hj).2⟩) fun j hj => ih j hj (.refl _)
  | ptr o off b h =>
    intro μ' hm
    obtain ⟨v', h1, h2⟩ := hm o _ h
    rcases h2 with rfl | ⟨A, m, c, A', m', c', e, _⟩ | ⟨r, ks, ys, e, _⟩
    · exact .ptr o off b h1
    · cases e
    · cases e
  | own o n A m c v h hn h1c hv =>
    intro μ' hm
    obtain ⟨v', h1, h2⟩ := hm o _ h
    rcases h2 with rfl | ⟨A1, m1, c1, A', m', c', e, rfl, hlt⟩ | ⟨r, ks, ys, e, _⟩
    · exact .own o n A m c v h1 hn h1c hv
    · injection e with e1 e2 e3
      subst e2
      exact .own o n A' m' c' v h1 (by omega) h1c (fun e => by omega)
    · cases e
  | optr o n size i j A m c b h hn hv =>
    intro μ' hm
    obtain ⟨v', h1, h2⟩ := hm o _ h
    rcases h2 with rfl | ⟨A1, m1, c1, A', m', c', e, rfl, hlt⟩ | ⟨r, ks, ys, e, _⟩
    · exact .optr o n size i j A m c b h1 hn hv
    · injection e with e1 e2 e3
      subst e2
      exact .optr o n size i j A' m' c' b h1 (by omega) (fun e => by omega)
    · cases e
  | map o r ks h =>
    intro μ' hm
    obtain ⟨v', h1, h2⟩ := hm o _ h
    rcases h2 with rfl | ⟨A, m, c, A', m', c', e, _⟩ | ⟨r', ks', ys, e, rfl⟩
    · exact .map o r ks h1
    · cases e
    · obtain ⟨rfl, rfl⟩ := mapMk_inj e
      exact .map o r _ h1
  | yld o l h =>
    intro μ' hm
    obtain ⟨v', h1, h2⟩ := hm o _ h
    rcases h2 with rfl | ⟨A, m, c, A', m', c', e, _⟩ | ⟨r', ks', ys, e, _⟩
    · exact .yld o l h1
    · cases e
    · injection e with e; cases e
  | stamp o k r ks i born h hi =>
    intro μ' hm
    obtain ⟨v', h1, h2⟩ := hm o _ h
    rcases h2 with rfl | ⟨A, m, c, A', m', c', e, _⟩ | ⟨r', ks', ys, e, rfl⟩
    · exact .stamp o k r ks i born h1 hi
    · cases e
    · obtain ⟨rfl, rfl⟩ := mapMk_inj e
      refine .stamp o k r _ i born h1 ?_
      have hlt := (Array.getElem?_eq_some_iff.1 hi).1
      rw [Array.getElem?_append_left hlt]
      exact hi
  | fn f fs cs vf vc h1 h2 _ _ ih1 ih2 => intro μ' hm; exact .fn f fs cs vf vc h1 h2 (fun i d v a b => ih1 i d v a b hm) fun i d v a b => ih2 i d v a b hm
  | iface t d v _ ih => intro μ' hm; exact .iface t d v (ih hm)
  | nilI => intro μ' _; exact .nilI
  | nilS => intro μ' _; exact .nilS

theorem Rel.static {S : Nat → Prop} {w : World} {μ : Mu} {H : Hp} (h : Rel S w μ H) {S' : Nat → Prop} {w' : World} {μ' : Mu} {H' : Hp} (t : Tr S w μ H S' w' μ' H') :
    ∀ b, S b → w'.heap[b]? = w.heap[b]? := fun b hb =>
  t.block b (h.stat b hb).1 fun o ob v h1 h2 => (h.stat b hb).2 o ob v h1 h2

theorem R.tr {S : Nat → Prop} {w : World} {μ : Mu} {H : Hp} {S' : Nat → Prop} {w' : World} {μ' : Mu} {H' : Hp} {d : D} {v : Value}
    (h : R S w μ d v) (hr : Rel S w μ H) (t : Tr S w μ H S' w' μ' H') : R S' w' μ' d v := h.keep t.sub (hr.static t) t.mu

theorem Tr.refl (S : Nat → Prop) (w : World) (μ : Mu) (H : Hp) : Tr S w μ H S w μ H :=
  ⟨rfl, rfl, rfl, Nat.le_refl _, fun _ _ _ => rfl, fun _ h => h, fun _ h => .inl h, .refl _, fun o ob v b h1 h2 h3 => .inr ⟨o, ob, v, h1, h2, h3⟩, fun o v h1 h2 => ⟨h1, h2⟩, dom_refl⟩

theorem Tr.trans {S S1 S2 : Nat → Prop} {w w1 w2 : World} {μ μ1 μ2 : Mu} {H H1 H2 : Hp} (h : Tr S w μ H S1 w1 μ1 H1) (k : Tr S1 w1 μ1 H1 S2 w2 μ2 H2) : Tr S w μ H S2 w2 μ2 H2 where
  os := k.os.trans h.os
  tape := k.tape.trans h.tape
  output := k.output.trans h.output
  size := Nat.le_trans h.size k.size
  block := fun b hb hno => (k.block b (Nat.lt_of_lt_of_le hb h.size) (fun o ob v h1 h2 h3 => by
    rcases h.blks o ob v b h1 h2 h3 with hge | ⟨o', ob', v', e1, e2, e3⟩
    · omega
    · exact hno o' ob' v' e1 e2 e3)).trans (h.block b hb hno)
  sub := fun b hb => k.sub b (h.sub b hb)
  new := fun b hb => by
    rcases k.new b hb with h1 | h1 | ⟨o, ob, v, h1, h2, h3⟩
    · exact h.new b h1
    · exact .inr (.inl (Nat.le_trans h.size h1))
    · rcases h.blks o ob v b h1 h2 h3 with hge | h4
      · exact .inr (.inl hge)
      · exact .inr (.inr h4)
  mu := h.mu.trans k.mu
  blks := fun o ob v b h1 h2 h3 => by
    rcases k.blks o ob v b h1 h2 h3 with hge | ⟨o', ob', v', e1, e2, e3⟩
    · exact .inl (Nat.le_trans h.size hge)
    · exact h.blks o' ob' v' b e1 e2 e3
  off := fun o v h1 h2 => let ⟨g1, g2⟩ := h.off o v h1 h2; k.off o v g1 g2
  dom := fun o ho => by
    rcases k.dom o ho with h1 | ⟨h1, h2⟩
    · exact .inl h1
    · rcases h.dom o h1 with h3 | h3
      · exact absurd h2 h3
      · exact .inr h3

/-- A draw. -/
theorem Tr.drew {S : Nat → Prop} {w : World} {μ : Mu} {H : Hp} : Tr S w μ H S w.drew μ H :=
  ⟨rfl, rfl, rfl, Nat.le_refl _, fun _ _ _ => rfl, fun _ h => h, fun _ h => .inl h, .refl _, fun o ob v b h1 h2 h3 => .inr ⟨o, ob, v, h1, h2, h3⟩, fun o v h1 h2 => ⟨h1, h2⟩, dom_refl⟩

theorem ObR.keep {S S' : Nat → Prop} {w w' : World} {μ μ' : Mu} {mv : Value} {ob : Ob} (h : ObR S w μ mv ob) (hS : ∀ b, S b → S' b) (hw : ∀ b, S b → w'.heap[b]? = w.heap[b]?) (hm : MuLe μ μ')
    (hb : ∀ b, blk mv = some b → w'.heap[b]? = w.heap[b]?) : ObR S' w' μ' mv ob := by
  cases ob with
  | row cs =>
    obtain ⟨b, cells, T, rfl, h1, h2, h3, h4⟩ := h
    exact ⟨b, cells, T, rfl, (hb b rfl).trans h1, h2, fun i d v a c => (h3 i d v a c).keep hS hw hm, h4⟩
  | buf e size n g =>
    obtain ⟨xs, ⟨h0, h1⟩, h2⟩ := h
    refine ⟨xs, ⟨h0, ?_⟩, fun i j hi hj => ?_⟩
    · rcases h1 with h1 | ⟨b, cap, cur, rfl, hb0, hg, hr⟩
      · exact .inl h1
      · exact .inr ⟨b, cap, cur, rfl, hb0, (hb b rfl).trans hg, hr⟩
    · obtain ⟨v, a, c, r⟩ := h2 i j hi hj
      exact ⟨v, a, c, r.keep hS hw (.refl _)⟩
  | mp m =>
    obtain ⟨r, es, clock, rfl, h1, h2⟩ := h
    exact ⟨r, es, clock, rfl, (hb r (blk_mapMk _ _)).trans h1, h2⟩
  | lp r p =>
    obtain ⟨l, x, rfl, h1, h2⟩ := h
    exact ⟨l, x, rfl, (hb l rfl).trans h1, h2⟩
  | dead => exact h

theorem Rel.drew {S : Nat → Prop} {w : World} {μ : Mu} {H : Hp} (h : Rel S w μ H) : Rel S w.drew μ H :=
  ⟨fun o ob ho => let ⟨mv, h1, h2⟩ := h.obs o ob ho; ⟨mv, h1, h2.keep (fun _ hb => hb) (fun _ _ => rfl) (.refl _) (fun _ _ => rfl)⟩, h.sep, h.stat⟩

theorem ObR.blk_lt {S : Nat → Prop} {w : World} {μ : Mu} {mv : Value} {ob : Ob} (h : ObR S w μ mv ob) {b : Nat} (hb : blk mv = some b) : b < w.heap.size := by
  cases ob with
  | row cs =>
    obtain ⟨b', cells, T, rfl, h1, _⟩ := h
    simp only [blk, Option.some.injEq] at hb
    subst hb
    exact (Array.getElem?_eq_some_iff.1 h1).1
  | buf e size n g =>
    obtain ⟨xs, hown, _⟩ := h
    rcases hown.2 with ⟨rfl, _⟩ | ⟨g, cap, cur, rfl, _, hg, _⟩
    · simp [blk] at hb
    · simp only [blk, Option.some.injEq] at hb
      subst hb
      exact (Array.getElem?_eq_some_iff.1 hg).1
  | mp m =>
    obtain ⟨r, es, clock, rfl, h1, _⟩ := h
    rw [blk_mapMk] at hb
    injection hb with hb
    subst hb
    exact (Array.getElem?_eq_some_iff.1 h1).1
  | lp r p =>
    obtain ⟨l, x, rfl, h1, _⟩ := h
    simp only [blk, Option.some.injEq] at hb
    subst hb
    exact (Array.getElem?_eq_some_iff.1 h1).1
  | dead =>
    obtain ⟨m, c, rfl⟩ := h
    cases hb

/-- Does a value fit one cell? -/
def one : D → Bool
  | .top | .agg _ | .tup _ => false
  | _ => true
theorem R.one {S : Nat → Prop} {w : World} {μ : Mu} {d : D} {v : Value} (h : R S w μ d v) (h1 : one d = true) : v.oneCell' = true := by
  cases h <;> first | rfl | assumption | (simp [V.one] at h1)

abbrev HL := List (Option Ob)
def hget (H : HL) (o : Nat) : Option Ob := H.getD o none
def RelL (S : Nat → Prop) (w : World) (μ : Mu) (H : HL) : Prop := Rel S w μ (hget H) ∧ ∀ o, H.length ≤ o → μ o = none

def updM (μ : Mu) (o : Nat) (v : Value) : Mu := fun o' => if o' = o then some v else μ o'
def updH (H : Hp) (o : Nat) (ob : Ob) : Hp := fun o' => if o' = o then some ob else H o'

theorem hget_push (H : HL) (ob : Ob) : hget (H ++ [some ob]) = updH (hget H) H.length ob := by
  funext o
  unfold hget updH
  by_cases h : o = H.length
  · subst h; simp
  · simp only [h, if_false, List.getD_eq_getElem?_getD, List.getElem?_append]
    by_cases hlt : o < H.length
    · simp [hlt]
    · have : o - H.length ≠ 0 := by omega
      rw [if_neg hlt, List.getElem?_eq_none (l := H) (by omega), List.getElem?_eq_none (by simp; omega)]
theorem hget_set (H : HL) (o : Nat) (ob : Ob) (ho : o < H.length) : hget (H.set o (some ob)) = updH (hget H) o ob := by
  funext o'
  unfold hget updH
  by_cases h : o' = o
  · subst h; simp [ho]
  · simp only [h, if_false, List.getD_eq_getElem?_getD, List.getElem?_set]
    rw [if_neg (by omega)]

/-- One object is made, or turned; all else stays. -/
theorem Rel.put {S : Nat → Prop} {w w' : World} {μ : Mu} {H : Hp} (h : Rel S w μ H) {o : Nat} {ob : Ob} {mv : Value}
    (hos : w'.os = w.os) (htape : w'.tape = w.tape) (hout : w'.output = w.output) (hsize : w.heap.size ≤ w'.heap.size)
    (hblock : ∀ b, b < w.heap.size → (∀ ob v, H o = some ob → μ o = some v → blk v ≠ some b) → w'.heap[b]? = w.heap[b]?)
    (hle : ∀ v, μ o = some v → Le v mv)
    (hblk : ∀ b, blk mv = some b → w.heap.size ≤ b ∨ ∃ ob v, H o = some ob ∧ μ o = some v ∧ blk v = some b)
    (hob : ObR S w' (updM μ o mv) mv ob) (hfresh : H o = none → μ o = none) : Rel S w' (updM μ o mv) (updH H o ob) ∧ Tr S w μ H S w' (updM μ o mv) (updH H o ob) := by
  have hmu : MuLe μ (updM μ o mv) := fun o' v hv => by
    by_cases e : o' = o
    · subst e; exact ⟨mv, by simp [updM], hle v hv⟩
    · exact ⟨v, by simp [updM, e, hv], .refl v⟩
  have hkeep : ∀ b, b < w.heap.size → (∀ ob v, H o = some ob → μ o = some v → blk v ≠ some b) → w'.heap[b]? = w.heap[b]? := hblock
  have hst : ∀ b, S b → w'.heap[b]? = w.heap[b]? := fun b hb => hkeep b (h.stat b hb).1 fun ob v h1 h2 => (h.stat b hb).2 o ob v h1 h2
  refine ⟨⟨fun o' ob' ho' => ?_, ?_, ?_⟩, ⟨hos, htape, hout, hsize, fun b hb hno => hkeep b hb fun ob v h1 h2 => hno o ob v h1 h2, fun _ hb => hb, fun _ hb => .inl hb, hmu, ?_, ?_, ?_⟩⟩
  · by_cases e : o' = o
    · subst e
      simp only [updH, if_true, Option.some.injEq] at ho'
      subst ho'
      exact ⟨mv, by simp [updM], hob⟩
    · simp only [updH, e, if_false] at ho'
      obtain ⟨mv', h1, h2⟩ := h.obs o' ob' ho'
      refine ⟨mv', by simp [updM, e, h1], h2.keep (fun _ hb => hb) hst hmu fun b hb => hkeep b (h2.blk_lt hb) fun ob v h3 h4 h5 => ?_⟩
      exact h.sep o' o ob' ob mv' v b ho' h3 e h1 h4 hb h5
  · intro o1 o2 ob1 ob2 v1 v2 b h1 h2 hne m1 m2 hb
    by_cases e1 : o1 = o
    · subst e1
      have e2 : o2 ≠ o1 := fun e => hne e.symm
      simp only [updH, e2, if_false] at h2
      simp only [updM, if_true, Option.some.injEq] at m1
      simp only [updM, e2, if_false] at m2
      subst m1
      intro hb2
      obtain ⟨mv2, g1, g2⟩ := h.obs o2 ob2 h2
      rw [m2] at g1
      obtain rfl : v2 = mv2 := by injection g1
      rcases hblk b hb with hge | ⟨ob, v, h3, h4, h5⟩
      · exact absurd (g2.blk_lt hb2) (by omega)
      · exact h.sep o1 o2 ob ob2 v v2 b h3 h2 hne h4 m2 h5 hb2
    · simp only [updH, e1, if_false] at h1
      simp only [updM, e1, if_false] at m1
      by_cases e2 : o2 = o
      · subst e2
        simp only [updM, if_true, Option.some.injEq] at m2
        subst m2
        intro hb2
        obtain ⟨mv1, g1, g2⟩ := h.obs o1 ob1 h1
        rw [m1] at g1
        obtain rfl : v1 = mv1 := by injection g1
        rcases hblk b hb2 with hge | ⟨ob, v, h3, h4, h5⟩
        · exact absurd (g2.blk_lt hb) (by omega)
        · exact h.sep o2 o1 ob ob1 v v1 b h3 h1 (fun e => hne e.symm) h4 m1 h5 hb
      · simp only [updH, e2, if_false] at h2
        simp only [updM, e2, if_false] at m2
        exact h.sep o1 o2 ob1 ob2 v1 v2 b h1 h2 hne m1 m2 hb
  · intro b hb
    refine ⟨Nat.lt_of_lt_of_le (h.stat b hb).1 hsize, fun o' ob' v ho' hv hbv => ?_⟩
    by_cases e : o' = o
    · subst e
      simp only [updM, if_true, Option.some.injEq] at hv
      subst hv
      rcases hblk b hbv with hge | ⟨ob, v, h3, h4, h5⟩
      · exact absurd (h.stat b hb).1 (by omega)
      · exact (h.stat b hb).2 o' ob v h3 h4 h5
    · simp only [updH, e, if_false] at ho'
      simp only [updM, e, if_false] at hv
      exact (h.stat b hb).2 o' ob' v ho' hv hbv
  · intro o' ob' v b ho' hv hbv
    by_cases e : o' = o
    · subst e
      simp only [updM, if_true, Option.some.injEq] at hv
      subst hv
      rcases hblk b hbv with hge | ⟨ob, v, h3, h4, h5⟩
      · exact .inl hge
      · exact .inr ⟨o', ob, v, h3, h4, h5⟩
    · simp only [updH, e, if_false] at ho'
      simp only [updM, e, if_false] at hv
      exact .inr ⟨o', ob', v, ho', hv, hbv⟩
  · intro o' v h1 h2
    have hne : o' ≠ o := fun e => by subst e; rw [hfresh h1] at h2; cases h2
    simp only [updH, updM, hne, if_false]
    exact ⟨h1, h2⟩
  · intro o' h1
    by_cases e : o' = o
    · subst e; exact .inl (by simp [updH])
    · simp only [updM, e, if_false] at h1
      simp only [updH, e, if_false]
      exact dom_refl o' h1

section
variable {S : Nat → Prop} {w : World} {μ : Mu}
theorem Rel.grow {H : Hp} (h : Rel S w μ H) {w' : World} (hos : w'.os = w.os) (htape : w'.tape = w.tape) (hout : w'.output = w.output) (hsize : w.heap.size ≤ w'.heap.size) (hblock : ∀ b, b < w.heap.size → w'.heap[b]? = w.heap[b]?)
    {S' : Nat → Prop} (hsub : ∀ b, S b → S' b) (hnew : ∀ b, S' b → S b ∨ w.heap.size ≤ b) (hlt : ∀ b, S' b → b < w'.heap.size) : Rel S' w' μ H ∧ Tr S w μ H S' w' μ H := by
  refine ⟨⟨fun o ob ho => ?_, h.sep, fun b hb => ⟨hlt b hb, fun o ob v ho hv hbv => ?_⟩⟩, ⟨hos, htape, hout, hsize, fun b hb _ => hblock b hb, hsub, fun b hb => (hnew b hb).imp_right .inl, .refl _, fun o ob v b h1 h2 h3 => .inr ⟨o, ob, v, h1, h2, h3⟩, fun o v h1 h2 => ⟨h1, h2⟩, dom_refl⟩⟩
  · obtain ⟨mv, h1, h2⟩ := h.obs o ob ho
    exact ⟨mv, h1, h2.keep hsub (fun b hb => hblock b (h.stat b hb).1) (.refl _) fun b hb => hblock b (h2.blk_lt hb)⟩
  · rcases hnew b hb with h1 | h1
    · exact (h.stat b h1).2 o ob v ho hv hbv
    · obtain ⟨mv, h2, h3⟩ := h.obs o ob ho
      rw [hv] at h2
      injection h2 with h2
      subst h2
      exact absurd (h3.blk_lt hbv) (by omega)
end

/-- A new object. -/
def hnew (H : HL) (nid : Nat) (ob : Ob) : HL := bif Nat.blt nid H.length then H.set nid (some ob) else H ++ [some ob]
theorem hnew_len (H : HL) (nid : Nat) (ob : Ob) : H.length ≤ (hnew H nid ob).length := by
  unfold hnew
  cases Nat.blt nid H.length <;> simp
theorem blt_iff (a b : Nat) : Nat.blt a b = true ↔ a < b := by
  show Nat.ble (a + 1) b = true ↔ _
  rw [Nat.ble_eq]
  exact Iff.rfl
theorem hnew_lt {H : HL} {nid : Nat} (ob : Ob) (h : nid ≤ H.length) : nid < (hnew H nid ob).length := by
  unfold hnew
  cases hb : Nat.blt nid H.length with
  | true => simpa using (blt_iff _ _).1 hb
  | false => simp; omega
theorem hget_new {H : HL} {nid : Nat} (ob : Ob) (h : nid ≤ H.length) : hget (hnew H nid ob) = updH (hget H) nid ob := by
  unfold hnew
  cases hb : Nat.blt nid H.length with
  | true => exact hget_set H nid ob ((blt_iff _ _).1 hb)
  | false =>
    have : ¬ nid < H.length := fun hl => by rw [(blt_iff _ _).2 hl] at hb; cases hb
    obtain rfl : nid = H.length := by omega
    exact hget_push H ob
theorem RelL.new {S S' : Nat → Prop} {w w' : World} {μ : Mu} {H : HL} {nid : Nat} {ob : Ob} {v : Value} (hr : RelL S w μ H) (hle : nid ≤ H.length) (h : Rel S' w' (updM μ nid v) (updH (hget H) nid ob)) : RelL S' w' (updM μ nid v) (hnew H nid ob) := by
  refine ⟨by rw [hget_new ob hle]; exact h, fun o ho => ?_⟩
  have h1 := hnew_len H nid ob
  have h2 := hnew_lt (H := H) ob hle
  have : o ≠ nid := by omega
  simp only [updM, this, if_false]
  exact hr.2 o (by omega)

end Go.V
end
section
set_option linter.unusedVariables false
set_option linter.unusedSimpArgs false
namespace Go.V

/-- What the logic knows of a type. struct: size; offset, type and size of each field. array: length, element, its size, size. slice: element, its size, its bytes. -/
inductive Ty where
  | int (k : IntKind)
  | bool
  | str
  | struct (size : Nat) (fs : List (Nat × Nat × Nat))
  | array (n e esize size : Nat)
  | slice (e esize ebytes : Nat)
  | map (ks : KS) (ek : EK) (k e : Nat)
  | ptr (e : Nat)
  | iface
  | other
  | no

def szOf (P : Program) (t : Nat) (n : Nat) : Prop := (P.info? t).map (·.size) = some n
def plainT : TypeDesc → Bool
  | .struct _ | .array _ _ => false
  | _ => true

def tyOK (P : Program) (t : Nat) : Ty → Prop
  | .int k => P.underlying t = some (.int k) ∧ szOf P t 1
  | .bool => P.underlying t = some .bool ∧ szOf P t 1
  | .str => P.underlying t = some .string ∧ szOf P t 1
  | .struct sz fs => ∃ fields, P.underlying t = some (.struct fields) ∧ szOf P t sz ∧ (∀ (i : Nat) x, fs[i]? = some x → ∃ f, fields[i]? = some f ∧ f.offset = x.1 ∧ f.type = x.2.1 ∧ szOf P f.type x.2.2 ∧ x.2.2 ≠ 0) ∧
      fields.toList.mapM (fun f => (P.info? f.type).map fun i => (f.offset, i.size)) = some (fs.map fun x => (x.1, x.2.2))
  | .array n e es sz => P.underlying t = some (.array n e) ∧ szOf P t sz ∧ szOf P e es
  | .slice e es eb => P.underlying t = some (.slice e) ∧ szOf P t 1 ∧ szOf P e es ∧ 0 < es ∧ ∃ i z, P.info? e = some i ∧ i.zero = some z ∧ i.size = es ∧ i.bytes = eb ∧ z.cells.size = es ∧ ∀ v ∈ z.cells.toList, v.oneCell' = true
  | .map ks ek k e => P.underlying t = some (.map k e) ∧ szOf P t 1 ∧ Go.Maps.Keyed P k ∧ (∀ v, keyOK ks v → ∃ l, keyOf P k v = some l) ∧ ∀ w, (zeroValue e).run P w = .ok (elemV ek fun _ => 0) w
  | .ptr e => P.underlying t = some (.pointer e) ∧ szOf P t 1
  | .iface => (∃ ms, P.underlying t = some (.interface ms)) ∧ szOf P t 1
  | .other => (∃ d, P.underlying t = some d ∧ plainT d = true) ∧ szOf P t 1
  | .no => True

/-- The zero cells of a type. -/
def zeroOK (P : Program) (t : Nat) (cs : List D) : Prop :=
  ∃ i z, P.info? t = some i ∧ i.zero = some z ∧ i.size = cs.length ∧ z.cells.size = cs.length ∧
    (∀ (j : Nat) v, z.cells[j]? = some v → v.oneCell' = true) ∧ ∀ S w (j : Nat) d v, cs[j]? = some d → z.cells[j]? = some v → R S w Mu0 d v

abbrev PRule := List D → (D → Prop) → Prop
/-- How code is left. -/
inductive VX where
  | normal
  | exit (id : Nat)
  | ret
  | panic (d : D)
/-- What a call comes to. -/
inductive Res where
  | ret (d : D)
  | pan (d : D)
/-- The state in which a function leaves. -/
inductive Md where
  | ret
  | pan (d : D)
/-- The rule of a function that turns its caller's objects; of one that is ranged over (the loop's object, and the rule of yield, go ahead); of one that is deferred. -/
abbrev CRule := List D → HL → (Res → HL → Prop) → Prop
abbrev IRule := Nat → CRule → CRule
abbrev DRule := Md → List D → HL → (Md → HL → Prop) → Prop
structure Cx where
  ty : Nat → Ty
  zero : Nat → Option (List D)
  pure : Nat → Option PRule
  eq : Nat → Bool
  call : Nat → Option CRule
  iter : Nat → Option IRule
  dfr : Nat → Option DRule
  yld : Option (Nat × CRule)

abbrev Env := Nat → D
def upd (e : Env) (i : Nat) (d : D) : Env := fun j => bif Nat.beq j i then d else e j

/-- 'fz d k' is 'k d': d is brought to its first constructor ahead of k. -/
def fz (d : D) (k : D → Prop) : Prop := match d with
  | .top => k .top | .tt => k .tt | .ff => k .ff | .int a b => k (.int a b) | .bool b => k (.bool b) | .str s => k (.str s) | .agg c => k (.agg c) | .tup c => k (.tup c)
  | .rsl s n g => k (.rsl s n g) | .eptr n g => k (.eptr n g) | .ptr o f => k (.ptr o f) | .own o n => k (.own o n) | .optr o n s i j => k (.optr o n s i j) | .map o => k (.map o)
  | .fn f a c => k (.fn f a c) | .iface t d => k (.iface t d) | .nilI => k .nilI | .nilS => k .nilS | .yld o => k (.yld o) | .stamp o q => k (.stamp o q)
theorem fz_iff (d : D) (k : D → Prop) : fz d k ↔ k d := by cases d <;> exact Iff.rfl
def fzl (l : List D) : (List D → Prop) → Prop := @List.rec D (fun _ => (List D → Prop) → Prop) (fun k => k []) (fun d _ ih k => fz d fun d => ih fun r => k (d :: r)) l
theorem fzl_iff : ∀ (l : List D) (k : List D → Prop), fzl l k ↔ k l
  | [], k => Iff.rfl
  | d :: r, k => by show fz d (fun d => fzl r fun r => k (d :: r)) ↔ _; rw [fz_iff, fzl_iff r]

def ofV : Value → D
  | .int k n => .int k n
  | .bool true => .tt
  | .bool false => .ff
  | .string s => .str s
  | .slice none 0 0 => .nilS
  | .nilIface => .nilI
  | _ => .top
theorem R_ofV (S : Nat → Prop) (w : World) (μ : Mu) (v : Value) : R S w μ (ofV v) v := by
  unfold ofV
  split <;> first | exact .int _ _ | exact .tt | exact .ff | exact .str _ | exact .nilI | exact .top _ | exact .nilS

def ev (e : Env) : Operand → D
  | .tmp t => e t
  | .const v => ofV v
  | .func f => .fn f [] []
  | .global _ => .top

def EnvR (S : Nat → Prop) (w : World) (μ : Mu) (e : Env) (a : Act) : Prop := ∀ i, R S w μ (e i) (a.tmps.getD i undef)
theorem EnvR.ev {S : Nat → Prop} {w : World} {μ : Mu} {e : Env} {a : Act} (h : EnvR S w μ e a) (x : Operand) : R S w μ (ev e x) (a.eval x) := by
  cases x with
  | tmp t => exact h t
  | const v => exact R_ofV S w μ v
  | global g => exact .top _
  | func f => exact .fn f [] [] #[] #[] rfl rfl (fun i d v h => by simp at h) (fun i d v h => by simp at h)

def keq : IntKind → IntKind → Bool
  | .i8, .i8 | .i16, .i16 | .i32, .i32 | .i64, .i64 | .u8, .u8 | .u16, .u16 | .u32, .u32 | .u64, .u64 => true
  | _, _ => false
theorem keq_eq {a b : IntKind} (h : keq a b = true) : a = b := by cases a <;> cases b <;> first | rfl | cases h

/-- Equality of abstract values that are numbers, strings, bools. -/
def deq : D → D → Option Bool
  | .int q a, .int q' b => bif keq q q' then some (decide (a = b)) else none
  | .str a, .str b => some (decide (a = b))
  | .tt, .tt => some true
  | .ff, .ff => some true
  | .tt, .ff => some false
  | .ff, .tt => some false
  | .bool a, .tt => some a
  | .bool a, .ff => some (!a)
  | .tt, .bool a => some a
  | .ff, .bool a => some (!a)
  | .bool a, .bool b => some (a == b)
  | .iface _ _, .nilI => some false
  | .nilI, .iface _ _ => some false
  | _, _ => none

def fits (k : IntKind) (n : Int) (c : D → Prop) : Prop := match k with
  | .i64 => (-9223372036854775808 ≤ n ∧ n ≤ 9223372036854775807) ∧ c (.int .i64 n)
  | k => c (.int k (k.wrap n))
theorem fits_iff {k : IntKind} {n : Int} {c : D → Prop} (h : fits k n c) : c (.int k (k.wrap n)) := by
  cases k <;> simp only [fits] at h <;> try exact h
  obtain ⟨⟨h1, h2⟩, h3⟩ := h
  have e : IntKind.i64.wrap n = n := by rw [IntKind.wrap_i64]; omega
  rwa [e]

def vbin (op : BinOp) (x y : D) (k : D → Prop) : Prop := match op with
  | .eql => match deq x y with
    | some b => k (.bool b)
    | none => False
  | .neq => match deq x y with
    | some b => k (.bool !b)
    | none => False
  | .shl => match x, y with
    | .int q a, .int _ b => 0 ≤ b ∧ fits q (a * 2 ^ (min b.toNat q.bits)) k
    | _, _ => False
  | .shr => match x, y with
    | .int q a, .int _ b => 0 ≤ b ∧ k (.int q (a.fdiv (2 ^ (min b.toNat q.bits))))
    | _, _ => False
  | op => match x, y with
    | .int q a, .int q' b => bif keq q q' then (match op with
      | .lss => k (.bool (decide (a < b)))
      | .leq => k (.bool (decide (a ≤ b)))
      | .gtr => k (.bool (decide (b < a)))
      | .geq => k (.bool (decide (b ≤ a)))
      | .add => fits q (a + b) k
      | .sub => fits q (a - b) k
      | .mul => fits q (a * b) k
      | .quo => b ≠ 0 ∧ fits q (a.tdiv b) k
      | .rem => b ≠ 0 ∧ k (.int q (a.tmod b))
      | .or => k (.int q (bits .or q a b))
      | .and => k (.int q (bits .and q a b))
      | _ => False) else False
    | _, _ => False

section
variable {P : Program} {o : Oper} {a : Act} {w : World}

/-- Every function is let in; a plain frame, or one of a round. -/
def FW (r : Option Nat) : Fence := { fn := fun _ => True, depth := none, alive := false, round := r }
theorem FW_none : FW none = Fence.wide := rfl
theorem FW_some (l : Nat) : FW (some l) = Fence.wide.inRound l := rfl
theorem callsIn_FW {r : Option Nat} {n : Nat} {f : FuncId} {args : Array Value} {R : Ending → World → Prop} : CallsIn (FW r) n P f args w R ↔ Calls P f args w R := callsIn_wide (n := n)

/-- One operation: whatever is asked of what follows, it is asked of its value and world alone. -/
def Does (P : Program) (o : Oper) (a : Act) (w : World) (Q : Value → World → Prop) : Prop :=
  ∀ (r : Option Nat) (n : Nat) (K : Act → World → Prop) Q', (∀ v w', Q v w' → K (a.put o.dst v) w') → o.wpIn (FW r) n P a w K Q'
theorem run_at {r : Option Nat} (h : ∀ c, o.op ≠ .defer c) : (o.semAt r a.eval).run P w = (execOp a.eval o).run P w := by rw [Oper.semAt_eq r _ _ h]
theorem not_defer {d : Next} {w' : World} (h : (execOp a.eval o).run P w = .ok d w') (hd : ∀ x, d ≠ .defer x) : ∀ c, o.op ≠ .defer c := fun c hc => by
  simp only [execOp, hc, Sem.run_bind] at h
  cases hr : (resolve a.eval c o.type).run P w with
  | ok x w2 =>
    rw [hr] at h
    simp only [Result.andThen_ok, Sem.run_pure] at h
    injection h with h1 h2
    exact hd _ h1.symm
  | halt x w2 => rw [hr] at h; cases h
theorem does_ok {v : Value} {w' : World} {Q : Value → World → Prop} (h : (execOp a.eval o).run P w = .ok (.value v) w') (q : Q v w') : Does P o a w Q := by
  intro r n K Q' hK
  refine ⟨fun _ _ => trivial, ?_⟩
  rw [run_at (not_defer h fun x e => by cases e), h]
  exact hK _ _ q
theorem does_skip {w' : World} {Q : Value → World → Prop} (h : (execOp a.eval o).run P w = .ok .skip w') (q : Q undef w') : Does P o a w Q := by
  intro r n K Q' hK
  refine ⟨fun _ _ => trivial, ?_⟩
  rw [run_at (not_defer h fun x e => by cases e), h]
  exact hK _ _ q

def Post (S : Nat → Prop) (w : World) (μ : Mu) (H : HL) (k : D → HL → Prop) (v : Value) (w' : World) : Prop :=
  ∃ S' μ' d H', k d H' ∧ R S' w' μ' d v ∧ RelL S' w' μ' H' ∧ Tr S w μ (hget H) S' w' μ' (hget H')

variable {S : Nat → Prop} {μ : Mu} {H : HL} {k : D → HL → Prop}
theorem Post.same {d : D} {v : Value} (hr : RelL S w μ H) (hk : k d H) (h : R S w μ d v) : Post S w μ H k v w := ⟨S, μ, d, H, hk, h, hr, .refl ..⟩

theorem run_sizeOf {t n : Nat} (h : szOf P t n) (w : World) : (sizeOf t).run P w = .ok n w := by
  unfold szOf at h
  cases hi : P.info? t with
  | none => simp [hi] at h
  | some i =>
    simp [hi] at h
    simp [sizeOf, typeInfo, hi, h]
theorem run_isAgg_plain {t : Nat} {d : TypeDesc} (h : P.underlying t = some d) (hp : plainT d = true) (w : World) : (isAgg t).run P w = .ok false w := by
  simp only [isAgg, Sem.run_bind, run_underlying h, Result.andThen_ok]
  cases d <;> first | rfl | cases hp

/-- The cells of a type that is one cell. -/
def Ty.one : Ty → Bool
  | .struct _ _ | .array _ _ _ _ | .no => false
  | _ => true
theorem tyOK.plain {t : Nat} {T : Ty} (h : tyOK P t T) (h1 : T.one = true) : ∃ d, P.underlying t = some d ∧ plainT d = true := by
  cases T <;> (try (cases h1; done)) <;> simp only [tyOK] at h <;> first | exact ⟨_, h.1, rfl⟩ | exact h.1 | (obtain ⟨⟨ms, h⟩, _⟩ := h; exact ⟨_, h, rfl⟩)
theorem tyOK.size1 {t : Nat} {T : Ty} (h : tyOK P t T) (h1 : T.one = true) : szOf P t 1 := by
  cases T <;> (try (cases h1; done)) <;> simp only [tyOK] at h <;> first | exact h.2 | exact h.2.1

/-- The type that an equality asks for. -/
def eqTy (T : Ty) (x y : D) : Bool := match x, y with
  | .int _ _, .int _ _ => true
  | .str _, .str _ => true
  | .iface _ _, .nilI => match T with | .iface => true | _ => false
  | .nilI, .iface _ _ => match T with | .iface => true | _ => false
  | _, _ => match T with | .bool => true | _ => false

theorem toList_beq (a b : ByteArray) : (a.toList == b.toList) = decide (a = b) := by
  by_cases h : a = b
  · subst h; simp
  · have h2 : a.toList ≠ b.toList := fun e => h (by
      rw [ByteArray.toList_eq, ByteArray.toList_eq] at e
      obtain ⟨x⟩ := a
      obtain ⟨y⟩ := b
      exact congrArg ByteArray.mk (Array.toList_inj.1 e))
    rw [beq_eq_false_iff_ne.2 h2, decide_eq_false h]
theorem run_equalIn_nilR (d : Nat) {t : Nat} {ms} (hu : P.underlying t = some (.interface ms)) (u : Nat) (x : Value) : (Op.equalIn (d + 1) t (.iface u x) .nilIface).run P w = .ok false w := by
  simp [Op.equalIn, run_underlying hu]
theorem run_equalIn_nilL (d : Nat) {t : Nat} {ms} (hu : P.underlying t = some (.interface ms)) (u : Nat) (x : Value) : (Op.equalIn (d + 1) t .nilIface (.iface u x)).run P w = .ok false w := by
  simp [Op.equalIn, run_underlying hu]
theorem run_eq_of {t : Nat} {x y : Value} {cx cy : Operand} {b : Bool} (hg : ∀ op, eqGuard op t cx cy x y = Pure.pure ()) (h1 : binOp .eql t x y = do Pure.pure (.bool (← Op.equal t x y)))
    (h2 : binOp .neq t x y = do Pure.pure (.bool (!(← Op.equal t x y)))) (h : (Op.equalIn (9999 + 1) t x y).run P w = .ok b w) :
    (do eqGuard .eql t cx cy x y; binOp .eql t x y : Sem Value).run P w = .ok (.bool b) w ∧ (do eqGuard .neq t cx cy x y; binOp .neq t x y : Sem Value).run P w = .ok (.bool !b) w := by
  rw [hg, hg, h1, h2]
  have h' : (Op.equal t x y).run P w = .ok b w := h
  constructor <;> simp only [Sem.run_bind, Sem.run_pure, Result.andThen_ok, h']

theorem run_deq {t : Nat} {T : Ty} {x y : D} {vx vy : Value} {cx cy : Operand} {b : Bool} (hx : R S w μ x vx) (hy : R S w μ y vy) (h : deq x y = some b) (hT : tyOK P t T) (ht : eqTy T x y = true) :
    (do eqGuard .eql t cx cy vx vy; binOp .eql t vx vy : Sem Value).run P w = .ok (.bool b) w ∧ (do eqGuard .neq t cx cy vx vy; binOp .neq t vx vy : Sem Value).run P w = .ok (.bool !b) w := by
  have hb : ∀ a b : Bool, P.underlying t = some .bool → (do eqGuard .eql t cx cy (.bool a) (.bool b); binOp .eql t (.bool a) (.bool b) : Sem Value).run P w = .ok (.bool (a == b)) w ∧
      (do eqGuard .neq t cx cy (.bool a) (.bool b); binOp .neq t (.bool a) (.bool b) : Sem Value).run P w = .ok (.bool !(a == b)) w := fun a b hu =>
    run_eq_of (fun op => eqGuard_at_bool _ _ _ _ _ _) rfl rfl (run_equalIn_bool w _ t a b hu)
  have hnil : ∀ u v', (∃ ms, P.underlying t = some (.interface ms)) → (do eqGuard .eql t cx cy (.iface u v') .nilIface; binOp .eql t (.iface u v') .nilIface : Sem Value).run P w = .ok (.bool false) w ∧
      (do eqGuard .neq t cx cy (.iface u v') .nilIface; binOp .neq t (.iface u v') .nilIface : Sem Value).run P w = .ok (.bool !false) w := fun u v' ⟨ms, hu⟩ =>
    run_eq_of (fun op => eqGuard_at_iface _ _ _ _ _ _ _) rfl rfl (run_equalIn_nilR _ hu _ _)
  have hnil' : ∀ u v', (∃ ms, P.underlying t = some (.interface ms)) → (do eqGuard .eql t cx cy .nilIface (.iface u v'); binOp .eql t .nilIface (.iface u v') : Sem Value).run P w = .ok (.bool false) w ∧
      (do eqGuard .neq t cx cy .nilIface (.iface u v'); binOp .neq t .nilIface (.iface u v') : Sem Value).run P w = .ok (.bool !false) w := fun u v' ⟨ms, hu⟩ =>
    run_eq_of (fun op => eqGuard_nil_iface _ _ _ _ _ _) rfl rfl (run_equalIn_nilL _ hu _ _)
  have hu : T = .bool → P.underlying t = some .bool := fun e => by subst e; exact hT.1
  have hi : T = .iface → ∃ ms, P.underlying t = some (.interface ms) := fun e => by subst e; exact hT.1
  cases hx <;> cases hy <;> simp only [deq, reduceCtorEq] at h
  case int.int k a k' b =>
    cases hk : keq k k' with
    | false => simp [hk] at h
    | true =>
      obtain rfl := keq_eq hk
      simp only [hk, cond_true, Option.some.injEq] at h
      subst h
      simp [go_sem, bne]
      constructor <;> rfl
  case str.str a b =>
    simp only [Option.some.injEq] at h
    subst h
    simp [go_sem, binOp, Op.stringOp, toList_beq]
  all_goals (simp only [Option.some.injEq] at h; subst h)
  all_goals cases T <;> first | (cases ht; done) | skip
  all_goals first
    | exact hnil _ _ (hi rfl)
    | exact hnil' _ _ (hi rfl)
    | exact hb true true (hu rfl)
    | exact hb true false (hu rfl)
    | exact hb false true (hu rfl)
    | exact hb false false (hu rfl)
    | exact hb _ _ (hu rfl)
    | (rename_i b; cases b <;> first | exact hb true true (hu rfl) | exact hb true false (hu rfl) | exact hb false true (hu rfl) | exact hb false false (hu rfl))
end
end Go.V
end
section
set_option linter.unusedVariables false
set_option linter.unusedSimpArgs false
namespace Go.V

def aggSize : Ty → Option Nat
  | .struct n _ => some n
  | .array _ _ _ n => some n
  | _ => none

/-- What is loaded, as a type, from a row of n cells that is only read. -/
def vfrom (T : Ty) (n : Nat) (g : Nat → D) (k : D → Prop) : Prop := match aggSize T with
  | some c => bif Nat.ble c n then fzl ((List.range c).map g) fun l => k (.agg l) else False
  | none => bif T.one && Nat.ble 1 n then fz (g 0) k else False

def vload (T : Ty) (d : D) (H : HL) (k : D → Prop) : Prop := match d with
  | .eptr n g => vfrom T n g k
  | .ptr o off => match hget H o with
    | some (.row cs) => vfrom T (cs.length - off) (fun j => cs.getD (off + j) .top) k
    | _ => False
  | .optr o n s i j => match hget H o with
    | some (.buf _ size m g) => (n = m ∧ i < m) ∧ (bif Nat.beq s size then vfrom T (size - j) (fun x => g i (j + x)) k else False)
    | _ => False
  | _ => False

section
variable {P : Program} {o : Oper} {a : Act} {w : World} {S : Nat → Prop} {μ : Mu} {H : HL}

theorem tyOK.agg {t : Nat} {T : Ty} {c : Nat} (h : tyOK P t T) (hc : aggSize T = some c) : szOf P t c ∧ ∃ d, P.underlying t = some d ∧ plainT d = false := by
  cases T <;> simp only [aggSize, reduceCtorEq, Option.some.injEq] at hc <;> subst hc <;> simp only [tyOK] at h
  · obtain ⟨f, h1, h2, _⟩ := h; exact ⟨h2, _, h1, rfl⟩
  · exact ⟨h.2.1, _, h.1, rfl⟩

theorem run_isAgg_agg {t : Nat} {d : TypeDesc} (h : P.underlying t = some d) (hp : plainT d = false) (w : World) : (isAgg t).run P w = .ok true w := by
  simp only [isAgg, Sem.run_bind, run_underlying h, Result.andThen_ok]
  cases d <;> first | rfl | cases hp

/-- The one theorem on loads: the cells at an address are known. -/
theorem run_load_cells {t : Nat} {T : Ty} {n : Nat} {g : Nat → D} {val : Nat → Value} {b off : Nat} {K : D → Prop} (hT : tyOK P t T)
    (hc : ∀ j, j < n → w.cell? ⟨b, off + j, none⟩ = some (val j)) (hr : ∀ j, j < n → R S w μ (g j) (val j)) (h : vfrom T n g K) :
    ∃ d v, (Instr.loadAt t (.pointer (some ⟨b, off, none⟩))).run P w = .ok v w ∧ R S w μ d v ∧ K d := by
  unfold vfrom at h
  cases ha : aggSize T with
  | some c =>
    obtain ⟨hs, d, hu, hp⟩ := hT.agg ha
    simp only [ha] at h
    cases hn : Nat.ble c n with
    | false => simp [hn] at h
    | true =>
      have hcn : c ≤ n := Nat.le_of_ble_eq_true hn
      simp only [hn, cond_true, fzl_iff] at h
      refine ⟨_, .agg ((List.range c).map val).toArray, ?_, .agg _ _ (by simp) (fun i d v h1 h2 => ?_), h⟩
      · have hl := run_loadCells (P := P) w ⟨b, off, none⟩ c val (fun j hj => by rw [Addr.add_lit]; exact hc j (by omega))
        simp [Instr.loadAt, Instr.sureAddr, loadVar, run_isAgg_agg hu hp, run_sizeOf hs, hl]
      · simp only [List.getElem?_map, List.getElem?_toArray] at h1 h2
        by_cases hi : i < c
        · simp [hi] at h1 h2
          subst h1; subst h2
          exact hr i (by omega)
        · simp [Nat.le_of_not_lt hi] at h1
  | none =>
    simp only [ha] at h
    cases h1 : T.one with
    | false => simp [h1] at h
    | true =>
      cases hn : Nat.ble 1 n with
      | false => simp [h1, hn] at h
      | true =>
        have hn1 : 1 ≤ n := Nat.le_of_ble_eq_true hn
        simp only [h1, hn, Bool.and_self, cond_true, fz_iff] at h
        obtain ⟨d, hu, hp⟩ := hT.plain h1
        have hc0 := hc 0 (by omega)
        rw [Nat.add_zero] at hc0
        refine ⟨_, val 0, ?_, hr 0 (by omega), h⟩
        simp [Instr.loadAt, Instr.sureAddr, loadVar, run_isAgg_plain hu hp, hc0]

theorem R.of0 {d : D} {v : Value} (h : R S w Mu0 d v) : R S w μ d v := h.keep (fun _ hb => hb) (fun _ _ => rfl) (fun _ _ h => by cases h)

theorem row_cell {b : Nat} {cells : Array Value} {T : Nat} {f : Nat × Nat} (h : w.heap[b]? = some (.cells cells T f)) (j : Nat) : w.cell? ⟨b, j, none⟩ = cells[j]? := cell_of_row w b j cells T f h

theorem own_cell {b e size n : Nat} {mv : Value} {xs : List Value} {m c : Nat} (h : w.ownsRow 0 e size mv n xs) (he : mv = .slice (some ⟨b, 0, none⟩) m c) (j : Nat) (v : Value) (hj : xs[j]? = some v) : w.cell? ⟨b, j, none⟩ = some v := by
  have := h.cells (g := b) (by rw [he]; rfl) j v hj
  rwa [Addr.add_lit, Nat.zero_add] at this

theorem sound_load {t : Nat} {T : Ty} {d : D} {v : Value} {K : D → Prop} (hT : tyOK P t T) (hr : RelL S w μ H) (hd : R S w μ d v) (h : vload T d H K) :
    ∃ d' v', (Instr.loadAt t v).run P w = .ok v' w ∧ R S w μ d' v' ∧ K d' := by
  cases hd <;> simp only [vload] at h
  case eptr n g b off val hb hc hv => exact run_load_cells hT (fun j hj => (hc j hj).1) (fun j hj => (hv j hj).of0) h
  case ptr o off b hm =>
    cases ho : hget H o with
    | none => simp [ho] at h
    | some ob =>
      cases ob with
      | buf _ _ _ _ => simp [ho] at h
      | mp _ => simp [ho] at h
      | lp _ _ => simp [ho] at h
      | dead => simp [ho] at h
      | row cs =>
        simp only [ho] at h
        obtain ⟨mv, h1, b', cells, T', e, hheap, hlen, hcs, _⟩ := hr.1.obs o _ ho
        rw [hm] at h1
        injection h1 with h1
        subst h1
        injection e with e
        injection e with e
        injection e with e
        subst e
        refine run_load_cells (val := fun j => cells.getD (off + j) undef) hT (fun j hj => ?_) (fun j hj => ?_) h
        · have hlt : off + j < cells.size := by omega
          simp [row_cell hheap, Array.getD, hlt]
        · have hlt : off + j < cells.size := by omega
          have hlt' : off + j < cs.length := by omega
          exact hcs (off + j) _ _ (by simp [List.getElem?_eq_getElem hlt']) (by simp [Array.getD, hlt])
  case optr o n s i j A m c b hn hv hm =>
    cases ho : hget H o with
    | none => simp [ho] at h
    | some ob =>
      cases ob with
      | row cs => simp [ho] at h
      | mp _ => simp [ho] at h
      | lp _ _ => simp [ho] at h
      | dead => simp [ho] at h
      | buf e size m' g =>
        simp only [ho] at h
        obtain ⟨⟨hnm, him⟩, h⟩ := h
        cases hs : Nat.beq s size with
        | false => simp [hs] at h
        | true =>
          have hss : s = size := Nat.eq_of_beq_eq_true hs
          simp only [hs, cond_true] at h
          obtain ⟨mv, h1, xs, hown, hx⟩ := hr.1.obs o _ ho
          rw [hm] at h1
          injection h1 with h1
          have hm' : m = m' := by
            rcases hown.2 with ⟨e1, e2⟩ | ⟨b, cap, cur, e1, _⟩
            · rw [← h1] at e1; injection e1 with _ e1 _; omega
            · rw [← h1] at e1; injection e1
          have hA := hv (by omega)
          subst hss
          refine run_load_cells (val := fun x => xs.getD (i * s + (j + x)) undef) hT (fun x hx' => ?_) (fun x hx' => ?_) h
          · obtain ⟨u, hu, _, _⟩ := hx i (j + x) (by omega) (by omega)
            rw [Nat.add_assoc]
            exact own_cell hown (by rw [← h1, hA]) _ _ (by simp [hu])
          · obtain ⟨u, hu, _, hur⟩ := hx i (j + x) (by omega) (by omega)
            simp only [List.getD_eq_getElem?_getD, hu, Option.getD_some]
            exact hur.of0

def vfield (T : Ty) (d : D) (f : Nat) (k : D → Prop) : Prop := match T with
  | .struct _ fs => match fs[f]? with
    | some x => match d with
      | .ptr o off => k (.ptr o (off + x.1))
      | .eptr n g => bif Nat.ble x.1 n then k (.eptr (n - x.1) fun j => g (x.1 + j)) else False
      | .optr o n s i j => k (.optr o n s i (j + x.1))
      | _ => False
    | none => False
  | _ => False

theorem run_fieldAt {t f : Nat} {fields : Array Field} {fd : Field} {b off n : Nat} (hu : P.underlying t = some (.struct fields)) (hf : fields[f]? = some fd) (hs : szOf P fd.type n) (hn : n ≠ 0) :
    (Instr.fieldAt t (.pointer (some ⟨b, off, none⟩)) f).run P w = .ok (.pointer (some ⟨b, off + fd.offset, none⟩)) w := by
  simp [Instr.fieldAt, run_underlying hu, hf, Instr.sureAddr, fieldPlace, run_sizeOf hs, hn, Addr.add_lit]

theorem sound_field {t f : Nat} {T : Ty} {d : D} {v : Value} {K : D → Prop} (hT : tyOK P t T) (hr : RelL S w μ H) (hd : R S w μ d v) (h : vfield T d f K) :
    ∃ d' v', (Instr.fieldAt t v f).run P w = .ok v' w ∧ R S w μ d' v' ∧ K d' := by
  cases T <;> simp only [vfield] at h
  case struct sz fs =>
    obtain ⟨fields, hu, _, hfs, _⟩ := hT
    cases hx : fs[f]? with
    | none => simp [hx] at h
    | some x =>
      obtain ⟨fd, hf, ho, ht, hsz, hne⟩ := hfs f x hx
      simp only [hx] at h
      cases hd <;> simp only at h
      case ptr o off b hm => exact ⟨_, _, run_fieldAt hu hf hsz hne, by rw [ho]; exact .ptr o (off + x.1) b hm, h⟩
      case eptr n g b off val hb hc hv =>
        cases hn : Nat.ble x.1 n with
        | false => simp [hn] at h
        | true =>
          have hxn : x.1 ≤ n := Nat.le_of_ble_eq_true hn
          simp only [hn, cond_true] at h
          refine ⟨_, _, run_fieldAt hu hf hsz hne, ?_, h⟩
          rw [ho]
          exact .eptr _ _ b (off + x.1) (fun j => val (x.1 + j)) hb (fun j hj => by rw [Nat.add_assoc]; exact hc _ (by omega)) (fun j hj => hv _ (by omega))
      case optr o n s i j A m c b hn hv hm =>
        refine ⟨_, _, run_fieldAt hu hf hsz hne, ?_, h⟩
        rw [ho, Nat.add_assoc]
        exact .optr o n s i (j + x.1) A m c b hm hn hv
end
end Go.V
end
section
set_option linter.unusedVariables false
set_option linter.unusedSimpArgs false
namespace Go.V

def tsz : Ty → Nat
  | .struct n _ => n
  | .array _ _ _ n => n
  | .no => 0
  | _ => 1
def Ty.known : Ty → Bool
  | .no => false
  | _ => true
def cellsD : D → List D
  | .agg l => l
  | d => [d]
def splice (cs : List D) (off : Nat) (xs : List D) : List D := cs.take off ++ xs ++ cs.drop (off + xs.length)
/-- Needs no object of the abstract heap; fits one cell. -/
def noRef1 : D → Bool
  | .tt | .ff | .int _ _ | .bool _ | .str _ | .rsl _ _ _ | .eptr _ _ | .nilI | .nilS => true
  | _ => false

section
variable {P : Program} {o : Oper} {a : Act} {w : World} {S : Nat → Prop} {μ : Mu} {H : HL}

theorem tyOK.sz {t : Nat} {T : Ty} (h : tyOK P t T) (hk : T.known = true) : szOf P t (tsz T) := by
  cases T
  case struct n fs => obtain ⟨_, _, h, _⟩ := h; exact h
  case array n e es sz => obtain ⟨_, h, _⟩ := h; exact h
  case slice e es eb => obtain ⟨_, h, _⟩ := h; exact h
  case map ks ek k e => obtain ⟨_, h, _⟩ := h; exact h
  case no => cases hk
  all_goals (obtain ⟨_, h⟩ := h; exact h)

theorem noRef1_R {d : D} {v : Value} (h : R S w μ d v) (hn : noRef1 d = true) : R S w Mu0 d v := by
  cases h <;> first
    | (cases hn; done)
    | exact .tt | exact .ff | exact .int _ _ | exact .bool _ | exact .str _ | exact .nilI | exact .nilS
    | (constructor <;> assumption)

theorem cells_R {d : D} {v : Value} (h : R S w μ d v) (h1 : (cellsD d).all one = true) :
    (cellsD d).length = v.cells.size ∧ (∀ (j : Nat) x u, (cellsD d)[j]? = some x → v.cells[j]? = some u → R S w μ x u) ∧ ∀ u ∈ v.cells.toList, u.oneCell' = true := by
  by_cases ha : ∃ cs, d = .agg cs
  · obtain ⟨cs, rfl⟩ := ha
    cases h with
    | agg _ vs hl hr =>
      refine ⟨hl, hr, fun u hu => ?_⟩
      obtain ⟨j, hj, rfl⟩ := List.getElem_of_mem hu
      have hj' : j < vs.size := by simpa [Value.cells] using hj
      have hjc : j < cs.length := by omega
      have := hr j cs[j] vs[j] (by simp [hjc]) (by simp [hj'])
      exact this.one (by
        have := List.all_eq_true.1 h1 cs[j] (List.getElem_mem hjc)
        exact this)
  · have e : cellsD d = [d] := by
      cases d <;> first | rfl | exact absurd ⟨_, rfl⟩ ha
    rw [e] at h1
    have h1' : one d = true := by simpa using h1
    have hv := h.one h1'
    have ev : v.cells = #[v] := by cases v <;> first | rfl | cases hv
    rw [e, ev]
    refine ⟨rfl, fun j x u hx hu => ?_, fun u hu => by simp at hu; subst hu; exact hv⟩
    cases j with
    | zero => simp at hx hu; subst hx; subst hu; exact h
    | succ j => simp at hx

theorem getElem?_splice (cs : List D) (off : Nat) (xs : List D) (h : off + xs.length ≤ cs.length) (i : Nat) :
    (splice cs off xs)[i]? = if off ≤ i ∧ i < off + xs.length then xs[i - off]? else cs[i]? := by
  unfold splice
  rw [List.getElem?_append, List.getElem?_append]
  simp only [List.length_append, List.length_take, Nat.min_eq_left (show off ≤ cs.length by omega), List.getElem?_take, List.getElem?_drop]
  by_cases h1 : i < off
  · have h2 : ¬ (off ≤ i ∧ i < off + xs.length) := by omega
    rw [if_pos (by omega), if_pos h1, if_pos h1, if_neg h2]
  · by_cases h2 : i < off + xs.length
    · rw [if_pos h2, if_neg h1, if_pos ⟨by omega, h2⟩]
    · rw [if_neg h2, if_neg (by omega)]
      congr 1
      omega
theorem length_splice (cs : List D) (off : Nat) (xs : List D) (h : off + xs.length ≤ cs.length) : (splice cs off xs).length = cs.length := by
  unfold splice
  simp only [List.length_append, List.length_take, List.length_drop]
  omega

theorem getElem?_vsplice (cur : Array Value) (off : Nat) (vs : List Value) (h : off + vs.length ≤ cur.size) (i : Nat) :
    ((cur.toList.take off ++ vs ++ cur.toList.drop (off + vs.length)).toArray)[i]? = if off ≤ i ∧ i < off + vs.length then vs[i - off]? else cur[i]? := by
  have hl : off ≤ cur.toList.length := by simp; omega
  simp only [List.getElem?_toArray]
  rw [List.getElem?_append, List.getElem?_append]
  simp only [List.length_append, List.length_take, Nat.min_eq_left hl, List.getElem?_take, List.getElem?_drop]
  by_cases h1 : i < off
  · have h2 : ¬ (off ≤ i ∧ i < off + vs.length) := by omega
    rw [if_pos (by omega), if_pos h1, if_pos h1, if_neg h2]
    simp
  · by_cases h2 : i < off + vs.length
    · rw [if_pos h2, if_neg h1, if_pos ⟨by omega, h2⟩]
    · rw [if_neg h2, if_neg (by omega)]
      rw [show off + vs.length + (i - (off + vs.length)) = i by omega]
      simp

/-- A new row of cells. -/
theorem new_row (hr : RelL S w μ H) {nid : Nat} (hno : μ nid = none) (hle : nid ≤ H.length) (cells : Array Value) (T : Nat) (cs : List D) (hl : cells.size = cs.length) (hR : ∀ (i : Nat) d v, cs[i]? = some d → cells[i]? = some v → R S w μ d v)
    (h1 : ∀ (i : Nat) v, cells[i]? = some v → v.oneCell' = true) :
    RelL S (w.alloc (.cells cells T)) (updM μ nid (.pointer (some ⟨w.heap.size, 0, none⟩))) (hnew H nid (.row cs)) ∧
      Tr S w μ (hget H) S (w.alloc (.cells cells T)) (updM μ nid (.pointer (some ⟨w.heap.size, 0, none⟩))) (hget (hnew H nid (.row cs))) ∧
      R S (w.alloc (.cells cells T)) (updM μ nid (.pointer (some ⟨w.heap.size, 0, none⟩))) (.ptr nid 0) (.pointer (some ⟨w.heap.size, 0, none⟩)) := by
  have hmu : MuLe μ (updM μ nid (.pointer (some ⟨w.heap.size, 0, none⟩))) := fun o v hv => by
    by_cases e : o = nid
    · subst e; rw [hno] at hv; cases hv
    · exact ⟨v, by simp [updM, e, hv], .refl v⟩
  have hblk : ∀ b, b < w.heap.size → (w.alloc (.cells cells T)).heap[b]? = w.heap[b]? := fun b hb => RowKit.Below.heap_alloc w _ b hb
  have hput := hr.1.put (o := nid) (ob := .row cs) (mv := .pointer (some ⟨w.heap.size, 0, none⟩)) (w' := w.alloc (.cells cells T)) rfl rfl rfl (by simp) (fun b hb _ => hblk b hb)
    (fun v hv => by rw [hno] at hv; cases hv) (fun b hb => by simp only [blk, Option.some.injEq] at hb; exact .inl (by omega))
    ⟨w.heap.size, cells, T, rfl, heap_alloc_new w _, hl, fun i d v h2 h3 => (hR i d v h2 h3).keep (fun _ h => h) (fun b hb => hblk b (hr.1.stat b hb).1) hmu, h1⟩ (fun _ => hno)
  exact ⟨hr.new hle hput.1, by rw [hget_new _ hle]; exact hput.2, .ptr _ _ w.heap.size (by simp [updM])⟩

/-- A row is turned. -/
theorem set_row (hr : RelL S w μ H) {oid b off : Nat} {cs xs : List D} {vs : List Value} (ho : hget H oid = some (.row cs)) (hm : μ oid = some (.pointer (some ⟨b, 0, none⟩))) (hfit : off + xs.length ≤ cs.length)
    (hl : xs.length = vs.length) (hR : ∀ (j : Nat) x u, xs[j]? = some x → vs[j]? = some u → R S w μ x u) (h1 : ∀ u ∈ vs, u.oneCell' = true) :
    ∃ w', (storeCells ⟨b, off, none⟩ vs 0).run P w = .ok () w' ∧ RelL S w' μ (H.set oid (some (.row (splice cs off xs)))) ∧ Tr S w μ (hget H) S w' μ (hget (H.set oid (some (.row (splice cs off xs))))) := by
  obtain ⟨mv, hm', b', cells, T, e, hheap, hlen, hcs, hone⟩ := hr.1.obs oid _ ho
  rw [hm] at hm'
  injection hm' with hm'
  subst hm'
  injection e with e
  injection e with e
  injection e with e
  subst e
  have hoid : oid < H.length := by
    rcases Nat.lt_or_ge oid H.length with h | h
    · exact h
    · simp [hget, List.getElem?_eq_none h] at ho
  have hst := run_storeCells_at P b off T vs 0 cells w hheap (by omega) h1
  simp only [Nat.add_zero] at hst
  have hupd : updM μ oid (.pointer (some ⟨b, 0, none⟩)) = μ := by
    funext o'
    unfold updM
    split
    · rename_i h; rw [h, hm]
    · rfl
  refine ⟨_, hst, ?_⟩
  have hother : ∀ k, k ≠ b → (w.setRow b (cells.toList.take off ++ vs ++ cells.toList.drop (off + vs.length)).toArray).heap[k]? = w.heap[k]? := fun k hk => setRow_other w b k _ hk
  have hnb : ∀ k, S k → k ≠ b := fun k hk e => (hr.1.stat k hk).2 oid _ _ ho hm (by simp [blk, e])
  have hput := hr.1.put (o := oid) (ob := .row (splice cs off xs)) (mv := .pointer (some ⟨b, 0, none⟩)) (w' := w.setRow b (cells.toList.take off ++ vs ++ cells.toList.drop (off + vs.length)).toArray) rfl rfl rfl (by simp)
    (fun k hk hno => hother k (fun e => hno _ _ ho hm (by simp [blk, e]))) (fun v hv => by rw [hm] at hv; injection hv with hv; subst hv; exact .refl _)
    (fun k hk => .inr ⟨_, _, ho, hm, hk⟩)
    ⟨b, _, T, rfl, setRow_heap w b cells _ T _ hheap, by simp [length_splice _ _ _ hfit]; omega, fun i d v h2 h3 => by
      rw [hupd]
      rw [getElem?_splice _ _ _ hfit] at h2
      rw [getElem?_vsplice _ _ _ (by omega)] at h3
      have hk : R S w μ d v := by
        by_cases hi : off ≤ i ∧ i < off + xs.length
        · rw [if_pos hi] at h2
          rw [if_pos (by omega)] at h3
          exact hR _ _ _ h2 h3
        · rw [if_neg hi] at h2
          rw [if_neg (by omega)] at h3
          exact hcs _ _ _ h2 h3
      exact hk.keep (fun _ h => h) (fun k hk => hother k (hnb k hk)) (.refl _), fun i v h3 => by
      rw [getElem?_vsplice _ _ _ (by omega)] at h3
      split at h3
      · exact h1 v (List.mem_of_getElem? h3)
      · exact hone i v h3⟩ (fun e => by rw [ho] at e; cases e)
  rw [hupd] at hput
  rw [hget_set _ _ _ hoid]
  refine ⟨⟨by rw [hget_set _ _ _ hoid]; exact hput.1, fun o ho' => hr.2 o (by simpa using ho')⟩, hput.2⟩
end
end Go.V
end
section
set_option linter.unusedVariables false
set_option linter.unusedSimpArgs false
namespace Go.V

/-- The parts of a literal laid over its cells. -/
def vfillB (place : Nat → Option (Nat × Nat)) (p : Nat × D) (ih : List D → Prop) (cs : List D) : Prop := match place p.1 with
  | none => False
  | some (off, size) => bif Nat.beq (cellsD p.2).length size && (cellsD p.2).all one && Nat.ble (off + size) cs.length then ih (splice cs off (cellsD p.2)) else False
def vfill (place : Nat → Option (Nat × Nat)) (k : List D → Prop) (cs : List D) (l : List (Nat × D)) : Prop := @List.rec (Nat × D) (fun _ => List D → Prop) k (fun p _ ih => vfillB place p ih) l cs
theorem vfill_cons (place : Nat → Option (Nat × Nat)) (k : List D → Prop) (cs : List D) (p : Nat × D) (r : List (Nat × D)) : vfill place k cs (p :: r) = vfillB place p (fun cs => vfill place k cs r) cs := rfl

section
variable {P : Program} {o : Oper} {a : Act} {w : World} {S : Nat → Prop} {μ : Mu} {H : HL}

/-- Cells that read as abstract cells. -/
def CR (S : Nat → Prop) (w : World) (μ : Mu) (cs : List D) (vs : Array Value) : Prop :=
  vs.size = cs.length ∧ (∀ (i : Nat) d v, cs[i]? = some d → vs[i]? = some v → R S w μ d v) ∧ ∀ (i : Nat) v, vs[i]? = some v → v.oneCell' = true

theorem foldl_set (off : Nat) : ∀ (vs : List Value) (j : Nat) (cur : Array Value), off + j + vs.length ≤ cur.size →
    ((vs.zipIdx j).foldl (fun cs (x : Value × Nat) => cs.setIfInBounds (off + x.2) x.1) cur).size = cur.size ∧
      ∀ i, ((vs.zipIdx j).foldl (fun cs (x : Value × Nat) => cs.setIfInBounds (off + x.2) x.1) cur)[i]? = if off + j ≤ i ∧ i < off + j + vs.length then vs[i - (off + j)]? else cur[i]?
  | [], j, cur, _ => by
    refine ⟨rfl, fun i => ?_⟩
    rw [if_neg (by simp)]
    rfl
  | v :: vs, j, cur, h => by
    simp only [List.length_cons] at h
    obtain ⟨h1, h2⟩ := foldl_set off vs (j + 1) (cur.setIfInBounds (off + j) v) (by simp; omega)
    simp only [List.zipIdx_cons, List.foldl_cons]
    refine ⟨by rw [h1]; simp, fun i => ?_⟩
    rw [h2 i]
    simp only [List.length_cons]
    by_cases hi : off + j = i
    · subst hi
      rw [if_neg (by omega), if_pos (by omega)]
      have hlt : off + j < cur.size := by omega
      simp [hlt]
    · by_cases hi2 : off + j ≤ i ∧ i < off + j + (vs.length + 1)
      · rw [if_pos (by omega), if_pos hi2]
        rw [show i - (off + j) = (i - (off + (j + 1))) + 1 by omega]
        simp
      · rw [if_neg (by omega), if_neg hi2]
        simp [hi]

theorem CR.splice {cs : List D} {cur : Array Value} {v : Value} {off : Nat} {d : D} (h : CR S w μ cs cur) (hd : R S w μ d v) (h1 : (cellsD d).all one = true) (hfit : off + (cellsD d).length ≤ cs.length) :
    CR S w μ (splice cs off (cellsD d)) (v.cells.zipIdx.foldl (fun cs (x : Value × Nat) => cs.setIfInBounds (off + x.2) x.1) cur) := by
  obtain ⟨hl, hR, hone⟩ := cells_R hd h1
  have e : v.cells.zipIdx.foldl (fun cs (x : Value × Nat) => cs.setIfInBounds (off + x.2) x.1) cur = (v.cells.toList.zipIdx 0).foldl (fun cs (x : Value × Nat) => cs.setIfInBounds (off + x.2) x.1) cur := by
    rw [← Array.foldl_toList, Array.toList_zipIdx]
  have hlen : v.cells.toList.length = v.cells.size := by simp
  obtain ⟨g1, g2⟩ := foldl_set off v.cells.toList 0 cur (by have := h.1; omega)
  rw [e]
  refine ⟨by rw [g1, length_splice _ _ _ hfit]; exact h.1, fun i d' u hi hu => ?_, fun i u hu => ?_⟩
  · rw [getElem?_splice _ _ _ hfit] at hi
    rw [g2] at hu
    by_cases hc : off ≤ i ∧ i < off + (cellsD d).length
    · rw [if_pos hc] at hi
      rw [if_pos (by omega)] at hu
      exact hR _ _ _ hi (by simpa using hu)
    · rw [if_neg hc] at hi
      rw [if_neg (by omega)] at hu
      exact h.2.1 _ _ _ hi hu
  · rw [g2] at hu
    split at hu
    · exact hone u (List.mem_of_getElem? hu)
    · exact h.2.2 i u hu

theorem sound_fill {place : Nat → Option (Nat × Nat)} {K : List D → Prop} : ∀ (ps : List (Nat × D)) (vs : List (Nat × Value)) (cs : List D) (cur : Array Value),
    ps.map (·.1) = vs.map (·.1) → (∀ (j : Nat) p q, ps[j]? = some p → vs[j]? = some q → R S w μ p.2 q.2) → CR S w μ cs cur → vfill place K cs ps →
    ∃ cs' cur', Instr.fill place cur vs = some cur' ∧ CR S w μ cs' cur' ∧ K cs'
  | [], vs, cs, cur, he, _, hc, h => by
    cases vs with
    | nil => exact ⟨cs, cur, rfl, hc, h⟩
    | cons q vs => simp at he
  | (i, d) :: ps, vs, cs, cur, he, hr, hc, h => by
    cases vs with
    | nil => simp at he
    | cons q vs =>
      obtain ⟨i', v⟩ := q
      simp only [List.map_cons, List.cons.injEq] at he
      obtain ⟨rfl, he⟩ := he
      rw [vfill_cons] at h
      simp only [vfillB] at h
      cases hp : place i with
      | none => simp [hp] at h
      | some os =>
        obtain ⟨off, size⟩ := os
        simp only [hp] at h
        cases hb : (Nat.beq (cellsD d).length size && (cellsD d).all one && Nat.ble (off + size) cs.length) with
        | false => simp [hb] at h
        | true =>
          simp only [hb, cond_true] at h
          simp only [Bool.and_eq_true] at hb
          obtain ⟨⟨hb1, hb2⟩, hb3⟩ := hb
          have e1 : (cellsD d).length = size := Nat.eq_of_beq_eq_true hb1
          have e3 : off + size ≤ cs.length := Nat.le_of_ble_eq_true hb3
          have hd : R S w μ d v := hr 0 _ _ rfl rfl
          obtain ⟨hl, _, _⟩ := cells_R hd hb2
          have hc' := hc.splice (off := off) hd hb2 (by omega)
          obtain ⟨cs', cur', g1, g2, g3⟩ := sound_fill ps vs _ _ he (fun j p q h1 h2 => hr (j + 1) p q (by simpa using h1) (by simpa using h2)) hc' h
          refine ⟨cs', cur', ?_, g2, g3⟩
          simp only [Instr.fill, hp]
          rw [if_neg (by simp only [Bool.or_eq_true, decide_eq_true_eq]; have := hc.1; omega)]
          exact g1

/-- A slice literal: an object of its own. -/
theorem new_buf (hr : RelL S w μ H) {nid : Nat} (hno : μ nid = none) (hle : nid ≤ H.length) (cells : Array Value) {e n size : Nat} {cs : List D} (hn : cs.length = n * size) (hmax : n ≤ maxLen) (hc : CR S w μ cs cells) (h0 : ∀ d ∈ cs, noRef1 d = true ∨ d = .top) :
    RelL S (w.alloc (.cells cells e)) (updM μ nid (.slice (some ⟨w.heap.size, 0, none⟩) n n)) (hnew H nid (.buf e size n fun i j => cs.getD (i * size + j) .top)) ∧
      Tr S w μ (hget H) S (w.alloc (.cells cells e)) (updM μ nid (.slice (some ⟨w.heap.size, 0, none⟩) n n)) (hget (hnew H nid (.buf e size n fun i j => cs.getD (i * size + j) .top))) ∧
      R S (w.alloc (.cells cells e)) (updM μ nid (.slice (some ⟨w.heap.size, 0, none⟩) n n)) (.own nid n) (.slice (some ⟨w.heap.size, 0, none⟩) n n) := by
  have hblk : ∀ b, b < w.heap.size → (w.alloc (.cells cells e)).heap[b]? = w.heap[b]? := fun b hb => RowKit.Below.heap_alloc w _ b hb
  have hcs := hc.1
  have hput := hr.1.put (o := nid) (ob := .buf e size n fun i j => cs.getD (i * size + j) .top) (mv := .slice (some ⟨w.heap.size, 0, none⟩) n n) (w' := w.alloc (.cells cells e)) rfl rfl rfl (by simp) (fun b hb _ => hblk b hb)
    (fun v hv => by rw [hno] at hv; cases hv) (fun b hb => by simp only [blk, Option.some.injEq] at hb; exact .inl (by omega))
    ⟨cells.toList, ⟨by simp; omega, .inr ⟨w.heap.size, n, cells, rfl, Nat.zero_le _, heap_alloc_new w _, Nat.le_refl _, hmax, by omega, by rw [List.take_of_length_le (by simp; omega)]⟩⟩, fun i j hi hj => by
      have hlt : i * size + j < cs.length := by
        rw [hn]
        calc i * size + j < i * size + size := by omega
          _ = (i + 1) * size := by rw [Nat.add_mul, Nat.one_mul]
          _ ≤ n * size := Nat.mul_le_mul_right _ (by omega)
      have hlt' : i * size + j < cells.size := by omega
      refine ⟨cells[i * size + j], by simp [hlt'], hc.2.2 (i * size + j) _ (by simp [hlt']), ?_⟩
      have hg : cs.getD (i * size + j) .top = cs[i * size + j] := by simp [List.getElem?_eq_getElem hlt]
      show R S _ Mu0 (cs.getD (i * size + j) .top) _
      rw [hg]
      have hd := hc.2.1 (i * size + j) cs[i * size + j] cells[i * size + j] (by simp [hlt]) (by simp [hlt'])
      rcases h0 _ (List.getElem_mem hlt) with h1 | h1
      · exact (noRef1_R hd h1).keep (fun _ h => h) (fun b hb => hblk b (hr.1.stat b hb).1) (.refl _)
      · rw [h1]; exact .top _⟩ (fun _ => hno)
  exact ⟨hr.new hle hput.1, by rw [hget_new _ hle]; exact hput.2, .own _ _ (some ⟨w.heap.size, 0, none⟩) n n _ (by simp [updM]) (Nat.le_refl _) rfl (fun _ => rfl)⟩

/-- A nil slice that may grow: an object of its own, without memory. -/
theorem new_nil (hr : RelL S w μ H) {nid : Nat} (hno : μ nid = none) (hle : nid ≤ H.length) (e size : Nat) (g : Nat → Nat → D) :
    RelL S w (updM μ nid (.slice none 0 0)) (hnew H nid (.buf e size 0 g)) ∧ Tr S w μ (hget H) S w (updM μ nid (.slice none 0 0)) (hget (hnew H nid (.buf e size 0 g))) ∧
      R S w (updM μ nid (.slice none 0 0)) (.own nid 0) (.slice none 0 0) := by
  have hput := hr.1.put (o := nid) (ob := .buf e size 0 g) (mv := .slice none 0 0) (w' := w) rfl rfl rfl (Nat.le_refl _) (fun b hb _ => rfl)
    (fun v hv => by rw [hno] at hv; cases hv) (fun b hb => by simp [blk] at hb) ⟨[], World.ownsRow_nil w 0 e size, fun i j hi => absurd hi (by omega)⟩ (fun _ => hno)
  exact ⟨hr.new hle hput.1, by rw [hget_new _ hle]; exact hput.2, .own _ _ none 0 0 _ (by simp [updM]) (Nat.le_refl _) rfl (fun _ => rfl)⟩

theorem lt_of_hget {oid : Nat} {ob : Ob} (h : hget H oid = some ob) : oid < H.length := by
  rcases Nat.lt_or_ge oid H.length with h' | h'
  · exact h'
  · simp [hget, List.getElem?_eq_none h'] at h

/-- A slice of the call's own is turned: it grows, or one of its elements is written. -/
theorem turn_buf (hr : RelL S w μ H) {w' : World} {oid e size n n' : Nat} {g g' : Nat → Nat → D} {mv mv' : Value} {xs' : List Value} (ho : hget H oid = some (.buf e size n g)) (hm : μ oid = some mv) (hle : Le mv mv')
    (hg : w.grownBy w' mv.ownBlock) (hb : mv'.ownBlock = mv.ownBlock ∨ mv'.ownBlock = some w.heap.size) (hown : w'.ownsRow 0 e size mv' n' xs')
    (hx : ∀ i j, i < n' → j < size → ∃ v, xs'[i * size + j]? = some v ∧ v.oneCell' = true ∧ R S w Mu0 (g' i j) v) :
    RelL S w' (updM μ oid mv') (H.set oid (some (.buf e size n' g'))) ∧ Tr S w μ (hget H) S w' (updM μ oid mv') (hget (H.set oid (some (.buf e size n' g')))) := by
  have hoid := lt_of_hget ho
  obtain ⟨mv0, h1, xs, hown0, _⟩ := hr.1.obs oid _ ho
  rw [hm] at h1
  injection h1 with h1
  subst h1
  have hblkown : ∀ (v : Value) b, v.ownBlock = some b → (∃ A m c, v = .slice A m c) → blk v = some b := fun v b h ⟨A, m, c, e⟩ => by
    subst e
    cases A <;> simp [Value.ownBlock, blk] at h ⊢
    exact h
  have hform : ∀ {v : Value} {n xs} {w : World}, w.ownsRow 0 e size v n xs → ∃ A m c, v = .slice A m c := fun h => by
    rcases h.2 with ⟨rfl, _⟩ | ⟨b, cap, cur, rfl, _⟩ <;> exact ⟨_, _, _, rfl⟩
  have hbo : ∀ (v : Value), (∃ A m c, v = .slice A m c) → blk v = v.ownBlock := fun v ⟨A, m, c, e⟩ => by subst e; cases A <;> rfl
  have hS : ∀ b, S b → w'.heap[b]? = w.heap[b]? := fun b hb => hg.block b (hr.1.stat b hb).1 fun e => (hr.1.stat b hb).2 oid _ _ ho hm (by rw [hbo _ (hform hown0), ← e])
  have hput := hr.1.put (o := oid) (ob := .buf e size n' g') (mv := mv') (w' := w') hg.os hg.tape hg.output hg.size
    (fun b hb hno => hg.block b hb fun e => hno _ _ ho hm (by rw [hbo _ (hform hown0), ← e]))
    (fun v hv => by rw [hm] at hv; injection hv with hv; subst hv; exact hle)
    (fun b hb' => by
      rw [hbo _ (hform hown)] at hb'
      rcases hb with h | h
      · exact .inr ⟨_, _, ho, hm, by rw [hbo _ (hform hown0), ← h, hb']⟩
      · rw [h] at hb'; injection hb' with hb'; exact .inl (by omega))
    ⟨xs', hown, fun i j hi hj => let ⟨v, a, b, c⟩ := hx i j hi hj; ⟨v, a, b, c.keep (fun _ h => h) hS (.refl _)⟩⟩ (fun e => by rw [ho] at e; cases e)
  rw [hget_set _ _ _ hoid]
  refine ⟨⟨by rw [hget_set _ _ _ hoid]; exact hput.1, fun o ho' => ?_⟩, hput.2⟩
  have hne : o ≠ oid := by simp at ho'; omega
  simp only [updM, hne, if_false]
  exact hr.2 o (by simpa using ho')
end
end Go.V
end
section
set_option linter.unusedVariables false
set_option linter.unusedSimpArgs false
namespace Go.V

def numOf : D → Int
  | .int _ n => n
  | _ => 0
def isI64 : D → Bool
  | .int .i64 _ => true
  | _ => false
def ksEq : KS → KS → Bool
  | .str, .str => true
  | .int a, .int b => keq a b
  | .ints m, .ints n => Nat.beq m n
  | _, _ => false
theorem ksEq_eq {a b : KS} (h : ksEq a b = true) : a = b := by
  cases a <;> cases b <;> simp only [ksEq, Bool.false_eq_true] at h
  · rfl
  · rw [keq_eq h]
  · rw [Nat.eq_of_beq_eq_true h]
def ekEq : EK → EK → Bool
  | .bool, .bool => true
  | .ints m, .ints n => Nat.beq m n
  | _, _ => false
theorem ekEq_eq {a b : EK} (h : ekEq a b = true) : a = b := by
  cases a <;> cases b <;> simp only [ekEq, Bool.false_eq_true] at h
  · rfl
  · rw [Nat.eq_of_beq_eq_true h]

def rngL (cs : List D) (k : Prop) : Prop := @List.rec D (fun _ => Prop) k (fun d _ ih => (-9223372036854775808 ≤ numOf d ∧ numOf d ≤ 9223372036854775807) ∧ ih) cs
theorem rngL_iff : ∀ (cs : List D) (k : Prop), rngL cs k ↔ (∀ n ∈ cs.map numOf, -9223372036854775808 ≤ n ∧ n ≤ 9223372036854775807) ∧ k
  | [], k => by simp [rngL]
  | d :: r, k => by
    show (_ ∧ rngL r k) ↔ _
    rw [rngL_iff r k]
    simp [and_assoc]
/-- The key that a value is. -/
def vkey (ks : KS) (d : D) (k : Value → Prop) : Prop := match ks with
  | .str => match d with
    | .str s => s.size ≤ 9223372036854775807 ∧ k (.string s)
    | _ => False
  | .int q => match d with
    | .int q' n => bif keq q' q && keq q .i64 then (-9223372036854775808 ≤ n ∧ n ≤ 9223372036854775807) ∧ k (.int q' n) else False
    | _ => False
  | .ints m => match d with
    | .agg cs => bif cs.all isI64 && Nat.beq cs.length m then rngL cs (k (.agg ((cs.map numOf).map (Value.int .i64)).toArray)) else False
    | _ => False
/-- The cells that an element is. -/
def velem (ek : EK) (d : D) (k : (Nat → Int) → Prop) : Prop := match ek with
  | .bool => match d with
    | .tt => k fun _ => 1
    | .ff => k fun _ => 0
    | .bool b => k fun _ => if b = true then 1 else 0
    | _ => False
  | .ints m => match d with
    | .agg cs => bif cs.all isI64 && Nat.beq cs.length m then k fun j => (cs.map numOf).getD j 0 else False
    | _ => False
def elemD (ek : EK) (has : Bool) (g : Nat → Int) : D := match ek with
  | .bool => .bool (has && decide (g 0 = 1))
  | .ints m => .agg ((List.range m).map fun j => .int .i64 (if has = true then g j else 0))
def vmap (T : Ty) (m : D) (H : HL) (k : Nat → Mp → Prop) : Prop := match T with
  | .map ks ek _ _ => match m with
    | .map o => match hget H o with
      | some (.mp M) => bif ksEq M.ks ks && ekEq M.ek ek then k o M else False
      | _ => False
    | _ => False
  | _ => False
def vlookup (T : Ty) (m key : D) (ok : Bool) (H : HL) (k : D → Prop) : Prop := vmap T m H fun _ M => vkey M.ks key fun kv =>
  bif ok then k (.tup [elemD M.ek (M.has kv) (M.get kv), .bool (M.has kv)]) else k (elemD M.ek (M.has kv) (M.get kv))
def vmakeMap (T : Ty) (nid : Nat) (H : HL) (k : D → HL → Prop) : Prop := match T with
  | .map ks ek _ _ => k (.map nid) (hnew H nid (.mp ⟨ks, ek, 0, fun _ => false, fun _ _ => 0⟩))
  | _ => False
def numV : Value → Int
  | .int _ n => n
  | _ => 0
/-- Equality of keys. -/
def veqV : Value → Value → Bool
  | .string a, .string b => decide (a = b)
  | .int j a, .int k b => keq j k && decide (a = b)
  | .agg a, .agg b => decide (a.toList.map numV = b.toList.map numV)
  | _, _ => false
theorem veqV_self {ks : KS} {a : Value} (h : keyOK ks a) : veqV a a = true := by
  cases ks with
  | str => obtain ⟨s, rfl, _⟩ := h; simp [veqV]
  | int k => obtain ⟨n, rfl, _⟩ := h; cases k <;> simp [veqV, keq]
  | ints m => obtain ⟨ns, _, rfl, _⟩ := h; simp [veqV]
theorem veqV_eq {ks : KS} {a b : Value} (ha : keyOK ks a) (hb : keyOK ks b) (h : veqV a b = true) : a = b := by
  cases ks with
  | str =>
    obtain ⟨s, rfl, _⟩ := ha
    obtain ⟨t, rfl, _⟩ := hb
    rw [of_decide_eq_true h]
  | int k =>
    obtain ⟨n, rfl, _⟩ := ha
    obtain ⟨m, rfl, _⟩ := hb
    simp only [veqV, Bool.and_eq_true, decide_eq_true_eq] at h
    rw [h.2]
  | ints m =>
    obtain ⟨ns, _, rfl, _⟩ := ha
    obtain ⟨ms, _, rfl, _⟩ := hb
    have e : ∀ l : List Int, (l.map (Value.int .i64)).map numV = l := fun l => by
      rw [List.map_map]
      exact List.map_id l
    have h := of_decide_eq_true h
    rw [List.toList_toArray, List.toList_toArray, e, e] at h
    rw [h]
/-- A key is there. -/
def withKey (M : Mp) (kv : Value) : Mp := ⟨M.ks, M.ek, if M.has kv = true then M.n else M.n + 1, fun x => M.has x || veqV x kv, fun x j => if M.has x = true then M.get x j else 0⟩
def withElem (M : Mp) (kv : Value) (g : Nat → Int) : Mp := ⟨M.ks, M.ek, M.n, M.has, fun x j => bif veqV x kv then g j else M.get x j⟩
def vmapEntry (T : Ty) (m key : D) (H : HL) (k : D → HL → Prop) : Prop := vmap T m H fun o M => vkey M.ks key fun kv => k (.tup [.top, .stamp o kv]) (H.set o (some (.mp (withKey M kv))))
def ventryStore (T : Ty) (m stamp x : D) (H : HL) (k : D → HL → Prop) : Prop := vmap T m H fun o M => match stamp with
  | .stamp o' kv => bif Nat.beq o' o then velem M.ek x fun g => M.has kv = true ∧ k .top (H.set o (some (.mp (withElem M kv g)))) else False
  | _ => False
def vmapUpdate (T : Ty) (m key x : D) (H : HL) (k : D → HL → Prop) : Prop := vmap T m H fun o M => vkey M.ks key fun kv => velem M.ek x fun g => k .top (H.set o (some (.mp (withElem (withKey M kv) kv g))))

section
variable {P : Program} {o : Oper} {a : Act} {w : World} {S : Nat → Prop} {μ : Mu} {H : HL}

theorem isI64_form {cs : List D} (h : cs.all isI64 = true) : cs = (cs.map numOf).map (D.int .i64) := by
  induction cs with
  | nil => rfl
  | cons d r ih =>
    simp only [List.all_cons, Bool.and_eq_true] at h
    rw [List.map_cons, List.map_cons, ← ih h.2]
    cases d with
    | int k n => cases k <;> first | rfl | (cases h.1)
    | _ => cases h.1
theorem R_ints {ns : List Int} {v : Value} (h : R S w μ (.agg (ns.map (D.int .i64))) v) : v = .agg (ns.map (Value.int .i64)).toArray := by
  cases h with
  | agg _ vs hl hR =>
    congr 1
    apply Array.ext_getElem?
    intro i
    simp only [List.length_map] at hl
    by_cases hi : i < ns.length
    · have hv : i < vs.size := by omega
      have := hR i (.int .i64 ns[i]) vs[i] (by simp [hi]) (by simp [hv])
      generalize hvi : vs[i] = u at this
      cases this
      simp [hi, hv, hvi]
    · have hv : ¬ i < vs.size := by omega
      simp [hi, hv]
theorem wf_i64 {n : Int} (h : -9223372036854775808 ≤ n ∧ n ≤ 9223372036854775807) : (Lit.int .i64 n).wf = true := by
  have h1 : IntKind.i64.min = -9223372036854775808 := rfl
  have h2 : IntKind.i64.max = 9223372036854775807 := rfl
  simp only [Lit.wf, h1, h2, Bool.and_eq_true, decide_eq_true_eq]
  exact h

theorem vkey_sound {ks : KS} {d : D} {v : Value} {k : Value → Prop} (hd : R S w μ d v) (h : vkey ks d k) : keyOK ks v ∧ k v := by
  unfold vkey at h
  cases ks with
  | str =>
    cases hd <;> simp only at h
    exact ⟨⟨_, rfl, h.1⟩, h.2⟩
  | int q =>
    cases hd <;> simp only at h
    rename_i q' n
    cases hq : (keq q' q && keq q .i64) with
    | false => rw [hq] at h; exact h.elim
    | true =>
      rw [hq, cond_true] at h
      simp only [Bool.and_eq_true] at hq
      obtain rfl := keq_eq hq.1
      obtain rfl := keq_eq hq.2
      exact ⟨⟨_, rfl, wf_i64 h.1⟩, h.2⟩
  | ints m =>
    cases d <;> simp only at h
    rename_i cs
    cases hq : (cs.all isI64 && Nat.beq cs.length m) with
    | false => rw [hq] at h; exact h.elim
    | true =>
      rw [hq, cond_true, rngL_iff] at h
      simp only [Bool.and_eq_true] at hq
      have e := isI64_form hq.1
      rw [e] at hd
      have hv := R_ints hd
      refine ⟨⟨cs.map numOf, by simpa using Nat.eq_of_beq_eq_true hq.2, hv, fun n hn => wf_i64 (h.1 n hn)⟩, ?_⟩
      rw [hv]
      exact h.2
theorem velem_sound {ek : EK} {d : D} {v : Value} {k : (Nat → Int) → Prop} (hd : R S w μ d v) (h : velem ek d k) : ∃ g, v = elemV ek g ∧ k g := by
  unfold velem at h
  cases ek with
  | bool =>
    cases hd <;> simp only at h
    · exact ⟨_, by simp [elemV], h⟩
    · exact ⟨_, by simp [elemV], h⟩
    · rename_i b
      exact ⟨_, by cases b <;> simp [elemV], h⟩
  | ints m =>
    cases d <;> simp only at h
    rename_i cs
    cases hq : (cs.all isI64 && Nat.beq cs.length m) with
    | false => rw [hq] at h; exact h.elim
    | true =>
      rw [hq, cond_true] at h
      simp only [Bool.and_eq_true] at hq
      have e := isI64_form hq.1
      rw [e] at hd
      refine ⟨_, ?_, h⟩
      rw [R_ints hd]
      have hl := Nat.eq_of_beq_eq_true hq.2
      simp only [elemV]
      congr 2
      apply List.ext_getElem?
      intro i
      by_cases hi : i < m
      · have hi' : i < cs.length := by omega
        simp [hi, hi']
      · have hi' : ¬ i < cs.length := by omega
        simp [hi, hi']

theorem elemD_R {ek : EK} {has : Bool} {g g' : Nat → Int} (h : ∀ j, g' j = if has = true then g j else 0) : R S w μ (elemD ek has g) (elemV ek g') := by
  cases ek with
  | bool =>
    have e : (has && decide (g 0 = 1)) = decide (g' 0 = 1) := by rw [h 0]; cases has <;> simp
    simp only [elemD, elemV, e]
    exact .bool _
  | ints m =>
    simp only [elemD, elemV]
    refine .agg _ _ (by simp) fun i d v h1 h2 => ?_
    simp only [List.getElem?_map, List.getElem?_toArray] at h1 h2
    by_cases hi : i < m
    · simp [hi] at h1 h2
      subst h1; subst h2
      rw [← h i]
      exact .int _ _
    · simp [Nat.le_of_not_lt hi] at h1

theorem vmap_sound {t : Nat} {T : Ty} {m : D} {v : Value} {k : Nat → Mp → Prop} (hT : tyOK P t T) (hr : RelL S w μ H) (hm : R S w μ m v) (h : vmap T m H k) :
    ∃ kt et o M r es clock, P.underlying t = some (.map kt et) ∧ Go.Maps.Keyed P kt ∧ (∀ v, keyOK M.ks v → ∃ l, keyOf P kt v = some l) ∧ (∀ w, (zeroValue et).run P w = .ok (elemV M.ek fun _ => 0) w) ∧
      v = .map (some r) ∧ hget H o = some (.mp M) ∧ m = .map o ∧ μ o = some (mapMk r (marks es)) ∧ w.heap[r]? = some (.map es clock) ∧ MapKept.Stamped es clock ∧ es.size = M.n ∧
      (∀ x ∈ es.toList, keyOK M.ks x.key ∧ M.has x.key = true ∧ x.val = elemV M.ek (M.get x.key)) ∧ (∀ k, keyOK M.ks k → M.has k = true → ∃ x ∈ es.toList, x.key = k) ∧ k o M := by
  unfold vmap at h
  cases T <;> simp only at h
  rename_i ks ek kt et
  cases hm <;> simp only at h
  rename_i o r ks0 hμ
  cases ho : hget H o with
  | none => rw [ho] at h; exact h.elim
  | some ob =>
    rw [ho] at h
    cases ob <;> simp only at h
    rename_i M
    cases hq : (ksEq M.ks ks && ekEq M.ek ek) with
    | false => rw [hq] at h; exact h.elim
    | true =>
      rw [hq, cond_true] at h
      simp only [Bool.and_eq_true] at hq
      obtain ⟨mv, h1, r', es, clock, h2, h3, h4, h5, h6, h7⟩ := hr.1.obs o _ ho
      rw [hμ] at h1
      injection h1 with h1
      rw [← h1] at h2
      obtain ⟨rfl, h8⟩ := mapMk_inj h2
      subst h8
      obtain ⟨g1, g2, g3, g4, g5⟩ := hT
      rw [← ksEq_eq hq.1] at g4
      rw [← ekEq_eq hq.2] at g5
      exact ⟨kt, et, o, M, r, es, clock, g1, g3, g4, g5, rfl, ho, rfl, hμ, h3, h4, h5, h6, h7, h⟩

theorem run_lookup {t kt et : Nat} {es : Array MapEntry} {clock r : Nat} {key z : Value} (c : Bool) (ht : P.underlying t = some (.map kt et)) (K : Go.Maps.Keyed P kt) (hz : (zeroValue et).run P w = .ok z w) (hb : w.heap[r]? = some (.map es clock))
    {kl : Lit} (hkey : keyOf P kt key = some kl) (hk : ∀ e ∈ es.toList, ∃ l, keyOf P kt e.key = some l) :
    ((Instr.lookup t (.map (some r)) key c).run P w = .ok (if c then .tuple #[z, .bool false] else z) w ∧ (∀ x ∈ es.toList, x.key ≠ key)) ∨
    ∃ e ∈ es.toList, e.key = key ∧ (Instr.lookup t (.map (some r)) key c).run P w = .ok (if c then .tuple #[e.val, .bool true] else e.val) w := by
  rcases K.find w hkey es.toList hk with ⟨h1, h2⟩ | ⟨j, e, h1, h2, h3⟩
  · exact .inl ⟨by simp [Instr.lookup, run_underlying ht, MapKept.run_getObj_map hb, K.check w _ hkey, h1, hz, Result.andThen], h2⟩
  · exact .inr ⟨e, List.mem_of_getElem? h2, h3, by simp [Instr.lookup, run_underlying ht, MapKept.run_getObj_map hb, K.check w _ hkey, h1, Result.andThen]⟩

theorem sound_lookup {t : Nat} {T : Ty} {m key : D} {vm vk : Value} {c : Bool} {K : D → Prop} (hT : tyOK P t T) (hr : RelL S w μ H) (hm : R S w μ m vm) (hk : R S w μ key vk) (h : vlookup T m key c H K) :
    ∃ d v, (Instr.lookup t vm vk c).run P w = .ok v w ∧ R S w μ d v ∧ K d := by
  obtain ⟨kt, et, o, M, r, es, clock, g1, g2, g3, g4, rfl, g6, _, g8, g9, g10, g11, g12, g13, h⟩ := vmap_sound hT hr hm h
  obtain ⟨h1, h2⟩ := vkey_sound hk h
  obtain ⟨kl, hkl⟩ := g3 _ h1
  have hR : ∀ (x : Value), (M.has vk = false → x = elemV M.ek fun _ => 0) → (M.has vk = true → x = elemV M.ek (M.get vk)) → R S w μ (elemD M.ek (M.has vk) (M.get vk)) x := fun x e1 e2 => by
    cases hh : M.has vk with
    | false => rw [e1 hh]; exact elemD_R (fun j => by simp)
    | true => rw [e2 hh]; exact elemD_R (fun j => by simp)
  have key : ∀ x, M.has vk = true ∧ x = elemV M.ek (M.get vk) ∨ M.has vk = false ∧ x = elemV M.ek (fun _ => 0) → (Instr.lookup t (.map (some r)) vk c).run P w = .ok (if c then .tuple #[x, .bool (M.has vk)] else x) w →
      ∃ d v, (Instr.lookup t (.map (some r)) vk c).run P w = .ok v w ∧ R S w μ d v ∧ K d := fun x hx hrun => by
    have hRx : R S w μ (elemD M.ek (M.has vk) (M.get vk)) x := hR x (fun e => by rcases hx with ⟨e1, _⟩ | ⟨_, e2⟩; rw [e] at e1; cases e1; exact e2) (fun e => by rcases hx with ⟨_, e2⟩ | ⟨e1, _⟩; exact e2; rw [e] at e1; cases e1)
    cases c with
    | false => exact ⟨_, _, hrun, hRx, h2⟩
    | true =>
      refine ⟨_, _, hrun, .tup _ _ rfl fun i d v a b => ?_, h2⟩
      match i with
      | 0 => simp at a b; subst a; subst b; exact hRx
      | 1 => simp at a b; subst a; subst b; exact .bool _
      | i + 2 => simp at a
  rcases run_lookup c g1 g2 (g4 w) g9 hkl (fun e he => g3 _ (g12 e he).1) with ⟨r1, r2⟩ | ⟨e, r1, r2, r3⟩
  · have hh : M.has vk = false := by
      cases hh : M.has vk with
      | false => rfl
      | true => obtain ⟨x, hx, e⟩ := g13 vk h1 hh; exact absurd e (r2 x hx)
    exact key _ (.inr ⟨hh, rfl⟩) (by rw [hh]; exact r1)
  · obtain ⟨k1, k2, k3⟩ := g12 e r1
    rw [r2] at k2 k3
    exact key _ (.inl ⟨k2, k3⟩) (by rw [k2]; exact r3)

/-- A map's block is turned. -/
theorem turn_map (hr : RelL S w μ H) {o r : Nat} {M M' : Mp} {es es' : Array MapEntry} {clock clock' : Nat} (ho : hget H o = some (.mp M)) (hm : μ o = some (mapMk r (marks es))) (hb : w.heap[r]? = some (.map es clock))
    (hpre : ∃ ys, marks es' = marks es ++ ys) (hst : MapKept.Stamped es' clock') (hn : es'.size = M'.n) (h1 : ∀ x ∈ es'.toList, keyOK M'.ks x.key ∧ M'.has x.key = true ∧ x.val = elemV M'.ek (M'.get x.key)) (h2 : ∀ k, keyOK M'.ks k → M'.has k = true → ∃ x ∈ es'.toList, x.key = k) :
    RelL S (w.putObj r (.map es' clock')) (updM μ o (mapMk r (marks es'))) (H.set o (some (.mp M'))) ∧ Tr S w μ (hget H) S (w.putObj r (.map es' clock')) (updM μ o (mapMk r (marks es'))) (hget (H.set o (some (.mp M')))) := by
  have hoid := lt_of_hget ho
  have hlt := (Array.getElem?_eq_some_iff.1 hb).1
  have hput := hr.1.put (o := o) (ob := .mp M') (mv := mapMk r (marks es')) (w' := w.putObj r (.map es' clock')) rfl rfl rfl (by simp)
    (fun b hb' hno => World.putObj_heap_other (fun e => hno _ _ ho hm (by rw [blk_mapMk, e])))
    (fun v hv => by rw [hm] at hv; injection hv with hv; subst hv; obtain ⟨ys, hy⟩ := hpre; exact .inr (.inr ⟨r, _, ys, rfl, by rw [hy]⟩))
    (fun b hb' => by rw [blk_mapMk] at hb'; exact .inr ⟨_, _, ho, hm, by rw [blk_mapMk, hb']⟩)
    ⟨r, es', clock', rfl, World.putObj_heap_same hlt, hst, hn, h1, h2⟩ (fun e => by rw [ho] at e; cases e)
  rw [hget_set _ _ _ hoid]
  refine ⟨⟨by rw [hget_set _ _ _ hoid]; exact hput.1, fun o' ho' => ?_⟩, hput.2⟩
  have hne : o' ≠ o := by simp at ho'; omega
  simp only [updM, hne, if_false]
  exact hr.2 o' (by simpa using ho')

theorem new_map (hr : RelL S w μ H) {nid : Nat} (hno : μ nid = none) (hle : nid ≤ H.length) (ks : KS) (ek : EK) :
    RelL S (w.alloc (.map #[] 0)) (updM μ nid (mapMk w.heap.size (marks #[]))) (hnew H nid (.mp ⟨ks, ek, 0, fun _ => false, fun _ _ => 0⟩)) ∧
      Tr S w μ (hget H) S (w.alloc (.map #[] 0)) (updM μ nid (mapMk w.heap.size (marks #[]))) (hget (hnew H nid (.mp ⟨ks, ek, 0, fun _ => false, fun _ _ => 0⟩))) ∧
      R S (w.alloc (.map #[] 0)) (updM μ nid (mapMk w.heap.size (marks #[]))) (.map nid) (.map (some w.heap.size)) := by
  have hblk : ∀ b, b < w.heap.size → (w.alloc (.map #[] 0)).heap[b]? = w.heap[b]? := fun b hb => RowKit.Below.heap_alloc w _ b hb
  have hput := hr.1.put (o := nid) (ob := .mp ⟨ks, ek, 0, fun _ => false, fun _ _ => 0⟩) (mv := mapMk w.heap.size (marks #[])) (w' := w.alloc (.map #[] 0)) rfl rfl rfl (by simp) (fun b hb _ => hblk b hb)
    (fun v hv => by rw [hno] at hv; cases hv) (fun b hb => by rw [blk_mapMk] at hb; injection hb with hb; exact .inl (by omega))
    ⟨w.heap.size, #[], 0, rfl, heap_alloc_new w _, MapKept.stamped_empty 0, rfl, fun x hx => by simp at hx, fun k _ hk => by cases hk⟩ (fun _ => hno)
  exact ⟨hr.new hle hput.1, by rw [hget_new _ hle]; exact hput.2, .map _ w.heap.size (marks #[]) (by simp [updM])⟩

theorem modify_same {es : Array MapEntry} {j : Nat} {e : MapEntry} (he : es.toList[j]? = some e) {key : Value} (hk : e.key = key) : es.modify j (fun e => { e with key := key }) = es := by
  have hj : es[j]? = some e := by simpa using he
  apply Array.ext_getElem?
  intro i
  by_cases hij : i = j
  · subst hij
    rw [Array.getElem?_modify, if_pos rfl, hj]
    simp only [Option.map_some]
    subst hk
    rfl
  · rw [Array.getElem?_modify, if_neg (fun e => hij e.symm)]

/-- The entry that a key has, or gets. -/
theorem run_mapEntry {t kt et : Nat} {es : Array MapEntry} {clock r : Nat} {key z : Value} (ht : P.underlying t = some (.map kt et)) (K : Go.Maps.Keyed P kt) (hz : (zeroValue et).run P w = .ok z w) (hb : w.heap[r]? = some (.map es clock))
    {kl : Lit} (hkey : keyOf P kt key = some kl) (hk : ∀ e ∈ es.toList, ∃ l, keyOf P kt e.key = some l) :
    (∃ (j : Nat) (e : MapEntry), es[j]? = some e ∧ e.key = key ∧ (Instr.mapEntry t (.map (some r)) key).run P w = .ok (.tuple #[e.val, .int .i64 e.born]) (w.putObj r (.map es clock))) ∨
    ((∀ x ∈ es.toList, x.key ≠ key) ∧ (Instr.mapEntry t (.map (some r)) key).run P w = .ok (.tuple #[z, .int .i64 clock]) (w.putObj r (.map (es.push { key, val := z, born := clock }) (clock + 1)))) := by
  have hset : ∀ o, (setObj r o).run P w = .ok () (w.putObj r o) := fun o => by simp [setObj, Sem.run, hb, World.putObj]
  rcases K.find w hkey es.toList hk with ⟨h1, h2⟩ | ⟨j, e, h1, h2, h3⟩
  · refine .inr ⟨h2, ?_⟩
    simp [Instr.mapEntry, run_underlying ht, MapKept.run_getObj_map hb, K.check w _ hkey, h1, hz, Result.andThen, hset, goInt]
  · refine .inl ⟨j, e, by simpa using h2, h3, ?_⟩
    have hj : es[j]? = some e := by simpa using h2
    have hst := K.stays w hkey
    simp [Instr.mapEntry, run_underlying ht, MapKept.run_getObj_map hb, K.check w _ hkey, h1, Result.andThen, hset, goInt, hj, h3, hst, modify_same h2 h3]

theorem putObj_same {r : Nat} {ob : Obj} (h : w.heap[r]? = some ob) : w.putObj r ob = w := by
  unfold World.putObj
  have : w.heap.setIfInBounds r ob = w.heap := by
    apply Array.ext_getElem?
    intro i
    by_cases hi : r = i
    · subst hi
      have := (Array.getElem?_eq_some_iff.1 h).1
      rw [Array.getElem?_setIfInBounds_self_of_lt this, h]
    · rw [Array.getElem?_setIfInBounds_ne hi]
  rw [this]

theorem marks_push (es : Array MapEntry) (x : MapEntry) : marks (es.push x) = marks es ++ #[.tuple #[x.key, .int .i64 x.born]] := by simp [marks]
theorem marks_get {es : Array MapEntry} {j : Nat} {e : MapEntry} (h : es[j]? = some e) : (marks es)[j]? = some (.tuple #[e.key, .int .i64 e.born]) := by simp [marks, h]
theorem marks_modify (es : Array MapEntry) (j : Nat) (f : MapEntry → MapEntry) (h : ∀ e, (f e).key = e.key ∧ (f e).born = e.born) : marks (es.modify j f) = marks es := by
  apply Array.ext_getElem?
  intro i
  simp only [marks, Array.getElem?_map, Array.getElem?_modify]
  split
  · cases es[i]? with
    | none => rfl
    | some e => simp [h e]
  · rfl

theorem sound_mapEntry {t : Nat} {T : Ty} {m key : D} {vm vk : Value} {K : D → HL → Prop} (hT : tyOK P t T) (hr : RelL S w μ H) (hm : R S w μ m vm) (hk : R S w μ key vk) (h : vmapEntry T m key H K) :
    ∃ v w', (Instr.mapEntry t vm vk).run P w = .ok v w' ∧ Post S w μ H K v w' := by
  obtain ⟨kt, et, o, M, r, es, clock, g1, g2, g3, g4, rfl, g6, _, g8, g9, g10, g11, g12, g13, h⟩ := vmap_sound hT hr hm h
  obtain ⟨h1, h2⟩ := vkey_sound hk h
  obtain ⟨kl, hkl⟩ := g3 _ h1
  have fin : ∀ (es' : Array MapEntry) (clock' : Nat) (u : Value) (j : Nat) (e : MapEntry), (∃ ys, marks es' = marks es ++ ys) → MapKept.Stamped es' clock' → es'.size = (withKey M vk).n → (∀ x ∈ es'.toList, keyOK M.ks x.key ∧ (withKey M vk).has x.key = true ∧ x.val = elemV M.ek ((withKey M vk).get x.key)) →
      (∀ k, keyOK M.ks k → (withKey M vk).has k = true → ∃ x ∈ es'.toList, x.key = k) → es'[j]? = some e → e.key = vk → (Instr.mapEntry t (.map (some r)) vk).run P w = .ok (.tuple #[u, .int .i64 e.born]) (w.putObj r (.map es' clock')) →
      ∃ v w', (Instr.mapEntry t (.map (some r)) vk).run P w = .ok v w' ∧ Post S w μ H K v w' := fun es' clock' u j e e1 e2 e3 e4 e5 e6 e7 e8 => by
    obtain ⟨t1, t2⟩ := turn_map (M' := withKey M vk) hr g6 g8 g9 e1 e2 e3 e4 e5
    refine ⟨_, _, e8, S, _, _, _, h2, .tup _ _ rfl fun i d v a b => ?_, t1, t2⟩
    match i with
    | 0 => simp at a b; subst a; subst b; exact .top _
    | 1 =>
      simp at a b; subst a; subst b
      have := marks_get e6
      rw [e7] at this
      exact .stamp o vk r (marks es') j e.born (by simp [updM]) this
    | i + 2 => simp at a
  rcases run_mapEntry g1 g2 (g4 w) g9 hkl (fun e he => g3 _ (g12 e he).1) with ⟨j, e, r1, r2, r3⟩ | ⟨r1, r2⟩
  · have hmem : e ∈ es.toList := List.mem_of_getElem? (by simpa using r1 : es.toList[j]? = some e)
    have hh : M.has vk = true := by rw [← r2]; exact (g12 e hmem).2.1
    refine fin es clock e.val j e ⟨#[], by simp⟩ g10 (by simp only [withKey]; rw [if_pos hh]; exact g11) (fun x hx => ?_) (fun k hok hkk => ?_) r1 r2 r3
    · obtain ⟨a1, a2, a3⟩ := g12 x hx
      refine ⟨a1, by simp [withKey, a2], ?_⟩
      rw [a3]
      congr 1
      funext j
      simp [withKey, a2]
    · simp only [withKey, Bool.or_eq_true] at hkk
      rcases hkk with hkk | hkk
      · exact g13 k hok hkk
      · exact ⟨e, hmem, by rw [r2]; exact (veqV_eq hok h1 hkk).symm⟩
  · have hh : M.has vk = false := by
      cases hh : M.has vk with
      | false => rfl
      | true => obtain ⟨x, hx, e⟩ := g13 vk h1 hh; exact absurd e (r1 x hx)
    refine fin (es.push { key := vk, val := elemV M.ek fun _ => 0, born := clock }) (clock + 1) _ es.size { key := vk, val := elemV M.ek fun _ => 0, born := clock } ⟨_, marks_push _ _⟩ (MapKept.stamped_push g10 r1)
      (by simp only [withKey, hh, Array.size_push]; simp [g11]) (fun x hx => ?_) (fun k hok hkk => ?_) (by simp) rfl r2
    · simp only [Array.toList_push, List.mem_append, List.mem_singleton] at hx
      rcases hx with hx | rfl
      · obtain ⟨a1, a2, a3⟩ := g12 x hx
        refine ⟨a1, by simp [withKey, a2], ?_⟩
        rw [a3]
        congr 1
        funext j
        simp [withKey, a2]
      · refine ⟨h1, by simp [withKey, veqV_self h1], ?_⟩
        simp only
        congr 1
        funext j
        simp [withKey, hh]
    · simp only [withKey, Bool.or_eq_true] at hkk
      rcases hkk with hkk | hkk
      · obtain ⟨x, hx, e⟩ := g13 k hok hkk
        exact ⟨x, by simp [hx], e⟩
      · exact ⟨{ key := vk, val := elemV M.ek fun _ => 0, born := clock }, by simp, (veqV_eq hok h1 hkk).symm⟩

theorem stamped_born {es : Array MapEntry} {clock : Nat} (h : MapKept.Stamped es clock) {i j : Nat} {x y : MapEntry} (hx : es[i]? = some x) (hy : es[j]? = some y) (hb : x.born = y.born) : i = j := by
  have hn := ((MapKept.stamped_iff es clock).1 h).2.1
  have h1 : (es.toList.map (·.born))[i]? = some x.born := by simp [hx]
  have h2 : (es.toList.map (·.born))[j]? = some y.born := by simp [hy]
  obtain ⟨hi, e1⟩ := List.getElem?_eq_some_iff.1 h1
  obtain ⟨hj, e2⟩ := List.getElem?_eq_some_iff.1 h2
  rcases Nat.lt_trichotomy i j with h | h | h
  · have := List.pairwise_iff_getElem.1 hn i j hi hj h
    rw [e1, e2, hb] at this; exact absurd rfl this
  · exact h
  · have := List.pairwise_iff_getElem.1 hn j i hj hi h
    rw [e1, e2, hb] at this; exact absurd rfl this

/-- An entry's element is turned. -/
theorem turn_elem (hr : RelL S w μ H) {o r : Nat} {M : Mp} {es : Array MapEntry} {clock : Nat} (ho : hget H o = some (.mp M)) (hm : μ o = some (mapMk r (marks es))) (hb : w.heap[r]? = some (.map es clock))
    (hst : MapKept.Stamped es clock) (hn : es.size = M.n) (h1 : ∀ x ∈ es.toList, keyOK M.ks x.key ∧ M.has x.key = true ∧ x.val = elemV M.ek (M.get x.key)) (h2 : ∀ k, keyOK M.ks k → M.has k = true → ∃ x ∈ es.toList, x.key = k)
    {j : Nat} {e : MapEntry} (hj : es[j]? = some e) {kv : Value} (hk : e.key = kv) (hkv : keyOK M.ks kv) (g : Nat → Int) :
    RelL S (w.putObj r (.map (es.modify j fun e => { e with val := elemV M.ek g }) clock)) (updM μ o (mapMk r (marks (es.modify j fun e => { e with val := elemV M.ek g })))) (H.set o (some (.mp (withElem M kv g)))) ∧
      Tr S w μ (hget H) S (w.putObj r (.map (es.modify j fun e => { e with val := elemV M.ek g }) clock)) (updM μ o (mapMk r (marks (es.modify j fun e => { e with val := elemV M.ek g })))) (hget (H.set o (some (.mp (withElem M kv g))))) := by
  have hpw := ((MapKept.stamped_iff es clock).1 hst).2.2
  have huniq : ∀ (i : Nat) x, es[i]? = some x → x.key = kv → i = j := fun i x hi hx => by
    have h3 : es.toList[i]? = some x := by simpa using hi
    have h4 : es.toList[j]? = some e := by simpa using hj
    obtain ⟨hi', e1⟩ := List.getElem?_eq_some_iff.1 h3
    obtain ⟨hj', e2⟩ := List.getElem?_eq_some_iff.1 h4
    rcases Nat.lt_trichotomy i j with h | h | h
    · have := List.pairwise_iff_getElem.1 hpw i j hi' hj' h
      rw [e1, e2, hx, hk] at this; exact absurd rfl this
    · exact h
    · have := List.pairwise_iff_getElem.1 hpw j i hj' hi' h
      rw [e1, e2, hx, hk] at this; exact absurd rfl this
  have hget : ∀ (i : Nat) x, (es.modify j fun e => { e with val := elemV M.ek g })[i]? = some x → ∃ y, es[i]? = some y ∧ x.key = y.key ∧ (i = j → x.val = elemV M.ek g) ∧ (i ≠ j → x.val = y.val) := fun i x hi => by
    rw [Array.getElem?_modify] at hi
    split at hi
    · rename_i hij
      subst hij
      rw [hj] at hi ⊢
      simp only [Option.map_some, Option.some.injEq] at hi
      subst hi
      exact ⟨e, rfl, rfl, fun _ => rfl, fun h => absurd rfl h⟩
    · rename_i hij
      exact ⟨x, hi, rfl, fun h => absurd h.symm hij, fun _ => rfl⟩
  refine turn_map (M' := withElem M kv g) hr ho hm hb ⟨#[], by rw [marks_modify es j (fun e => { e with val := elemV M.ek g }) (fun e => ⟨rfl, rfl⟩)]; simp⟩ (MapKept.stamped_modify hst _ _ (fun _ _ => rfl) (fun _ _ _ => rfl)) (by simpa [withElem] using hn) (fun x hx => ?_) (fun k hok hk' => ?_)
  · obtain ⟨i, hi, e1⟩ := List.getElem_of_mem hx
    have hi' : (es.modify j fun e => { e with val := elemV M.ek g })[i]? = some x := by
      rw [← Array.getElem?_toList]; exact List.getElem?_eq_some_iff.2 ⟨hi, e1⟩
    obtain ⟨y, y1, y2, y3, y4⟩ := hget i x hi'
    obtain ⟨a1, a2, a3⟩ := h1 y (List.mem_of_getElem? (by simpa using y1 : es.toList[i]? = some y))
    rw [y2]
    refine ⟨a1, a2, ?_⟩
    by_cases hij : i = j
    · rw [y3 hij]
      subst hij
      rw [hj] at y1
      injection y1 with y1
      subst y1
      simp [withElem, hk, veqV_self hkv]
    · rw [y4 hij, a3]
      have : veqV y.key kv = false := by
        cases hv : veqV y.key kv with
        | false => rfl
        | true => exact absurd (huniq i y y1 (veqV_eq a1 hkv hv)) hij
      simp [withElem, this]
  · obtain ⟨x, hx, e1⟩ := h2 k hok hk'
    obtain ⟨i, hi, e2⟩ := List.getElem_of_mem hx
    have hxi : es[i]? = some x := by rw [← Array.getElem?_toList]; exact List.getElem?_eq_some_iff.2 ⟨hi, e2⟩
    refine ⟨if j = i then { x with val := elemV M.ek g } else x, List.mem_of_getElem? (i := i) ?_, ?_⟩
    · rw [Array.getElem?_toList, Array.getElem?_modify, hxi]
      split <;> rfl
    · split <;> exact e1

theorem sound_entryStore {t : Nat} {T : Ty} {m s x : D} {vm vs vx : Value} {K : D → HL → Prop} (hT : tyOK P t T) (hr : RelL S w μ H) (hm : R S w μ m vm) (hs : R S w μ s vs) (hx : R S w μ x vx) (h : ventryStore T m s x H K) :
    ∃ w', (Instr.entryStore t vm vs vx).run P w = .ok () w' ∧ Post S w μ H K undef w' := by
  obtain ⟨kt, et, o, M, r, es, clock, g1, g2, g3, g4, rfl, g6, _, g8, g9, g10, g11, g12, g13, h⟩ := vmap_sound hT hr hm h
  have hs' : ∃ (o' : Nat) (kv : Value) (r' : Nat) (ks : Array Value) (i born : Nat), s = .stamp o' kv ∧ μ o' = some (mapMk r' ks) ∧ (ks[i]? : Option Value) = some (.tuple #[kv, .int .i64 (born : Nat)]) ∧ vs = .int .i64 born := by
    cases hs <;> first | exact h.elim | exact ⟨_, _, _, _, _, _, rfl, by assumption, by assumption, rfl⟩
  obtain ⟨o', kv, r', ks, i, born, rfl, hμ, hi, rfl⟩ := hs'
  simp only at h
  cases hq : Nat.beq o' o with
  | false => rw [hq] at h; exact h.elim
  | true =>
    obtain rfl := Nat.eq_of_beq_eq_true hq
    rw [hq, cond_true] at h
    obtain ⟨g, rfl, hh, hk⟩ := velem_sound hx h
    rw [g8] at hμ
    injection hμ with hμ
    obtain ⟨rfl, rfl⟩ := mapMk_inj hμ
    simp only [marks, Array.getElem?_map] at hi
    cases he : es[i]? with
    | none => simp [he] at hi
    | some e =>
      simp only [he, Option.map_some, Option.some.injEq, Value.tuple.injEq] at hi
      have hi' := congrArg Array.toList hi
      simp at hi'
      obtain ⟨hik, hib⟩ := hi'
      have hfind : es.findIdx? (fun e => (e.born : Int) == (born : Int)) = some i := by
        rw [Array.findIdx?_eq_some_iff_getElem]
        have hlt := (Array.getElem?_eq_some_iff.1 he).1
        have hei := (Array.getElem?_eq_some_iff.1 he).2
        refine ⟨hlt, by rw [hei]; simp; omega, fun j hj => ?_⟩
        have hjl : j < es.size := by omega
        simp only [beq_iff_eq]
        intro hbj
        have := stamped_born g10 (i := j) (j := i) (x := es[j]) (y := e) (by simp [hjl]) he (by omega)
        omega
      have hkk : keyOK M.ks kv := by rw [← hik]; exact (g12 e (List.mem_of_getElem? (by simpa using he : es.toList[i]? = some e))).1
      obtain ⟨t1, t2⟩ := turn_elem hr g6 g8 g9 g10 g11 g12 g13 he hik hkk g
      have hset : ∀ ob, (setObj r ob).run P w = .ok () (w.putObj r ob) := fun ob => by simp [setObj, Sem.run, g9, World.putObj]
      refine ⟨_, ?_, S, _, _, _, hk, .top _, t1, t2⟩
      simp [Instr.entryStore, MapKept.run_getObj_map g9, asInt, asIntOf, hfind, hset, Result.andThen]

theorem run_mapUpdate {t kt et : Nat} {es : Array MapEntry} {clock r : Nat} {key x : Value} (ht : P.underlying t = some (.map kt et)) (K : Go.Maps.Keyed P kt) (hb : w.heap[r]? = some (.map es clock))
    {kl : Lit} (hkey : keyOf P kt key = some kl) (hk : ∀ e ∈ es.toList, ∃ l, keyOf P kt e.key = some l) :
    (∃ (j : Nat) (e : MapEntry), es[j]? = some e ∧ e.key = key ∧ (Instr.mapUpdate t (.map (some r)) key x).run P w = .ok () (w.putObj r (.map (es.modify j fun e => { e with val := x }) clock))) ∨
    ((∀ x ∈ es.toList, x.key ≠ key) ∧ (Instr.mapUpdate t (.map (some r)) key x).run P w = .ok () (w.putObj r (.map (es.push { key, val := x, born := clock }) (clock + 1)))) := by
  have hset : ∀ o, (setObj r o).run P w = .ok () (w.putObj r o) := fun o => by simp [setObj, Sem.run, hb, World.putObj]
  rcases K.find w hkey es.toList hk with ⟨h1, h2⟩ | ⟨j, e, h1, h2, h3⟩
  · refine .inr ⟨h2, ?_⟩
    simp [Instr.mapUpdate, run_underlying ht, MapKept.run_getObj_map hb, K.check w _ hkey, h1, Result.andThen, hset]
  · refine .inl ⟨j, e, by simpa using h2, h3, ?_⟩
    have hj : es[j]? = some e := by simpa using h2
    have hst := K.stays w hkey
    have hmod : es.modify j (fun e => { e with key := key, val := x }) = es.modify j fun e => { e with val := x } := by
      apply Array.ext_getElem?
      intro i
      simp only [Array.getElem?_modify]
      split
      · rename_i hij; subst hij; rw [hj]; simp [h3.symm]
      · rfl
    simp [Instr.mapUpdate, run_underlying ht, MapKept.run_getObj_map hb, K.check w _ hkey, h1, Result.andThen, hset, hj, h3, hst, hmod]
theorem sound_mapUpdate {t : Nat} {T : Ty} {m key x : D} {vm vk vx : Value} {K : D → HL → Prop} (hT : tyOK P t T) (hr : RelL S w μ H) (hm : R S w μ m vm) (hk : R S w μ key vk) (hx : R S w μ x vx) (h : vmapUpdate T m key x H K) :
    ∃ w', (Instr.mapUpdate t vm vk vx).run P w = .ok () w' ∧ Post S w μ H K undef w' := by
  obtain ⟨kt, et, o, M, r, es, clock, g1, g2, g3, g4, rfl, g6, _, g8, g9, g10, g11, g12, g13, h⟩ := vmap_sound hT hr hm h
  obtain ⟨h1, h2⟩ := vkey_sound hk h
  obtain ⟨g, rfl, h2⟩ := velem_sound hx h2
  obtain ⟨kl, hkl⟩ := g3 _ h1
  rcases run_mapUpdate (x := elemV M.ek g) g1 g2 g9 hkl (fun e he => g3 _ (g12 e he).1) with ⟨j, e, r1, r2, r3⟩ | ⟨r1, r2⟩
  · have hmem : e ∈ es.toList := List.mem_of_getElem? (by simpa using r1 : es.toList[j]? = some e)
    have hh : M.has vk = true := by rw [← r2]; exact (g12 e hmem).2.1
    obtain ⟨t1, t2⟩ := turn_elem hr g6 g8 g9 g10 g11 g12 g13 r1 r2 h1 g
    have eM : ∀ M' : Mp, M' = withElem (withKey M vk) vk g → K .top (H.set o (some (.mp M'))) := fun M' e => by rw [e]; exact h2
    have hee : (⟨M.ks, M.ek, M.n, M.has, (withElem M vk g).get⟩ : Mp) = withElem M vk g := rfl
    obtain ⟨s1, s2⟩ := turn_map (M' := withElem (withKey M vk) vk g) (es' := es.modify j fun e => { e with val := elemV M.ek g }) (clock' := clock) hr g6 g8 g9 ⟨#[], by rw [marks_modify es j (fun e => { e with val := elemV M.ek g }) (fun e => ⟨rfl, rfl⟩)]; simp⟩
      (MapKept.stamped_modify g10 _ _ (fun _ _ => rfl) (fun _ _ _ => rfl)) (by simp [withElem, withKey, hh, g11]) (fun x hx' => by
        obtain ⟨mv, m1, r', es1, cl1, m2, m3, m4, m5, m6, m7⟩ := t1.1.obs o (.mp (withElem M vk g)) (by rw [hget_set _ _ _ (lt_of_hget g6)]; simp [updH])
        simp only [updM, if_true, Option.some.injEq] at m1
        rw [← m1] at m2
        obtain ⟨rfl, _⟩ := mapMk_inj m2
        rw [World.putObj_heap_same (Array.getElem?_eq_some_iff.1 g9).1] at m3
        injection m3 with m3
        injection m3 with m3 _
        obtain ⟨a1, a2, a3⟩ := m6 x (by rw [← m3]; exact hx')
        refine ⟨a1, by simp only [withElem, withKey, Bool.or_eq_true]; exact .inl a2, ?_⟩
        rw [a3]
        congr 1
        funext j'
        have a2' : M.has x.key = true := a2
        simp [withElem, withKey, a2'])
      (fun k hok hk' => by
        have hk'' : M.has k = true := by
          simp only [withElem, withKey, Bool.or_eq_true] at hk'
          rcases hk' with h | h
          · exact h
          · rw [veqV_eq hok h1 h]; exact hh
        obtain ⟨mv, m1, r', es1, cl1, m2, m3, m4, m5, m6, m7⟩ := t1.1.obs o (.mp (withElem M vk g)) (by rw [hget_set _ _ _ (lt_of_hget g6)]; simp [updH])
        simp only [updM, if_true, Option.some.injEq] at m1
        rw [← m1] at m2
        obtain ⟨rfl, _⟩ := mapMk_inj m2
        rw [World.putObj_heap_same (Array.getElem?_eq_some_iff.1 g9).1] at m3
        injection m3 with m3
        injection m3 with m3 _
        obtain ⟨x, hx', e1⟩ := m7 k hok hk''
        exact ⟨x, by rw [m3]; exact hx', e1⟩)
    exact ⟨_, r3, S, _, _, _, h2, .top _, s1, s2⟩
  · have hh : M.has vk = false := by
      cases hh : M.has vk with
      | false => rfl
      | true => obtain ⟨x, hx, e⟩ := g13 vk h1 hh; exact absurd e (r1 x hx)
    obtain ⟨s1, s2⟩ := turn_map (M' := withElem (withKey M vk) vk g) hr g6 g8 g9 ⟨_, marks_push es { key := vk, val := elemV M.ek g, born := clock }⟩ (MapKept.stamped_push g10 r1) (by simp [withElem, withKey, hh, g11]) (fun x hx' => by
      simp only [Array.toList_push, List.mem_append, List.mem_singleton] at hx'
      rcases hx' with hx' | rfl
      · obtain ⟨a1, a2, a3⟩ := g12 x hx'
        have hne : veqV x.key vk = false := by
          cases hv : veqV x.key vk with
          | false => rfl
          | true => exact absurd (veqV_eq a1 h1 hv) (r1 x hx')
        refine ⟨a1, by simp [withElem, withKey, a2], ?_⟩
        rw [a3]
        congr 1
        funext j
        simp [withElem, withKey, a2, hne]
      · refine ⟨h1, by simp [withElem, withKey, veqV_self h1], ?_⟩
        simp only
        congr 1
        funext j
        simp [withElem, veqV_self h1]) (fun k hok hk' => by
      simp only [withElem, withKey, Bool.or_eq_true] at hk'
      rcases hk' with h | h
      · obtain ⟨x, hx', e⟩ := g13 k hok h
        exact ⟨x, by simp [hx'], e⟩
      · exact ⟨{ key := vk, val := elemV M.ek g, born := clock }, by simp, (veqV_eq hok h1 h).symm⟩)
    exact ⟨_, r2, S, _, _, _, h2, .top _, s1, s2⟩
end
end Go.V
end
section
set_option linter.unusedVariables false
set_option linter.unusedSimpArgs false
namespace Go.V

def fzp (l : List (Nat × D)) : (List (Nat × D) → Prop) → Prop := @List.rec (Nat × D) (fun _ => (List (Nat × D) → Prop) → Prop) (fun k => k []) (fun p _ ih k => fz p.2 fun d => ih fun r => k ((p.1, d) :: r)) l
theorem fzp_iff : ∀ (l : List (Nat × D)) (k : List (Nat × D) → Prop), fzp l k ↔ k l
  | [], k => Iff.rfl
  | (i, d) :: r, k => by show fz d (fun d => fzp r fun r => k ((i, d) :: r)) ↔ _; rw [fz_iff, fzp_iff r]
def evs (e : Env) (ps : Array (Nat × Operand)) : List (Nat × D) := ps.toList.map fun p => (p.1, ev e p.2)

def okb (d : D) : Bool := noRef1 d || (match d with | .top => true | _ => false)
def vstore (T : Ty) (d x : D) (H : HL) (k : HL → Prop) : Prop := bif (cellsD x).all one && Nat.beq (cellsD x).length (tsz T) && T.known then (match d with
  | .ptr o off => match hget H o with
    | some (.row cs) => bif Nat.ble (off + (cellsD x).length) cs.length then k (H.set o (some (.row (splice cs off (cellsD x))))) else False
    | _ => False
  | .optr o n s i j => match hget H o with
    | some (.buf e size m g) => bif Nat.beq s size && Nat.ble (j + (cellsD x).length) s && (cellsD x).all okb then (n = m ∧ i < m) ∧ k (H.set o (some (.buf e size m fun i' j' => if i' = i ∧ j ≤ j' ∧ j' < j + (cellsD x).length then (cellsD x).getD (j' - j) .top else g i' j'))) else False
    | _ => False
  | _ => False) else False

def vbuild (T : Ty) (z : List D) (ps : List (Nat × D)) (k : List D → Prop) : Prop := match T with
  | .struct _ fs => vfill (fun i => (fs[i]?).map fun x => (x.1, x.2.2)) k z ps
  | .array _ _ es _ => vfill (fun i => some (i * es, es)) k z ps
  | _ => False


def byteAt (s : ByteArray) (i : Nat) : Int := ((s[i]?).map fun b => (b.toNat : Int)).getD 0
def vconv (C : Cx) (s t : Ty) (d : D) (H : HL) (k : D → Prop) : Prop := match t with
  | .int q => match s, d with
    | .int _, .int _ n => fits q n k
    | _, _ => False
  | .slice e 1 _ => match s, C.ty e, d with
    | .str, .int .u8, .str s => k (.rsl 1 s.size fun i _ => .int .u8 (byteAt s i))
    | _, _, _ => False
  | .str => match s with
    | .slice e 1 _ => match C.ty e, d with
      | .int .u8, .rsl 1 n g => (∀ i, i < n → g i 0 = .int .u8 (numOf (g i 0))) ∧ k (.str (strOfNums ((List.range n).map fun i => numOf (g i 0))))
      | .int .u8, .own o n => match hget H o with
        | some (.buf _ 1 m g) => (n = m ∧ ∀ i, i < n → g i 0 = .int .u8 (numOf (g i 0))) ∧ k (.str (strOfNums ((List.range n).map fun i => numOf (g i 0))))
        | _ => False
      | .int .u8, .nilS => k (.str ByteArray.empty)
      | _, _ => False
    | _ => False
  | _ => False

def vidx (T : Ty) (d i : D) (H : HL) (k : D → Prop) : Prop := match i with
  | .int _ i => match T with
    | .slice _ es _ => match d with
      | .rsl s n g => (0 ≤ i ∧ i < n) ∧ (bif Nat.beq s es then k (.eptr es (g i.toNat)) else False)
      | .own o n => match hget H o with
        | some (.buf _ s m _) => (n = m ∧ 0 ≤ i ∧ i < n) ∧ (bif Nat.beq s es then k (.optr o n es i.toNat 0) else False)
        | _ => False
      | _ => False
    | .array n _ es _ => match d with
      | .eptr m g => (0 ≤ i ∧ i < n) ∧ (bif Nat.ble (n * es) m then k (.eptr es fun j => g (i.toNat * es + j)) else False)
      | .ptr o off => (0 ≤ i ∧ i < n) ∧ k (.ptr o (off + i.toNat * es))
      | _ => False
    | _ => False
  | _ => False
/-- The element of an array of numbers, or the byte of a string. -/
def vindex (C : Cx) (T : Ty) (d i : D) (k : D → Prop) : Prop := match i with
  | .int _ i => match T with
    | .str => match d with
      | .str s => (0 ≤ i ∧ i < s.size) ∧ k (.int .u8 (byteAt s i.toNat))
      | _ => False
    | .array n e es _ => match d, C.ty e with
      | .agg cs, .int .i64 => bif Nat.beq es 1 && Nat.ble n cs.length && cs.all isI64 then (0 ≤ i ∧ i < n) ∧ k (.int .i64 ((cs.map numOf).getD i.toNat 0)) else False
      | _, _ => False
    | _ => False
  | _ => False
/-- A part of a slice that is only read. -/
def vslice (T : Ty) (d : D) (lo hi : Option D) (k : D → Prop) : Prop := match T, d with
  | .slice _ es _, .rsl s n g => match (match lo with | none => some 0 | some (.int _ l) => some l | _ => none), (match hi with | none => some (n : Int) | some (.int _ h) => some h | _ => none) with
    | some l, some h => (0 ≤ l ∧ l ≤ h ∧ h ≤ n) ∧ (bif Nat.beq s es then k (.rsl s (h.toNat - l.toNat) fun i j => g (l.toNat + i) j) else False)
    | _, _ => False
  | _, _ => False

/-- Equality of structures, part by part. -/
def eqTy2 (T : Ty) (x y : D) : Bool := match T with
  | .int _ => (match x, y with | .int _ _, .int _ _ => true | _, _ => false)
  | .str => (match x, y with | .str _, .str _ => true | _, _ => false)
  | .bool => (match x with | .tt => true | .ff => true | .bool _ => true | _ => false) && (match y with | .tt => true | .ff => true | .bool _ => true | _ => false)
  | _ => false
def veqF (C : Cx) (rec : Nat → List D → List D → Option Bool) (xs ys : List D) : List (Nat × Nat × Nat) → Option Bool
  | [] => some true
  | (off, t, sz) :: r =>
    match (match C.ty t with
      | .struct _ _ => rec t ((xs.drop off).take sz) ((ys.drop off).take sz)
      | T => match xs[off]?, ys[off]? with
        | some x, some y => bif eqTy2 T x y then deq x y else none
        | _, _ => none), veqF C rec xs ys r with
    | some a, some b => some (a && b)
    | _, _ => none
def veq (C : Cx) : Nat → Nat → List D → List D → Option Bool
  | 0, _, _, _ => none
  | f + 1, t, xs, ys => bif C.eq t then (match C.ty t with
    | .struct sz fs => bif Nat.beq xs.length sz && Nat.beq ys.length sz then veqF C (veq C f) xs ys fs else none
    | _ => none) else none
def veqop (C : Cx) (t : Nat) (op : BinOp) (x y : D) (k : D → Prop) : Prop := match x, y with
  | .agg xs, .agg ys => match op with
    | .eql => match veq C 4 t xs ys with
      | some b => k (.bool b)
      | none => False
    | .neq => match veq C 4 t xs ys with
      | some b => k (.bool !b)
      | none => False
    | _ => False
  | _, _ => False
def eqOKop (op : BinOp) (T : Ty) (x y : D) : Bool := match op with
  | .eql => eqTy T x y
  | .neq => eqTy T x y
  | _ => true
def vbo (C : Cx) (t : Nat) (op : BinOp) (x y : D) (k : D → Prop) : Prop := match C.ty t with
  | .struct _ _ => veqop C t op x y k
  | T => bif eqOKop op T x y then vbin op x y k else False
def eqOK (P : Program) (t : Nat) : Prop := (∀ f ∈ (P.fieldsOf t).toList, f.name ≠ "_") ∧ P.stoodInHeld t = false ∧ P.eqGuardType P.depth t = false

def vbuiltin (C : Cx) (b : Builtin) (ts : List Nat) (ty : Nat) (ds : List D) (H : HL) (k : D → Prop) : Prop := match b, ds with
  | .len, [d] => match ts with
    | [t] => match C.ty t with
      | .slice _ _ _ => match d with
        | .rsl _ n _ => k (.int .i64 n)
        | .own o n => match hget H o with
          | some (.buf _ _ m _) => n = m ∧ k (.int .i64 n)
          | _ => False
        | .nilS => k (.int .i64 0)
        | _ => False
      | .str => match d with
        | .str s => k (.int .i64 s.size)
        | _ => False
      | .map ks ek kt et => vmap (.map ks ek kt et) d H fun _ M => k (.int .i64 M.n)
      | _ => False
    | _ => False
  | .max, [.int q a, .int q' b] => bif keq q q' then k (.int q (max a b)) else False
  | .min, [.int q a, .int q' b] => bif keq q q' then k (.int q (min a b)) else False
  | _, _ => False

/-- What is appended: how many elements, and which. -/
def vsrc (es : Nat) (H : HL) (x : D) (k : Nat → (Nat → Nat → D) → Prop) : Prop := match x with
  | .rsl s m g => bif Nat.beq s es then True ∧ k m g else False
  | .own o m => match hget H o with
    | some (.buf _ s m' g) => bif Nat.beq s es then (True ∧ m = m') ∧ k m g else False
    | _ => False
  | _ => False
def ownNe (x : D) (o : Nat) : Bool := match x with
  | .own o' _ => !Nat.beq o' o
  | _ => true
def vappend (T : Ty) (nid : Nat) (s x : D) (H : HL) (k : D → HL → Prop) : Prop := match T with
  | .slice el es eb => vsrc es H x fun m gx => match s with
    | .own o n => match hget H o with
      | some (.buf e s0 n0 g) => bif Nat.beq e el && Nat.beq s0 es && Nat.blt 0 eb && ownNe x o then (n = n0 ∧ (n + m) * eb ≤ 140737488355328) ∧ k (.own o (n + m)) (H.set o (some (.buf el es (n + m) fun i j => if i < n then g i j else gx (i - n) j))) else False
      | _ => False
    | .nilS => bif Nat.blt 0 eb then (0 + m) * eb ≤ 140737488355328 ∧ k (.own nid (0 + m)) (hnew H nid (.buf el es (0 + m) fun i j => gx i j)) else False
    | _ => False
  | _ => False

/-- A type that an interface's value may have. -/
def ifOK : Ty → Bool
  | .int _ | .bool | .str | .struct _ _ => true
  | _ => false
/-- With the parts. -/
def fza (d : D) (k : D → Prop) : Prop := fz d fun d => match d with
  | .agg l => fzl l fun l => k (.agg l)
  | .tup l => match l with
    | [x, y] => fz x fun x => match x with
      | .agg l => fzl l fun l => fz y fun y => k (.tup [.agg l, y])
      | x => fz y fun y => k (.tup [x, y])
    | l => fzl l fun l => k (.tup l)
  | d => k d
theorem fza_iff (d : D) (k : D → Prop) : fza d k ↔ k d := by
  unfold fza
  rw [fz_iff]
  split
  · rw [fzl_iff]
  · split
    · rw [fz_iff]
      split
      · rw [fzl_iff, fz_iff]
      · rw [fz_iff]
    · rw [fzl_iff]
  · exact Iff.rfl
/-- An operation that leaves the abstract heap as it is. -/
def vrd (C : Cx) (o : Oper) (e : Env) (H : HL) (k : D → Prop) : Prop := match o.op with
  | .move x => fz (ev e x) k
  | .assign x => fz (ev e x) k
  | .pick c a b => match ev e c with
    | .tt => fz (ev e a) k
    | .ff => fz (ev e b) k
    | _ => False
  | .build t ps => match C.zero t with
    | some z => fzp (evs e ps) fun ps => vbuild (C.ty t) z ps fun cs => fzl cs fun cs => k (.agg cs)
    | none => False
  | .load t x => vload (C.ty t) (ev e x) H k
  | .nilCheck x => match ev e x with
    | .ptr o f => k (.ptr o f)
    | .eptr n g => k (.eptr n g)
    | .optr o n s i j => k (.optr o n s i j)
    | _ => False
  | .index t x i => vindex C (C.ty t) (ev e x) (ev e i) k
  | .slice t x lo hi none => vslice (C.ty t) (ev e x) (lo.map (ev e)) (hi.map (ev e)) k
  | .binOp op t x y _ => vbo C t op (ev e x) (ev e y) k
  | .unOp op _ x => match op, ev e x with
    | .not, .bool b => k (.bool !b)
    | .not, .tt => k .ff
    | .not, .ff => k .tt
    | .neg, .int q n => fits q (0 - n) k
    | _, _ => False
  | .convert s t x => vconv C (C.ty s) (C.ty t) (ev e x) H k
  | .makeFunc (.func f) fs cs => fzl (fs.toList.map (ev e)) fun fs => fzl (cs.toList.map (ev e)) fun cs => k (.fn f fs cs)
  | .fieldAddr t x f => vfield (C.ty t) (ev e x) f k
  | .indexAddr t x i => vidx (C.ty t) (ev e x) (ev e i) H k
  | .extract x i => match ev e x with
    | .tup l => match l[i]? with
      | some d => fz d k
      | none => False
    | _ => False
  | .makeInterface t x => bif ifOK (C.ty t) then fz (ev e x) fun d => k (.iface t d) else False
  | .typeAssert x _ t false => bif ifOK (C.ty t) then (match ev e x with
    | .iface t' d => bif Nat.beq t' t then fz d k else False
    | _ => False) else False
  | .lookup t x i ok => vlookup (C.ty t) (ev e x) (ev e i) ok H fun d => fza d k
  | .call c => match c.callee with
    | .builtin b => fzl (c.args.toList.map (ev e)) fun ds => vbuiltin C b c.argTypes.toList o.type ds H k
    | _ => False
  | _ => False

/-- An operation that makes, or turns, objects; a new one gets this number. -/
def vwr (C : Cx) (nid : Nat) (o : Oper) (e : Env) (H : HL) (k : D → HL → Prop) : Prop := match o.op with
  | .alloc t => match C.zero t with
    | some cs => k (.ptr nid 0) (hnew H nid (.row cs))
    | none => False
  | .box t x => fz (ev e x) fun d => bif (cellsD d).all one then k (.ptr nid 0) (hnew H nid (.row (cellsD d))) else False
  | .buildSlice t len ps => match C.ty t with
    | .slice el es _ => bif Nat.ble (len * es) 16777216 && Nat.ble len 16777216 then fzp (evs e ps) fun ps => vfill (fun i => some (i * es, es)) (fun cs => fzl cs fun cs =>
        bif cs.all okb && Nat.beq cs.length (len * es) then k (.own nid len) (hnew H nid (.buf el es len fun i j => cs.getD (i * es + j) .top)) else False) (List.replicate (len * es) .top) ps else False
    | _ => False
  | .store t x y => fz (ev e y) fun d => vstore (C.ty t) (ev e x) d H fun H => k .top H
  | .makeMap t none => vmakeMap (C.ty t) nid H k
  | .mapEntry t m x => vmapEntry (C.ty t) (ev e m) (ev e x) H k
  | .entryStore t m x y => ventryStore (C.ty t) (ev e m) (ev e x) (ev e y) H k
  | .mapUpdate t m x y => vmapUpdate (C.ty t) (ev e m) (ev e x) (ev e y) H k
  | .insert t m x y => vmapUpdate (C.ty t) (ev e m) (ev e x) (ev e y) H k
  | .call c => match c.callee with
    | .builtin .append => match c.args.toList, c.argTypes.toList with
      | [s, x], [t, t'] => bif Nat.beq t t' then vappend (C.ty t) nid (ev e s) (ev e x) H k else False
      | _, _ => False
    | _ => False
  | _ => False

structure COK (P : Program) (C : Cx) : Prop where
  ty : ∀ t, tyOK P t (C.ty t)
  zero : ∀ t cs, C.zero t = some cs → zeroOK P t cs
  eq : ∀ t, C.eq t = true → eqOK P t

section
variable {P : Program} {C : Cx} {o : Oper} {a : Act} {w : World} {S : Nat → Prop} {μ : Mu} {H : HL} {e : Env} {k : D → HL → Prop}

theorem run_build {t : Nat} {T : Ty} {z : List D} {ps : Array (Nat × Operand)} {K : List D → Prop} (hT : tyOK P t T) (hz : zeroOK P t z) (he : EnvR S w μ e a) (h : vbuild T z (evs e ps) K) :
    ∃ cs vs, (Instr.build t (ps.map fun (i, x) => (i, a.eval x))).run P w = .ok (.agg vs) w ∧ CR S w μ cs vs ∧ K cs := by
  obtain ⟨i, zv, hi, hzv, hsz, hcs, h1, hR⟩ := hz
  have hC : CR S w μ z zv.cells := ⟨hcs, fun j d v h2 h3 => (hR S w j d v h2 h3).of0, h1⟩
  have hmap : (evs e ps).map (·.1) = ((ps.map fun (i, x) => (i, a.eval x)).toList).map (·.1) := by simp [evs, Function.comp_def]
  have hrel : ∀ (j : Nat) p q, (evs e ps)[j]? = some p → ((ps.map fun (i, x) => (i, a.eval x)).toList)[j]? = some q → R S w μ p.2 q.2 := fun j p q h2 h3 => by
    simp only [evs, Array.toList_map, List.getElem?_map] at h2 h3
    cases hp : ps.toList[j]? with
    | none => simp [hp] at h2
    | some x =>
      simp only [hp, Option.map_some, Option.some.injEq] at h2 h3
      subst h2; subst h3
      exact he.ev x.2
  have hzr : (zeroValue t).run P w = .ok zv w := by simp [zeroValue, typeInfo, hi, hzv]
  cases T <;> simp only [vbuild] at h
  case struct sz fs =>
    obtain ⟨fields, hu, _, _, hp⟩ := hT
    obtain ⟨cs', cur', g1, g2, g3⟩ := sound_fill _ _ _ _ hmap hrel hC h
    refine ⟨cs', cur', ?_, g2, g3⟩
    have e : (fun (i : Nat) => ((fs.map fun (x : Nat × Nat × Nat) => (x.1, x.2.2)).toArray)[i]?) = fun (i : Nat) => (fs[i]?).map fun (x : Nat × Nat × Nat) => (x.1, x.2.2) := by funext i; simp
    simp only [bind_pure_comp, Instr.build, Sem.run_bind, hzr, Result.andThen_ok, run_underlying hu, Array.mapM_eq_mapM_toList, Sem.run_map, run_places w _ _ hp, e, g1]
    rfl
  case array n el es sz =>
    obtain ⟨hu, _, hes⟩ := hT
    obtain ⟨cs', cur', g1, g2, g3⟩ := sound_fill _ _ _ _ hmap hrel hC h
    refine ⟨cs', cur', ?_, g2, g3⟩
    simp only [Instr.build, Sem.run_bind, hzr, Result.andThen_ok, run_underlying hu, run_sizeOf hes, g1]
    rfl

theorem run_alloc {t : Nat} {i : TypeInfo} {z : Value} (hi : P.info? t = some i) (hz : i.zero = some z) : (Instr.alloc t true (.tuple #[])).run P w = .ok (.pointer (some ⟨w.heap.size, 0, none⟩)) (w.alloc (.cells z.cells t)) := by
  simp [Instr.alloc, zeroValue, typeInfo, hi, hz, newVar, newRow]
theorem run_box {t : Nat} {v : Value} : (Instr.box t v).run P w = .ok (.pointer (some ⟨w.heap.size, 0, none⟩)) (w.alloc (.cells v.cells t)) := by
  simp [Instr.box, newVar, newRow]

variable {nid : Nat} {kd : D → Prop}
/-- What a reader leaves. -/
abbrev PostR (S : Nat → Prop) (w : World) (μ : Mu) (H : HL) (k : D → Prop) := Post S w μ H fun d H' => H' = H ∧ k d
theorem Post.rd {d : D} {v : Value} (hr : RelL S w μ H) (hk : kd d) (h : R S w μ d v) : PostR S w μ H kd v w := Post.same hr ⟨rfl, hk⟩ h

theorem Post.of_row {cells : Array Value} {T : Nat} {cs : List D} (hr : RelL S w μ H) (hno : μ nid = none) (hle : nid ≤ H.length) (hc : CR S w μ cs cells) (h : k (.ptr nid 0) (hnew H nid (.row cs))) :
    Post S w μ H k (.pointer (some ⟨w.heap.size, 0, none⟩)) (w.alloc (.cells cells T)) := by
  obtain ⟨h1, h2, h3⟩ := new_row hr hno hle cells T cs hc.1 hc.2.1 hc.2.2
  exact ⟨S, _, _, _, h, h3, h1, h2⟩

theorem sound_alloc {t : Nat} {cs : List D} (hz : zeroOK P t cs) (hr : RelL S w μ H) (hno : μ nid = none) (hle : nid ≤ H.length) (hop : o.op = .alloc t) (h : k (.ptr nid 0) (hnew H nid (.row cs))) : Does P o a w (Post S w μ H k) := by
  obtain ⟨i, z, hi, hz, _, hl, h1, hR⟩ := hz
  refine does_ok (v := .pointer (some ⟨w.heap.size, 0, none⟩)) (w' := w.alloc (.cells z.cells t)) ?_ (Post.of_row hr hno hle ⟨hl, fun j d v h2 h3 => (hR S w j d v h2 h3).of0, h1⟩ h)
  simp [execOp, hop, run_alloc hi hz]

theorem sound_box {t : Nat} {x : Operand} (he : EnvR S w μ e a) (hr : RelL S w μ H) (hno : μ nid = none) (hle : nid ≤ H.length) (hop : o.op = .box t x) (h1 : (cellsD (ev e x)).all one = true) (h : k (.ptr nid 0) (hnew H nid (.row (cellsD (ev e x))))) : Does P o a w (Post S w μ H k) := by
  obtain ⟨hl, hR, hone⟩ := cells_R (he.ev x) h1
  refine does_ok (v := .pointer (some ⟨w.heap.size, 0, none⟩)) (w' := w.alloc (.cells (a.eval x).cells t)) ?_ (Post.of_row hr hno hle ⟨hl.symm, fun j d v h2 h3 => hR j d v h2 h3, fun i v h3 => hone v (by simpa using List.mem_of_getElem? (l := (a.eval x).cells.toList) (i := i) (by simpa using h3))⟩ h)
  simp [execOp, hop, run_box]

theorem own_form (hr : RelL S w μ H) {oid el s m n : Nat} {g : Nat → Nat → D} {v : Value} (ho : hget H oid = some (.buf el s m g)) (hd : R S w μ (.own oid n) v) (hnm : n = m) :
    ∃ A c xs, v = .slice A m c ∧ μ oid = some (.slice A m c) ∧ w.ownsRow 0 el s (.slice A m c) m xs ∧ (∀ i j, i < m → j < s → ∃ u, xs[i * s + j]? = some u ∧ u.oneCell' = true ∧ R S w Mu0 (g i j) u) ∧ (0 < m → ∃ b, A = some ⟨b, 0, none⟩) := by
  cases hd with
  | own _ _ A m' c _ hm hn h1c hv =>
    obtain ⟨mv, h1, xs, hown, hx⟩ := hr.1.obs oid _ ho
    rw [hm] at h1
    injection h1 with h1
    subst h1
    have hmm : m' = m := by
      rcases hown.2 with ⟨e1, e2⟩ | ⟨b, cap, cur, e1, _⟩
      · injection e1 with _ e1 _; omega
      · injection e1
    subst hmm
    refine ⟨A, c, xs, hv hnm, hm, hown, hx, fun h0 => ?_⟩
    rcases hown.2 with ⟨e1, e2⟩ | ⟨b, cap, cur, e1, _⟩
    · omega
    · injection e1 with e1 _ _; exact ⟨b, e1⟩

theorem cell_off {i i' s j j' k : Nat} (hj : j + k ≤ s) (hj' : j' < s) : (i * s + j ≤ i' * s + j' ∧ i' * s + j' < i * s + j + k) ↔ (i' = i ∧ j ≤ j' ∧ j' < j + k) := by
  constructor
  · rintro ⟨h1, h2⟩
    have : i' = i := by
      rcases Nat.lt_trichotomy i' i with h | h | h
      · have := Nat.mul_le_mul_right s (show i' + 1 ≤ i by omega)
        rw [Nat.add_mul] at this
        omega
      · exact h
      · have := Nat.mul_le_mul_right s (show i + 1 ≤ i' by omega)
        rw [Nat.add_mul] at this
        omega
    subst this
    exact ⟨rfl, by omega, by omega⟩
  · rintro ⟨rfl, h1, h2⟩
    exact ⟨by omega, by omega⟩

/-- An element of a slice of the call's own is written. -/
theorem write_buf (hr : RelL S w μ H) {oid el s m b i j : Nat} {c : Nat} {g : Nat → Nat → D} {xsD : List D} {vs : List Value} (ho : hget H oid = some (.buf el s m g)) (hm : μ oid = some (.slice (some ⟨b, 0, none⟩) m c)) (hi : i < m) (hfit : j + xsD.length ≤ s)
    (hl : xsD.length = vs.length) (hR : ∀ (x : Nat) d u, xsD[x]? = some d → vs[x]? = some u → R S w μ d u) (hok : xsD.all okb = true) (h1 : ∀ u ∈ vs, u.oneCell' = true) :
    ∃ w', (storeCells ⟨b, i * s + j, none⟩ vs 0).run P w = .ok () w' ∧
      RelL S w' μ (H.set oid (some (.buf el s m fun i' j' => if i' = i ∧ j ≤ j' ∧ j' < j + xsD.length then xsD.getD (j' - j) .top else g i' j'))) ∧
      Tr S w μ (hget H) S w' μ (hget (H.set oid (some (.buf el s m fun i' j' => if i' = i ∧ j ≤ j' ∧ j' < j + xsD.length then xsD.getD (j' - j) .top else g i' j')))) := by
  obtain ⟨mv, hm', xs, hown, hx⟩ := hr.1.obs oid _ ho
  rw [hm] at hm'
  injection hm' with hm'
  subst hm'
  obtain ⟨hxl, hown2⟩ := hown
  rcases hown2 with ⟨e1, e2⟩ | ⟨b', cap, cur, e1, hb0, hheap, hnc, hcm, hcs, htake⟩
  · cases e1
  · injection e1 with e1 _ e3
    injection e1 with e1
    injection e1 with e1 _ _
    subst e1; subst e3
    have hms : i * s + s ≤ m * s := by
      have := Nat.mul_le_mul_right s (show i + 1 ≤ m by omega)
      rwa [Nat.add_mul, Nat.one_mul] at this
    have hcaps : m * s ≤ c * s := Nat.mul_le_mul_right s hnc
    have hst := run_storeCells_at P b (i * s + j) el vs 0 cur w hheap (by omega) h1
    simp only [Nat.add_zero] at hst
    refine ⟨_, hst, ?_⟩
    have hupd : updM μ oid (.slice (some ⟨b, 0, none⟩) m c) = μ := by
      funext o'
      unfold updM
      split
      · rename_i h; rw [h, hm]
      · rfl
    have hother : ∀ k, k ≠ b → (w.setRow b (cur.toList.take (i * s + j) ++ vs ++ cur.toList.drop (i * s + j + vs.length)).toArray).heap[k]? = w.heap[k]? := fun k hk => setRow_other w b k _ hk
    have hlen' : (cur.toList.take (i * s + j) ++ vs ++ cur.toList.drop (i * s + j + vs.length)).length = cur.size := by
      simp only [List.length_append, List.length_take, List.length_drop, Array.length_toList]; omega
    have hsp := getElem?_vsplice cur (i * s + j) vs (by omega)
    have hown' : (w.setRow b (cur.toList.take (i * s + j) ++ vs ++ cur.toList.drop (i * s + j + vs.length)).toArray).ownsRow 0 el s (.slice (some ⟨b, 0, none⟩) m c) m ((cur.toList.take (i * s + j) ++ vs ++ cur.toList.drop (i * s + j + vs.length)).take (m * s)) := by
      refine ⟨by rw [List.length_take, hlen']; omega, .inr ⟨b, c, _, rfl, hb0, setRow_heap w b cur _ el _ hheap, hnc, hcm, by rw [List.size_toArray, hlen']; exact hcs, rfl⟩⟩
    have hget' : ∀ i' j', i' < m → j' < s → ((cur.toList.take (i * s + j) ++ vs ++ cur.toList.drop (i * s + j + vs.length)).take (m * s))[i' * s + j']? = if i' = i ∧ j ≤ j' ∧ j' < j + xsD.length then vs[j' - j]? else xs[i' * s + j']? := fun i' j' hi' hj' => by
      have hlt : i' * s + j' < m * s := by
        have := Nat.mul_le_mul_right s (show i' + 1 ≤ m by omega)
        rw [Nat.add_mul, Nat.one_mul] at this
        omega
      rw [List.getElem?_take, if_pos hlt]
      have := hsp (i' * s + j')
      rw [List.getElem?_toArray] at this
      rw [this, ← htake, List.getElem?_take, if_pos hlt, ← hl]
      have hc := cell_off (i := i) (i' := i') (s := s) (j := j) (j' := j') (k := xsD.length) hfit hj'
      by_cases hcond : i' = i ∧ j ≤ j' ∧ j' < j + xsD.length
      · rw [if_pos hcond, if_pos (hc.2 hcond)]
        congr 1
        obtain ⟨rfl, _, _⟩ := hcond
        omega
      · rw [if_neg hcond, if_neg (fun h => hcond (hc.1 h))]
        simp
    have := turn_buf hr (w' := w.setRow b (cur.toList.take (i * s + j) ++ vs ++ cur.toList.drop (i * s + j + vs.length)).toArray) (g' := fun i' j' => if i' = i ∧ j ≤ j' ∧ j' < j + xsD.length then xsD.getD (j' - j) .top else g i' j') ho hm (.refl _)
      ⟨rfl, rfl, rfl, by simp, fun k hk hne => hother k (fun e => hne (by simp [Value.ownBlock, e]))⟩ (.inl rfl) hown' (fun i' j' hi' hj' => by
        rw [hget' i' j' hi' hj']
        by_cases hcond : i' = i ∧ j ≤ j' ∧ j' < j + xsD.length
        · simp only [hcond, and_self, if_true]
          have hlt : j' - j < xsD.length := by omega
          have hlt' : j' - j < vs.length := by omega
          refine ⟨vs[j' - j], by simp [hlt'], h1 _ (List.getElem_mem hlt'), ?_⟩
          have e1 : xsD.getD (j' - j) .top = xsD[j' - j] := by simp [List.getElem?_eq_getElem hlt]
          rw [e1]
          have hd := hR (j' - j) xsD[j' - j] vs[j' - j] (by simp [hlt]) (by simp [hlt'])
          have hk := List.all_eq_true.1 hok _ (List.getElem_mem hlt)
          simp only [okb, Bool.or_eq_true] at hk
          rcases hk with hk | hk
          · exact noRef1_R hd hk
          · generalize xsD[j' - j] = dd at *
            cases dd <;> first | exact .top _ | cases hk
        · simp only [hcond, if_false]
          exact hx i' j' hi' hj')
    rwa [hupd] at this

theorem sound_store {t : Nat} {x y : Operand} (hC : COK P C) (he : EnvR S w μ e a) (hr : RelL S w μ H) (hop : o.op = .store t x y) (h : vstore (C.ty t) (ev e x) (ev e y) H fun H => k .top H) : Does P o a w (Post S w μ H k) := by
  unfold vstore at h
  cases hb : ((cellsD (ev e y)).all one && Nat.beq (cellsD (ev e y)).length (tsz (C.ty t)) && (C.ty t).known) with
  | false => simp [hb] at h
  | true =>
    simp only [hb, cond_true] at h
    simp only [Bool.and_eq_true] at hb
    obtain ⟨⟨h1, h2⟩, h3⟩ := hb
    have hlen := Nat.eq_of_beq_eq_true h2
    obtain ⟨hl, hR, hone⟩ := cells_R (he.ev y) h1
    have hx := he.ev x
    cases hd : ev e x <;> rw [hd] at h hx <;> simp only at h
    case ptr oid off =>
      cases ho : hget H oid with
      | none => simp [ho] at h
      | some ob =>
        cases ob with
        | buf _ _ _ _ => simp [ho] at h
        | mp _ => simp [ho] at h
        | lp _ _ => simp [ho] at h
        | dead => simp [ho] at h
        | row cs =>
          simp only [ho] at h
          cases hfit : Nat.ble (off + (cellsD (ev e y)).length) cs.length with
          | false => simp [hfit] at h
          | true =>
            simp only [hfit, cond_true] at h
            have hfit' := Nat.le_of_ble_eq_true hfit
            cases hv : a.eval x <;> rw [hv] at hx <;> try (cases hx; done)
            cases hx with
            | ptr _ _ b hm =>
              obtain ⟨w', hrun, g1, g2⟩ := set_row (P := P) hr ho hm hfit' (by simpa using hl) (fun j x u hx hu => hR j x u hx (by simpa using hu)) hone
              refine does_skip (w' := w') ?_ ⟨S, μ, .top, _, h, .top _, g1, g2⟩
              have hsz := run_sizeOf (tyOK.sz (hC.ty t) h3) w
              simp [execOp, hop, hv, Instr.storeAt, Instr.sureAddr, storeVar, hsz, ← hlen, hl, hrun]
    case optr oid n s' i j =>
      cases ho : hget H oid with
      | none => simp [ho] at h
      | some ob =>
        cases ob with
        | row _ => simp [ho] at h
        | mp _ => simp [ho] at h
        | lp _ _ => simp [ho] at h
        | dead => simp [ho] at h
        | buf el size m g =>
          simp only [ho] at h
          cases hfit : (Nat.beq s' size && Nat.ble (j + (cellsD (ev e y)).length) s' && (cellsD (ev e y)).all okb) with
          | false => simp [hfit] at h
          | true =>
            simp only [hfit, cond_true] at h
            simp only [Bool.and_eq_true] at hfit
            obtain rfl := Nat.eq_of_beq_eq_true hfit.1.1
            have hle := Nat.le_of_ble_eq_true hfit.1.2
            obtain ⟨⟨hnm, him⟩, h⟩ := h
            cases hv : a.eval x <;> rw [hv] at hx <;> try (cases hx; done)
            cases hx with
            | optr _ _ _ _ _ A m' c b hm hn hA =>
              obtain ⟨mv, hmv, xs, hown, _⟩ := hr.1.obs oid _ ho
              rw [hm] at hmv
              injection hmv with hmv
              have hmm : m' = m := by
                rcases hown.2 with ⟨e1, e2⟩ | ⟨b, cap, cur, e1, _⟩
                · rw [← hmv] at e1; injection e1 with _ e1 _; omega
                · rw [← hmv] at e1; injection e1
              subst hmm
              have hA' := hA hnm
              subst hA'
              obtain ⟨w', hrun, g1, g2⟩ := write_buf (P := P) (i := i) (j := j) hr ho hm him hle (by simpa using hl) (fun j x u hx hu => hR j x u hx (by simpa using hu)) hfit.2 hone
              refine does_skip (w' := w') ?_ ⟨S, μ, .top, _, h, .top _, g1, g2⟩
              have hsz := run_sizeOf (tyOK.sz (hC.ty t) h3) w
              simp [execOp, hop, hv, Instr.storeAt, Instr.sureAddr, storeVar, hsz, ← hlen, hl, hrun]

theorem run_intop {t : Nat} {op : BinOp} {q : IntKind} {x y : Int} {K : D → Prop} (h : vbin op (.int q x) (.int q y) K) (hne : op ≠ .eql ∧ op ≠ .neq) :
    ∃ d v, (binOp op t (.int q x) (.int q y)).run P w = .ok v w ∧ R S w μ d v ∧ K d := by
  have hk : keq q q = true := by cases q <;> rfl
  cases op <;> simp only [vbin, hk, cond_true] at h <;> try (exact h.elim)
  case add => exact ⟨_, _, by simp [go_sem], .int _ _, fits_iff h⟩
  case sub => exact ⟨_, _, by simp [go_sem], .int _ _, fits_iff h⟩
  case mul => exact ⟨_, _, by simp [go_sem], .int _ _, fits_iff h⟩
  case quo => exact ⟨_, _, by simp [go_sem, h.1], .int _ _, fits_iff h.2⟩
  case rem => exact ⟨_, _, by simp [go_sem, h.1], .int _ _, h.2⟩
  case or => exact ⟨_, _, by simp [go_sem], .int _ _, h⟩
  case and => exact ⟨_, _, by simp [go_sem], .int _ _, h⟩
  case lss => exact ⟨_, _, by simp [go_sem], .bool _, h⟩
  case leq => exact ⟨_, _, by simp [go_sem], .bool _, h⟩
  case gtr => exact ⟨_, _, by simp [go_sem], .bool _, h⟩
  case geq => exact ⟨_, _, by simp [go_sem], .bool _, h⟩
  case shl => exact ⟨_, _, by simp [go_sem, Op.shift, Int.not_lt.2 h.1], .int _ _, fits_iff h.2⟩
  case shr => exact ⟨_, _, by simp [go_sem, Op.shift, Int.not_lt.2 h.1], .int _ _, h.2⟩
  case eql => exact absurd rfl hne.1
  case neq => exact absurd rfl hne.2

theorem run_shift {t : Nat} {q q' : IntKind} {x y : Int} {K : D → Prop} :
    (vbin .shl (.int q x) (.int q' y) K → ∃ d v, (binOp .shl t (.int q x) (.int q' y)).run P w = .ok v w ∧ R S w μ d v ∧ K d) ∧
    (vbin .shr (.int q x) (.int q' y) K → ∃ d v, (binOp .shr t (.int q x) (.int q' y)).run P w = .ok v w ∧ R S w μ d v ∧ K d) := by
  constructor <;> intro h <;> simp only [vbin] at h
  · exact ⟨_, _, by simp [go_sem, Op.shift, Int.not_lt.2 h.1], .int _ _, fits_iff h.2⟩
  · exact ⟨_, _, by simp [go_sem, Op.shift, Int.not_lt.2 h.1], .int _ _, h.2⟩

theorem vbin_ints {op : BinOp} {x y : D} {K : D → Prop} (h : vbin op x y K) (hne : op ≠ .eql ∧ op ≠ .neq) : ∃ q a q' b, x = .int q a ∧ y = .int q' b ∧ ((op = .shl ∨ op = .shr) ∨ q = q') := by
  cases op <;> first | (exact absurd rfl hne.1) | (exact absurd rfl hne.2) | skip
  all_goals
    cases x <;> simp only [vbin] at h <;> try (exact h.elim)
    cases y <;> simp only at h <;> try (exact h.elim)
    rename_i q a q' b
    refine ⟨q, a, q', b, rfl, rfl, ?_⟩
    first
      | exact .inl (.inl rfl)
      | exact .inl (.inr rfl)
      | (cases hk : keq q q' with
         | true => exact .inr (keq_eq hk)
         | false => simp [hk] at h)

def RLA (S : Nat → Prop) (w : World) (μ : Mu) (xs : List D) (vs : Array Value) : Prop := xs.length = vs.size ∧ ∀ (i : Nat) d v, xs[i]? = some d → vs[i]? = some v → R S w μ d v
theorem RLA.part {xs : List D} {vs : Array Value} (h : RLA S w μ xs vs) (off sz : Nat) : RLA S w μ ((xs.drop off).take sz) (vs.extract off (off + sz)) := by
  refine ⟨by simp [h.1]; omega, fun i d v h1 h2 => ?_⟩
  rw [List.getElem?_take] at h1
  split at h1
  · rw [List.getElem?_drop] at h1
    rw [Array.getElem?_extract] at h2
    split at h2
    · exact h.2 _ _ _ h1 h2
    · cases h2
  · cases h1

theorem run_deq2 {t : Nat} {T : Ty} {x y : D} {vx vy : Value} {b : Bool} (d : Nat) (hx : R S w μ x vx) (hy : R S w μ y vy) (h : deq x y = some b) (hT : tyOK P t T) (ht : eqTy2 T x y = true) : (Op.equalIn (d + 1) t vx vy).run P w = .ok b w := by
  cases T <;> simp only [eqTy2, Bool.false_eq_true] at ht
  case int q0 =>
    cases x <;> first | (cases ht; done) | skip
    cases y <;> first | (cases ht; done) | skip
    cases hx
    cases hy
    rename_i k n k' n'
    simp only [deq] at h
    cases hk : keq k k' with
    | false => simp [hk] at h
    | true =>
      obtain rfl := keq_eq hk
      simp only [hk, cond_true, Option.some.injEq] at h
      subst h
      rw [run_equalIn_int (P := P) w d t k q0 n n' hT.1]
      rfl
  case str =>
    cases x <;> first | (cases ht; done) | skip
    cases y <;> first | (cases ht; done) | skip
    cases hx
    cases hy
    simp only [deq, Option.some.injEq] at h
    subst h
    rw [run_equalIn_string (P := P) w d t _ _ hT.1, toList_beq]
  case bool =>
    have key : ∀ a c : Bool, (Op.equalIn (d + 1) t (.bool a) (.bool c)).run P w = .ok (a == c) w := fun a c => run_equalIn_bool w d t a c hT.1
    cases x <;> simp only [Bool.false_and, Bool.false_eq_true] at ht <;> cases y <;> simp only [Bool.and_false, Bool.false_eq_true] at ht <;> cases hx <;> cases hy <;> simp only [deq, Option.some.injEq] at h <;> subst h <;> first
      | exact key _ _
      | (rename_i b; cases b <;> exact key _ _)

theorem run_eqF (hC : COK P C) {rec : Nat → List D → List D → Option Bool} {d : Nat} (hrec : ∀ t xs ys b, rec t xs ys = some b → ∀ vs us, RLA S w μ xs vs → RLA S w μ ys us → (Op.equalIn (d + 1) t (.agg vs) (.agg us)).run P w = .ok b w)
    {xs ys : List D} {vs us : Array Value} (hx : RLA S w μ xs vs) (hy : RLA S w μ ys us) : ∀ (F : List Field) (L : List (Nat × Nat × Nat)) (b : Bool), F.length = L.length → (∀ f ∈ F, f.name ≠ "_") →
      (∀ (i : Nat) l f, L[i]? = some l → F[i]? = some f → f.offset = l.1 ∧ f.type = l.2.1 ∧ szOf P f.type l.2.2) → veqF C rec xs ys L = some b → (Op.eqFields (d + 1) vs us F).run P w = .ok b w
  | [], [], b, _, _, _, h => by
    simp only [veqF, Option.some.injEq] at h
    subst h
    simp [Op.eqFields]
  | f :: F, (off, t, sz) :: L, b, hl, hn, hp, h => by
    obtain ⟨h1, h2, h3⟩ := hp 0 _ f rfl rfl
    simp only at h1 h2 h3
    have hn0 := hn f (List.mem_cons_self)
    simp only [veqF] at h
    split at h
    · rename_i a c ha hc
      simp only [Option.some.injEq] at h
      subst h
      have ih := run_eqF hC hrec hx hy F L c (by simpa using hl) (fun g hg => hn g (List.mem_cons_of_mem _ hg)) (fun i l g a b => hp (i + 1) l g (by simpa using a) (by simpa using b)) hc
      have hhead : ∃ va vb, (part f.type vs f.offset).run P w = .ok va w ∧ (part f.type us f.offset).run P w = .ok vb w ∧ (Op.equalIn (d + 1) f.type va vb).run P w = .ok a w := by
        rw [h2] at h3 ⊢
        rw [h1]
        have hty := hC.ty t
        by_cases hst : ∃ sz' fs', C.ty t = .struct sz' fs'
        · obtain ⟨sz', fs', hT⟩ := hst
          rw [hT] at ha hty
          obtain ⟨fields, hu, hsz, _⟩ := hty
          have hag := run_isAgg_agg (P := P) hu rfl w
          exact ⟨.agg (vs.extract off (off + sz)), .agg (us.extract off (off + sz)), by simp [part, hag, run_sizeOf h3], by simp [part, hag, run_sizeOf h3], hrec t _ _ a ha _ _ (hx.part off sz) (hy.part off sz)⟩
        · have ha' : (match xs[off]?, ys[off]? with | some x, some y => bif eqTy2 (C.ty t) x y then deq x y else none | _, _ => none) = some a := by
            cases hT : C.ty t <;> rw [hT] at ha <;> first | exact ha | exact absurd ⟨_, _, hT⟩ hst
          split at ha'
          · rename_i x y hxo hyo
            cases hq : eqTy2 (C.ty t) x y with
            | false => simp [hq] at ha'
            | true =>
              simp only [hq, cond_true] at ha'
              have hT1 : (C.ty t).one = true := by
                cases hT : C.ty t <;> rw [hT] at hq <;> first | rfl | simp [eqTy2] at hq
              obtain ⟨dsc, hu, hpl⟩ := hty.plain hT1
              have hag := run_isAgg_plain (P := P) hu hpl w
              have hxl : off < vs.size := by have := (List.getElem?_eq_some_iff.1 hxo).1; have := hx.1; omega
              have hyl : off < us.size := by have := (List.getElem?_eq_some_iff.1 hyo).1; have := hy.1; omega
              exact ⟨vs[off], us[off], by simp [part, hag, hxl], by simp [part, hag, hyl], run_deq2 d (hx.2 off x _ hxo (by simp [hxl])) (hy.2 off y _ hyo (by simp [hyl])) ha' hty hq⟩
          · cases ha'
      obtain ⟨va, vb, g1, g2, g3⟩ := hhead
      simp only [Op.eqFields, hn0, ne_eq, not_false_eq_true, if_true, Sem.run_bind, g1, g2, g3, Result.andThen_ok]
      cases a
      · simp
      · simpa using ih
    · cases h
  | [], _ :: _, _, hl, _, _, _ => by simp at hl
  | _ :: _, [], _, hl, _, _, _ => by simp at hl

theorem run_eqs (hC : COK P C) : ∀ (f t : Nat) (xs ys : List D) (b : Bool), veq C f t xs ys = some b → ∀ vs us, RLA S w μ xs vs → RLA S w μ ys us → ∀ d, f ≤ d → (Op.equalIn (d + 1) t (.agg vs) (.agg us)).run P w = .ok b w
  | 0, _, _, _, _, h => by simp [veq] at h
  | f + 1, t, xs, ys, b, h => fun vs us hx hy d hd => by
    simp only [veq] at h
    cases hq : C.eq t with
    | false => simp [hq] at h
    | true =>
      simp only [hq, cond_true] at h
      obtain ⟨hn, hst, _⟩ := hC.eq t hq
      have hty := hC.ty t
      split at h
      · rename_i sz fs hT
        rw [hT] at hty
        obtain ⟨fields, hu, hsz, hfs, hm⟩ := hty
        have hfo : P.fieldsOf t = fields := by simp [Program.fieldsOf, hu]
        cases hl : (Nat.beq xs.length sz && Nat.beq ys.length sz) with
        | false => simp [hl] at h
        | true =>
          simp only [hl, cond_true] at h
          rw [run_equalIn_struct (P := P) w d t vs us (by rw [hfo]; exact hu) hst, hfo]
          have hlen : fields.toList.length = fs.length := by
            have := congrArg (fun o : Option (List (Nat × Nat)) => o.map List.length) hm
            have h2 : ∀ (L : List Field) (r : List (Nat × Nat)), L.mapM (fun f => (P.info? f.type).map fun i => (f.offset, i.size)) = some r → L.length = r.length := by
              intro L
              induction L with
              | nil => intro r h; simp at h; subst h; rfl
              | cons f L ih =>
                intro r h
                rw [List.mapM_cons] at h
                cases h1 : (P.info? f.type).map fun i => (f.offset, i.size) with
                | none => simp [h1] at h
                | some y =>
                  cases h2 : L.mapM (fun f => (P.info? f.type).map fun i => (f.offset, i.size)) with
                  | none => simp [h1, h2] at h
                  | some z =>
                    simp [h1, h2] at h
                    subst h
                    simp [ih z h2]
            have := h2 _ _ hm
            simpa using this
          match d, hd with
          | d + 1, hd =>
            refine run_eqF hC (fun t' xs' ys' b' h' vs' us' hx' hy' => run_eqs hC f t' xs' ys' b' h' vs' us' hx' hy' d (by omega)) hx hy fields.toList fs b hlen (by rw [hfo] at hn; exact hn) (fun i l g h1 h2 => ?_) h
            obtain ⟨f', k1, k2, k3, k4, _⟩ := hfs i l h1
            have : f' = g := by
              have h2' : fields[i]? = some g := by simpa using h2
              rw [k1] at h2'; injection h2'
            subst this
            exact ⟨k2, k3, k4⟩
          | 0, hd => omega
      · cases h

theorem sound_eq {op : BinOp} {t yt : Nat} {x y : Operand} (hC : COK P C) (he : EnvR S w μ e a) (hr : RelL S w μ H) (hop : o.op = .binOp op t x y yt) (h : veqop C t op (ev e x) (ev e y) kd) : Does P o a w (PostR S w μ H kd) := by
  have hx := he.ev x
  have hy := he.ev y
  generalize ev e x = dx at *
  generalize ev e y = dy at *
  unfold veqop at h
  cases dx <;> first | exact h.elim | skip
  cases dy <;> first | exact h.elim | skip
  rename_i xs ys
  simp only at h
  generalize hvx : a.eval x = vx at *
  generalize hvy : a.eval y = vy at *
  cases hx with
  | agg _ vs hl1 hR1 =>
    cases hy with
    | agg _ us hl2 hR2 =>
      have key : ∀ b, veq C 4 t xs ys = some b → (Op.equalIn (9999 + 1) t (.agg vs) (.agg us)).run P w = .ok b w ∧ P.eqGuardType P.depth t = false := fun b hb => by
        refine ⟨run_eqs hC 4 t xs ys b hb vs us ⟨hl1, hR1⟩ ⟨hl2, hR2⟩ 9999 (Nat.le_of_ble_eq_true rfl), ?_⟩
        unfold veq at hb
        cases hq : C.eq t with
        | false => simp [hq] at hb
        | true => exact (hC.eq t hq).2.2
      cases op <;> first | exact h.elim | skip
      · simp only at h
        cases hb : veq C 4 t xs ys with
        | none => simp [hb] at h
        | some b =>
          simp only [hb] at h
          obtain ⟨k1, k2⟩ := key b hb
          refine does_ok (v := .bool b) (w' := w) ?_ (Post.rd hr h (.bool b))
          simp only [execOp, hop, hvx, hvy, Sem.run_bind, run_eqGuard_agg w .eql t x y vs us k2, Result.andThen_ok, run_eql_struct, Sem.run_pure]
          rw [show (10000 : Nat) = 9999 + 1 from rfl, k1]
          rfl
      · simp only at h
        cases hb : veq C 4 t xs ys with
        | none => simp [hb] at h
        | some b =>
          simp only [hb] at h
          obtain ⟨k1, k2⟩ := key b hb
          refine does_ok (v := .bool !b) (w' := w) ?_ (Post.rd hr h (.bool !b))
          simp only [execOp, hop, hvx, hvy, Sem.run_bind, run_eqGuard_agg w .neq t x y vs us k2, Result.andThen_ok, run_neq_struct, Sem.run_pure]
          rw [show (10000 : Nat) = 9999 + 1 from rfl, k1]
          rfl

theorem sound_bin {op : BinOp} {t yt : Nat} {x y : Operand} (hC : COK P C) (he : EnvR S w μ e a) (hr : RelL S w μ H) (hop : o.op = .binOp op t x y yt) (h : vrd C o e H kd) : Does P o a w (PostR S w μ H kd) := by
  unfold vrd at h
  simp only [hop] at h
  unfold vbo at h
  by_cases hst : ∃ sz fs, C.ty t = .struct sz fs
  · obtain ⟨sz, fs, hT⟩ := hst
    rw [hT] at h
    exact sound_eq hC he hr hop h
  have h : (bif eqOKop op (C.ty t) (ev e x) (ev e y) then vbin op (ev e x) (ev e y) kd else False) := by
    cases hT : C.ty t <;> simp only [hT] at h <;> first | exact h | exact absurd ⟨_, _, hT⟩ hst
  have hx := he.ev x
  have hy := he.ev y
  generalize ev e x = dx at *
  generalize ev e y = dy at *
  have key : ∀ (v : Value) (d : D), (do eqGuard op t x y (a.eval x) (a.eval y); binOp op t (a.eval x) (a.eval y) : Sem Value).run P w = .ok v w → R S w μ d v → kd d → Does P o a w (PostR S w μ H kd) := fun v d h1 h2 h3 => by
    refine does_ok (v := v) (w' := w) ?_ (Post.rd hr h3 h2)
    simp only [execOp, hop, Sem.run_bind] at h1 ⊢
    simp only [h1, Result.andThen_ok, Sem.run_pure]
  by_cases hne : op ≠ .eql ∧ op ≠ .neq
  · have h' : vbin op dx dy kd := by
      cases op <;> first | (exact absurd rfl hne.1) | (exact absurd rfl hne.2) | exact h
    obtain ⟨q, x1, q', y1, rfl, rfl, hq⟩ := vbin_ints h' hne
    generalize a.eval x = vx at *
    generalize a.eval y = vy at *
    cases hx
    cases hy
    have hg : eqGuard op t x y (.int q x1) (.int q' y1) = Pure.pure () := eqGuard_at_int _ _ _ _ _ _ _
    have hrun : ∃ d v, (binOp op t (.int q x1) (.int q' y1)).run P w = .ok v w ∧ R S w μ d v ∧ kd d := by
      rcases hq with (rfl | rfl) | rfl
      · exact run_shift.1 h'
      · exact run_shift.2 h'
      · exact run_intop h' hne
    obtain ⟨d, v, h1, h2, h3⟩ := hrun
    exact key v d (by simp only [hg, Sem.run_bind, Sem.run_pure, Result.andThen_ok, h1]) h2 h3
  · have hop2 : op = .eql ∨ op = .neq := by
      cases op <;> first | exact .inl rfl | exact .inr rfl | exact absurd ⟨by decide, by decide⟩ hne
    rcases hop2 with rfl | rfl
    · have h : (bif eqTy (C.ty t) dx dy then vbin _ dx dy kd else False) := h
      cases hq : eqTy (C.ty t) dx dy with
      | false => simp [hq] at h
      | true =>
        simp only [hq, cond_true, vbin] at h
        cases hd : deq dx dy with
        | none => simp [hd] at h
        | some b =>
          simp only [hd] at h
          exact key _ _ (run_deq hx hy hd (hC.ty t) hq).1 (.bool b) h
    · have h : (bif eqTy (C.ty t) dx dy then vbin _ dx dy kd else False) := h
      cases hq : eqTy (C.ty t) dx dy with
      | false => simp [hq] at h
      | true =>
        simp only [hq, cond_true, vbin] at h
        cases hd : deq dx dy with
        | none => simp [hd] at h
        | some b =>
          simp only [hd] at h
          exact key _ _ (run_deq hx hy hd (hC.ty t) hq).2 (.bool !b) h

theorem CR_replicate {z : Value} {n : Nat} (hz : ∀ v ∈ z.cells.toList, v.oneCell' = true) (h0 : n = 0 ∨ 0 < z.cells.size) : CR S w μ (List.replicate n .top) ((Array.range n).map (z.cells[· % z.cells.size]!)) := by
  refine ⟨by simp, fun i d v h1 _ => ?_, fun i v h => ?_⟩
  · simp only [List.getElem?_replicate] at h1
    split at h1
    · injection h1 with h1; subst h1; exact .top v
    · cases h1
  · simp only [Array.getElem?_map] at h
    by_cases hi : i < n
    · simp only [Array.getElem?_range, hi, if_true, Option.map_some, Option.some.injEq] at h
      have hlt : i % z.cells.size < z.cells.size := Nat.mod_lt _ (by omega)
      subst h
      rw [getElem!_pos z.cells _ hlt]
      exact hz _ (by simp)
    · simp [hi] at h

theorem run_slice_lit {t el es eb len : Nat} {ps : Array (Nat × Operand)} {K : List D → Prop} (hT : tyOK P t (.slice el es eb))
    (he : EnvR S w μ e a) (hb : len * es ≤ 16777216) (h : vfill (fun i => some (i * es, es)) K (List.replicate (len * es) .top) (evs e ps)) :
    ∃ cs vs, (Instr.buildSlice t len (ps.map fun (i, x) => (i, a.eval x))).run P w = .ok (.slice (some ⟨w.heap.size, 0, none⟩) len len) (w.alloc (.cells vs el)) ∧ CR S w μ cs vs ∧ K cs := by
  obtain ⟨hu, _, hes, hpos, i, z, hi, hzv, hsz, _, hzc, hz1⟩ := hT
  have hC : CR S w μ (List.replicate (len * es) .top) ((Array.range (len * es)).map (z.cells[· % z.cells.size]!)) := CR_replicate hz1 (.inr (by omega))
  have hmap : (evs e ps).map (·.1) = ((ps.map fun (i, x) => (i, a.eval x)).toList).map (·.1) := by simp [evs, Function.comp_def]
  have hrel : ∀ (j : Nat) p q, (evs e ps)[j]? = some p → ((ps.map fun (i, x) => (i, a.eval x)).toList)[j]? = some q → R S w μ p.2 q.2 := fun j p q h2 h3 => by
    simp only [evs, Array.toList_map, List.getElem?_map] at h2 h3
    cases hp : ps.toList[j]? with
    | none => simp [hp] at h2
    | some x =>
      simp only [hp, Option.map_some, Option.some.injEq] at h2 h3
      subst h2; subst h3
      exact he.ev x.2
  generalize (ps.map fun (i, x) => (i, a.eval x)) = L at *
  obtain ⟨cs', cur', g1, g2, g3⟩ := sound_fill _ _ _ _ hmap hrel hC h
  refine ⟨cs', cur', ?_, g2, g3⟩
  have hzr : (zeroValue el).run P w = .ok z w := by simp [zeroValue, typeInfo, hi, hzv]
  by_cases h0 : len * es = 0
  · simp only [h0, Array.range_zero', List.map_toArray, List.map_nil] at g1
    simp [Instr.buildSlice, run_underlying hu, run_sizeOf hes, h0, g1, newRow, Array.range_zero']
  · simp only [Instr.buildSlice, Sem.run_bind, run_underlying hu, Result.andThen_ok, run_sizeOf hes]
    rw [if_neg (by omega), if_neg h0]
    simp [hzr, g1, newRow]

theorem sound_builtin {b : Builtin} {xs : Array Operand} {ts : Array Nat} (hC : COK P C) (he : EnvR S w μ e a) (hr : RelL S w μ H) (hop : o.op = .call { callee := .builtin b, args := xs, argTypes := ts })
    (h : vbuiltin C b ts.toList o.type (xs.toList.map (ev e)) H kd) : Does P o a w (PostR S w μ H kd) := by
  have key : ∀ (v : Value) (d : D), (builtin b ts o.type (xs.map fun | .const _ => true | _ => false) (xs.map a.eval)).run P w = .ok (.value v) w → R S w μ d v → kd d → Does P o a w (PostR S w μ H kd) := fun v d h1 h2 h3 => by
    refine does_ok (v := v) (w' := w) ?_ (Post.rd hr h3 h2)
    simp only [execOp, hop, Sem.run_bind, resolve, Sem.run_pure, Result.andThen_ok, invoke]
    exact h1
  obtain ⟨xs⟩ := xs
  obtain ⟨ts⟩ := ts
  have m1 : ∀ {d : D}, xs.map (ev e) = [d] → ∃ x, xs = [x] ∧ ev e x = d := fun {d} h => by
    match xs, h with
    | [x], h => exact ⟨x, rfl, by simpa using h⟩
  have m2 : ∀ {d d' : D}, xs.map (ev e) = [d, d'] → ∃ x y, xs = [x, y] ∧ ev e x = d ∧ ev e y = d' := fun {d d'} h => by
    match xs, h with
    | [x, y], h => exact ⟨x, y, rfl, by simpa using h⟩
  unfold vbuiltin at h
  split at h
  · rename_i d0 heq
    obtain ⟨x, rfl, hd⟩ := m1 heq
    have hx := he.ev x
    rw [hd] at hx
    split at h
    · rename_i t ht
      simp only at ht
      subst ht
      have hty := hC.ty t
      generalize hvx : a.eval x = vx at *
      cases hT : C.ty t <;> rw [hT] at h hty <;> simp only at h
      case slice el es eb =>
        cases d0 <;> simp only at h
        case rsl s n g =>
          cases hx
          exact key _ _ (by simp [builtin, hvx, Builtin.len_, run_underlying hty.1, goInt]) (.int _ _) h
        case own oid n =>
          cases ho : hget H oid with
          | none => simp [ho] at h
          | some ob =>
            cases ob with
            | row _ => simp [ho] at h
            | mp _ => simp [ho] at h
            | lp _ _ => simp [ho] at h
            | dead => simp [ho] at h
            | buf el' s m g =>
              simp only [ho] at h
              obtain ⟨hnm, h⟩ := h
              obtain ⟨A, c, xs, hv, _⟩ := own_form hr ho hx hnm
              subst hnm
              subst hv
              exact key _ _ (by simp [builtin, hvx, Builtin.len_, run_underlying hty.1, goInt]) (.int _ _) h
        case nilS =>
          cases hx
          exact key _ _ (by simp [builtin, hvx, Builtin.len_, run_underlying hty.1, goInt]) (.int _ _) h
      case str =>
        cases d0 <;> simp only at h
        cases hx
        exact key _ _ (by simp [builtin, hvx, Builtin.len_, run_underlying hty.1, goInt]) (.int _ _) h
      case map ks ek kt et =>
        obtain ⟨kt, et, o', M, r, es, clock, g1, g2, g3, g4, rfl, g6, _, g8, g9, g10, g11, g12, g13, h⟩ := vmap_sound hty hr hx h
        refine key _ _ ?_ (.int _ _) h
        simp [builtin, hvx, Builtin.len_, run_underlying g1, goInt, MapKept.run_getObj_map g9, g11]
    · exact h.elim
  · rename_i q n q' n' heq
    obtain ⟨x, y, rfl, hd, hd'⟩ := m2 heq
    have hx := he.ev x
    have hy := he.ev y
    rw [hd] at hx
    rw [hd'] at hy
    cases hq : keq q q' with
    | false => simp [hq] at h
    | true =>
      simp only [hq, cond_true] at h
      obtain rfl := keq_eq hq
      generalize hvx : a.eval x = vx at *
      generalize hvy : a.eval y = vy at *
      cases hx
      cases hy
      refine key _ _ ?_ (.int _ _) h
      have e : (if n' > n then n' else n) = max n n' := by rw [Int.max_def]; split <;> split <;> omega
      have e' : (if n < n' then n' else n) = max n n' := e
      simp [builtin, hvx, hvy, Builtin.max_, Builtin.max2, e']
  · rename_i q n q' n' heq
    obtain ⟨x, y, rfl, hd, hd'⟩ := m2 heq
    have hx := he.ev x
    have hy := he.ev y
    rw [hd] at hx
    rw [hd'] at hy
    cases hq : keq q q' with
    | false => simp [hq] at h
    | true =>
      simp only [hq, cond_true] at h
      obtain rfl := keq_eq hq
      generalize hvx : a.eval x = vx at *
      generalize hvy : a.eval y = vy at *
      cases hx
      cases hy
      refine key _ _ ?_ (.int _ _) h
      have e : (if n' < n then n' else n) = min n n' := by rw [Int.min_def]; split <;> split <;> omega
      simp [builtin, hvx, hvy, Builtin.min_, Builtin.min2, e]
  · exact h.elim

theorem sound_idx {t : Nat} {x i : Operand} (hC : COK P C) (he : EnvR S w μ e a) (hr : RelL S w μ H) (hop : o.op = .indexAddr t x i) (h : vidx (C.ty t) (ev e x) (ev e i) H kd) : Does P o a w (PostR S w μ H kd) := by
  have hx := he.ev x
  have hi := he.ev i
  generalize ev e x = dx at *
  generalize ev e i = di at *
  have hty := hC.ty t
  cases di <;> simp only [vidx] at h
  rename_i q j
  generalize hvx : a.eval x = vx at *
  generalize hvi : a.eval i = vi at *
  cases hi
  cases hT : C.ty t <;> rw [hT] at h hty <;> simp only at h
  case slice el es eb =>
    obtain ⟨hu, _, hes, hpos, _⟩ := hty
    cases dx <;> simp only at h
    case rsl s n g =>
      obtain ⟨⟨h0, hn⟩, h⟩ := h
      cases hs : Nat.beq s es with
      | false => simp [hs] at h
      | true =>
        simp only [hs, cond_true] at h
        obtain rfl := Nat.eq_of_beq_eq_true hs
        cases hx with
        | rsl _ _ _ A c val hnc hcell hR =>
          have hlt : j.toNat < n := by omega
          obtain ⟨b, off, rfl, hb, hc⟩ := hcell (by omega)
          refine does_ok (v := .pointer (some ⟨b, off + j.toNat * s, none⟩)) (w' := w) ?_ (Post.rd hr h ?_)
          · simp [execOp, hop, hvx, hvi, Instr.indexAt, asIntOf, run_underlying hu, h0, hn, run_sizeOf hes, Addr.add_lit]
          · exact .eptr _ _ b _ (val j.toNat) hb (fun x hx => by rw [Nat.add_assoc]; exact hc _ _ hlt hx) (fun x hx => hR _ _ hlt hx)
    case own oid n =>
      cases ho : hget H oid with
      | none => simp [ho] at h
      | some ob =>
        cases ob with
        | row _ => simp [ho] at h
        | mp _ => simp [ho] at h
        | lp _ _ => simp [ho] at h
        | dead => simp [ho] at h
        | buf el' s m g =>
          simp only [ho] at h
          obtain ⟨⟨hnm, h0, hn⟩, h⟩ := h
          cases hs : Nat.beq s es with
          | false => simp [hs] at h
          | true =>
            simp only [hs, cond_true] at h
            obtain rfl := Nat.eq_of_beq_eq_true hs
            obtain ⟨A, c, xs, hv, hm, hown, _, hA⟩ := own_form hr ho hx hnm
            obtain ⟨b, rfl⟩ := hA (by omega)
            subst hv
            refine does_ok (v := .pointer (some ⟨b, j.toNat * s + 0, none⟩)) (w' := w) ?_ (Post.rd hr h ?_)
            · have hn' : j < (m : Int) := by omega
              simp [execOp, hop, hvx, hvi, Instr.indexAt, asIntOf, run_underlying hu, h0, hn', run_sizeOf hes, Addr.add_lit]
            · exact .optr oid n s j.toNat 0 _ m c b hm (by omega) (fun _ => rfl)
  case array n el es sz =>
    obtain ⟨hu, _, hes⟩ := hty
    cases dx <;> simp only at h
    case eptr m g =>
      obtain ⟨⟨h0, hn⟩, h⟩ := h
      cases hs : Nat.ble (n * es) m with
      | false => simp [hs] at h
      | true =>
        simp only [hs, cond_true] at h
        have hle := Nat.le_of_ble_eq_true hs
        have hin : j.toNat * es + es ≤ n * es := by
          have := Nat.mul_le_mul_right es (show j.toNat + 1 ≤ n by omega)
          rwa [Nat.add_mul, Nat.one_mul] at this
        cases hx with
        | eptr _ _ b off val hb hc hR =>
          refine does_ok (v := .pointer (some ⟨b, off + j.toNat * es, none⟩)) (w' := w) ?_ (Post.rd hr h ?_)
          · simp [execOp, hop, hvx, hvi, Instr.indexAt, Instr.sureAddr, asIntOf, run_underlying hu, h0, hn, run_sizeOf hes, Addr.add_lit]
          · exact .eptr _ _ b _ (fun x => val (j.toNat * es + x)) hb (fun x hx => by rw [Nat.add_assoc]; exact hc _ (by omega)) (fun x hx => hR _ (by omega))
    case ptr oid off =>
      obtain ⟨⟨h0, hn⟩, h⟩ := h
      cases hx with
      | ptr _ _ b hm =>
        refine does_ok (v := .pointer (some ⟨b, off + j.toNat * es, none⟩)) (w' := w) ?_ (Post.rd hr h (.ptr _ _ b hm))
        simp [execOp, hop, hvx, hvi, Instr.indexAt, Instr.sureAddr, asIntOf, run_underlying hu, h0, hn, run_sizeOf hes, Addr.add_lit]

theorem sound_index {t : Nat} {x i : Operand} (hC : COK P C) (he : EnvR S w μ e a) (hr : RelL S w μ H) (hop : o.op = .index t x i) (h : vindex C (C.ty t) (ev e x) (ev e i) kd) : Does P o a w (PostR S w μ H kd) := by
  have hx := he.ev x
  have hi := he.ev i
  generalize ev e x = dx at *
  generalize ev e i = di at *
  have hty := hC.ty t
  cases di <;> simp only [vindex] at h
  rename_i q j
  generalize hvx : a.eval x = vx at *
  generalize hvi : a.eval i = vi at *
  cases hi
  cases hT : C.ty t <;> rw [hT] at h hty <;> simp only at h
  case str =>
    cases dx <;> simp only at h
    rename_i s
    obtain ⟨⟨h0, hn⟩, h⟩ := h
    cases hx
    have hlt : j.toNat < s.size := by omega
    refine does_ok (v := .int .u8 (s[j.toNat]).toNat) (w' := w) ?_ (Post.rd hr h ?_)
    · simp [execOp, hop, hvx, hvi, Instr.index, asIntOf, run_underlying hty.1, h0, getElem?_pos s j.toNat hlt]
    · have : byteAt s j.toNat = (s[j.toNat]).toNat := by simp [byteAt, getElem?_pos s j.toNat hlt]
      rw [this]
      exact .int _ _
  case array n el es sz =>
    obtain ⟨hu, _, hes⟩ := hty
    have htye := hC.ty el
    cases dx <;> first | exact h.elim | skip
    rename_i cs
    split at h
    · rename_i hq1 hq2
      injection hq1 with hq1
      subst hq1
      rw [hq2] at htye
      cases hb : (Nat.beq es 1 && Nat.ble n cs.length && cs.all isI64) with
      | false => simp [hb] at h
      | true =>
        simp only [hb, cond_true] at h
        simp only [Bool.and_eq_true] at hb
        have he1 := Nat.eq_of_beq_eq_true hb.1.1
        have hle := Nat.le_of_ble_eq_true hb.1.2
        obtain ⟨⟨h0, hn⟩, h⟩ := h
        cases hx with
        | agg _ vs hl hR =>
          have hlt : j.toNat < cs.length := by omega
          have hlt' : j.toNat < vs.size := by omega
          have hd := hR j.toNat cs[j.toNat] vs[j.toNat] (by simp [hlt]) (by simp [hlt'])
          have hk := List.all_eq_true.1 hb.2 _ (List.getElem_mem hlt)
          refine does_ok (v := vs[j.toNat]) (w' := w) ?_ (Post.rd hr h ?_)
          · subst he1
            have hag := run_isAgg_plain (P := P) htye.1 rfl w
            simp [execOp, hop, hvx, hvi, Instr.index, asIntOf, run_underlying hu, h0, hn, run_sizeOf hes, part, hag, hlt']
          · have e1 : (cs.map numOf).getD j.toNat 0 = numOf cs[j.toNat] := by simp [hlt]
            rw [e1]
            generalize cs[j.toNat] = dd at *
            cases dd <;> simp only [isI64, Bool.false_eq_true] at hk
            rename_i q n
            cases q <;> simp only [isI64, Bool.false_eq_true] at hk
            exact hd
    · exact h.elim

theorem sound_slice {t : Nat} {x : Operand} {lo hi : Option Operand} (hC : COK P C) (he : EnvR S w μ e a) (hr : RelL S w μ H) (hop : o.op = .slice t x lo hi none) (h : vslice (C.ty t) (ev e x) (lo.map (ev e)) (hi.map (ev e)) kd) : Does P o a w (PostR S w μ H kd) := by
  have hx := he.ev x
  generalize ev e x = dx at *
  have hty := hC.ty t
  cases hT : C.ty t <;> rw [hT] at h hty <;> simp only [vslice] at h
  rename_i el es eb
  obtain ⟨hu, _, hes, hpos, _⟩ := hty
  cases dx <;> simp only at h
  rename_i s n g
  split at h
  · rename_i l hh hlo hhi
    obtain ⟨⟨h0, h1, h2⟩, h⟩ := h
    cases hs : Nat.beq s es with
    | false => simp [hs] at h
    | true =>
      simp only [hs, cond_true] at h
      obtain rfl := Nat.eq_of_beq_eq_true hs
      generalize hvx : a.eval x = vx at *
      cases hx with
      | rsl _ _ _ A c val hnc hcell hR =>
        have hb : (Instr.sliceBounds true n c (lo.map a.eval) (hi.map a.eval) none).run P w = .ok (l.toNat, hh.toNat, c) w := by
          have elo : ∀ {lo : Option Operand} {l : Int}, (match lo.map (ev e) with | none => some 0 | some (.int _ l) => some l | _ => none) = some l → (lo = none ∧ l = 0) ∨ ∃ y q, lo = some y ∧ a.eval y = .int q l := fun {lo l} hq => by
            cases lo with
            | none => simp at hq; exact .inl ⟨rfl, hq.symm⟩
            | some y =>
              right
              have hy := he.ev y
              simp only [Option.map_some] at hq
              generalize ev e y = dy at *
              cases dy <;> simp only [reduceCtorEq, Option.some.injEq] at hq
              subst hq
              generalize hvy : a.eval y = vy at *
              cases hy
              exact ⟨y, _, rfl, hvy⟩
          have ehi : ∀ {lo : Option Operand} {l : Int}, (match lo.map (ev e) with | none => some (n : Int) | some (.int _ l) => some l | _ => none) = some l → (lo = none ∧ l = n) ∨ ∃ y q, lo = some y ∧ a.eval y = .int q l := fun {lo l} hq => by
            cases lo with
            | none => simp at hq; exact .inl ⟨rfl, hq.symm⟩
            | some y =>
              right
              have hy := he.ev y
              simp only [Option.map_some] at hq
              generalize ev e y = dy at *
              cases dy <;> simp only [reduceCtorEq, Option.some.injEq] at hq
              subst hq
              generalize hvy : a.eval y = vy at *
              cases hy
              exact ⟨y, _, rfl, hvy⟩
          have hc1 : hh ≤ (c : Int) := by omega
          have hc2 : l ≤ ((hh.toNat : Nat) : Int) := by omega
          have h0h : 0 ≤ hh := by omega
          rcases elo hlo with ⟨rfl, rfl⟩ | ⟨y, q, rfl, hy⟩ <;> rcases ehi hhi with ⟨rfl, rfl⟩ | ⟨y', q', rfl, hy'⟩
          · simp [Instr.sliceBounds]
          · simp [Instr.sliceBounds, Instr.sliceBound, hy', asIntOf, h0h, hc1]
          · simp only [Int.toNat_natCast] at hc2
            simp [Instr.sliceBounds, Instr.sliceBound, hy, asIntOf, h0, hc2]
          · simp [Instr.sliceBounds, Instr.sliceBound, hy, hy', asIntOf, h0, h0h, hc1, Int.toNat_of_nonneg h0h, h1]
        refine does_ok (v := .slice (if c = l.toNat then A else A.map (·.add (l.toNat * s))) (hh.toNat - l.toNat) (c - l.toNat)) (w' := w) ?_ (Post.rd hr h ?_)
        · simp only [execOp, hop, hvx, Instr.sliceAt, Instr.slice, Option.map_none, Sem.run_bind, run_underlying hu, Result.andThen_ok, hb, run_sizeOf hes, Sem.run_pure]
        · refine .rsl s _ _ _ _ (fun i j => val (l.toNat + i) j) (by omega) (fun hpos => ?_) (fun i j hi hj => hR _ _ (by omega) hj)
          obtain ⟨b, off, rfl, hbS, hc⟩ := hcell (by omega)
          have hne : ¬ c = l.toNat := by omega
          refine ⟨b, off + l.toNat * s, by rw [if_neg hne]; simp [Addr.add_lit], hbS, fun i j hi hj => ?_⟩
          have := hc (l.toNat + i) j (by omega) hj
          rw [Nat.add_mul, Nat.add_assoc] at this
          rw [Nat.add_assoc]
          exact this
  · exact h.elim

theorem sound_conv {s t : Nat} {x : Operand} (hC : COK P C) (he : EnvR S w μ e a) (hr : RelL S w μ H) (hop : o.op = .convert s t x) (h : vconv C (C.ty s) (C.ty t) (ev e x) H kd) : Does P o a w (PostR S w μ H kd) := by
  have hx := he.ev x
  generalize ev e x = dx at *
  generalize hvx : a.eval x = vx at *
  have hs := hC.ty s
  have ht := hC.ty t
  unfold vconv at h
  split at h
  · rename_i q hT
    rw [hT] at ht
    split at h
    · rename_i hS
      rw [hS] at hs
      cases hx
      refine does_ok (w' := w) ?_ (Post.rd hr (fits_iff h) (.int _ _))
      simp [execOp, hop, hvx, convert, run_underlying hs.1, run_underlying ht.1, Conv.intToInt]
    · exact h.elim
  · rename_i el eb hT
    rw [hT] at ht
    split at h
    · rename_i str hS hE
      have hel := hC.ty el
      rw [hE] at hel
      rw [hS] at hs
      cases hx
      have hrun := run_bytes_of_string (P := P) w s t el str hs.1 ht.1 hel.1
      have hcell : ∀ i, i < str.size → (w.drew.alloc (.cells (bytesRow str (grownCap w str.size 0 el)) el ((bytesRow str (grownCap w str.size 0 el)).size, (bytesRow str (grownCap w str.size 0 el)).size + 1))).cell? ⟨w.heap.size, i, none⟩ = some (.int .u8 (byteAt str i)) := fun i hi => by
        refine (row_cell (b := w.heap.size) (heap_alloc_new w.drew _) i).trans ?_
        have hlt : i < str.data.size := hi
        simp only [bytesRow, Array.getElem?_append, Array.size_map, hlt, if_true, Array.getElem?_map, Array.getElem?_eq_getElem hlt, Option.map_some]
        have : byteAt str i = (str.data[i]).toNat := by
          simp only [byteAt, getElem?_pos str i hi, Option.map_some, Option.getD_some]
          rfl
        rw [this]
      obtain ⟨g1, g2⟩ := hr.1.grow (w' := w.drew.alloc (.cells (bytesRow str (grownCap w str.size 0 el)) el ((bytesRow str (grownCap w str.size 0 el)).size, (bytesRow str (grownCap w str.size 0 el)).size + 1))) rfl rfl rfl (by simp) (fun b hb => RowKit.Below.heap_alloc w.drew _ b hb)
        (S' := fun b => S b ∨ b = w.heap.size) (fun b h => .inl h) (fun b hb => by
          rcases hb with h | h
          · exact .inl h
          · exact .inr (by omega)) (fun b hb => by
          have : (w.drew.alloc (.cells (bytesRow str (grownCap w str.size 0 el)) el ((bytesRow str (grownCap w str.size 0 el)).size, (bytesRow str (grownCap w str.size 0 el)).size + 1))).heap.size = w.heap.size + 1 := by simp
          rw [this]
          rcases hb with h | h
          · have := (hr.1.stat b h).1; omega
          · omega)
      refine does_ok (v := .slice (some ⟨w.heap.size, 0, none⟩) str.size (grownCap w str.size 0 el)) ?_ ⟨fun b => S b ∨ b = w.heap.size, μ, _, H, ⟨rfl, h⟩, .rsl 1 str.size _ _ _ (fun i _ => .int .u8 (byteAt str i)) (grownCap_ge w _ _ _) (fun _ => ⟨w.heap.size, 0, rfl, .inr rfl, fun i j hi hj => ?_⟩) (fun i j hi hj => .int _ _), ⟨g1, hr.2⟩, g2⟩
      · simp only [execOp, hop, Sem.run_bind, hvx, hrun, Result.andThen_ok, Sem.run_pure]
      · obtain rfl : j = 0 := by omega
        refine ⟨?_, rfl⟩
        rw [Nat.zero_add, Nat.mul_one, Nat.add_zero]
        exact hcell i hi
    · exact h.elim
  · rename_i hT
    rw [hT] at ht
    split at h
    · rename_i el eb hS
      rw [hS] at hs
      have hel := hC.ty el
      split at h
      · rename_i n g hE
        rw [hE] at hel
        obtain ⟨hg, h⟩ := h
        cases hx with
        | rsl _ _ _ A c val hnc hcell hR =>
          have hval : ∀ i, i < n → val i 0 = .int .u8 (numOf (g i 0)) := fun i hi => by
            have := hR i 0 hi (by omega)
            rw [hg i hi] at this
            generalize val i 0 = vv at this
            cases this
            rfl
          refine does_ok (w' := w) ?_ (Post.rd hr h (.str _))
          cases n with
          | zero =>
            have : strOfNums ((List.range 0).map fun i => numOf (g i 0)) = ByteArray.empty := rfl
            rw [this]
            cases A with
            | none => simp only [execOp, hop, hvx, Sem.run_bind, run_convert_bytes_nil (P := P) w s el hs.1 hel.1 0 c t ht.1, Result.andThen_ok, Sem.run_pure]
            | some ad =>
              obtain ⟨b, off, path⟩ := ad
              have hl : (loadCells ⟨b, off, path⟩ 0).run P w = .ok (([] : List Int).map (Value.int .u8)).toArray w := by simp [loadCells, loadCellsFrom]
              have := run_convert_bytes_string w s t el (some ⟨b, off, path⟩) 0 c hs.1 hel.1 ht.1
              simp only [execOp, hop, hvx, Sem.run_bind, this, run_bytesToString w ⟨b, off, path⟩ 0 c [] hl, Result.andThen_ok, Sem.run_pure]
              rfl
          | succ n =>
            obtain ⟨b, off, rfl, hb, hc⟩ := hcell (by omega)
            have := run_convert_bytes_arg (P := P) w s el hs.1 hel.1 b off (n + 1) c ((List.range (n + 1)).map fun i => numOf (g i 0)) (by simp) (fun i hi => by
              have h1 := (hc i 0 hi (by omega)).1
              rw [hval i hi, Nat.mul_one, Nat.add_zero] at h1
              rw [h1]
              simp [hi]) t ht.1
            simp only [execOp, hop, hvx, Sem.run_bind, this, Result.andThen_ok, Sem.run_pure]
      · rename_i oid n hE
        rw [hE] at hel
        cases ho : hget H oid with
        | none => simp [ho] at h
        | some ob =>
          cases ob with
          | row _ => simp [ho] at h
          | mp _ => simp [ho] at h
          | lp _ _ => simp [ho] at h
          | dead => simp [ho] at h
          | buf el' s' m g =>
            simp only [ho] at h
            split at h
            · rename_i heq
              injection heq with heq
              injection heq with _ heq1 heq2 heq3
              subst heq1; subst heq2; subst heq3
              obtain ⟨⟨hnm, hg⟩, h⟩ := h
              obtain ⟨A, c, xs, hv, hm, hown, hel', hA⟩ := own_form hr ho hx hnm
              subst hnm
              subst hv
              refine does_ok (w' := w) ?_ (Post.rd hr h (.str _))
              cases n with
              | zero =>
                have : strOfNums ((List.range 0).map fun i => numOf (g i 0)) = ByteArray.empty := rfl
                cases A with
                | none => simp only [execOp, hop, hvx, Sem.run_bind, run_convert_bytes_nil (P := P) w s el hs.1 hel.1 0 c t ht.1, Result.andThen_ok, Sem.run_pure]; rfl
                | some ad =>
                  obtain ⟨b, off, path⟩ := ad
                  have hl : (loadCells ⟨b, off, path⟩ 0).run P w = .ok (([] : List Int).map (Value.int .u8)).toArray w := by simp [loadCells, loadCellsFrom]
                  have := run_convert_bytes_string w s t el (some ⟨b, off, path⟩) 0 c hs.1 hel.1 ht.1
                  simp only [execOp, hop, hvx, Sem.run_bind, this, run_bytesToString w ⟨b, off, path⟩ 0 c [] hl, Result.andThen_ok, Sem.run_pure]
                  rfl
              | succ n =>
                obtain ⟨b, rfl⟩ := hA (by omega)
                have := run_convert_bytes_arg (P := P) w s el hs.1 hel.1 b 0 (n + 1) c ((List.range (n + 1)).map fun i => numOf (g i 0)) (by simp) (fun i hi => by
                  obtain ⟨u, hu, _, hur⟩ := hel' i 0 hi (by omega)
                  rw [hg i hi] at hur
                  cases hur
                  rw [Nat.zero_add, own_cell hown rfl i _ (by rw [Nat.mul_one, Nat.add_zero] at hu; exact hu)]
                  simp [hi]) t ht.1
                simp only [execOp, hop, hvx, Sem.run_bind, this, Result.andThen_ok, Sem.run_pure]
            · exact h.elim
      · rename_i hE
        rw [hE] at hel
        cases hx
        refine does_ok (w' := w) ?_ (Post.rd hr h (.str _))
        simp only [execOp, hop, hvx, Sem.run_bind, run_convert_bytes_nil (P := P) w s el hs.1 hel.1 0 0 t ht.1, Result.andThen_ok, Sem.run_pure]
      · exact h.elim
    · exact h.elim
  · exact h.elim

theorem sound_rd (hC : COK P C) (he : EnvR S w μ e a) (hr : RelL S w μ H) (h : vrd C o e H kd) : Does P o a w (PostR S w μ H kd) := by
  have h0 := h
  unfold vrd at h
  cases hop : o.op <;> simp only [hop] at h
  case move x =>
    rw [fz_iff] at h
    exact does_ok (v := a.eval x) (w' := w) (by simp [execOp, hop]) (Post.rd hr h (he.ev x))
  case assign x =>
    rw [fz_iff] at h
    exact does_ok (v := a.eval x) (w' := w) (by simp [execOp, hop]) (Post.rd hr h (he.ev x))
  case pick c x y =>
    have hc := he.ev c
    generalize ev e c = dc at *
    generalize hvc : a.eval c = vc at *
    cases dc <;> simp only at h
    · cases hc
      rw [fz_iff] at h
      exact does_ok (v := a.eval x) (w' := w) (by simp [execOp, hop, hvc, asBool]) (Post.rd hr h (he.ev x))
    · cases hc
      rw [fz_iff] at h
      exact does_ok (v := a.eval y) (w' := w) (by simp [execOp, hop, hvc, asBool]) (Post.rd hr h (he.ev y))
  case build t ps =>
    cases hz : C.zero t with
    | none => simp [hz] at h
    | some z =>
      simp only [hz, fzp_iff] at h
      obtain ⟨cs, vs, g1, g2, g3⟩ := run_build (hC.ty t) (hC.zero t z hz) he h
      rw [fzl_iff] at g3
      refine does_ok (v := .agg vs) (w' := w) ?_ (Post.rd hr g3 (.agg _ _ g2.1.symm g2.2.1))
      simp only [execOp, hop, Sem.run_bind, g1, Result.andThen_ok, Sem.run_pure]
  case load t x =>
    obtain ⟨d, v, g1, g2, g3⟩ := sound_load (P := P) (hC.ty t) hr (he.ev x) h
    refine does_ok (v := v) (w' := w) ?_ (Post.rd hr g3 g2)
    simp only [execOp, hop, Sem.run_bind, g1, Result.andThen_ok, Sem.run_pure]
  case nilCheck x =>
    have hx := he.ev x
    generalize ev e x = dx at *
    generalize hvx : a.eval x = vx at *
    cases dx <;> simp only at h
    all_goals
      have hx' := hx
      cases hx
      refine does_ok (w' := w) ?_ (Post.rd hr h hx')
      simp [execOp, hop, hvx]
  case binOp op t x y yt => exact sound_bin hC he hr hop h0
  case unOp op t x =>
    have hx := he.ev x
    generalize ev e x = dx at *
    generalize hvx : a.eval x = vx at *
    cases op <;> cases dx <;> simp only at h
    case not.tt => cases hx; exact does_ok (w' := w) (by simp [execOp, hop, hvx, Op.unary]) (Post.rd hr h .ff)
    case not.ff => cases hx; exact does_ok (w' := w) (by simp [execOp, hop, hvx, Op.unary]) (Post.rd hr h .tt)
    case not.bool => cases hx; exact does_ok (w' := w) (by simp [execOp, hop, hvx, Op.unary]) (Post.rd hr h (.bool _))
    case neg.int => cases hx; exact does_ok (w' := w) (by simp [execOp, hop, hvx, Op.unary, Op.intArith]) (Post.rd hr (fits_iff h) (.int _ _))
  case convert s t x => exact sound_conv hC he hr hop h
  case index t x i => exact sound_index hC he hr hop h
  case slice t x lo hi mx =>
    cases mx <;> simp only at h
    exact sound_slice hC he hr hop h
  case makeFunc f fs cs =>
    cases f <;> simp only at h
    rename_i f
    rw [fzl_iff, fzl_iff] at h
    refine does_ok (v := .func (.func f) (fs.map a.eval) (cs.map a.eval)) (w' := w) ?_ (Post.rd hr h ?_)
    · simp [execOp, hop, Instr.makeFunc]
    · refine .fn f _ _ _ _ (by simp) (by simp) (fun i d v h1 h2 => ?_) (fun i d v h1 h2 => ?_)
      all_goals
        simp only [List.getElem?_map, Array.getElem?_map, Array.getElem?_toList] at h1 h2
        first
          | (cases hq : fs[i]? with
             | none => simp [hq] at h1
             | some x => simp only [hq, Option.map_some, Option.some.injEq] at h1 h2; subst h1; subst h2; exact he.ev x)
          | (cases hq : cs[i]? with
             | none => simp [hq] at h1
             | some x => simp only [hq, Option.map_some, Option.some.injEq] at h1 h2; subst h1; subst h2; exact he.ev x)
  case fieldAddr t x f =>
    obtain ⟨d, v, g1, g2, g3⟩ := sound_field (P := P) (hC.ty t) hr (he.ev x) h
    refine does_ok (v := v) (w' := w) ?_ (Post.rd hr g3 g2)
    simp only [execOp, hop, Sem.run_bind, g1, Result.andThen_ok, Sem.run_pure]
  case indexAddr t x i => exact sound_idx hC he hr hop h
  case makeInterface t x =>
    have hty := hC.ty t
    cases hT : C.ty t <;> rw [hT] at h hty <;> simp only [ifOK, cond_true, cond_false] at h
    all_goals
      rw [fz_iff] at h
      refine does_ok (v := .iface t (a.eval x)) (w' := w) ?_ (Post.rd hr h (.iface _ _ _ (he.ev x)))
    · simp [execOp, hop, Instr.makeInterface, run_underlying hty.1]
    · simp [execOp, hop, Instr.makeInterface, run_underlying hty.1]
    · simp [execOp, hop, Instr.makeInterface, run_underlying hty.1]
    · obtain ⟨f, hu, _⟩ := hty
      simp [execOp, hop, Instr.makeInterface, run_underlying hu]
  case typeAssert x xt t ok =>
    cases ok <;> simp only at h
    have hty := hC.ty t
    have hx := he.ev x
    cases hok : ifOK (C.ty t) with
    | false => rw [hok] at h; exact h.elim
    | true =>
      rw [hok, cond_true] at h
      generalize ev e x = dx at *
      generalize hvx : a.eval x = vx at *
      cases dx <;> simp only at h
      rename_i t' d
      cases hq : Nat.beq t' t with
      | false => rw [hq] at h; exact h.elim
      | true =>
        rw [hq, cond_true, fz_iff] at h
        obtain rfl := Nat.eq_of_beq_eq_true hq
        cases hx with
        | iface _ _ v hv =>
          refine does_ok (v := v) (w' := w) ?_ (Post.rd hr h hv)
          cases hT : C.ty t' <;> rw [hT] at hok hty <;> simp only [ifOK, Bool.false_eq_true] at hok
          · simp [execOp, hop, hvx, Instr.typeAssert, run_underlying hty.1]
          · simp [execOp, hop, hvx, Instr.typeAssert, run_underlying hty.1]
          · simp [execOp, hop, hvx, Instr.typeAssert, run_underlying hty.1]
          · obtain ⟨f, hu, _⟩ := hty
            simp [execOp, hop, hvx, Instr.typeAssert, run_underlying hu]
  case lookup t x i ok =>
    obtain ⟨d, v, g1, g2, g3⟩ := sound_lookup (P := P) (hC.ty t) hr (he.ev x) (he.ev i) h
    rw [fza_iff] at g3
    refine does_ok (v := v) (w' := w) ?_ (Post.rd hr g3 g2)
    simp only [execOp, hop, Sem.run_bind, g1, Result.andThen_ok, Sem.run_pure]
  case extract x i =>
    have hx := he.ev x
    generalize ev e x = dx at *
    generalize hvx : a.eval x = vx at *
    cases dx <;> simp only at h
    rename_i l
    cases hl : l[i]? with
    | none => simp [hl] at h
    | some d =>
      simp only [hl, fz_iff] at h
      cases hx with
      | tup _ vs hlen hR =>
        have hlt : i < l.length := (List.getElem?_eq_some_iff.1 hl).1
        have hlt' : i < vs.size := by omega
        refine does_ok (v := vs[i]) (w' := w) ?_ (Post.rd hr h (hR i d _ hl (by simp [hlt'])))
        simp [execOp, hop, hvx, Instr.extract, hlt']
  case call c =>
    obtain ⟨callee, args, ats⟩ := c
    cases callee <;> simp only at h
    rw [fzl_iff] at h
    exact sound_builtin hC he hr hop h

theorem RL_src {es : Nat} {x : D} {v : Value} {K : Nat → (Nat → Nat → D) → Prop} (hr : RelL S w μ H) (hx : R S w μ x v) (h : vsrc es H x K) (hpos : 0 < es) :
    ∃ (m : Nat) (gx : Nat → Nat → D) (A : Option Addr) (c : Nat) (news : List Value), K m gx ∧ (A = none → m = 0) ∧ v = .slice A m c ∧ news.length = m * es ∧ (∀ ad, A = some ad → ∀ j u, news[j]? = some u → w.cell? (ad.add j) = some u) ∧ (∀ u ∈ news, u.oneCell' = true) ∧
      (∀ i j, i < m → j < es → ∃ u, news[i * es + j]? = some u ∧ u.oneCell' = true ∧ R S w Mu0 (gx i j) u) := by
  unfold vsrc at h
  split at h
  · rename_i s m g
    cases hs : Nat.beq s es with
    | false => simp [hs] at h
    | true =>
      simp only [hs, cond_true] at h
      obtain rfl := Nat.eq_of_beq_eq_true hs
      obtain ⟨_, h⟩ := h
      cases hx with
      | rsl _ _ _ A c val hnc hcell hR =>
        by_cases hm : 0 < m
        case neg =>
          obtain rfl : m = 0 := by omega
          exact ⟨0, g, A, c, [], h, fun _ => rfl, rfl, by simp, by simp, by simp, fun i j hi => absurd hi (Nat.not_lt_zero _)⟩
        obtain ⟨b, off, rfl, hb, hc⟩ := hcell hm
        have hdiv : ∀ t, t < m * s → t / s < m ∧ t % s < s := fun t ht => ⟨(Nat.div_lt_iff_lt_mul hpos).2 ht, Nat.mod_lt _ hpos⟩
        have hnews : ∀ t u, ((List.range (m * s)).map fun t => val (t / s) (t % s))[t]? = some u → t < m * s ∧ u = val (t / s) (t % s) := fun t u h => by
          simp only [List.getElem?_map] at h
          by_cases ht : t < m * s
          · simp [ht] at h; exact ⟨ht, h.symm⟩
          · simp [Nat.le_of_not_lt ht] at h
        refine ⟨m, g, some ⟨b, off, none⟩, c, (List.range (m * s)).map fun t => val (t / s) (t % s), h, nofun, rfl, by simp, fun ad had t u hu => ?_, fun u hu => ?_, fun i j hi hj => ?_⟩
        · cases had
          obtain ⟨ht, rfl⟩ := hnews t u hu
          obtain ⟨h1, h2⟩ := hdiv t ht
          have := (hc _ _ h1 h2).1
          rw [Addr.add_lit, ← this]
          congr 2
          have := Nat.div_add_mod t s
          rw [Nat.mul_comm] at this
          omega
        · obtain ⟨t, ht, rfl⟩ := List.getElem_of_mem hu
          simp only [List.length_map, List.length_range] at ht
          simp only [List.getElem_map, List.getElem_range]
          exact (hc _ _ (hdiv t ht).1 (hdiv t ht).2).2
        · have hlt : i * s + j < m * s := by
            have := Nat.mul_le_mul_right s (show i + 1 ≤ m by omega)
            rw [Nat.add_mul, Nat.one_mul] at this
            omega
          have e1 : (i * s + j) / s = i := by rw [Nat.mul_comm, Nat.mul_add_div hpos, Nat.div_eq_of_lt hj]; omega
          have e2 : (i * s + j) % s = j := by rw [Nat.mul_comm, Nat.mul_add_mod, Nat.mod_eq_of_lt hj]
          refine ⟨val i j, by simp [hlt, e1, e2], (hc i j hi hj).2, hR i j hi hj⟩
  · rename_i oid m
    cases ho : hget H oid with
    | none => simp [ho] at h
    | some ob =>
      cases ob with
      | row _ => simp [ho] at h
      | mp _ => simp [ho] at h
      | lp _ _ => simp [ho] at h
      | dead => simp [ho] at h
      | buf el s m' g =>
        simp only [ho] at h
        cases hs : Nat.beq s es with
        | false => simp [hs] at h
        | true =>
          simp only [hs, cond_true] at h
          obtain rfl := Nat.eq_of_beq_eq_true hs
          obtain ⟨⟨_, hmm⟩, h⟩ := h
          obtain ⟨A, c, xs, hv, hmu, hown, hel, hA⟩ := own_form hr ho hx hmm
          subst hmm
          by_cases hm : 0 < m
          case neg =>
            obtain rfl : m = 0 := by omega
            exact ⟨0, g, A, c, [], h, fun _ => rfl, hv, by simp, by simp, by simp, fun i j hi => absurd hi (Nat.not_lt_zero _)⟩
          obtain ⟨b, rfl⟩ := hA hm
          refine ⟨m, g, some ⟨b, 0, none⟩, c, xs, h, nofun, hv, hown.1, fun ad had t u hu => ?_, fun u hu => ?_, hel⟩
          · cases had
            rw [Addr.add_lit, Nat.zero_add]; exact own_cell hown rfl t u hu
          · obtain ⟨t, ht, rfl⟩ := List.getElem_of_mem hu
            rw [hown.1] at ht
            obtain ⟨u, hu, h1, _⟩ := hel (t / s) (t % s) ((Nat.div_lt_iff_lt_mul hpos).2 ht) (Nat.mod_lt _ hpos)
            have := Nat.div_add_mod t s
            rw [Nat.mul_comm, ] at this
            rw [this] at hu
            have e : xs[t]? = some xs[t] := List.getElem?_eq_getElem (by rw [hown.1]; exact ht)
            rw [e] at hu
            injection hu with hu
            rw [hu]; exact h1
  · exact h.elim

/-- Append of what may be no slice at all. -/
theorem run_append_opt (base : Nat) (t ty e : TypeId) (i : TypeInfo) (z : Value) (size bytes : Nat) (ht : P.underlying t = some (.slice e)) (hi : P.info? e = some i) (hz : i.zero = some z)
    (hsize : i.size = size) (hby : i.bytes = bytes) (hzs : z.cells.size = size) (hsz : 0 < size)
    (v : Value) (n : Nat) (xs : List Value) (hown : w.ownsRow base e size v n xs)
    (A : Option Addr) (m c : Nat) (news : List Value) (hA : A = none → m = 0) (hl : news.length = m * size) (hnews : ∀ ad, A = some ad → ∀ j u, news[j]? = some u → w.cell? (ad.add j) = some u) (h1 : ∀ u ∈ news, u.oneCell' = true)
    (h63 : n + m ≤ maxLen) (hbytes : (n + m) * bytes ≤ 140737488355328) (hbase : base ≤ w.heap.size) :
    ∃ v' w', (Builtin.append_ #[t, t] ty #[v, .slice A m c]).run P w = .ok v' w' ∧ w'.ownsRow base e size v' (n + m) (xs ++ news) ∧ w.grownBy w' v.ownBlock ∧
      (m = 0 → v' = v) ∧ (v'.ownBlock = v.ownBlock ∨ v'.ownBlock = some w.heap.size) := by
  by_cases hm : m = 0
  · subst hm
    have hn : news = [] := List.eq_nil_of_length_eq_zero (by simpa using hl)
    subst hn
    rw [List.append_nil, Nat.add_zero]
    refine ⟨v, w, ?_, hown, ⟨rfl, rfl, rfl, Nat.le_refl _, fun _ _ _ => rfl⟩, fun _ => rfl, Or.inl rfl⟩
    rcases hown.2 with ⟨rfl, rfl⟩ | ⟨g, cap, cur, rfl, hbg, hg, hnc, hcm, hcs, htake⟩
    · cases A <;> simp [Builtin.append_, run_underlying ht, sizeOf, typeInfo, hi, Builtin.lenOf, Builtin.firstCells, loadCells, loadCellsFrom]
    · cases A <;> simp [Builtin.append_, run_underlying ht, sizeOf, typeInfo, hi, Builtin.lenOf, Builtin.firstCells, loadCells, loadCellsFrom, storeCells, hnc]
  · cases A with
    | some ad =>
      obtain ⟨v', w', q1, q2, q3, _, q5⟩ := run_append_own_at w base t ty e i z size bytes ht hi hz hsize hby hzs hsz v n xs hown ad m c news hl (hnews ad rfl) h1 h63 hbytes hbase
      exact ⟨v', w', q1, q2, q3, fun h => absurd h hm, q5⟩
    | none => exact absurd (hA rfl) hm

theorem turn_append {oid el es eb n m : Nat} {g gx : Nat → Nat → D} {mv : Value} {B : Option Addr} {c t ty : Nat} {news : List Value} (hT : tyOK P t (.slice el es eb)) (hr : RelL S w μ H) (ho : hget H oid = some (.buf el es n g)) (hm : μ oid = some mv)
    (hB : B = none → m = 0) (heb : 0 < eb) (hmax : (n + m) * eb ≤ 140737488355328) (hl : news.length = m * es) (hnews : ∀ ad, B = some ad → ∀ j u, news[j]? = some u → w.cell? (ad.add j) = some u) (h1 : ∀ u ∈ news, u.oneCell' = true)
    (hg : ∀ i j, i < m → j < es → ∃ u, news[i * es + j]? = some u ∧ u.oneCell' = true ∧ R S w Mu0 (gx i j) u) :
    ∃ v' w', (Builtin.append_ #[t, t] ty #[mv, .slice B m c]).run P w = .ok v' w' ∧ RelL S w' (updM μ oid v') (H.set oid (some (.buf el es (n + m) fun i j => if i < n then g i j else gx (i - n) j))) ∧
      Tr S w μ (hget H) S w' (updM μ oid v') (hget (H.set oid (some (.buf el es (n + m) fun i j => if i < n then g i j else gx (i - n) j)))) ∧ R S w' (updM μ oid v') (.own oid (n + m)) v' := by
  obtain ⟨hu, _, hes, hesp, i, z, hi, hz, hsz, hby, hzs, _⟩ := hT
  obtain ⟨mv0, hm0, xs, hown, hx⟩ := hr.1.obs oid _ ho
  rw [hm] at hm0
  injection hm0 with hm0
  subst hm0
  have hle : n + m ≤ 140737488355328 := Nat.le_trans (Nat.le_mul_of_pos_right _ heb) hmax
  obtain ⟨v', w', hrun, hown', hgrow, hm0, hat⟩ := run_append_opt (P := P) (w := w) 0 t ty el i z es eb hu hi hz hsz hby hzs hesp mv n xs hown B m c news hB hl hnews h1 (by unfold maxLen; omega) hmax (Nat.zero_le _)
  have hform : ∃ A c', v' = .slice A (n + m) c' ∧ n + m ≤ c' := by
    rcases hown'.2 with ⟨e1, e2⟩ | ⟨b, cap, cur, e1, _, _, hc, _⟩
    · exact ⟨none, 0, by rw [e1, e2], by omega⟩
    · exact ⟨_, _, e1, hc⟩
  obtain ⟨A, c', rfl, hc'⟩ := hform
  have hLe : Le mv (.slice A (n + m) c') := by
    by_cases hmz : m = 0
    · exact .inl (hm0 hmz)
    rcases hown.2 with ⟨e1, e2⟩ | ⟨b, cap, cur, e1, _⟩
    · exact .inr (.inl ⟨none, 0, 0, A, n + m, c', e1, rfl, by omega⟩)
    · exact .inr (.inl ⟨_, n, _, A, n + m, c', e1, rfl, by omega⟩)
  have hxl := hown.1
  obtain ⟨g1, g2⟩ := turn_buf hr (g' := fun i j => if i < n then g i j else gx (i - n) j) ho hm hLe hgrow hat hown' (fun i j hi hj => by
    have hlt : i < n → i * es + j < n * es := fun h => by
      have := Nat.mul_le_mul_right es (show i + 1 ≤ n by omega)
      rw [Nat.add_mul, Nat.one_mul] at this
      omega
    by_cases hin : i < n
    · obtain ⟨u, hu, h1, h2⟩ := hx i j hin hj
      simp only [hin, if_true]
      exact ⟨u, by rw [List.getElem?_append_left (by rw [hxl]; exact hlt hin)]; exact hu, h1, h2⟩
    · obtain ⟨u, hu, h1, h2⟩ := hg (i - n) j (by omega) hj
      simp only [hin, if_false]
      refine ⟨u, ?_, h1, h2⟩
      have hmul : n * es ≤ i * es := Nat.mul_le_mul_right es (by omega)
      rw [List.getElem?_append_right (by rw [hxl]; omega), hxl]
      have : i * es + j - n * es = (i - n) * es + j := by rw [Nat.sub_mul]; omega
      rw [this]; exact hu)
  exact ⟨_, w', hrun, g1, g2, .own oid (n + m) A (n + m) c' _ (by simp [updM]) (Nat.le_refl _) rfl (fun _ => rfl)⟩

theorem set_set {α : Type} (l : List α) (i : Nat) (a b : α) : (l.set i a).set i b = l.set i b := by simp
theorem hnew_set (nid : Nat) (ob ob' : Ob) (hle : nid ≤ H.length) : (hnew H nid ob).set nid (some ob') = hnew H nid ob' := by
  unfold hnew
  cases hb : Nat.blt nid H.length with
  | true => simp
  | false =>
    have : ¬ nid < H.length := fun hl => by rw [(blt_iff _ _).2 hl] at hb; cases hb
    obtain rfl : nid = H.length := by omega
    simp

theorem sound_append {s x : Operand} {t : Nat} (hC : COK P C) (he : EnvR S w μ e a) (hr : RelL S w μ H) (hno : μ nid = none) (hle : nid ≤ H.length) (hop : o.op = .call { callee := .builtin .append, args := #[s, x], argTypes := #[t, t] })
    (h : vappend (C.ty t) nid (ev e s) (ev e x) H k) : Does P o a w (Post S w μ H k) := by
  have hs := he.ev s
  have hx := he.ev x
  have hty := hC.ty t
  unfold vappend at h
  split at h
  · rename_i el es eb hT
    rw [hT] at hty
    have hpos : 0 < es := hty.2.2.2.1
    obtain ⟨m, gx, B, c, news, hk, hm, hv, hl, hnews, h1, hg⟩ := RL_src hr hx h hpos
    have fin : ∀ {v' : Value} {w' : World} {d : D} {H' : HL} {μ' : Mu}, (Builtin.append_ #[t, t] o.type #[a.eval s, .slice B m c]).run P w = .ok v' w' → k d H' → R S w' μ' d v' → RelL S w' μ' H' → Tr S w μ (hget H) S w' μ' (hget H') → Does P o a w (Post S w μ H k) := fun {v' w' d H' μ'} hrun hk hR hrel htr => by
      refine does_ok (v := v') (w' := w') ?_ ⟨S, μ', d, H', hk, hR, hrel, htr⟩
      simp only [execOp, hop, resolve, invoke, builtin, Sem.run_bind, Sem.run_pure, Result.andThen_ok, List.map_toArray, List.map_cons, List.map_nil, hv, hrun]
    split at hk
    · rename_i oid n hd
      rw [hd] at hs
      cases ho : hget H oid with
      | none => simp [ho] at hk
      | some ob =>
        cases ob with
        | row _ => simp [ho] at hk
        | mp _ => simp [ho] at hk
        | lp _ _ => simp [ho] at hk
        | dead => simp [ho] at hk
        | buf e0 s0 n0 g =>
          simp only [ho] at hk
          cases hq : (Nat.beq e0 el && Nat.beq s0 es && Nat.blt 0 eb && ownNe (ev e x) oid) with
          | false => simp [hq] at hk
          | true =>
            simp only [hq, cond_true] at hk
            simp only [Bool.and_eq_true] at hq
            obtain rfl := Nat.eq_of_beq_eq_true hq.1.1.1
            obtain rfl := Nat.eq_of_beq_eq_true hq.1.1.2
            obtain ⟨⟨hnn, hmax⟩, hk⟩ := hk
            obtain ⟨A, c0, xs, hv0, hm0, _⟩ := own_form hr ho hs hnn
            subst hnn
            obtain ⟨v', w', hrun, g1, g2, g3⟩ := turn_append (P := P) (ty := o.type) (c := c) hty hr ho hm0 hm ((blt_iff _ _).1 hq.1.2) hmax hl hnews h1 hg
            rw [← hv0] at hrun
            exact fin hrun hk g3 g1 g2
    · rename_i hd
      rw [hd] at hs
      cases hq : Nat.blt 0 eb with
      | false => simp [hq] at hk
      | true =>
        simp only [hq, cond_true] at hk
        obtain ⟨hmax, hk⟩ := hk
        obtain ⟨r1, r2, r3⟩ := new_nil hr hno hle el es (fun _ _ => D.top)
        have hvs : a.eval s = .slice none 0 0 := by
          generalize a.eval s = vs at hs
          cases hs; rfl
        obtain ⟨v', w', hrun, g1, g2, g3⟩ := turn_append (P := P) (ty := o.type) (c := c) (oid := nid) (n := 0) (g := fun _ _ => D.top) (mv := .slice none 0 0) (gx := gx) hty r1 (by rw [hget_new _ hle]; simp [updH]) (by simp [updM]) hm ((blt_iff _ _).1 hq) hmax hl hnews h1 hg
        rw [← hvs] at hrun
        rw [hnew_set nid _ _ hle] at g1 g2
        have hf : (fun i j => if i < 0 then D.top else gx (i - 0) j) = fun i j => gx i j := by funext i j; simp
        rw [hf] at g1 g2
        exact fin hrun hk g3 g1 (r2.trans g2)
    · exact hk.elim
  · exact h.elim

theorem sound_wr (hC : COK P C) (he : EnvR S w μ e a) (hr : RelL S w μ H) (hno : μ nid = none) (hle : nid ≤ H.length) (h : vwr C nid o e H k) : Does P o a w (Post S w μ H k) := by
  unfold vwr at h
  cases hop : o.op <;> simp only [hop] at h
  case alloc t =>
    cases hz : C.zero t with
    | none => simp [hz] at h
    | some cs =>
      simp only [hz] at h
      exact sound_alloc (hC.zero t cs hz) hr hno hle hop h
  case box t x =>
    rw [fz_iff] at h
    cases h1 : (cellsD (ev e x)).all one with
    | false => simp [h1] at h
    | true =>
      simp only [h1, cond_true] at h
      exact sound_box he hr hno hle hop h1 h
  case buildSlice t len ps =>
    cases hT : C.ty t <;> simp only [hT] at h
    rename_i el es eb
    have hty := hC.ty t
    rw [hT] at hty
    cases hq0 : (Nat.ble (len * es) 16777216 && Nat.ble len 16777216) with
    | false => simp [hq0] at h
    | true =>
      simp only [hq0, cond_true, fzp_iff] at h
      simp only [Bool.and_eq_true] at hq0
      obtain ⟨cs, vs, g1, g2, g3⟩ := run_slice_lit hty he (Nat.le_of_ble_eq_true hq0.1) h
      rw [fzl_iff] at g3
      cases hq : (cs.all okb && Nat.beq cs.length (len * es)) with
      | false => simp [hq] at g3
      | true =>
        simp only [hq, cond_true] at g3
        simp only [Bool.and_eq_true] at hq
        have hlen : len ≤ 16777216 := Nat.le_of_ble_eq_true hq0.2
        obtain ⟨r1, r2, r3⟩ := new_buf hr hno hle vs (e := el) (Nat.eq_of_beq_eq_true hq.2) (by unfold maxLen; omega) g2 (fun d hd => by
          have := List.all_eq_true.1 hq.1 d hd
          simp only [okb, Bool.or_eq_true] at this
          rcases this with h1 | h1
          · exact .inl h1
          · cases d <;> first | exact .inr rfl | cases h1)
        refine does_ok (v := .slice (some ⟨w.heap.size, 0, none⟩) len len) (w' := w.alloc (.cells vs el)) ?_ ⟨S, _, _, _, g3, r3, r1, r2⟩
        simp only [execOp, hop, Sem.run_bind, g1, Result.andThen_ok, Sem.run_pure]
  case store t x y =>
    rw [fz_iff] at h
    exact sound_store hC he hr hop h
  case makeMap t r =>
    cases r <;> simp only at h
    unfold vmakeMap at h
    cases hT : C.ty t <;> rw [hT] at h <;> simp only at h
    rename_i ks ek kt et
    obtain ⟨r1, r2, r3⟩ := new_map hr hno hle ks ek
    refine does_ok (v := .map (some w.heap.size)) (w' := w.alloc (.map #[] 0)) ?_ ⟨S, _, _, _, h, r3, r1, r2⟩
    simp [execOp, hop, Instr.makeMap]
  case mapEntry t m x =>
    obtain ⟨v, w', h1, h2⟩ := sound_mapEntry (P := P) (hC.ty t) hr (he.ev m) (he.ev x) h
    refine does_ok (v := v) (w' := w') ?_ h2
    simp only [execOp, hop, Sem.run_bind, h1, Result.andThen_ok, Sem.run_pure]
  case entryStore t m x y =>
    obtain ⟨w', h1, h2⟩ := sound_entryStore (P := P) (hC.ty t) hr (he.ev m) (he.ev x) (he.ev y) h
    refine does_skip (w' := w') ?_ h2
    simp only [execOp, hop, Sem.run_bind, h1, Result.andThen_ok, Sem.run_pure]
  case mapUpdate t m x y =>
    obtain ⟨w', h1, h2⟩ := sound_mapUpdate (P := P) (hC.ty t) hr (he.ev m) (he.ev x) (he.ev y) h
    refine does_skip (w' := w') ?_ h2
    simp only [execOp, hop, Sem.run_bind, h1, Result.andThen_ok, Sem.run_pure]
  case insert t m x y =>
    obtain ⟨w', h1, h2⟩ := sound_mapUpdate (P := P) (hC.ty t) hr (he.ev m) (he.ev x) (he.ev y) h
    refine does_skip (w' := w') ?_ h2
    simp only [execOp, hop, Sem.run_bind, h1, Result.andThen_ok, Sem.run_pure]
  case call c =>
    obtain ⟨callee, args, ats⟩ := c
    split at h
    · rename_i hcal
      simp only at hcal
      subst hcal
      split at h
      · rename_i s x t t' hargs hats
        obtain ⟨args⟩ := args
        obtain ⟨ats⟩ := ats
        simp only at hargs hats
        subst hargs
        subst hats
        cases hq : Nat.beq t t' with
        | false => simp [hq] at h
        | true =>
          simp only [hq, cond_true] at h
          obtain rfl := Nat.eq_of_beq_eq_true hq
          exact sound_append hC he hr hno hle hop h
      · exact h.elim
    · exact h.elim
end
end Go.V
end
