/-
  A small logic of our own over the kit's Code.wp: abstract values and an abstract heap, their relation to the model's values and worlds, and how that relation is kept. No statement of the program here.
-/
import Derived.WalkKit
import Derived.WalkSpells
import Derived.WalkLawsBesides
import Derived.Maps.AppendAt
import Derived.MapKept
set_option linter.unusedVariables false
set_option linter.unusedSimpArgs false
namespace Go.V

/-- Abstract values. 'rsl': a slice that is only read (element i, cell j); 'eptr': a pointer into memory that is only read; 'ptr', 'own', 'optr', 'map': references to objects of the abstract heap. -/
inductive D where
  | top
  | tt
  | ff
  | int (k : IntKind) (n : Int)
  | bool (b : Bool)
  | str (s : ByteArray)
  | agg (cs : List D)
  | tup (cs : List D)
  | rsl (size n : Nat) (get : Nat → Nat → D)
  | eptr (n : Nat) (get : Nat → D)
  | ptr (o off : Nat)
  | own (o n : Nat)
  | optr (o n size i j : Nat)
  | map (o : Nat)
  | fn (f : Nat) (first caps : List D)
  | iface (t : Nat) (d : D)
  | nilI
  | nilS
  | yld (o : Nat)
  | stamp (o : Nat) (k : Value)

/-- The kinds of keys, and of elements, of maps. -/
inductive KS where
  | str
  | int (k : IntKind)
  | ints (m : Nat)
inductive EK where
  | bool
  | ints (m : Nat)
/-- A map: the kind of its keys and elements; how many entries there are; whether a key is there; the cells of its element (a bool: 1 for true). -/
structure Mp where
  ks : KS
  ek : EK
  n : Nat
  has : Value → Bool
  get : Value → Nat → Int
/-- Where a range over a function stands: between two rounds; in a round; left by a round, and how; over. -/
inductive Pj where
  | ready
  | busy
  | ret
  | exit (id : Nat)
  | gone

/-- Abstract objects: a row of cells (a variable, a struct, an array); a slice of the call's own. -/
inductive Ob where
  | row (cs : List D)
  | buf (e size n : Nat) (get : Nat → Nat → D)
  | mp (m : Mp)
  | lp (r : Loop) (p : Pj)

abbrev Mu := Nat → Option Value
def Mu0 : Mu := fun _ => none

/-- What stands for a map in 'Mu': its block, and its entries' keys and stamps. -/
def mapMk (r : Nat) (ks : Array Value) : Value := .func (.func 0) #[.map (some r)] ks
def marks (es : Array MapEntry) : Array Value := es.map fun x => .tuple #[x.key, .int .i64 x.born]

/-- The cells of a slice that is only read. -/
def Cells (S : Nat → Prop) (w : World) (A : Option Addr) (n size : Nat) (val : Nat → Nat → Value) : Prop :=
  0 < n → ∃ b off, A = some ⟨b, off, none⟩ ∧ S b ∧ ∀ i j, i < n → j < size → w.cell? ⟨b, off + (i * size + j), none⟩ = some (val i j) ∧ (val i j).oneCell' = true

inductive R (S : Nat → Prop) (w : World) : Mu → D → Value → Prop
  | top {μ} (v) : R S w μ .top v
  | tt {μ} : R S w μ .tt (.bool true)
  | ff {μ} : R S w μ .ff (.bool false)
  | int {μ} (k n) : R S w μ (.int k n) (.int k n)
  | bool {μ} (b) : R S w μ (.bool b) (.bool b)
  | str {μ} (s) : R S w μ (.str s) (.string s)
  | agg {μ} (cs : List D) (vs : Array Value) : cs.length = vs.size → (∀ (i : Nat) d v, cs[i]? = some d → vs[i]? = some v → R S w μ d v) → R S w μ (.agg cs) (.agg vs)
  | tup {μ} (cs : List D) (vs : Array Value) : cs.length = vs.size → (∀ (i : Nat) d v, cs[i]? = some d → vs[i]? = some v → R S w μ d v) → R S w μ (.tup cs) (.tuple vs)
  | rsl {μ} (size n g A c) (val : Nat → Nat → Value) : n ≤ c → Cells S w A n size val → (∀ i j, i < n → j < size → R S w Mu0 (g i j) (val i j)) → R S w μ (.rsl size n g) (.slice A n c)
  | eptr {μ} (n g b off) (val : Nat → Value) : S b → (∀ j, j < n → w.cell? ⟨b, off + j, none⟩ = some (val j) ∧ (val j).oneCell' = true) → (∀ j, j < n → R S w Mu0 (g j) (val j)) → R S w μ (.eptr n g) (.pointer (some ⟨b, off, none⟩))
  | ptr {μ : Mu} (o off b) : μ o = some (.pointer (some ⟨b, 0, none⟩)) → R S w μ (.ptr o off) (.pointer (some ⟨b, off, none⟩))
  | own {μ : Mu} (o n A m c v) : μ o = some (.slice A m c) → n ≤ m → v.oneCell' = true → (n = m → v = .slice A m c) → R S w μ (.own o n) v
  | optr {μ : Mu} (o n size i j A m c b) : μ o = some (.slice A m c) → n ≤ m → (n = m → A = some ⟨b, 0, none⟩) → R S w μ (.optr o n size i j) (.pointer (some ⟨b, i * size + j, none⟩))
  | map {μ : Mu} (o r ks) : μ o = some (mapMk r ks) → R S w μ (.map o) (.map (some r))
  | yld {μ : Mu} (o l) : μ o = some (.func (.yield l) #[] #[]) → R S w μ (.yld o) (.func (.yield l) #[] #[])
  | stamp {μ : Mu} (o k r ks) (i born : Nat) : μ o = some (mapMk r ks) → ks[i]? = some (.tuple #[k, .int .i64 born]) → R S w μ (.stamp o k) (.int .i64 born)
  | fn {μ} (f) (fs cs : List D) (vf vc : Array Value) : fs.length = vf.size → cs.length = vc.size → (∀ (i : Nat) d v, fs[i]? = some d → vf[i]? = some v → R S w μ d v) → (∀ (i : Nat) d v, cs[i]? = some d → vc[i]? = some v → R S w μ d v) →
      R S w μ (.fn f fs cs) (.func (.func f) vf vc)
  | iface {μ} (t d v) : R S w μ d v → R S w μ (.iface t d) (.iface t v)
  | nilI {μ} : R S w μ .nilI .nilIface
  | nilS {μ} : R S w μ .nilS (.slice none 0 0)

def blk : Value → Option Nat
  | .pointer (some a) => some a.block
  | .slice (some a) _ _ => some a.block
  | .map (some r) => some r
  | .func (.func _) first _ => match (first[0]? : Option Value) with
    | some (Value.map (some r)) => some r
    | _ => none
  | .func (.yield l) _ _ => some l
  | _ => none
theorem blk_mapMk (r : Nat) (ks : Array Value) : blk (mapMk r ks) = some r := by simp [blk, mapMk]

def keyOK : KS → Value → Prop
  | .str, v => ∃ s : ByteArray, v = .string s ∧ s.size ≤ maxLen
  | .int k, v => ∃ n, v = .int k n ∧ (Lit.int k n).wf = true
  | .ints m, v => ∃ ns : List Int, ns.length = m ∧ v = .agg (ns.map (Value.int .i64)).toArray ∧ ∀ n ∈ ns, (Lit.int .i64 n).wf = true
def elemV : EK → (Nat → Int) → Value
  | .bool, g => .bool (decide (g 0 = 1))
  | .ints m, g => .agg ((List.range m).map fun j => Value.int .i64 (g j)).toArray
def MapR (w : World) (mv : Value) (m : Mp) : Prop := ∃ r es clock, mv = mapMk r (marks es) ∧ w.heap[r]? = some (.map es clock) ∧ MapKept.Stamped es clock ∧ es.size = m.n ∧
  (∀ x ∈ es.toList, keyOK m.ks x.key ∧ m.has x.key = true ∧ x.val = elemV m.ek (m.get x.key)) ∧ ∀ k, keyOK m.ks k → m.has k = true → ∃ x ∈ es.toList, x.key = k
def lpR (r : Loop) : Pj → Loop → Prop
  | .ready, x => x = { r with state := .ready, pending := none }
  | .busy, x => x = { r with state := .busy, pending := none }
  | .ret, x => x = { r with state := .done, pending := some .ret }
  | .exit id, x => x = { r with state := .done, pending := some (.exit id) }
  | .gone, _ => True

def ObR (S : Nat → Prop) (w : World) (μ : Mu) (mv : Value) : Ob → Prop
  | .row cs => ∃ b cells T, mv = .pointer (some ⟨b, 0, none⟩) ∧ w.heap[b]? = some (.cells cells T (0, 0)) ∧ cells.size = cs.length ∧
      (∀ (i : Nat) d v, cs[i]? = some d → cells[i]? = some v → R S w μ d v) ∧ (∀ (i : Nat) v, cells[i]? = some v → v.oneCell' = true)
  | .buf e size n g => ∃ xs, w.ownsRow 0 e size mv n xs ∧ (∀ i j, i < n → j < size → ∃ v, xs[i * size + j]? = some v ∧ v.oneCell' = true ∧ R S w Mu0 (g i j) v)
  | .mp m => MapR w mv m
  | .lp r p => ∃ l x, mv = .func (.yield l) #[] #[] ∧ w.heap[l]? = some (.loop x) ∧ lpR r p x

abbrev Hp := Nat → Option Ob
structure Rel (S : Nat → Prop) (w : World) (μ : Mu) (H : Hp) : Prop where
  obs : ∀ o ob, H o = some ob → ∃ mv, μ o = some mv ∧ ObR S w μ mv ob
  sep : ∀ o o' ob ob' v v' b, H o = some ob → H o' = some ob' → o ≠ o' → μ o = some v → μ o' = some v' → blk v = some b → blk v' ≠ some b
  stat : ∀ b, S b → b < w.heap.size ∧ ∀ o ob v, H o = some ob → μ o = some v → blk v ≠ some b

/-- A slice, or a map, that grows. -/
def Le (v v' : Value) : Prop := v' = v ∨ (∃ A m c A' m' c', v = .slice A m c ∧ v' = .slice A' m' c' ∧ m < m') ∨ ∃ r ks ys, v = mapMk r ks ∧ v' = mapMk r (ks ++ ys)
theorem Le.refl (v : Value) : Le v v := .inl rfl
theorem mapMk_inj {r r' : Nat} {ks ks' : Array Value} (h : mapMk r ks = mapMk r' ks') : r = r' ∧ ks = ks' := by
  unfold mapMk at h
  injection h with _ h1 h2
  simp at h1
  exact ⟨h1, h2⟩
theorem Le.trans {a b c : Value} (h : Le a b) (k : Le b c) : Le a c := by
  rcases h with rfl | ⟨A, m, c1, A', m', c', rfl, rfl, h1⟩ | ⟨r, ks, ys, rfl, rfl⟩
  · exact k
  · rcases k with rfl | ⟨B, n, d, B', n', d', e, rfl, h2⟩ | ⟨r, ks, ys, e, _⟩
    · exact .inr (.inl ⟨_, _, _, _, _, _, rfl, rfl, h1⟩)
    · injection e with e1 e2 e3
      subst e2
      exact .inr (.inl ⟨_, _, _, _, _, _, rfl, rfl, by omega⟩)
    · cases e
  · rcases k with rfl | ⟨B, n, d, B', n', d', e, _, _⟩ | ⟨r', ks', ys', e, rfl⟩
    · exact .inr (.inr ⟨r, ks, ys, rfl, rfl⟩)
    · cases e
    · obtain ⟨rfl, rfl⟩ := mapMk_inj e
      exact .inr (.inr ⟨r, ks, ys ++ ys', rfl, by rw [Array.append_assoc]⟩)

def MuLe (μ μ' : Mu) : Prop := ∀ o v, μ o = some v → ∃ v', μ' o = some v' ∧ Le v v'
theorem MuLe.refl (μ : Mu) : MuLe μ μ := fun _ v h => ⟨v, h, .refl v⟩
theorem MuLe.trans {a b c : Mu} (h : MuLe a b) (k : MuLe b c) : MuLe a c := fun o v hv =>
  let ⟨v1, h1, l1⟩ := h o v hv
  let ⟨v2, h2, l2⟩ := k o v1 h1
  ⟨v2, h2, l1.trans l2⟩

/-- What a step may do: blocks that are no object's stay as they are. -/
structure Tr (S : Nat → Prop) (w : World) (μ : Mu) (H : Hp) (S' : Nat → Prop) (w' : World) (μ' : Mu) (H' : Hp) : Prop where
  os : w'.os = w.os
  tape : w'.tape = w.tape
  output : w'.output = w.output
  size : w.heap.size ≤ w'.heap.size
  block : ∀ b, b < w.heap.size → (∀ o ob v, H o = some ob → μ o = some v → blk v ≠ some b) → w'.heap[b]? = w.heap[b]?
  sub : ∀ b, S b → S' b
  new : ∀ b, S' b → S b ∨ w.heap.size ≤ b
  mu : MuLe μ μ'
  blks : ∀ o ob v b, H' o = some ob → μ' o = some v → blk v = some b → w.heap.size ≤ b ∨ ∃ o ob v, H o = some ob ∧ μ o = some v ∧ blk v = some b
  off : ∀ o v, H o = none → μ o = some v → H' o = none ∧ μ' o = some v
  dom : ∀ o, μ' o ≠ none → H' o ≠ none ∨ (μ o ≠ none ∧ H o = none)

theorem dom_refl {H : Hp} {μ : Mu} (o : Nat) (h : μ o ≠ none) : H o ≠ none ∨ (μ o ≠ none ∧ H o = none) := by
  by_cases e : H o = none
  · exact .inr ⟨h, e⟩
  · exact .inl e

/-- The relation is kept where the memory that it leans on is kept. -/
theorem R.keep {S S' : Nat → Prop} {w w' : World} (hS : ∀ b, S b → S' b) (hw : ∀ b, S b → w'.heap[b]? = w.heap[b]?) {μ : Mu} {d : D} {v : Value} (h : R S w μ d v) :
    ∀ {μ' : Mu}, MuLe μ μ' → R S' w' μ' d v := by
  induction h with
  | top v => intro μ' _; exact .top v
  | tt => intro μ' _; exact .tt
  | ff => intro μ' _; exact .ff
  | int k n => intro μ' _; exact .int k n
  | bool b => intro μ' _; exact .bool b
  | str s => intro μ' _; exact .str s
  | agg cs vs hl _ ih => intro μ' hm; exact .agg cs vs hl fun i d v h1 h2 => ih i d v h1 h2 hm
  | tup cs vs hl _ ih => intro μ' hm; exact .tup cs vs hl fun i d v h1 h2 => ih i d v h1 h2 hm
  | rsl size n g A c val hn hc _ ih =>
    intro μ' hm
    refine .rsl size n g A c val hn (fun h0 => ?_) fun i j hi hj => ih i j hi hj (.refl _)
    obtain ⟨b, off, rfl, hb, hcell⟩ := hc h0
    exact ⟨b, off, rfl, hS b hb, fun i j hi hj => ⟨(World.cell?_of_block (a := ⟨b, _, none⟩) (hw b hb)).trans (hcell i j hi hj).1, (hcell i j hi hj).2⟩⟩
  | eptr n g b off val hb hcell _ ih =>
    intro μ' hm
    exact .eptr n g b off val (hS b hb) (fun j hj => ⟨(World.cell?_of_block (a := ⟨b, _, none⟩) (hw b hb)).trans (hcell j hj).1, (hcell j hj).2⟩) fun j hj => ih j hj (.refl _)
  | ptr o off b h =>
    intro μ' hm
    obtain ⟨v', h1, h2⟩ := hm o _ h
    rcases h2 with rfl | ⟨A, m, c, A', m', c', e, _⟩ | ⟨r, ks, ys, e, _⟩
    · exact .ptr o off b h1
    · cases e
    · cases e
  | own o n A m c v h hn h1c hv =>
    intro μ' hm
    obtain ⟨v', h1, h2⟩ := hm o _ h
    rcases h2 with rfl | ⟨A1, m1, c1, A', m', c', e, rfl, hlt⟩ | ⟨r, ks, ys, e, _⟩
    · exact .own o n A m c v h1 hn h1c hv
    · injection e with e1 e2 e3
      subst e2
      exact .own o n A' m' c' v h1 (by omega) h1c (fun e => by omega)
    · cases e
  | optr o n size i j A m c b h hn hv =>
    intro μ' hm
    obtain ⟨v', h1, h2⟩ := hm o _ h
    rcases h2 with rfl | ⟨A1, m1, c1, A', m', c', e, rfl, hlt⟩ | ⟨r, ks, ys, e, _⟩
    · exact .optr o n size i j A m c b h1 hn hv
    · injection e with e1 e2 e3
      subst e2
      exact .optr o n size i j A' m' c' b h1 (by omega) (fun e => by omega)
    · cases e
  | map o r ks h =>
    intro μ' hm
    obtain ⟨v', h1, h2⟩ := hm o _ h
    rcases h2 with rfl | ⟨A, m, c, A', m', c', e, _⟩ | ⟨r', ks', ys, e, rfl⟩
    · exact .map o r ks h1
    · cases e
    · obtain ⟨rfl, rfl⟩ := mapMk_inj e
      exact .map o r _ h1
  | yld o l h =>
    intro μ' hm
    obtain ⟨v', h1, h2⟩ := hm o _ h
    rcases h2 with rfl | ⟨A, m, c, A', m', c', e, _⟩ | ⟨r', ks', ys, e, _⟩
    · exact .yld o l h1
    · cases e
    · injection e with e; cases e
  | stamp o k r ks i born h hi =>
    intro μ' hm
    obtain ⟨v', h1, h2⟩ := hm o _ h
    rcases h2 with rfl | ⟨A, m, c, A', m', c', e, _⟩ | ⟨r', ks', ys, e, rfl⟩
    · exact .stamp o k r ks i born h1 hi
    · cases e
    · obtain ⟨rfl, rfl⟩ := mapMk_inj e
      refine .stamp o k r _ i born h1 ?_
      have hlt := (Array.getElem?_eq_some_iff.1 hi).1
      rw [Array.getElem?_append_left hlt]
      exact hi
  | fn f fs cs vf vc h1 h2 _ _ ih1 ih2 => intro μ' hm; exact .fn f fs cs vf vc h1 h2 (fun i d v a b => ih1 i d v a b hm) fun i d v a b => ih2 i d v a b hm
  | iface t d v _ ih => intro μ' hm; exact .iface t d v (ih hm)
  | nilI => intro μ' _; exact .nilI
  | nilS => intro μ' _; exact .nilS

theorem Rel.static {S : Nat → Prop} {w : World} {μ : Mu} {H : Hp} (h : Rel S w μ H) {S' : Nat → Prop} {w' : World} {μ' : Mu} {H' : Hp} (t : Tr S w μ H S' w' μ' H') :
    ∀ b, S b → w'.heap[b]? = w.heap[b]? := fun b hb =>
  t.block b (h.stat b hb).1 fun o ob v h1 h2 => (h.stat b hb).2 o ob v h1 h2

theorem R.tr {S : Nat → Prop} {w : World} {μ : Mu} {H : Hp} {S' : Nat → Prop} {w' : World} {μ' : Mu} {H' : Hp} {d : D} {v : Value}
    (h : R S w μ d v) (hr : Rel S w μ H) (t : Tr S w μ H S' w' μ' H') : R S' w' μ' d v := h.keep t.sub (hr.static t) t.mu

theorem Tr.refl (S : Nat → Prop) (w : World) (μ : Mu) (H : Hp) : Tr S w μ H S w μ H :=
  ⟨rfl, rfl, rfl, Nat.le_refl _, fun _ _ _ => rfl, fun _ h => h, fun _ h => .inl h, .refl _, fun o ob v b h1 h2 h3 => .inr ⟨o, ob, v, h1, h2, h3⟩, fun o v h1 h2 => ⟨h1, h2⟩, dom_refl⟩

theorem Tr.trans {S S1 S2 : Nat → Prop} {w w1 w2 : World} {μ μ1 μ2 : Mu} {H H1 H2 : Hp} (h : Tr S w μ H S1 w1 μ1 H1) (k : Tr S1 w1 μ1 H1 S2 w2 μ2 H2) : Tr S w μ H S2 w2 μ2 H2 where
  os := k.os.trans h.os
  tape := k.tape.trans h.tape
  output := k.output.trans h.output
  size := Nat.le_trans h.size k.size
  block := fun b hb hno => (k.block b (Nat.lt_of_lt_of_le hb h.size) (fun o ob v h1 h2 h3 => by
    rcases h.blks o ob v b h1 h2 h3 with hge | ⟨o', ob', v', e1, e2, e3⟩
    · omega
    · exact hno o' ob' v' e1 e2 e3)).trans (h.block b hb hno)
  sub := fun b hb => k.sub b (h.sub b hb)
  new := fun b hb => by
    rcases k.new b hb with h1 | h1
    · exact h.new b h1
    · exact .inr (Nat.le_trans h.size h1)
  mu := h.mu.trans k.mu
  blks := fun o ob v b h1 h2 h3 => by
    rcases k.blks o ob v b h1 h2 h3 with hge | ⟨o', ob', v', e1, e2, e3⟩
    · exact .inl (Nat.le_trans h.size hge)
    · exact h.blks o' ob' v' b e1 e2 e3
  off := fun o v h1 h2 => let ⟨g1, g2⟩ := h.off o v h1 h2; k.off o v g1 g2
  dom := fun o ho => by
    rcases k.dom o ho with h1 | ⟨h1, h2⟩
    · exact .inl h1
    · rcases h.dom o h1 with h3 | h3
      · exact absurd h2 h3
      · exact .inr h3

/-- A draw. -/
theorem Tr.drew {S : Nat → Prop} {w : World} {μ : Mu} {H : Hp} : Tr S w μ H S w.drew μ H :=
  ⟨rfl, rfl, rfl, Nat.le_refl _, fun _ _ _ => rfl, fun _ h => h, fun _ h => .inl h, .refl _, fun o ob v b h1 h2 h3 => .inr ⟨o, ob, v, h1, h2, h3⟩, fun o v h1 h2 => ⟨h1, h2⟩, dom_refl⟩

theorem ObR.keep {S S' : Nat → Prop} {w w' : World} {μ μ' : Mu} {mv : Value} {ob : Ob} (h : ObR S w μ mv ob) (hS : ∀ b, S b → S' b) (hw : ∀ b, S b → w'.heap[b]? = w.heap[b]?) (hm : MuLe μ μ')
    (hb : ∀ b, blk mv = some b → w'.heap[b]? = w.heap[b]?) : ObR S' w' μ' mv ob := by
  cases ob with
  | row cs =>
    obtain ⟨b, cells, T, rfl, h1, h2, h3, h4⟩ := h
    exact ⟨b, cells, T, rfl, (hb b rfl).trans h1, h2, fun i d v a c => (h3 i d v a c).keep hS hw hm, h4⟩
  | buf e size n g =>
    obtain ⟨xs, ⟨h0, h1⟩, h2⟩ := h
    refine ⟨xs, ⟨h0, ?_⟩, fun i j hi hj => ?_⟩
    · rcases h1 with h1 | ⟨b, cap, cur, rfl, hb0, hg, hr⟩
      · exact .inl h1
      · exact .inr ⟨b, cap, cur, rfl, hb0, (hb b rfl).trans hg, hr⟩
    · obtain ⟨v, a, c, r⟩ := h2 i j hi hj
      exact ⟨v, a, c, r.keep hS hw (.refl _)⟩
  | mp m =>
    obtain ⟨r, es, clock, rfl, h1, h2⟩ := h
    exact ⟨r, es, clock, rfl, (hb r (blk_mapMk _ _)).trans h1, h2⟩
  | lp r p =>
    obtain ⟨l, x, rfl, h1, h2⟩ := h
    exact ⟨l, x, rfl, (hb l rfl).trans h1, h2⟩

theorem Rel.drew {S : Nat → Prop} {w : World} {μ : Mu} {H : Hp} (h : Rel S w μ H) : Rel S w.drew μ H :=
  ⟨fun o ob ho => let ⟨mv, h1, h2⟩ := h.obs o ob ho; ⟨mv, h1, h2.keep (fun _ hb => hb) (fun _ _ => rfl) (.refl _) (fun _ _ => rfl)⟩, h.sep, h.stat⟩

theorem ObR.blk_lt {S : Nat → Prop} {w : World} {μ : Mu} {mv : Value} {ob : Ob} (h : ObR S w μ mv ob) {b : Nat} (hb : blk mv = some b) : b < w.heap.size := by
  cases ob with
  | row cs =>
    obtain ⟨b', cells, T, rfl, h1, _⟩ := h
    simp only [blk, Option.some.injEq] at hb
    subst hb
    exact (Array.getElem?_eq_some_iff.1 h1).1
  | buf e size n g =>
    obtain ⟨xs, hown, _⟩ := h
    rcases hown.2 with ⟨rfl, _⟩ | ⟨g, cap, cur, rfl, _, hg, _⟩
    · simp [blk] at hb
    · simp only [blk, Option.some.injEq] at hb
      subst hb
      exact (Array.getElem?_eq_some_iff.1 hg).1
  | mp m =>
    obtain ⟨r, es, clock, rfl, h1, _⟩ := h
    rw [blk_mapMk] at hb
    injection hb with hb
    subst hb
    exact (Array.getElem?_eq_some_iff.1 h1).1
  | lp r p =>
    obtain ⟨l, x, rfl, h1, _⟩ := h
    simp only [blk, Option.some.injEq] at hb
    subst hb
    exact (Array.getElem?_eq_some_iff.1 h1).1

/-- Does a value fit one cell? -/
def one : D → Bool
  | .top | .agg _ | .tup _ => false
  | _ => true
theorem R.one {S : Nat → Prop} {w : World} {μ : Mu} {d : D} {v : Value} (h : R S w μ d v) (h1 : one d = true) : v.oneCell' = true := by
  cases h <;> first | rfl | assumption | (simp [V.one] at h1)

abbrev HL := List (Option Ob)
def hget (H : HL) (o : Nat) : Option Ob := H.getD o none
def RelL (S : Nat → Prop) (w : World) (μ : Mu) (H : HL) : Prop := Rel S w μ (hget H) ∧ ∀ o, H.length ≤ o → μ o = none

def updM (μ : Mu) (o : Nat) (v : Value) : Mu := fun o' => if o' = o then some v else μ o'
def updH (H : Hp) (o : Nat) (ob : Ob) : Hp := fun o' => if o' = o then some ob else H o'

theorem hget_push (H : HL) (ob : Ob) : hget (H ++ [some ob]) = updH (hget H) H.length ob := by
  funext o
  unfold hget updH
  by_cases h : o = H.length
  · subst h; simp
  · simp only [h, if_false, List.getD_eq_getElem?_getD, List.getElem?_append]
    by_cases hlt : o < H.length
    · simp [hlt]
    · have : o - H.length ≠ 0 := by omega
      rw [if_neg hlt, List.getElem?_eq_none (l := H) (by omega), List.getElem?_eq_none (by simp; omega)]
theorem hget_set (H : HL) (o : Nat) (ob : Ob) (ho : o < H.length) : hget (H.set o (some ob)) = updH (hget H) o ob := by
  funext o'
  unfold hget updH
  by_cases h : o' = o
  · subst h; simp [ho]
  · simp only [h, if_false, List.getD_eq_getElem?_getD, List.getElem?_set]
    rw [if_neg (by omega)]

/-- One object is made, or turned; all else stays. -/
theorem Rel.put {S : Nat → Prop} {w w' : World} {μ : Mu} {H : Hp} (h : Rel S w μ H) {o : Nat} {ob : Ob} {mv : Value}
    (hos : w'.os = w.os) (htape : w'.tape = w.tape) (hout : w'.output = w.output) (hsize : w.heap.size ≤ w'.heap.size)
    (hblock : ∀ b, b < w.heap.size → (∀ ob v, H o = some ob → μ o = some v → blk v ≠ some b) → w'.heap[b]? = w.heap[b]?)
    (hle : ∀ v, μ o = some v → Le v mv)
    (hblk : ∀ b, blk mv = some b → w.heap.size ≤ b ∨ ∃ ob v, H o = some ob ∧ μ o = some v ∧ blk v = some b)
    (hob : ObR S w' (updM μ o mv) mv ob) (hfresh : H o = none → μ o = none) : Rel S w' (updM μ o mv) (updH H o ob) ∧ Tr S w μ H S w' (updM μ o mv) (updH H o ob) := by
  have hmu : MuLe μ (updM μ o mv) := fun o' v hv => by
    by_cases e : o' = o
    · subst e; exact ⟨mv, by simp [updM], hle v hv⟩
    · exact ⟨v, by simp [updM, e, hv], .refl v⟩
  have hkeep : ∀ b, b < w.heap.size → (∀ ob v, H o = some ob → μ o = some v → blk v ≠ some b) → w'.heap[b]? = w.heap[b]? := hblock
  have hst : ∀ b, S b → w'.heap[b]? = w.heap[b]? := fun b hb => hkeep b (h.stat b hb).1 fun ob v h1 h2 => (h.stat b hb).2 o ob v h1 h2
  refine ⟨⟨fun o' ob' ho' => ?_, ?_, ?_⟩, ⟨hos, htape, hout, hsize, fun b hb hno => hkeep b hb fun ob v h1 h2 => hno o ob v h1 h2, fun _ hb => hb, fun _ hb => .inl hb, hmu, ?_, ?_, ?_⟩⟩
  · by_cases e : o' = o
    · subst e
      simp only [updH, if_true, Option.some.injEq] at ho'
      subst ho'
      exact ⟨mv, by simp [updM], hob⟩
    · simp only [updH, e, if_false] at ho'
      obtain ⟨mv', h1, h2⟩ := h.obs o' ob' ho'
      refine ⟨mv', by simp [updM, e, h1], h2.keep (fun _ hb => hb) hst hmu fun b hb => hkeep b (h2.blk_lt hb) fun ob v h3 h4 h5 => ?_⟩
      exact h.sep o' o ob' ob mv' v b ho' h3 e h1 h4 hb h5
  · intro o1 o2 ob1 ob2 v1 v2 b h1 h2 hne m1 m2 hb
    by_cases e1 : o1 = o
    · subst e1
      have e2 : o2 ≠ o1 := fun e => hne e.symm
      simp only [updH, e2, if_false] at h2
      simp only [updM, if_true, Option.some.injEq] at m1
      simp only [updM, e2, if_false] at m2
      subst m1
      intro hb2
      obtain ⟨mv2, g1, g2⟩ := h.obs o2 ob2 h2
      rw [m2] at g1
      obtain rfl : v2 = mv2 := by injection g1
      rcases hblk b hb with hge | ⟨ob, v, h3, h4, h5⟩
      · exact absurd (g2.blk_lt hb2) (by omega)
      · exact h.sep o1 o2 ob ob2 v v2 b h3 h2 hne h4 m2 h5 hb2
    · simp only [updH, e1, if_false] at h1
      simp only [updM, e1, if_false] at m1
      by_cases e2 : o2 = o
      · subst e2
        simp only [updM, if_true, Option.some.injEq] at m2
        subst m2
        intro hb2
        obtain ⟨mv1, g1, g2⟩ := h.obs o1 ob1 h1
        rw [m1] at g1
        obtain rfl : v1 = mv1 := by injection g1
        rcases hblk b hb2 with hge | ⟨ob, v, h3, h4, h5⟩
        · exact absurd (g2.blk_lt hb) (by omega)
        · exact h.sep o2 o1 ob ob1 v v1 b h3 h1 (fun e => hne e.symm) h4 m1 h5 hb
      · simp only [updH, e2, if_false] at h2
        simp only [updM, e2, if_false] at m2
        exact h.sep o1 o2 ob1 ob2 v1 v2 b h1 h2 hne m1 m2 hb
  · intro b hb
    refine ⟨Nat.lt_of_lt_of_le (h.stat b hb).1 hsize, fun o' ob' v ho' hv hbv => ?_⟩
    by_cases e : o' = o
    · subst e
      simp only [updM, if_true, Option.some.injEq] at hv
      subst hv
      rcases hblk b hbv with hge | ⟨ob, v, h3, h4, h5⟩
      · exact absurd (h.stat b hb).1 (by omega)
      · exact (h.stat b hb).2 o' ob v h3 h4 h5
    · simp only [updH, e, if_false] at ho'
      simp only [updM, e, if_false] at hv
      exact (h.stat b hb).2 o' ob' v ho' hv hbv
  · intro o' ob' v b ho' hv hbv
    by_cases e : o' = o
    · subst e
      simp only [updM, if_true, Option.some.injEq] at hv
      subst hv
      rcases hblk b hbv with hge | ⟨ob, v, h3, h4, h5⟩
      · exact .inl hge
      · exact .inr ⟨o', ob, v, h3, h4, h5⟩
    · simp only [updH, e, if_false] at ho'
      simp only [updM, e, if_false] at hv
      exact .inr ⟨o', ob', v, ho', hv, hbv⟩
  · intro o' v h1 h2
    have hne : o' ≠ o := fun e => by subst e; rw [hfresh h1] at h2; cases h2
    simp only [updH, updM, hne, if_false]
    exact ⟨h1, h2⟩
  · intro o' h1
    by_cases e : o' = o
    · subst e; exact .inl (by simp [updH])
    · simp only [updM, e, if_false] at h1
      simp only [updH, e, if_false]
      exact dom_refl o' h1

section
variable {S : Nat → Prop} {w : World} {μ : Mu}
theorem Rel.grow {H : Hp} (h : Rel S w μ H) {w' : World} (hos : w'.os = w.os) (htape : w'.tape = w.tape) (hout : w'.output = w.output) (hsize : w.heap.size ≤ w'.heap.size) (hblock : ∀ b, b < w.heap.size → w'.heap[b]? = w.heap[b]?)
    {S' : Nat → Prop} (hsub : ∀ b, S b → S' b) (hnew : ∀ b, S' b → S b ∨ w.heap.size ≤ b) (hlt : ∀ b, S' b → b < w'.heap.size) : Rel S' w' μ H ∧ Tr S w μ H S' w' μ H := by
  refine ⟨⟨fun o ob ho => ?_, h.sep, fun b hb => ⟨hlt b hb, fun o ob v ho hv hbv => ?_⟩⟩, ⟨hos, htape, hout, hsize, fun b hb _ => hblock b hb, hsub, hnew, .refl _, fun o ob v b h1 h2 h3 => .inr ⟨o, ob, v, h1, h2, h3⟩, fun o v h1 h2 => ⟨h1, h2⟩, dom_refl⟩⟩
  · obtain ⟨mv, h1, h2⟩ := h.obs o ob ho
    exact ⟨mv, h1, h2.keep hsub (fun b hb => hblock b (h.stat b hb).1) (.refl _) fun b hb => hblock b (h2.blk_lt hb)⟩
  · rcases hnew b hb with h1 | h1
    · exact (h.stat b h1).2 o ob v ho hv hbv
    · obtain ⟨mv, h2, h3⟩ := h.obs o ob ho
      rw [hv] at h2
      injection h2 with h2
      subst h2
      exact absurd (h3.blk_lt hbv) (by omega)
end

/-- A new object. -/
def hnew (H : HL) (nid : Nat) (ob : Ob) : HL := bif Nat.blt nid H.length then H.set nid (some ob) else H ++ [some ob]
theorem hnew_len (H : HL) (nid : Nat) (ob : Ob) : H.length ≤ (hnew H nid ob).length := by
  unfold hnew
  cases Nat.blt nid H.length <;> simp
theorem blt_iff (a b : Nat) : Nat.blt a b = true ↔ a < b := by
  show Nat.ble (a + 1) b = true ↔ _
  rw [Nat.ble_eq]
  exact Iff.rfl
theorem hnew_lt {H : HL} {nid : Nat} (ob : Ob) (h : nid ≤ H.length) : nid < (hnew H nid ob).length := by
  unfold hnew
  cases hb : Nat.blt nid H.length with
  | true => simpa using (blt_iff _ _).1 hb
  | false => simp; omega
theorem hget_new {H : HL} {nid : Nat} (ob : Ob) (h : nid ≤ H.length) : hget (hnew H nid ob) = updH (hget H) nid ob := by
  unfold hnew
  cases hb : Nat.blt nid H.length with
  | true => exact hget_set H nid ob ((blt_iff _ _).1 hb)
  | false =>
    have : ¬ nid < H.length := fun hl => by rw [(blt_iff _ _).2 hl] at hb; cases hb
    obtain rfl : nid = H.length := by omega
    exact hget_push H ob
theorem RelL.new {S S' : Nat → Prop} {w w' : World} {μ : Mu} {H : HL} {nid : Nat} {ob : Ob} {v : Value} (hr : RelL S w μ H) (hle : nid ≤ H.length) (h : Rel S' w' (updM μ nid v) (updH (hget H) nid ob)) : RelL S' w' (updM μ nid v) (hnew H nid ob) := by
  refine ⟨by rw [hget_new ob hle]; exact h, fun o ho => ?_⟩
  have h1 := hnew_len H nid ob
  have h2 := hnew_lt (H := H) ob hle
  have : o ≠ nid := by omega
  simp only [updM, this, if_false]
  exact hr.2 o (by omega)

end Go.V
