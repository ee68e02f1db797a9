/-
  A small logic of our own, part 2: each operation of the model, carried out on abstract values ('vop'), and that this is sound.
-/
import Derived.Test.YtbkehkiflfhpfaaVa
import Derived.Maps.Own
import Derived.OrdersIn
import Derived.RangeFuncRecord
import Derived.RecoverIn
set_option linter.unusedVariables false
set_option linter.unusedSimpArgs false
namespace Go.V

/-- What the logic knows of a type. struct: size; offset, type and size of each field. array: length, element, its size, size. slice: element, its size, its bytes. -/
inductive Ty where
  | int (k : IntKind)
  | bool
  | str
  | struct (size : Nat) (fs : List (Nat × Nat × Nat))
  | array (n e esize size : Nat)
  | slice (e esize ebytes : Nat)
  | map (ks : KS) (ek : EK) (k e : Nat)
  | ptr (e : Nat)
  | iface
  | other
  | no

def szOf (P : Program) (t : Nat) (n : Nat) : Prop := (P.info? t).map (·.size) = some n
def plainT : TypeDesc → Bool
  | .struct _ | .array _ _ => false
  | _ => true

def tyOK (P : Program) (t : Nat) : Ty → Prop
  | .int k => P.underlying t = some (.int k) ∧ szOf P t 1
  | .bool => P.underlying t = some .bool ∧ szOf P t 1
  | .str => P.underlying t = some .string ∧ szOf P t 1
  | .struct sz fs => ∃ fields, P.underlying t = some (.struct fields) ∧ szOf P t sz ∧ (∀ (i : Nat) x, fs[i]? = some x → ∃ f, fields[i]? = some f ∧ f.offset = x.1 ∧ f.type = x.2.1 ∧ szOf P f.type x.2.2 ∧ x.2.2 ≠ 0) ∧
      fields.toList.mapM (fun f => (P.info? f.type).map fun i => (f.offset, i.size)) = some (fs.map fun x => (x.1, x.2.2))
  | .array n e es sz => P.underlying t = some (.array n e) ∧ szOf P t sz ∧ szOf P e es
  | .slice e es eb => P.underlying t = some (.slice e) ∧ szOf P t 1 ∧ szOf P e es ∧ 0 < es ∧ ∃ i z, P.info? e = some i ∧ i.zero = some z ∧ i.size = es ∧ i.bytes = eb ∧ z.cells.size = es ∧ ∀ v ∈ z.cells.toList, v.oneCell' = true
  | .map ks ek k e => P.underlying t = some (.map k e) ∧ szOf P t 1 ∧ Go.Maps.Keyed P k ∧ (∀ v, keyOK ks v → ∃ l, keyOf P k v = some l) ∧ ∀ w, (zeroValue e).run P w = .ok (elemV ek fun _ => 0) w
  | .ptr e => P.underlying t = some (.pointer e) ∧ szOf P t 1
  | .iface => (∃ ms, P.underlying t = some (.interface ms)) ∧ szOf P t 1
  | .other => (∃ d, P.underlying t = some d ∧ plainT d = true) ∧ szOf P t 1
  | .no => True

/-- The zero cells of a type. -/
def zeroOK (P : Program) (t : Nat) (cs : List D) : Prop :=
  ∃ i z, P.info? t = some i ∧ i.zero = some z ∧ i.size = cs.length ∧ z.cells.size = cs.length ∧
    (∀ (j : Nat) v, z.cells[j]? = some v → v.oneCell' = true) ∧ ∀ S w (j : Nat) d v, cs[j]? = some d → z.cells[j]? = some v → R S w Mu0 d v

abbrev PRule := List D → (D → Prop) → Prop
/-- How code is left. -/
inductive VX where
  | normal
  | exit (id : Nat)
  | ret
  | panic (d : D)
/-- What a call comes to. -/
inductive Res where
  | ret (d : D)
  | pan (d : D)
/-- The state in which a function leaves. -/
inductive Md where
  | ret
  | pan (d : D)
/-- The rule of a function that turns its caller's objects; of one that is ranged over (the loop's object, and the rule of yield, go ahead); of one that is deferred. -/
abbrev CRule := List D → HL → (Res → HL → Prop) → Prop
abbrev IRule := Nat → CRule → CRule
abbrev DRule := Md → List D → HL → (Md → HL → Prop) → Prop
structure Cx where
  ty : Nat → Ty
  zero : Nat → Option (List D)
  pure : Nat → Option PRule
  eq : Nat → Bool
  call : Nat → Option CRule
  iter : Nat → Option IRule
  dfr : Nat → Option DRule
  yld : Option (Nat × CRule)

abbrev Env := Nat → D
def upd (e : Env) (i : Nat) (d : D) : Env := fun j => bif Nat.beq j i then d else e j

/-- 'fz d k' is 'k d': d is brought to its first constructor ahead of k. -/
def fz (d : D) (k : D → Prop) : Prop := match d with
  | .top => k .top | .tt => k .tt | .ff => k .ff | .int a b => k (.int a b) | .bool b => k (.bool b) | .str s => k (.str s) | .agg c => k (.agg c) | .tup c => k (.tup c)
  | .rsl s n g => k (.rsl s n g) | .eptr n g => k (.eptr n g) | .ptr o f => k (.ptr o f) | .own o n => k (.own o n) | .optr o n s i j => k (.optr o n s i j) | .map o => k (.map o)
  | .fn f a c => k (.fn f a c) | .iface t d => k (.iface t d) | .nilI => k .nilI | .nilS => k .nilS | .yld o => k (.yld o) | .stamp o q => k (.stamp o q)
theorem fz_iff (d : D) (k : D → Prop) : fz d k ↔ k d := by cases d <;> exact Iff.rfl
def fzl (l : List D) : (List D → Prop) → Prop := @List.rec D (fun _ => (List D → Prop) → Prop) (fun k => k []) (fun d _ ih k => fz d fun d => ih fun r => k (d :: r)) l
theorem fzl_iff : ∀ (l : List D) (k : List D → Prop), fzl l k ↔ k l
  | [], k => Iff.rfl
  | d :: r, k => by show fz d (fun d => fzl r fun r => k (d :: r)) ↔ _; rw [fz_iff, fzl_iff r]

def ofV : Value → D
  | .int k n => .int k n
  | .bool true => .tt
  | .bool false => .ff
  | .string s => .str s
  | .slice none 0 0 => .nilS
  | .nilIface => .nilI
  | _ => .top
theorem R_ofV (S : Nat → Prop) (w : World) (μ : Mu) (v : Value) : R S w μ (ofV v) v := by
  unfold ofV
  split <;> first | exact .int _ _ | exact .tt | exact .ff | exact .str _ | exact .nilI | exact .top _ | exact .nilS

def ev (e : Env) : Operand → D
  | .tmp t => e t
  | .const v => ofV v
  | .func f => .fn f [] []
  | .global _ => .top

def EnvR (S : Nat → Prop) (w : World) (μ : Mu) (e : Env) (a : Act) : Prop := ∀ i, R S w μ (e i) (a.tmps.getD i undef)
theorem EnvR.ev {S : Nat → Prop} {w : World} {μ : Mu} {e : Env} {a : Act} (h : EnvR S w μ e a) (x : Operand) : R S w μ (ev e x) (a.eval x) := by
  cases x with
  | tmp t => exact h t
  | const v => exact R_ofV S w μ v
  | global g => exact .top _
  | func f => exact .fn f [] [] #[] #[] rfl rfl (fun i d v h => by simp at h) (fun i d v h => by simp at h)

def keq : IntKind → IntKind → Bool
  | .i8, .i8 | .i16, .i16 | .i32, .i32 | .i64, .i64 | .u8, .u8 | .u16, .u16 | .u32, .u32 | .u64, .u64 => true
  | _, _ => false
theorem keq_eq {a b : IntKind} (h : keq a b = true) : a = b := by cases a <;> cases b <;> first | rfl | cases h

/-- Equality of abstract values that are numbers, strings, bools. -/
def deq : D → D → Option Bool
  | .int q a, .int q' b => bif keq q q' then some (decide (a = b)) else none
  | .str a, .str b => some (decide (a = b))
  | .tt, .tt => some true
  | .ff, .ff => some true
  | .tt, .ff => some false
  | .ff, .tt => some false
  | .bool a, .tt => some a
  | .bool a, .ff => some (!a)
  | .tt, .bool a => some a
  | .ff, .bool a => some (!a)
  | .bool a, .bool b => some (a == b)
  | .iface _ _, .nilI => some false
  | .nilI, .iface _ _ => some false
  | _, _ => none

def fits (k : IntKind) (n : Int) (c : D → Prop) : Prop := match k with
  | .i64 => (-9223372036854775808 ≤ n ∧ n ≤ 9223372036854775807) ∧ c (.int .i64 n)
  | k => c (.int k (k.wrap n))
theorem fits_iff {k : IntKind} {n : Int} {c : D → Prop} (h : fits k n c) : c (.int k (k.wrap n)) := by
  cases k <;> simp only [fits] at h <;> try exact h
  obtain ⟨⟨h1, h2⟩, h3⟩ := h
  have e : IntKind.i64.wrap n = n := by rw [IntKind.wrap_i64]; omega
  rwa [e]

def vbin (op : BinOp) (x y : D) (k : D → Prop) : Prop := match op with
  | .eql => match deq x y with
    | some b => k (.bool b)
    | none => False
  | .neq => match deq x y with
    | some b => k (.bool !b)
    | none => False
  | .shl => match x, y with
    | .int q a, .int _ b => 0 ≤ b ∧ fits q (a * 2 ^ (min b.toNat q.bits)) k
    | _, _ => False
  | .shr => match x, y with
    | .int q a, .int _ b => 0 ≤ b ∧ k (.int q (a.fdiv (2 ^ (min b.toNat q.bits))))
    | _, _ => False
  | op => match x, y with
    | .int q a, .int q' b => bif keq q q' then (match op with
      | .lss => k (.bool (decide (a < b)))
      | .leq => k (.bool (decide (a ≤ b)))
      | .gtr => k (.bool (decide (b < a)))
      | .geq => k (.bool (decide (b ≤ a)))
      | .add => fits q (a + b) k
      | .sub => fits q (a - b) k
      | .mul => fits q (a * b) k
      | .quo => b ≠ 0 ∧ fits q (a.tdiv b) k
      | .rem => b ≠ 0 ∧ k (.int q (a.tmod b))
      | .or => k (.int q (bits .or q a b))
      | .and => k (.int q (bits .and q a b))
      | _ => False) else False
    | _, _ => False

section
variable {P : Program} {o : Oper} {a : Act} {w : World}

/-- Every function is let in; a plain frame, or one of a round. -/
def FW (r : Option Nat) : Fence := { fn := fun _ => True, depth := none, alive := false, round := r }
theorem FW_none : FW none = Fence.wide := rfl
theorem FW_some (l : Nat) : FW (some l) = Fence.wide.inRound l := rfl
theorem callsIn_FW {r : Option Nat} {n : Nat} {f : FuncId} {args : Array Value} {R : Ending → World → Prop} : CallsIn (FW r) n P f args w R ↔ Calls P f args w R := callsIn_wide (n := n)

/-- One operation: whatever is asked of what follows, it is asked of its value and world alone. -/
def Does (P : Program) (o : Oper) (a : Act) (w : World) (Q : Value → World → Prop) : Prop :=
  ∀ (r : Option Nat) (n : Nat) (K : Act → World → Prop) Q', (∀ v w', Q v w' → K (a.put o.dst v) w') → o.wpIn (FW r) n P a w K Q'
theorem run_at {r : Option Nat} (h : ∀ c, o.op ≠ .defer c) : (o.semAt r a.eval).run P w = (execOp a.eval o).run P w := by rw [Oper.semAt_eq r _ _ h]
theorem not_defer {d : Next} {w' : World} (h : (execOp a.eval o).run P w = .ok d w') (hd : ∀ x, d ≠ .defer x) : ∀ c, o.op ≠ .defer c := fun c hc => by
  simp only [execOp, hc, Sem.run_bind] at h
  cases hr : (resolve a.eval c o.type).run P w with
  | ok x w2 =>
    rw [hr] at h
    simp only [Result.andThen_ok, Sem.run_pure] at h
    injection h with h1 h2
    exact hd _ h1.symm
  | halt x w2 => rw [hr] at h; cases h
theorem does_ok {v : Value} {w' : World} {Q : Value → World → Prop} (h : (execOp a.eval o).run P w = .ok (.value v) w') (q : Q v w') : Does P o a w Q := by
  intro r n K Q' hK
  refine ⟨fun _ _ => trivial, ?_⟩
  rw [run_at (not_defer h fun x e => by cases e), h]
  exact hK _ _ q
theorem does_skip {w' : World} {Q : Value → World → Prop} (h : (execOp a.eval o).run P w = .ok .skip w') (q : Q undef w') : Does P o a w Q := by
  intro r n K Q' hK
  refine ⟨fun _ _ => trivial, ?_⟩
  rw [run_at (not_defer h fun x e => by cases e), h]
  exact hK _ _ q

def Post (S : Nat → Prop) (w : World) (μ : Mu) (H : HL) (k : D → HL → Prop) (v : Value) (w' : World) : Prop :=
  ∃ S' μ' d H', k d H' ∧ R S' w' μ' d v ∧ RelL S' w' μ' H' ∧ Tr S w μ (hget H) S' w' μ' (hget H')

variable {S : Nat → Prop} {μ : Mu} {H : HL} {k : D → HL → Prop}
theorem Post.same {d : D} {v : Value} (hr : RelL S w μ H) (hk : k d H) (h : R S w μ d v) : Post S w μ H k v w := ⟨S, μ, d, H, hk, h, hr, .refl ..⟩

theorem run_sizeOf {t n : Nat} (h : szOf P t n) (w : World) : (sizeOf t).run P w = .ok n w := by
  unfold szOf at h
  cases hi : P.info? t with
  | none => simp [hi] at h
  | some i =>
    simp [hi] at h
    simp [sizeOf, typeInfo, hi, h]
theorem run_isAgg_plain {t : Nat} {d : TypeDesc} (h : P.underlying t = some d) (hp : plainT d = true) (w : World) : (isAgg t).run P w = .ok false w := by
  simp only [isAgg, Sem.run_bind, run_underlying h, Result.andThen_ok]
  cases d <;> first | rfl | cases hp

/-- The cells of a type that is one cell. -/
def Ty.one : Ty → Bool
  | .struct _ _ | .array _ _ _ _ | .no => false
  | _ => true
theorem tyOK.plain {t : Nat} {T : Ty} (h : tyOK P t T) (h1 : T.one = true) : ∃ d, P.underlying t = some d ∧ plainT d = true := by
  cases T <;> (try (cases h1; done)) <;> simp only [tyOK] at h <;> first | exact ⟨_, h.1, rfl⟩ | exact h.1 | (obtain ⟨⟨ms, h⟩, _⟩ := h; exact ⟨_, h, rfl⟩)
theorem tyOK.size1 {t : Nat} {T : Ty} (h : tyOK P t T) (h1 : T.one = true) : szOf P t 1 := by
  cases T <;> (try (cases h1; done)) <;> simp only [tyOK] at h <;> first | exact h.2 | exact h.2.1

/-- The type that an equality asks for. -/
def eqTy (T : Ty) (x y : D) : Bool := match x, y with
  | .int _ _, .int _ _ => true
  | .str _, .str _ => true
  | .iface _ _, .nilI => match T with | .iface => true | _ => false
  | .nilI, .iface _ _ => match T with | .iface => true | _ => false
  | _, _ => match T with | .bool => true | _ => false

theorem toList_beq (a b : ByteArray) : (a.toList == b.toList) = decide (a = b) := by
  by_cases h : a = b
  · subst h; simp
  · have h2 : a.toList ≠ b.toList := fun e => h (by
      rw [ByteArray.toList_eq, ByteArray.toList_eq] at e
      obtain ⟨x⟩ := a
      obtain ⟨y⟩ := b
      exact congrArg ByteArray.mk (Array.toList_inj.1 e))
    rw [beq_eq_false_iff_ne.2 h2, decide_eq_false h]
theorem run_equalIn_nilR (d : Nat) {t : Nat} {ms} (hu : P.underlying t = some (.interface ms)) (u : Nat) (x : Value) : (Op.equalIn (d + 1) t (.iface u x) .nilIface).run P w = .ok false w := by
  simp [Op.equalIn, run_underlying hu]
theorem run_equalIn_nilL (d : Nat) {t : Nat} {ms} (hu : P.underlying t = some (.interface ms)) (u : Nat) (x : Value) : (Op.equalIn (d + 1) t .nilIface (.iface u x)).run P w = .ok false w := by
  simp [Op.equalIn, run_underlying hu]
theorem run_eq_of {t : Nat} {x y : Value} {cx cy : Operand} {b : Bool} (hg : ∀ op, eqGuard op t cx cy x y = Pure.pure ()) (h1 : binOp .eql t x y = do Pure.pure (.bool (← Op.equal t x y)))
    (h2 : binOp .neq t x y = do Pure.pure (.bool (!(← Op.equal t x y)))) (h : (Op.equalIn (9999 + 1) t x y).run P w = .ok b w) :
    (do eqGuard .eql t cx cy x y; binOp .eql t x y : Sem Value).run P w = .ok (.bool b) w ∧ (do eqGuard .neq t cx cy x y; binOp .neq t x y : Sem Value).run P w = .ok (.bool !b) w := by
  rw [hg, hg, h1, h2]
  have h' : (Op.equal t x y).run P w = .ok b w := h
  constructor <;> simp only [Sem.run_bind, Sem.run_pure, Result.andThen_ok, h']

theorem run_deq {t : Nat} {T : Ty} {x y : D} {vx vy : Value} {cx cy : Operand} {b : Bool} (hx : R S w μ x vx) (hy : R S w μ y vy) (h : deq x y = some b) (hT : tyOK P t T) (ht : eqTy T x y = true) :
    (do eqGuard .eql t cx cy vx vy; binOp .eql t vx vy : Sem Value).run P w = .ok (.bool b) w ∧ (do eqGuard .neq t cx cy vx vy; binOp .neq t vx vy : Sem Value).run P w = .ok (.bool !b) w := by
  have hb : ∀ a b : Bool, P.underlying t = some .bool → (do eqGuard .eql t cx cy (.bool a) (.bool b); binOp .eql t (.bool a) (.bool b) : Sem Value).run P w = .ok (.bool (a == b)) w ∧
      (do eqGuard .neq t cx cy (.bool a) (.bool b); binOp .neq t (.bool a) (.bool b) : Sem Value).run P w = .ok (.bool !(a == b)) w := fun a b hu =>
    run_eq_of (fun op => eqGuard_at_bool _ _ _ _ _ _) rfl rfl (run_equalIn_bool w _ t a b hu)
  have hnil : ∀ u v', (∃ ms, P.underlying t = some (.interface ms)) → (do eqGuard .eql t cx cy (.iface u v') .nilIface; binOp .eql t (.iface u v') .nilIface : Sem Value).run P w = .ok (.bool false) w ∧
      (do eqGuard .neq t cx cy (.iface u v') .nilIface; binOp .neq t (.iface u v') .nilIface : Sem Value).run P w = .ok (.bool !false) w := fun u v' ⟨ms, hu⟩ =>
    run_eq_of (fun op => eqGuard_at_iface _ _ _ _ _ _ _) rfl rfl (run_equalIn_nilR _ hu _ _)
  have hnil' : ∀ u v', (∃ ms, P.underlying t = some (.interface ms)) → (do eqGuard .eql t cx cy .nilIface (.iface u v'); binOp .eql t .nilIface (.iface u v') : Sem Value).run P w = .ok (.bool false) w ∧
      (do eqGuard .neq t cx cy .nilIface (.iface u v'); binOp .neq t .nilIface (.iface u v') : Sem Value).run P w = .ok (.bool !false) w := fun u v' ⟨ms, hu⟩ =>
    run_eq_of (fun op => eqGuard_nil_iface _ _ _ _ _ _) rfl rfl (run_equalIn_nilL _ hu _ _)
  have hu : T = .bool → P.underlying t = some .bool := fun e => by subst e; exact hT.1
  have hi : T = .iface → ∃ ms, P.underlying t = some (.interface ms) := fun e => by subst e; exact hT.1
  cases hx <;> cases hy <;> simp only [deq, reduceCtorEq] at h
  case int.int k a k' b =>
    cases hk : keq k k' with
    | false => simp [hk] at h
    | true =>
      obtain rfl := keq_eq hk
      simp only [hk, cond_true, Option.some.injEq] at h
      subst h
      simp [go_sem, bne]
      constructor <;> rfl
  case str.str a b =>
    simp only [Option.some.injEq] at h
    subst h
    simp [go_sem, binOp, Op.stringOp, toList_beq]
  all_goals (simp only [Option.some.injEq] at h; subst h)
  all_goals cases T <;> first | (cases ht; done) | skip
  all_goals first
    | exact hnil _ _ (hi rfl)
    | exact hnil' _ _ (hi rfl)
    | exact hb true true (hu rfl)
    | exact hb true false (hu rfl)
    | exact hb false true (hu rfl)
    | exact hb false false (hu rfl)
    | exact hb _ _ (hu rfl)
    | (rename_i b; cases b <;> first | exact hb true true (hu rfl) | exact hb true false (hu rfl) | exact hb false true (hu rfl) | exact hb false false (hu rfl))
end
end Go.V
