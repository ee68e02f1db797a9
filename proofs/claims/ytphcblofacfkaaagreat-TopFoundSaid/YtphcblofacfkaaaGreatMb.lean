/-
  A small logic of our own, part 6: one operation of the model on abstract values, and that it is sound.
-/
import Derived.Test.YtphcblofacfkaaaGreatMa
import Derived.Laws.StructEq
import Derived.Laws.BytesArg
import Derived.Laws.IdiomStrings
import Derived.Maps.AppendAt
import Derived.ChangeKeysEq
set_option linter.unusedVariables false
set_option linter.unusedSimpArgs false
section
namespace Go.V
def fzp (l : List (Nat × D)) : (List (Nat × D) → Prop) → Prop := @List.rec (Nat × D) (fun _ => (List (Nat × D) → Prop) → Prop) (fun k => k []) (fun p _ ih k => fz p.2 fun d => ih fun r => k ((p.1, d) :: r)) l
theorem fzp_iff : ∀ (l : List (Nat × D)) (k : List (Nat × D) → Prop), fzp l k ↔ k l
  | [], k => Iff.rfl
  | (i, d) :: r, k => by show fz d (fun d => fzp r fun r => k ((i, d) :: r)) ↔ _; rw [fz_iff, fzp_iff r]
def evs (e : Env) (ps : Array (Nat × Operand)) : List (Nat × D) := ps.toList.map fun p => (p.1, ev e p.2)
def okb (d : D) : Bool := noRef1 d || (match d with | .top => true | _ => false)
theorem okb_bl (d : D) : okb (bl d) = okb d := by cases d <;> rfl
theorem all_bl {l : List D} (h : l.all okb = true) : (l.map bl).all okb = true := by
  rw [List.all_map]
  rw [List.all_eq_true] at h ⊢
  intro d hd
  rw [Function.comp_apply, okb_bl]
  exact h d hd
def vstore (T : Ty) (d x : D) (H : HL) (k : HL → Prop) : Prop := bif (cellsD x).all one && Nat.beq (cellsD x).length (tsz T) && T.known then (match d with
  | .ptr o off => match hget H o with
    | some (.row cs) => bif Nat.ble (off + (cellsD x).length) cs.length then k (H.set o (some (.row (splice cs off (cellsD x))))) else False
    | _ => False
  | .optr o n s i j => match hget H o with
    | some (.buf e size m g) => bif Nat.beq s size && Nat.ble (j + (cellsD x).length) s && (cellsD x).all okb then (n = m ∧ i < m) ∧ k (H.set o (some (.buf e size m fun i' j' => if i' = i ∧ j ≤ j' ∧ j' < j + (cellsD x).length then ((cellsD x).map bl).getD (j' - j) .top else g i' j'))) else False
    | _ => False
  | _ => False) else False
def vbuild (T : Ty) (z : List D) (ps : List (Nat × D)) (k : List D → Prop) : Prop := match T with
  | .struct _ fs => vfill (fun i => (fs[i]?).map fun x => (x.1, x.2.2)) k z ps
  | .array _ _ es _ => vfill (fun i => some (i * es, es)) k z ps
  | _ => False
def byteAt (s : ByteArray) (i : Nat) : Int := ((s[i]?).map fun b => (b.toNat : Int)).getD 0
def vconv (C : Cx) (s t : Ty) (d : D) (H : HL) (k : D → Prop) : Prop := match t with
  | .int q => match s, d with
    | .int _, .int _ n => fits q n k
    | _, _ => False
  | .slice e 1 _ => match s, C.ty e, d with
    | .str, .int .u8, .str s => k (.rsl 1 s.size fun i _ => .int .u8 (byteAt s i))
    | _, _, _ => False
  | .str => match s with
    | .slice e 1 _ => match C.ty e, d with
      | .int .u8, .rsl 1 n g => (∀ i, i < n → g i 0 = .int .u8 (numOf (g i 0))) ∧ k (.str (strOfNums ((List.range n).map fun i => numOf (g i 0))))
      | .int .u8, .own o n => match hget H o with
        | some (.buf _ 1 m g) => (n = m ∧ ∀ i, i < n → g i 0 = .int .u8 (numOf (g i 0))) ∧ k (.str (strOfNums ((List.range n).map fun i => numOf (g i 0))))
        | _ => False
      | .int .u8, .nilS => k (.str ByteArray.empty)
      | _, _ => False
    | _ => False
  | _ => False
def vidx (T : Ty) (d i : D) (H : HL) (k : D → Prop) : Prop := match i with
  | .int _ i => match T with
    | .slice _ es _ => match d with
      | .rsl s n g => (0 ≤ i ∧ i < n) ∧ (bif Nat.beq s es then k (.eptr es (g i.toNat)) else False)
      | .own o n => match hget H o with
        | some (.buf _ s m _) => (n = m ∧ 0 ≤ i ∧ i < n) ∧ (bif Nat.beq s es then k (.optr o n es i.toNat 0) else False)
        | _ => False
      | .osl o off n s => (0 ≤ i ∧ i < n) ∧ (bif Nat.beq s es then k (.ptr o (off + i.toNat * es)) else False)
      | _ => False
    | .array n _ es _ => match d with
      | .eptr m g => (0 ≤ i ∧ i < n) ∧ (bif Nat.ble (n * es) m then k (.eptr es fun j => g (i.toNat * es + j)) else False)
      | .ptr o off => (0 ≤ i ∧ i < n) ∧ k (.ptr o (off + i.toNat * es))
      | .optr o m s q j => (0 ≤ i ∧ i < n) ∧ k (.optr o m s q (j + i.toNat * es))
      | _ => False
    | _ => False
  | _ => False
def isB : D → Bool
  | .tt | .ff | .bool _ => true
  | _ => false
def boolOf : D → Bool
  | .tt => true
  | .bool b => b
  | _ => false
def vindex (C : Cx) (T : Ty) (d i : D) (k : D → Prop) : Prop := match i with
  | .int _ i => match T with
    | .str => match d with
      | .str s => (0 ≤ i ∧ i < s.size) ∧ k (.int .u8 (byteAt s i.toNat))
      | _ => False
    | .array n e es _ => match d, C.ty e with
      | .agg cs, .int .i64 => bif Nat.beq es 1 && Nat.ble n cs.length && cs.all isI64 then (0 ≤ i ∧ i < n) ∧ k (.int .i64 ((cs.map numOf).getD i.toNat 0)) else False
      | .agg cs, .bool => bif Nat.beq es 1 && Nat.ble n cs.length && cs.all isB then (0 ≤ i ∧ i < n) ∧ k (.bool ((cs.map boolOf).getD i.toNat false)) else False
      | .agg cs, .other => bif Nat.beq es 1 && Nat.ble n cs.length then (0 ≤ i ∧ i < n) ∧ fz (cs.getD i.toNat .top) k else False
      | .agg cs, .struct _ _ => bif Nat.ble (n * es) cs.length then (0 ≤ i ∧ i < n) ∧ fzl ((cs.drop (i.toNat * es)).take es) fun cs => k (.agg cs) else False
      | _, _ => False
    | _ => False
  | _ => False
def vslice (T : Ty) (d : D) (lo hi : Option D) (k : D → Prop) : Prop := match T, d with
  | .slice _ es _, .rsl s n g => match (match lo with | none => some 0 | some (.int _ l) => some l | _ => none), (match hi with | none => some (n : Int) | some (.int _ h) => some h | _ => none) with
    | some l, some h => (0 ≤ l ∧ l ≤ h ∧ h ≤ n) ∧ (bif Nat.beq s es then k (.rsl s (h.toNat - l.toNat) fun i j => g (l.toNat + i) j) else False)
    | _, _ => False
  | .array n _ es _, .ptr o off => match lo, hi with
    | none, none => bif Nat.blt 0 n then k (.osl o off n es) else False
    | some (.int _ l), none => (0 ≤ l ∧ l < n) ∧ k (.osl o (off + l.toNat * es) (n - l.toNat) es)
    | none, some (.int _ h) => (0 ≤ h ∧ h ≤ n) ∧ (bif Nat.blt 0 n then k (.osl o off h.toNat es) else False)
    | _, _ => False
  | _, _ => False
def eqTy2 (T : Ty) (x y : D) : Bool := match T with
  | .int _ => (match x, y with | .int _ _, .int _ _ => true | _, _ => false)
  | .str => (match x, y with | .str _, .str _ => true | _, _ => false)
  | .bool => (match x with | .tt => true | .ff => true | .bool _ => true | _ => false) && (match y with | .tt => true | .ff => true | .bool _ => true | _ => false)
  | _ => false
def veqF (C : Cx) (rec : Nat → List D → List D → Option Bool) (xs ys : List D) : List (Nat × Nat × Nat) → Option Bool
  | [] => some true
  | (off, t, sz) :: r =>
    match (match C.ty t with
      | .struct _ _ => rec t ((xs.drop off).take sz) ((ys.drop off).take sz)
      | T => match xs[off]?, ys[off]? with
        | some x, some y => bif eqTy2 T x y then deq x y else none
        | _, _ => none), veqF C rec xs ys r with
    | some a, some b => some (a && b)
    | _, _ => none
def veqA (T : Ty) : List D → List D → Option Bool
  | [], [] => some true
  | x :: xs, y :: ys => match (bif eqTy2 T x y then deq x y else none), veqA T xs ys with
    | some a, some b => some (a && b)
    | _, _ => none
  | _, _ => none
def veq (C : Cx) : Nat → Nat → List D → List D → Option Bool
  | 0, _, _, _ => none
  | f + 1, t, xs, ys => bif C.eq t then (match C.ty t with
    | .struct sz fs => bif Nat.beq xs.length sz && Nat.beq ys.length sz then veqF C (veq C f) xs ys fs else none
    | .array n e es _ => bif (Nat.beq es 1 && Nat.beq xs.length n) && Nat.beq ys.length n then veqA (C.ty e) xs ys else none
    | _ => none) else none
def veqop (C : Cx) (t : Nat) (op : BinOp) (x y : D) (k : D → Prop) : Prop := match x, y with
  | .agg xs, .agg ys => match op with
    | .eql => match veq C 4 t xs ys with
      | some b => k (.bool b)
      | none => False
    | .neq => match veq C 4 t xs ys with
      | some b => k (.bool !b)
      | none => False
    | _ => False
  | _, _ => False
def eqOKop (op : BinOp) (T : Ty) (x y : D) : Bool := match op with
  | .eql => eqTy T x y
  | .neq => eqTy T x y
  | _ => true
def vbo (C : Cx) (t : Nat) (op : BinOp) (x y : D) (k : D → Prop) : Prop := match C.ty t with
  | .struct _ _ => veqop C t op x y k
  | .array _ _ _ _ => veqop C t op x y k
  | T => bif eqOKop op T x y then vbin op x y k else False
def nilC : Operand → Bool
  | .const .nilIface => true
  | _ => false
def vboN (C : Cx) (t : Nat) (op : BinOp) (y : Operand) (x d : D) (k : D → Prop) : Prop := match x with
  | .nilI => bif nilC y then (match C.ty t, op with
    | .iface, .eql => k .tt
    | .iface, .neq => k .ff
    | _, _ => False) else False
  | x => vbo C t op x d k
def eqOK (P : Program) (t : Nat) : Prop := (∀ f ∈ (P.fieldsOf t).toList, f.name ≠ "_") ∧ P.stoodInHeld t = false ∧ P.eqGuardType P.depth t = false
def vbuiltin (C : Cx) (b : Builtin) (ts : List Nat) (ty : Nat) (ds : List D) (H : HL) (k : D → Prop) : Prop := match b, ds with
  | .len, [d] => match ts with
    | [t] => match C.ty t with
      | .slice _ _ _ => match d with
        | .rsl _ n _ => k (.int .i64 n)
        | .own o n => match hget H o with
          | some (.buf _ _ m _) => n = m ∧ k (.int .i64 n)
          | _ => False
        | .nilS => k (.int .i64 0)
        | .osl _ _ n _ => k (.int .i64 n)
        | _ => False
      | .str => match d with
        | .str s => k (.int .i64 s.size)
        | _ => False
      | .map ks ek kt et => vmap (.map ks ek kt et) d H fun _ M => k (.int .i64 M.n)
      | _ => False
    | _ => False
  | .max, [.int q a, .int q' b] => bif keq q q' then k (.int q (max a b)) else False
  | .min, [.int q a, .int q' b] => bif keq q q' then k (.int q (min a b)) else False
  | .max, [.int q a, .int q' b, .int q2 c] => bif keq q q' && keq q q2 then k (.int q (max (max a b) c)) else False
  | .min, [.int q a, .int q' b, .int q2 c, .int q3 d] => bif (keq q q' && keq q q2) && keq q q3 then k (.int q (min (min (min a b) c) d)) else False
  | .max, [.int q a, .int q' b, .int q2 c, .int q3 d] => bif (keq q q' && keq q q2) && keq q q3 then k (.int q (max (max (max a b) c) d)) else False
  | _, _ => False
def vsrc (es : Nat) (H : HL) (x : D) (k : Nat → (Nat → Nat → D) → Prop) : Prop := match x with
  | .rsl s m g => bif Nat.beq s es then True ∧ k m g else False
  | .own o m => match hget H o with
    | some (.buf _ s m' g) => bif Nat.beq s es then (True ∧ m = m') ∧ k m g else False
    | _ => False
  | _ => False
def ownNe (x : D) (o : Nat) : Bool := match x with
  | .own o' _ => !Nat.beq o' o
  | _ => true
def vappend (T : Ty) (nid : Nat) (s x : D) (H : HL) (k : D → HL → Prop) : Prop := match T with
  | .slice el es eb => vsrc es H x fun m gx => match s with
    | .own o n => match hget H o with
      | some (.buf e s0 n0 g) => bif Nat.beq e el && Nat.beq s0 es && Nat.blt 0 eb && ownNe x o then (n = n0 ∧ (n + m) * eb ≤ 140737488355328) ∧ k (.own o (n + m)) (H.set o (some (.buf el es (n + m) fun i j => if i < n then g i j else gx (i - n) j))) else False
      | _ => False
    | .nilS => bif Nat.blt 0 eb then (0 + m) * eb ≤ 140737488355328 ∧ k (.own nid (0 + m)) (hnew H nid (.buf el es (0 + m) fun i j => gx i j)) else False
    | _ => False
  | _ => False
def appS (C : Cx) (T : Ty) (s x : D) (H : HL) : Option ((Nat × Nat) × (Nat × Nat) × ByteArray × (Nat → Nat → D)) := match T with
  | .slice el 1 1 => match C.ty el, x, s with
    | .int .u8, .str str, .own o n => match hget H o with
      | some (.buf e 1 n0 g) => bif Nat.beq e el then some ((o, el), (n, n0), str, g) else none
      | _ => none
    | _, _, _ => none
  | _ => none
def vappendS (C : Cx) (T : Ty) (s x : D) (H : HL) (k : D → HL → Prop) : Prop := match appS C T s x H with
  | some ((o, el), (n, n0), str, g) => (n = n0 ∧ n + str.size ≤ 140737488355328) ∧ k (.own o (n + str.size)) (H.set o (some (.buf el 1 (n + str.size) fun i j => if i < n then g i j else .int .u8 (byteAt str (i - n)))))
  | none => False
def bytesOf (C : Cx) (s t : Ty) (d : D) : Option (Nat × ByteArray) := match t with
  | .slice e 1 _ => match s, C.ty e, d with
    | .str, .int .u8, .str b => some (e, b)
    | _, _, _ => none
  | _ => none
def vbytes (C : Cx) (s t : Ty) (nid : Nat) (d : D) (H : HL) (k : D → HL → Prop) : Prop := match bytesOf C s t d with
  | some (e, b) => b.size ≤ 9223372036854775807 ∧ k (.own nid b.size) (hnew H nid (.buf e 1 b.size fun i _ => .int .u8 (byteAt b i)))
  | none => False
def ownB (C : Cx) (T : Ty) (d : D) (H : HL) : Option ((Nat × Nat) × (Nat × Nat) × (Nat → Nat → D)) := match T with
  | .slice e 1 _ => match C.ty e, d with
    | .int .u8, .own o n => match hget H o with
      | some (.buf e' 1 m g) => some ((o, e'), (n, m), g)
      | _ => none
    | _, _ => none
  | _ => none
def vsame (C : Cx) (T : Ty) (d : D) (H : HL) (k : D → HL → Prop) : Prop := match ownB C T d H with
  | some ((o, e'), (n, m), g) => (n = m ∧ 0 < n) ∧ k (.own o n) (H.set o (some (.buf e' 1 n g)))
  | none => False
def ifOK : Ty → Bool
  | .int _ | .bool | .str | .struct _ _ => true
  | _ => false
def fza (d : D) (k : D → Prop) : Prop := fz d fun d => match d with
  | .agg l => fzl l fun l => k (.agg l)
  | .tup l => match l with
    | [x, y] => fz x fun x => match x with
      | .agg l => fzl l fun l => fz y fun y => k (.tup [.agg l, y])
      | x => fz y fun y => k (.tup [x, y])
    | l => fzl l fun l => k (.tup l)
  | d => k d
theorem fza_iff (d : D) (k : D → Prop) : fza d k ↔ k d := by
  unfold fza
  rw [fz_iff]
  split
  · rw [fzl_iff]
  · split
    · rw [fz_iff]
      split
      · rw [fzl_iff, fz_iff]
      · rw [fz_iff]
    · rw [fzl_iff]
  · exact Iff.rfl
def vpart (C : Cx) (T : Ty) (d : D) (f : Nat) (k : D → Prop) : Prop := match T, d with
  | .struct _ fs, .agg cs => match fs[f]? with
    | some x => match C.ty x.2.1 with
      | .struct _ _ => fzl ((cs.drop x.1).take x.2.2) fun cs => k (.agg cs)
      | T => bif T.one then (match cs[x.1]? with
        | some d => fz d k
        | none => False) else False
    | none => False
  | _, _ => False
def vrd (C : Cx) (o : Oper) (e : Env) (H : HL) (k : D → Prop) : Prop := match o.op with
  | .field t x f => vpart C (C.ty t) (ev e x) f k
  | .move x => fz (ev e x) k
  | .assign x => fz (ev e x) k
  | .pick c a b => match ev e c with
    | .tt => fz (ev e a) k
    | .ff => fz (ev e b) k
    | _ => False
  | .build t ps => match C.zero t with
    | some z => fzp (evs e ps) fun ps => vbuild (C.ty t) z ps fun cs => fzl cs fun cs => k (.agg cs)
    | none => False
  | .load t x => vload (C.ty t) (ev e x) H k
  | .nilCheck x => match ev e x with
    | .ptr o f => k (.ptr o f)
    | .eptr n g => k (.eptr n g)
    | .optr o n s i j => k (.optr o n s i j)
    | _ => False
  | .index t x i => vindex C (C.ty t) (ev e x) (ev e i) k
  | .slice t x lo hi none => vslice (C.ty t) (ev e x) (lo.map (ev e)) (hi.map (ev e)) k
  | .binOp op t x y _ => vboN C t op y (ev e x) (ev e y) k
  | .unOp op _ x => match op, ev e x with
    | .not, .bool b => k (.bool !b)
    | .not, .tt => k .ff
    | .not, .ff => k .tt
    | .neg, .int q n => fits q (0 - n) k
    | _, _ => False
  | .convert s t x => vconv C (C.ty s) (C.ty t) (ev e x) H k
  | .makeFunc (.func f) fs cs => fzl (fs.toList.map (ev e)) fun fs => fzl (cs.toList.map (ev e)) fun cs => k (.fn f fs cs)
  | .fieldAddr t x f => vfield (C.ty t) (ev e x) f k
  | .indexAddr t x i => vidx (C.ty t) (ev e x) (ev e i) H k
  | .extract x i => match ev e x with
    | .tup l => match l[i]? with
      | some d => fz d k
      | none => False
    | _ => False
  | .makeInterface t x => bif ifOK (C.ty t) then fz (ev e x) fun d => k (.iface t d) else False
  | .typeAssert x _ t false => bif ifOK (C.ty t) then (match ev e x with
    | .iface t' d => bif Nat.beq t' t then fz d k else False
    | _ => False) else False
  | .typeAssert x _ t true => bif ifOK (C.ty t) then (match ev e x with
    | .iface t' d => bif Nat.beq t' t then fz d fun d => k (.tup [d, .tt]) else False
    | _ => False) else False
  | .lookup t x i ok => vlookup (C.ty t) (ev e x) (ev e i) ok H fun d => fza d k
  | .call c => match c.callee with
    | .builtin b => fzl (c.args.toList.map (ev e)) fun ds => vbuiltin C b c.argTypes.toList o.type ds H k
    | _ => False
  | _ => False
def nestD (H : HL) (d : D) : Option (List Nat × D) := match d with
  | .own o n => match hget H o with
    | some (.buf _ s m g) => bif Nat.beq n m then some ([o], .rsl s m g) else none
    | _ => none
  | d => some ([], d)
def nestP (H : HL) : List (Nat × D) → Option (List Nat × List (Nat × D))
  | [] => some ([], [])
  | p :: r => match nestD H p.2, nestP H r with
    | some (l, d), some (l', r') => some (l ++ l', (p.1, d) :: r')
    | _, _ => none
def ownP (p : Nat × D) : Bool := match p.2 with
  | .own _ _ => true
  | _ => false
def deadH (H : HL) : List Nat → HL
  | [] => H
  | o :: r => (deadH H r).set o (some .dead)
def vnest (nid el es len : Nat) (H : HL) (ps : List (Nat × D)) (k : D → HL → Prop) : Prop := match nestP H ps with
  | some (ids, ps') => fzp ps' fun ps' => vfill (fun i => some (i * es, es)) (fun cs => fzl cs fun cs =>
        bif cs.all okb && Nat.beq cs.length (len * es) then k (.own nid len) (hnew (deadH H ids) nid (.buf el es len fun i j => cs.getD (i * es + j) .top)) else False) (List.replicate (len * es) .top) ps'
  | none => False
def vwr (C : Cx) (nid : Nat) (o : Oper) (e : Env) (H : HL) (k : D → HL → Prop) : Prop := match o.op with
  | .alloc t => match C.zero t with
    | some cs => k (.ptr nid 0) (hnew H nid (.row cs))
    | none => False
  | .box t x => fz (ev e x) fun d => bif (cellsD d).all one then k (.ptr nid 0) (hnew H nid (.row (cellsD d))) else False
  | .buildSlice t len ps => match C.ty t with
    | .slice el es _ => bif Nat.ble (len * es) 16777216 && Nat.ble len 16777216 then fzp (evs e ps) fun ps => bif ps.any ownP then vnest nid el es len H ps k else vfill (fun i => some (i * es, es)) (fun cs => fzl cs fun cs =>
        bif cs.all okb && Nat.beq cs.length (len * es) then k (.own nid len) (hnew H nid (.buf el es len fun i j => cs.getD (i * es + j) .top)) else False) (List.replicate (len * es) .top) ps else False
    | _ => False
  | .store t x y => fz (ev e y) fun d => vstore (C.ty t) (ev e x) d H fun H => k .top H
  | .makeMap t none => vmakeMap (C.ty t) nid H k
  | .makeSlice t l c => match C.ty t with
    | .slice el es eb => match ev e l, ev e c with
      | .int _ n, .int _ m => match C.zero el with
        | some z => bif z.all okb && Nat.beq z.length es then (m = n ∧ 0 ≤ n ∧ n * eb ≤ 140737488355328 ∧ n ≤ 9223372036854775807) ∧ k (.own nid n.toNat) (hnew H nid (.buf el es n.toNat fun _ j => (z.map bl).getD j .top)) else False
        | none => False
      | _, _ => False
    | _ => False
  | .mapEntry t m x => vmapEntry (C.ty t) (ev e m) (ev e x) H k
  | .entryStore t m x y => ventryStore (C.ty t) (ev e m) (ev e x) (ev e y) H k
  | .mapUpdate t m x y => vmapUpdate (C.ty t) (ev e m) (ev e x) (ev e y) H k
  | .insert t m x y => vmapUpdate (C.ty t) (ev e m) (ev e x) (ev e y) H k
  | .convert s t x => bif Nat.beq s t then vsame C (C.ty t) (ev e x) H k else vbytes C (C.ty s) (C.ty t) nid (ev e x) H k
  | .call c => match c.callee with
    | .builtin .append => match c.args.toList, c.argTypes.toList with
      | [s, x], [t, t'] => bif Nat.beq t t' then vappend (C.ty t) nid (ev e s) (ev e x) H k else match C.ty t' with
        | .str => vappendS C (C.ty t) (ev e s) (ev e x) H k
        | _ => False
      | _, _ => False
    | _ => False
  | _ => False
structure COK (P : Program) (C : Cx) : Prop where
  ty : ∀ t, tyOK P t (C.ty t)
  zero : ∀ t cs, C.zero t = some cs → zeroOK P t cs
  eq : ∀ t, C.eq t = true → eqOK P t
section
variable {P : Program} {C : Cx} {o : Oper} {a : Act} {w : World} {S : Nat → Prop} {μ : Mu} {H : HL} {e : Env} {k : D → HL → Prop}
theorem run_build {t : Nat} {T : Ty} {z : List D} {ps : Array (Nat × Operand)} {K : List D → Prop} (hT : tyOK P t T) (hz : zeroOK P t z) (he : EnvR S w μ e a) (h : vbuild T z (evs e ps) K) :
    ∃ cs vs, (Instr.build t (ps.map fun (i, x) => (i, a.eval x))).run P w = .ok (.agg vs) w ∧ CR S w μ cs vs ∧ K cs := by
  obtain ⟨i, zv, hi, hzv, hsz, hcs, h1, hR⟩ := hz
  have hC : CR S w μ z zv.cells := ⟨hcs, fun j d v h2 h3 => (hR S w j d v h2 h3).of0, h1⟩
  have hmap : (evs e ps).map (·.1) = ((ps.map fun (i, x) => (i, a.eval x)).toList).map (·.1) := by simp [evs, Function.comp_def]
  have hrel : ∀ (j : Nat) p q, (evs e ps)[j]? = some p → ((ps.map fun (i, x) => (i, a.eval x)).toList)[j]? = some q → R S w μ p.2 q.2 := fun j p q h2 h3 => by
    simp only [evs, Array.toList_map, List.getElem?_map] at h2 h3
    cases hp : ps.toList[j]? with
    | none => simp [hp] at h2
    | some x =>
      simp only [hp, Option.map_some, Option.some.injEq] at h2 h3
      subst h2; subst h3
      exact he.ev x.2
  have hzr : (zeroValue t).run P w = .ok zv w := by simp [zeroValue, typeInfo, hi, hzv]
  cases T <;> simp only [vbuild] at h
  case struct sz fs =>
    obtain ⟨fields, hu, _, _, hp⟩ := hT
    obtain ⟨cs', cur', g1, g2, g3⟩ := sound_fill _ _ _ _ hmap hrel hC h
    refine ⟨cs', cur', ?_, g2, g3⟩
    have e : (fun (i : Nat) => ((fs.map fun (x : Nat × Nat × Nat) => (x.1, x.2.2)).toArray)[i]?) = fun (i : Nat) => (fs[i]?).map fun (x : Nat × Nat × Nat) => (x.1, x.2.2) := by funext i; simp
    simp only [bind_pure_comp, Instr.build, Sem.run_bind, hzr, Result.andThen_ok, run_underlying hu, Array.mapM_eq_mapM_toList, Sem.run_map, run_places w _ _ hp, e, g1]
    rfl
  case array n el es sz =>
    obtain ⟨hu, _, hes⟩ := hT
    obtain ⟨cs', cur', g1, g2, g3⟩ := sound_fill _ _ _ _ hmap hrel hC h
    refine ⟨cs', cur', ?_, g2, g3⟩
    simp only [Instr.build, Sem.run_bind, hzr, Result.andThen_ok, run_underlying hu, run_sizeOf hes, g1]
    rfl
theorem run_alloc {t : Nat} {i : TypeInfo} {z : Value} (hi : P.info? t = some i) (hz : i.zero = some z) : (Instr.alloc t true (.tuple #[])).run P w = .ok (.pointer (some ⟨w.heap.size, 0, none⟩)) (w.alloc (.cells z.cells t)) := by
  simp [Instr.alloc, zeroValue, typeInfo, hi, hz, newVar, newRow]
theorem run_box {t : Nat} {v : Value} : (Instr.box t v).run P w = .ok (.pointer (some ⟨w.heap.size, 0, none⟩)) (w.alloc (.cells v.cells t)) := by
  simp [Instr.box, newVar, newRow]
variable {nid : Nat} {kd : D → Prop}
abbrev PostR (S : Nat → Prop) (w : World) (μ : Mu) (H : HL) (k : D → Prop) := Post S w μ H fun d H' => H' = H ∧ k d
theorem Post.rd {d : D} {v : Value} (hr : RelL S w μ H) (hk : kd d) (h : R S w μ d v) : PostR S w μ H kd v w := Post.same hr ⟨rfl, hk⟩ h
theorem Post.of_row {cells : Array Value} {T : Nat} {cs : List D} (hr : RelL S w μ H) (hno : μ nid = none) (hle : nid ≤ H.length) (hc : CR S w μ cs cells) (h : k (.ptr nid 0) (hnew H nid (.row cs))) :
    Post S w μ H k (.pointer (some ⟨w.heap.size, 0, none⟩)) (w.alloc (.cells cells T)) := by
  obtain ⟨h1, h2, h3⟩ := new_row hr hno hle cells T cs hc.1 hc.2.1 hc.2.2
  exact ⟨S, _, _, _, h, h3, h1, h2⟩
theorem sound_alloc {t : Nat} {cs : List D} (hz : zeroOK P t cs) (hr : RelL S w μ H) (hno : μ nid = none) (hle : nid ≤ H.length) (hop : o.op = .alloc t) (h : k (.ptr nid 0) (hnew H nid (.row cs))) : Does P o a w (Post S w μ H k) := by
  obtain ⟨i, z, hi, hz, _, hl, h1, hR⟩ := hz
  refine does_ok (v := .pointer (some ⟨w.heap.size, 0, none⟩)) (w' := w.alloc (.cells z.cells t)) ?_ (Post.of_row hr hno hle ⟨hl, fun j d v h2 h3 => (hR S w j d v h2 h3).of0, h1⟩ h)
  simp [execOp, hop, run_alloc hi hz]
theorem sound_box {t : Nat} {x : Operand} (he : EnvR S w μ e a) (hr : RelL S w μ H) (hno : μ nid = none) (hle : nid ≤ H.length) (hop : o.op = .box t x) (h1 : (cellsD (ev e x)).all one = true) (h : k (.ptr nid 0) (hnew H nid (.row (cellsD (ev e x))))) : Does P o a w (Post S w μ H k) := by
  obtain ⟨hl, hR, hone⟩ := cells_R (he.ev x) h1
  refine does_ok (v := .pointer (some ⟨w.heap.size, 0, none⟩)) (w' := w.alloc (.cells (a.eval x).cells t)) ?_ (Post.of_row hr hno hle ⟨hl.symm, fun j d v h2 h3 => hR j d v h2 h3, fun i v h3 => hone v (by simpa using List.mem_of_getElem? (l := (a.eval x).cells.toList) (i := i) (by simpa using h3))⟩ h)
  simp [execOp, hop, run_box]
theorem own_form (hr : RelL S w μ H) {oid el s m n : Nat} {g : Nat → Nat → D} {v : Value} (ho : hget H oid = some (.buf el s m g)) (hd : R S w μ (.own oid n) v) (hnm : n = m) :
    ∃ A c xs, v = .slice A m c ∧ μ oid = some (.slice A m c) ∧ w.ownsG 0 el s (.slice A m c) m xs ∧ (∀ i j, i < m → j < s → ∃ u, xs[i * s + j]? = some u ∧ u.oneCell' = true ∧ R S w Mu0 (g i j) u) ∧ (0 < m → ∃ b, A = some ⟨b, 0, none⟩) := by
  cases hd with
  | own _ _ A m' c _ hm hn h1c hv =>
    obtain ⟨mv, h1, xs, hown, hx⟩ := hr.1.obs oid _ ho
    rw [hm] at h1
    injection h1 with h1
    subst h1
    have hmm : m' = m := by
      rcases hown.2 with ⟨e1, e2⟩ | ⟨b, cap, cur, fz, e1, _⟩
      · injection e1 with _ e1 _; omega
      · injection e1
    subst hmm
    refine ⟨A, c, xs, hv hnm, hm, hown, hx, fun h0 => ?_⟩
    rcases hown.2 with ⟨e1, e2⟩ | ⟨b, cap, cur, fz, e1, _⟩
    · omega
    · injection e1 with e1 _ _; exact ⟨b, e1⟩
theorem cell_off {i i' s j j' k : Nat} (hj : j + k ≤ s) (hj' : j' < s) : (i * s + j ≤ i' * s + j' ∧ i' * s + j' < i * s + j + k) ↔ (i' = i ∧ j ≤ j' ∧ j' < j + k) := by
  constructor
  · rintro ⟨h1, h2⟩
    have : i' = i := by
      rcases Nat.lt_trichotomy i' i with h | h | h
      · have := Nat.mul_le_mul_right s (show i' + 1 ≤ i by omega)
        rw [Nat.add_mul] at this
        omega
      · exact h
      · have := Nat.mul_le_mul_right s (show i + 1 ≤ i' by omega)
        rw [Nat.add_mul] at this
        omega
    subst this
    exact ⟨rfl, by omega, by omega⟩
  · rintro ⟨rfl, h1, h2⟩
    exact ⟨by omega, by omega⟩
theorem write_buf (hr : RelL S w μ H) {oid el s m b i j : Nat} {c : Nat} {g : Nat → Nat → D} {xsD : List D} {vs : List Value} (ho : hget H oid = some (.buf el s m g)) (hm : μ oid = some (.slice (some ⟨b, 0, none⟩) m c)) (hi : i < m) (hfit : j + xsD.length ≤ s)
    (hl : xsD.length = vs.length) (hR : ∀ (x : Nat) d u, xsD[x]? = some d → vs[x]? = some u → R S w μ d u) (hok : xsD.all okb = true) (h1 : ∀ u ∈ vs, u.oneCell' = true) :
    ∃ w', (storeCells ⟨b, i * s + j, none⟩ vs 0).run P w = .ok () w' ∧
      RelL S w' μ (H.set oid (some (.buf el s m fun i' j' => if i' = i ∧ j ≤ j' ∧ j' < j + xsD.length then xsD.getD (j' - j) .top else g i' j'))) ∧
      Tr S w μ (hget H) S w' μ (hget (H.set oid (some (.buf el s m fun i' j' => if i' = i ∧ j ≤ j' ∧ j' < j + xsD.length then xsD.getD (j' - j) .top else g i' j')))) := by
  obtain ⟨mv, hm', xs, hown, hx⟩ := hr.1.obs oid _ ho
  rw [hm] at hm'
  injection hm' with hm'
  subst hm'
  obtain ⟨hxl, hown2⟩ := hown
  rcases hown2 with ⟨e1, e2⟩ | ⟨b', cap, cur, fz, e1, hb0, hheap, hfz, hnc, hcm, hcs, htake⟩
  · cases e1
  · injection e1 with e1 _ e3
    injection e1 with e1
    injection e1 with e1 _ _
    subst e1; subst e3
    have hms : i * s + s ≤ m * s := by
      have := Nat.mul_le_mul_right s (show i + 1 ≤ m by omega)
      rwa [Nat.add_mul, Nat.one_mul] at this
    have hcaps : m * s ≤ c * s := Nat.mul_le_mul_right s hnc
    have hst := run_storeCells_atG P b (i * s + j) el fz vs 0 cur w hheap hfz (by omega) h1
    simp only [Nat.add_zero] at hst
    refine ⟨_, hst, ?_⟩
    have hupd : updM μ oid (.slice (some ⟨b, 0, none⟩) m c) = μ := by
      funext o'
      unfold updM
      split
      · rename_i h; rw [h, hm]
      · rfl
    have hother : ∀ k, k ≠ b → (w.setRow b (cur.toList.take (i * s + j) ++ vs ++ cur.toList.drop (i * s + j + vs.length)).toArray).heap[k]? = w.heap[k]? := fun k hk => setRow_other w b k _ hk
    have hlen' : (cur.toList.take (i * s + j) ++ vs ++ cur.toList.drop (i * s + j + vs.length)).length = cur.size := by
      simp only [List.length_append, List.length_take, List.length_drop, Array.length_toList]; omega
    have hsp := getElem?_vsplice cur (i * s + j) vs (by omega)
    have hown' : (w.setRow b (cur.toList.take (i * s + j) ++ vs ++ cur.toList.drop (i * s + j + vs.length)).toArray).ownsG 0 el s (.slice (some ⟨b, 0, none⟩) m c) m ((cur.toList.take (i * s + j) ++ vs ++ cur.toList.drop (i * s + j + vs.length)).take (m * s)) := by
      refine ⟨by rw [List.length_take, hlen']; omega, .inr ⟨b, c, _, fz, rfl, hb0, setRow_heap w b cur _ el _ hheap, by rw [List.size_toArray, hlen']; exact hfz, hnc, hcm, by rw [List.size_toArray, hlen']; exact hcs, rfl⟩⟩
    have hget' : ∀ i' j', i' < m → j' < s → ((cur.toList.take (i * s + j) ++ vs ++ cur.toList.drop (i * s + j + vs.length)).take (m * s))[i' * s + j']? = if i' = i ∧ j ≤ j' ∧ j' < j + xsD.length then vs[j' - j]? else xs[i' * s + j']? := fun i' j' hi' hj' => by
      have hlt : i' * s + j' < m * s := by
        have := Nat.mul_le_mul_right s (show i' + 1 ≤ m by omega)
        rw [Nat.add_mul, Nat.one_mul] at this
        omega
      rw [List.getElem?_take, if_pos hlt]
      have := hsp (i' * s + j')
      rw [List.getElem?_toArray] at this
      rw [this, ← htake, List.getElem?_take, if_pos hlt, ← hl]
      have hc := cell_off (i := i) (i' := i') (s := s) (j := j) (j' := j') (k := xsD.length) hfit hj'
      by_cases hcond : i' = i ∧ j ≤ j' ∧ j' < j + xsD.length
      · rw [if_pos hcond, if_pos (hc.2 hcond)]
        congr 1
        obtain ⟨rfl, _, _⟩ := hcond
        omega
      · rw [if_neg hcond, if_neg (fun h => hcond (hc.1 h))]
        simp
    have := turn_buf hr (w' := w.setRow b (cur.toList.take (i * s + j) ++ vs ++ cur.toList.drop (i * s + j + vs.length)).toArray) (g' := fun i' j' => if i' = i ∧ j ≤ j' ∧ j' < j + xsD.length then xsD.getD (j' - j) .top else g i' j') ho hm (.refl _)
      ⟨rfl, rfl, rfl, by simp, fun k hk hne => hother k (fun e => hne (by simp [Value.ownBlock, e]))⟩ (.inl rfl) hown' (fun i' j' hi' hj' => by
        rw [hget' i' j' hi' hj']
        by_cases hcond : i' = i ∧ j ≤ j' ∧ j' < j + xsD.length
        · simp only [hcond, and_self, if_true]
          have hlt : j' - j < xsD.length := by omega
          have hlt' : j' - j < vs.length := by omega
          refine ⟨vs[j' - j], by simp [hlt'], h1 _ (List.getElem_mem hlt'), ?_⟩
          have e1 : xsD.getD (j' - j) .top = xsD[j' - j] := by simp [List.getElem?_eq_getElem hlt]
          rw [e1]
          have hd := hR (j' - j) xsD[j' - j] vs[j' - j] (by simp [hlt]) (by simp [hlt'])
          have hk := List.all_eq_true.1 hok _ (List.getElem_mem hlt)
          simp only [okb, Bool.or_eq_true] at hk
          rcases hk with hk | hk
          · exact noRef1_R hd hk
          · generalize xsD[j' - j] = dd at *
            cases dd <;> first | exact .top _ | cases hk
        · simp only [hcond, if_false]
          exact hx i' j' hi' hj')
    rwa [hupd] at this
theorem sound_store {t : Nat} {x y : Operand} (hC : COK P C) (he : EnvR S w μ e a) (hr : RelL S w μ H) (hop : o.op = .store t x y) (h : vstore (C.ty t) (ev e x) (ev e y) H fun H => k .top H) : Does P o a w (Post S w μ H k) := by
  unfold vstore at h
  cases hb : ((cellsD (ev e y)).all one && Nat.beq (cellsD (ev e y)).length (tsz (C.ty t)) && (C.ty t).known) with
  | false => simp [hb] at h
  | true =>
    simp only [hb, cond_true] at h
    simp only [Bool.and_eq_true] at hb
    obtain ⟨⟨h1, h2⟩, h3⟩ := hb
    have hlen := Nat.eq_of_beq_eq_true h2
    obtain ⟨hl, hR, hone⟩ := cells_R (he.ev y) h1
    have hx := he.ev x
    cases hd : ev e x <;> rw [hd] at h hx <;> simp only at h
    case ptr oid off =>
      cases ho : hget H oid with
      | none => simp [ho] at h
      | some ob =>
        cases ob with
        | buf _ _ _ _ => simp [ho] at h
        | mp _ => simp [ho] at h
        | lp _ _ => simp [ho] at h
        | dead => simp [ho] at h
        | row cs =>
          simp only [ho] at h
          cases hfit : Nat.ble (off + (cellsD (ev e y)).length) cs.length with
          | false => simp [hfit] at h
          | true =>
            simp only [hfit, cond_true] at h
            have hfit' := Nat.le_of_ble_eq_true hfit
            cases hv : a.eval x <;> rw [hv] at hx <;> try (cases hx; done)
            cases hx with
            | ptr _ _ b hm =>
              obtain ⟨w', hrun, g1, g2⟩ := set_row (P := P) hr ho hm hfit' (by simpa using hl) (fun j x u hx hu => hR j x u hx (by simpa using hu)) hone
              refine does_skip (w' := w') ?_ ⟨S, μ, .top, _, h, .top _, g1, g2⟩
              have hsz := run_sizeOf (tyOK.sz (hC.ty t) h3) w
              simp [execOp, hop, hv, Instr.storeAt, Instr.sureAddr, storeVar, hsz, ← hlen, hl, hrun]
    case optr oid n s' i j =>
      cases ho : hget H oid with
      | none => simp [ho] at h
      | some ob =>
        cases ob with
        | row _ => simp [ho] at h
        | mp _ => simp [ho] at h
        | lp _ _ => simp [ho] at h
        | dead => simp [ho] at h
        | buf el size m g =>
          simp only [ho] at h
          cases hfit : (Nat.beq s' size && Nat.ble (j + (cellsD (ev e y)).length) s' && (cellsD (ev e y)).all okb) with
          | false => simp [hfit] at h
          | true =>
            simp only [hfit, cond_true] at h
            simp only [Bool.and_eq_true] at hfit
            obtain rfl := Nat.eq_of_beq_eq_true hfit.1.1
            have hle := Nat.le_of_ble_eq_true hfit.1.2
            obtain ⟨⟨hnm, him⟩, h⟩ := h
            cases hv : a.eval x <;> rw [hv] at hx <;> try (cases hx; done)
            cases hx with
            | optr _ _ _ _ _ A m' c b hm hn hA =>
              obtain ⟨mv, hmv, xs, hown, _⟩ := hr.1.obs oid _ ho
              rw [hm] at hmv
              injection hmv with hmv
              have hmm : m' = m := by
                rcases hown.2 with ⟨e1, e2⟩ | ⟨b, cap, cur, fz, e1, _⟩
                · rw [← hmv] at e1; injection e1 with _ e1 _; omega
                · rw [← hmv] at e1; injection e1
              subst hmm
              have hA' := hA hnm
              subst hA'
              obtain ⟨w', hrun, g1, g2⟩ := write_buf (P := P) (i := i) (j := j) (xsD := (cellsD (ev e y)).map bl) hr ho hm him (by rw [List.length_map]; exact hle) (by simpa using hl) (fun j x u hx hu => by
                rw [List.getElem?_map] at hx
                cases hd : (cellsD (ev e y))[j]? with
                | none => rw [hd] at hx; cases hx
                | some d =>
                  rw [hd] at hx
                  injection hx with hx
                  subst hx
                  exact R_bl (hR j d u hd (by simpa using hu))) (all_bl hfit.2) hone
              simp only [List.length_map] at g1 g2
              refine does_skip (w' := w') ?_ ⟨S, μ, .top, _, h, .top _, g1, g2⟩
              have hsz := run_sizeOf (tyOK.sz (hC.ty t) h3) w
              simp [execOp, hop, hv, Instr.storeAt, Instr.sureAddr, storeVar, hsz, ← hlen, hl, hrun]
theorem run_intop {t : Nat} {op : BinOp} {q : IntKind} {x y : Int} {K : D → Prop} (h : vbin op (.int q x) (.int q y) K) (hne : op ≠ .eql ∧ op ≠ .neq) :
    ∃ d v, (binOp op t (.int q x) (.int q y)).run P w = .ok v w ∧ R S w μ d v ∧ K d := by
  have hk : keq q q = true := by cases q <;> rfl
  cases op <;> simp only [vbin, hk, cond_true] at h <;> try (exact h.elim)
  case add => exact ⟨_, _, by simp [go_sem], .int _ _, fits_iff h⟩
  case sub => exact ⟨_, _, by simp [go_sem], .int _ _, fits_iff h⟩
  case mul => exact ⟨_, _, by simp [go_sem], .int _ _, fits_iff h⟩
  case quo => exact ⟨_, _, by simp [go_sem, h.1], .int _ _, fits_iff h.2⟩
  case rem => exact ⟨_, _, by simp [go_sem, h.1], .int _ _, h.2⟩
  case or => exact ⟨_, _, by simp [go_sem], .int _ _, h⟩
  case and => exact ⟨_, _, by simp [go_sem], .int _ _, h⟩
  case lss => exact ⟨_, _, by simp [go_sem], .bool _, h⟩
  case leq => exact ⟨_, _, by simp [go_sem], .bool _, h⟩
  case gtr => exact ⟨_, _, by simp [go_sem], .bool _, h⟩
  case geq => exact ⟨_, _, by simp [go_sem], .bool _, h⟩
  case shl => exact ⟨_, _, by simp [go_sem, Op.shift, Int.not_lt.2 h.1], .int _ _, fits_iff h.2⟩
  case shr => exact ⟨_, _, by simp [go_sem, Op.shift, Int.not_lt.2 h.1], .int _ _, h.2⟩
  case eql => exact absurd rfl hne.1
  case neq => exact absurd rfl hne.2
theorem run_shift {t : Nat} {q q' : IntKind} {x y : Int} {K : D → Prop} :
    (vbin .shl (.int q x) (.int q' y) K → ∃ d v, (binOp .shl t (.int q x) (.int q' y)).run P w = .ok v w ∧ R S w μ d v ∧ K d) ∧
    (vbin .shr (.int q x) (.int q' y) K → ∃ d v, (binOp .shr t (.int q x) (.int q' y)).run P w = .ok v w ∧ R S w μ d v ∧ K d) := by
  constructor <;> intro h <;> simp only [vbin] at h
  · exact ⟨_, _, by simp [go_sem, Op.shift, Int.not_lt.2 h.1], .int _ _, fits_iff h.2⟩
  · exact ⟨_, _, by simp [go_sem, Op.shift, Int.not_lt.2 h.1], .int _ _, h.2⟩
theorem vbin_ints {op : BinOp} {x y : D} {K : D → Prop} (h : vbin op x y K) (hne : op ≠ .eql ∧ op ≠ .neq) : ∃ q a q' b, x = .int q a ∧ y = .int q' b ∧ ((op = .shl ∨ op = .shr) ∨ q = q') := by
  cases op <;> first | (exact absurd rfl hne.1) | (exact absurd rfl hne.2) | skip
  all_goals
    cases x <;> simp only [vbin] at h <;> try (exact h.elim)
    cases y <;> simp only at h <;> try (exact h.elim)
    rename_i q a q' b
    refine ⟨q, a, q', b, rfl, rfl, ?_⟩
    first
      | exact .inl (.inl rfl)
      | exact .inl (.inr rfl)
      | (cases hk : keq q q' with
         | true => exact .inr (keq_eq hk)
         | false => simp [hk] at h)
def RLA (S : Nat → Prop) (w : World) (μ : Mu) (xs : List D) (vs : Array Value) : Prop := xs.length = vs.size ∧ ∀ (i : Nat) d v, xs[i]? = some d → vs[i]? = some v → R S w μ d v
theorem RLA.part {xs : List D} {vs : Array Value} (h : RLA S w μ xs vs) (off sz : Nat) : RLA S w μ ((xs.drop off).take sz) (vs.extract off (off + sz)) := by
  refine ⟨by simp [h.1]; omega, fun i d v h1 h2 => ?_⟩
  rw [List.getElem?_take] at h1
  split at h1
  · rw [List.getElem?_drop] at h1
    rw [Array.getElem?_extract] at h2
    split at h2
    · exact h.2 _ _ _ h1 h2
    · cases h2
  · cases h1
theorem run_deq2 {t : Nat} {T : Ty} {x y : D} {vx vy : Value} {b : Bool} (d : Nat) (hx : R S w μ x vx) (hy : R S w μ y vy) (h : deq x y = some b) (hT : tyOK P t T) (ht : eqTy2 T x y = true) : (Op.equalIn (d + 1) t vx vy).run P w = .ok b w := by
  cases T <;> simp only [eqTy2, Bool.false_eq_true] at ht
  case int q0 =>
    cases x <;> first | (cases ht; done) | skip
    cases y <;> first | (cases ht; done) | skip
    cases hx
    cases hy
    rename_i k n k' n'
    simp only [deq] at h
    cases hk : keq k k' with
    | false => simp [hk] at h
    | true =>
      obtain rfl := keq_eq hk
      simp only [hk, cond_true, Option.some.injEq] at h
      subst h
      rw [run_equalIn_int (P := P) w d t k q0 n n' hT.1]
      rfl
  case str =>
    cases x <;> first | (cases ht; done) | skip
    cases y <;> first | (cases ht; done) | skip
    cases hx
    cases hy
    simp only [deq, Option.some.injEq] at h
    subst h
    rw [run_equalIn_string (P := P) w d t _ _ hT.1, toList_beq]
  case bool =>
    have key : ∀ a c : Bool, (Op.equalIn (d + 1) t (.bool a) (.bool c)).run P w = .ok (a == c) w := fun a c => run_equalIn_bool w d t a c hT.1
    cases x <;> simp only [Bool.false_and, Bool.false_eq_true] at ht <;> cases y <;> simp only [Bool.and_false, Bool.false_eq_true] at ht <;> cases hx <;> cases hy <;> simp only [deq, Option.some.injEq] at h <;> subst h <;> first
      | exact key _ _
      | (rename_i b; cases b <;> exact key _ _)
theorem run_eqF (hC : COK P C) {rec : Nat → List D → List D → Option Bool} {d : Nat} (hrec : ∀ t xs ys b, rec t xs ys = some b → ∀ vs us, RLA S w μ xs vs → RLA S w μ ys us → (Op.equalIn (d + 1) t (.agg vs) (.agg us)).run P w = .ok b w)
    {xs ys : List D} {vs us : Array Value} (hx : RLA S w μ xs vs) (hy : RLA S w μ ys us) : ∀ (F : List Field) (L : List (Nat × Nat × Nat)) (b : Bool), F.length = L.length → (∀ f ∈ F, f.name ≠ "_") →
      (∀ (i : Nat) l f, L[i]? = some l → F[i]? = some f → f.offset = l.1 ∧ f.type = l.2.1 ∧ szOf P f.type l.2.2) → veqF C rec xs ys L = some b → (Op.eqFields (d + 1) vs us F).run P w = .ok b w
  | [], [], b, _, _, _, h => by
    simp only [veqF, Option.some.injEq] at h
    subst h
    simp [Op.eqFields]
  | f :: F, (off, t, sz) :: L, b, hl, hn, hp, h => by
    obtain ⟨h1, h2, h3⟩ := hp 0 _ f rfl rfl
    simp only at h1 h2 h3
    have hn0 := hn f (List.mem_cons_self)
    simp only [veqF] at h
    split at h
    · rename_i a c ha hc
      simp only [Option.some.injEq] at h
      subst h
      have ih := run_eqF hC hrec hx hy F L c (by simpa using hl) (fun g hg => hn g (List.mem_cons_of_mem _ hg)) (fun i l g a b => hp (i + 1) l g (by simpa using a) (by simpa using b)) hc
      have hhead : ∃ va vb, (part f.type vs f.offset).run P w = .ok va w ∧ (part f.type us f.offset).run P w = .ok vb w ∧ (Op.equalIn (d + 1) f.type va vb).run P w = .ok a w := by
        rw [h2] at h3 ⊢
        rw [h1]
        have hty := hC.ty t
        by_cases hst : ∃ sz' fs', C.ty t = .struct sz' fs'
        · obtain ⟨sz', fs', hT⟩ := hst
          rw [hT] at ha hty
          obtain ⟨fields, hu, hsz, _⟩ := hty
          have hag := run_isAgg_agg (P := P) hu rfl w
          exact ⟨.agg (vs.extract off (off + sz)), .agg (us.extract off (off + sz)), by simp [part, hag, run_sizeOf h3], by simp [part, hag, run_sizeOf h3], hrec t _ _ a ha _ _ (hx.part off sz) (hy.part off sz)⟩
        · have ha' : (match xs[off]?, ys[off]? with | some x, some y => bif eqTy2 (C.ty t) x y then deq x y else none | _, _ => none) = some a := by
            cases hT : C.ty t <;> rw [hT] at ha <;> first | exact ha | exact absurd ⟨_, _, hT⟩ hst
          split at ha'
          · rename_i x y hxo hyo
            cases hq : eqTy2 (C.ty t) x y with
            | false => simp [hq] at ha'
            | true =>
              simp only [hq, cond_true] at ha'
              have hT1 : (C.ty t).one = true := by
                cases hT : C.ty t <;> rw [hT] at hq <;> first | rfl | simp [eqTy2] at hq
              obtain ⟨dsc, hu, hpl⟩ := hty.plain hT1
              have hag := run_isAgg_plain (P := P) hu hpl w
              have hxl : off < vs.size := by have := (List.getElem?_eq_some_iff.1 hxo).1; have := hx.1; omega
              have hyl : off < us.size := by have := (List.getElem?_eq_some_iff.1 hyo).1; have := hy.1; omega
              exact ⟨vs[off], us[off], by simp [part, hag, hxl], by simp [part, hag, hyl], run_deq2 d (hx.2 off x _ hxo (by simp [hxl])) (hy.2 off y _ hyo (by simp [hyl])) ha' hty hq⟩
          · cases ha'
      obtain ⟨va, vb, g1, g2, g3⟩ := hhead
      simp only [Op.eqFields, hn0, ne_eq, not_false_eq_true, if_true, Sem.run_bind, g1, g2, g3, Result.andThen_ok]
      cases a
      · simp
      · simpa using ih
    · cases h
  | [], _ :: _, _, hl, _, _, _ => by simp at hl
  | _ :: _, [], _, hl, _, _, _ => by simp at hl
theorem run_eqA {el : Nat} {T : Ty} (hT : tyOK P el T) (d : Nat) : ∀ (xs ys : List D) (b : Bool), veqA T xs ys = some b → ∀ (j : Nat) (vs us : Array Value), j + xs.length ≤ vs.size → j + ys.length ≤ us.size →
    (∀ (i : Nat) x v, xs[i]? = some x → vs[j + i]? = some v → R S w μ x v) → (∀ (i : Nat) x v, ys[i]? = some x → us[j + i]? = some v → R S w μ x v) → (Op.eqItems (d + 1) el 1 vs us (List.range' j xs.length)).run P w = .ok b w
  | [], [], b, h, j, vs, us, _, _, _, _ => by
    simp only [veqA, Option.some.injEq] at h
    subst h
    rfl
  | [], _ :: _, _, h, _, _, _, _, _, _, _ => by simp [veqA] at h
  | _ :: _, [], _, h, _, _, _, _, _, _, _ => by simp [veqA] at h
  | x :: xs, y :: ys, b, h, j, vs, us, h1, h2, hx, hy => by
    simp only [List.length_cons] at h1 h2
    simp only [veqA] at h
    split at h
    · rename_i a c ha hc
      simp only [Option.some.injEq] at h
      subst h
      cases hq : eqTy2 T x y with
      | false => simp [hq] at ha
      | true =>
        simp only [hq, cond_true] at ha
        have hT1 : T.one = true := by cases T <;> first | rfl | simp [eqTy2] at hq
        obtain ⟨dsc, hu, hpl⟩ := hT.plain hT1
        have hag := run_isAgg_plain (P := P) hu hpl w
        have l1 : j < vs.size := by omega
        have l2 : j < us.size := by omega
        have g1 : (part el vs (j * 1)).run P w = .ok vs[j] w := by simp [part, hag, l1]
        have g2 : (part el us (j * 1)).run P w = .ok us[j] w := by simp [part, hag, l2]
        have g3 := run_deq2 (P := P) d (hx 0 x vs[j] rfl (by simp [l1])) (hy 0 y us[j] rfl (by simp [l2])) ha hT hq
        have ih := run_eqA hT d xs ys c hc (j + 1) vs us (by omega) (by omega)
          (fun i x v e1 e2 => hx (i + 1) x v (by simpa using e1) (by rw [show j + (i + 1) = j + 1 + i by omega]; exact e2))
          (fun i x v e1 e2 => hy (i + 1) x v (by simpa using e1) (by rw [show j + (i + 1) = j + 1 + i by omega]; exact e2))
        show (Op.eqItems (d + 1) el 1 vs us (j :: List.range' (j + 1) xs.length)).run P w = _
        simp only [Op.eqItems, Sem.run_bind, g1, g2, g3, Result.andThen_ok]
        cases a
        · simp
        · simpa using ih
    · cases h
theorem run_eqs (hC : COK P C) : ∀ (f t : Nat) (xs ys : List D) (b : Bool), veq C f t xs ys = some b → ∀ vs us, RLA S w μ xs vs → RLA S w μ ys us → ∀ d, f ≤ d → (Op.equalIn (d + 1) t (.agg vs) (.agg us)).run P w = .ok b w
  | 0, _, _, _, _, h => by simp [veq] at h
  | f + 1, t, xs, ys, b, h => fun vs us hx hy d hd => by
    simp only [veq] at h
    cases hq : C.eq t with
    | false => simp [hq] at h
    | true =>
      simp only [hq, cond_true] at h
      obtain ⟨hn, hst, _⟩ := hC.eq t hq
      have hty := hC.ty t
      split at h
      · rename_i sz fs hT
        rw [hT] at hty
        obtain ⟨fields, hu, hsz, hfs, hm⟩ := hty
        have hfo : P.fieldsOf t = fields := by simp [Program.fieldsOf, hu]
        cases hl : (Nat.beq xs.length sz && Nat.beq ys.length sz) with
        | false => simp [hl] at h
        | true =>
          simp only [hl, cond_true] at h
          rw [run_equalIn_struct (P := P) w d t vs us (by rw [hfo]; exact hu) hst, hfo]
          have hlen : fields.toList.length = fs.length := by
            have := congrArg (fun o : Option (List (Nat × Nat)) => o.map List.length) hm
            have h2 : ∀ (L : List Field) (r : List (Nat × Nat)), L.mapM (fun f => (P.info? f.type).map fun i => (f.offset, i.size)) = some r → L.length = r.length := by
              intro L
              induction L with
              | nil => intro r h; simp at h; subst h; rfl
              | cons f L ih =>
                intro r h
                rw [List.mapM_cons] at h
                cases h1 : (P.info? f.type).map fun i => (f.offset, i.size) with
                | none => simp [h1] at h
                | some y =>
                  cases h2 : L.mapM (fun f => (P.info? f.type).map fun i => (f.offset, i.size)) with
                  | none => simp [h1, h2] at h
                  | some z =>
                    simp [h1, h2] at h
                    subst h
                    simp [ih z h2]
            have := h2 _ _ hm
            simpa using this
          match d, hd with
          | d + 1, hd =>
            refine run_eqF hC (fun t' xs' ys' b' h' vs' us' hx' hy' => run_eqs hC f t' xs' ys' b' h' vs' us' hx' hy' d (by omega)) hx hy fields.toList fs b hlen (by rw [hfo] at hn; exact hn) (fun i l g h1 h2 => ?_) h
            obtain ⟨f', k1, k2, k3, k4, _⟩ := hfs i l h1
            have : f' = g := by
              have h2' : fields[i]? = some g := by simpa using h2
              rw [k1] at h2'; injection h2'
            subst this
            exact ⟨k2, k3, k4⟩
      · rename_i n el es sz hT
        rw [hT] at hty
        obtain ⟨hu, _, hes⟩ := hty
        cases hl : ((Nat.beq es 1 && Nat.beq xs.length n) && Nat.beq ys.length n) with
        | false => simp [hl] at h
        | true =>
          simp only [hl, cond_true] at h
          simp only [Bool.and_eq_true] at hl
          have e1 := Nat.eq_of_beq_eq_true hl.1.1
          have e2 := Nat.eq_of_beq_eq_true hl.1.2
          have e3 := Nat.eq_of_beq_eq_true hl.2
          subst e1
          match d, hd with
          | d + 1, hd =>
            have hes' : ∃ i, P.info? el = some i ∧ i.size = 1 := by
              unfold szOf at hes
              cases hi : P.info? el with
              | none => simp [hi] at hes
              | some i => exact ⟨i, rfl, by simpa [hi] using hes⟩
            obtain ⟨i, hi, hi1⟩ := hes'
            have hc1 : P.cellsOf el = 1 := by simp [Program.cellsOf, hi, hi1]
            have hx1 := hx.1
            have hy1 := hy.1
            rw [run_equalIn_array w (d + 1) vs us hu hi, hc1, List.range_eq_range', ← e2]
            exact run_eqA (hC.ty el) d xs ys b h 0 vs us (by omega) (by omega) (fun i x v g1 g2 => hx.2 i x v g1 (by simpa using g2)) (fun i x v g1 g2 => hy.2 i x v g1 (by simpa using g2))
          | 0, hd => omega
      · cases h
theorem sound_eq {op : BinOp} {t yt : Nat} {x y : Operand} (hC : COK P C) (he : EnvR S w μ e a) (hr : RelL S w μ H) (hop : o.op = .binOp op t x y yt) (h : veqop C t op (ev e x) (ev e y) kd) : Does P o a w (PostR S w μ H kd) := by
  have hx := he.ev x
  have hy := he.ev y
  generalize ev e x = dx at *
  generalize ev e y = dy at *
  unfold veqop at h
  cases dx <;> first | exact h.elim | skip
  cases dy <;> first | exact h.elim | skip
  rename_i xs ys
  simp only at h
  generalize hvx : a.eval x = vx at *
  generalize hvy : a.eval y = vy at *
  cases hx with
  | agg _ vs hl1 hR1 =>
    cases hy with
    | agg _ us hl2 hR2 =>
      have key : ∀ b, veq C 4 t xs ys = some b → (Op.equalIn (9999 + 1) t (.agg vs) (.agg us)).run P w = .ok b w ∧ P.eqGuardType P.depth t = false := fun b hb => by
        refine ⟨run_eqs hC 4 t xs ys b hb vs us ⟨hl1, hR1⟩ ⟨hl2, hR2⟩ 9999 (Nat.le_of_ble_eq_true rfl), ?_⟩
        unfold veq at hb
        cases hq : C.eq t with
        | false => simp [hq] at hb
        | true => exact (hC.eq t hq).2.2
      cases op <;> first | exact h.elim | skip
      · simp only at h
        cases hb : veq C 4 t xs ys with
        | none => simp [hb] at h
        | some b =>
          simp only [hb] at h
          obtain ⟨k1, k2⟩ := key b hb
          refine does_ok (v := .bool b) (w' := w) ?_ (Post.rd hr h (.bool b))
          simp only [execOp, hop, hvx, hvy, Sem.run_bind, run_eqGuard_agg w .eql t x y vs us k2, Result.andThen_ok, run_eql_struct, Sem.run_pure]
          rw [show (10000 : Nat) = 9999 + 1 from rfl, k1]
          rfl
      · simp only at h
        cases hb : veq C 4 t xs ys with
        | none => simp [hb] at h
        | some b =>
          simp only [hb] at h
          obtain ⟨k1, k2⟩ := key b hb
          refine does_ok (v := .bool !b) (w' := w) ?_ (Post.rd hr h (.bool !b))
          simp only [execOp, hop, hvx, hvy, Sem.run_bind, run_eqGuard_agg w .neq t x y vs us k2, Result.andThen_ok, run_neq_struct, Sem.run_pure]
          rw [show (10000 : Nat) = 9999 + 1 from rfl, k1]
          rfl
theorem run_equalIn_nil2 (d : Nat) {t : Nat} {ms} (hu : P.underlying t = some (.interface ms)) : (Op.equalIn (d + 1) t .nilIface .nilIface).run P w = .ok true w := by
  simp [Op.equalIn, run_underlying hu]
theorem sound_bin {op : BinOp} {t yt : Nat} {x y : Operand} (hC : COK P C) (he : EnvR S w μ e a) (hr : RelL S w μ H) (hop : o.op = .binOp op t x y yt) (h : vrd C o e H kd) : Does P o a w (PostR S w μ H kd) := by
  unfold vrd at h
  simp only [hop] at h
  unfold vboN at h
  by_cases hnl : ev e x = .nilI
  · rw [hnl] at h
    simp only at h
    cases hny : nilC y with
    | false => simp [hny] at h
    | true =>
      simp only [hny, cond_true] at h
      have hvx : a.eval x = .nilIface := by
        have hx := he.ev x
        rw [hnl] at hx
        generalize a.eval x = vx at *
        cases hx
        rfl
      have hyc : y = .const .nilIface := by
        cases y with
        | const v => cases v <;> first | rfl | cases hny
        | _ => cases hny
      subst hyc
      have hty := hC.ty t
      split at h
      · rename_i hT
        rw [hT] at hty
        obtain ⟨⟨ms, hu⟩, _⟩ := hty
        refine does_ok (v := .bool true) (w' := w) ?_ (Post.rd hr h .tt)
        have k1 : (Op.equalIn (9999 + 1) t .nilIface .nilIface).run P w = .ok true w := run_equalIn_nil2 _ hu
        have k2 : (Op.equal t .nilIface .nilIface).run P w = .ok true w := k1
        have k3 : binOp .eql t .nilIface .nilIface = (do Pure.pure (.bool (← Op.equal t .nilIface .nilIface)) : Sem Value) := rfl
        have k4 : eqGuard .eql t x (.const .nilIface) .nilIface .nilIface = Pure.pure () := eqGuard_nil_constR _ _ _ _
        simp only [execOp, hop, hvx, show a.eval (.const .nilIface) = .nilIface from rfl, Sem.run_bind, k4, k3, k2, Sem.run_pure, Result.andThen_ok]
      · rename_i hT
        rw [hT] at hty
        obtain ⟨⟨ms, hu⟩, _⟩ := hty
        refine does_ok (v := .bool false) (w' := w) ?_ (Post.rd hr h .ff)
        have k1 : (Op.equalIn (9999 + 1) t .nilIface .nilIface).run P w = .ok true w := run_equalIn_nil2 _ hu
        have k2 : (Op.equal t .nilIface .nilIface).run P w = .ok true w := k1
        have k3 : binOp .neq t .nilIface .nilIface = (do Pure.pure (.bool (!(← Op.equal t .nilIface .nilIface))) : Sem Value) := rfl
        have k4 : eqGuard .neq t x (.const .nilIface) .nilIface .nilIface = Pure.pure () := eqGuard_nil_constR _ _ _ _
        simp only [execOp, hop, hvx, show a.eval (.const .nilIface) = .nilIface from rfl, Sem.run_bind, k4, k3, k2, Sem.run_pure, Result.andThen_ok, Bool.not_true]
      · exact h.elim
  have h : vbo C t op (ev e x) (ev e y) kd := by
    generalize ev e x = dx at *
    cases dx <;> first | exact h | exact absurd rfl hnl
  unfold vbo at h
  by_cases hst : (∃ sz fs, C.ty t = .struct sz fs) ∨ ∃ n el es sz, C.ty t = .array n el es sz
  · rcases hst with ⟨sz, fs, hT⟩ | ⟨n, el, es, sz, hT⟩ <;> rw [hT] at h <;> exact sound_eq hC he hr hop h
  have h : (bif eqOKop op (C.ty t) (ev e x) (ev e y) then vbin op (ev e x) (ev e y) kd else False) := by
    cases hT : C.ty t with
    | struct sz fs => exact absurd (Or.inl ⟨sz, fs, hT⟩) hst
    | array n el es sz => exact absurd (Or.inr ⟨n, el, es, sz, hT⟩) hst
    | _ => simp only [hT] at h; exact h
  have hx := he.ev x
  have hy := he.ev y
  generalize ev e x = dx at *
  generalize ev e y = dy at *
  have key : ∀ (v : Value) (d : D), (do eqGuard op t x y (a.eval x) (a.eval y); binOp op t (a.eval x) (a.eval y) : Sem Value).run P w = .ok v w → R S w μ d v → kd d → Does P o a w (PostR S w μ H kd) := fun v d h1 h2 h3 => by
    refine does_ok (v := v) (w' := w) ?_ (Post.rd hr h3 h2)
    simp only [execOp, hop, Sem.run_bind] at h1 ⊢
    simp only [h1, Result.andThen_ok, Sem.run_pure]
  by_cases hne : op ≠ .eql ∧ op ≠ .neq
  · have h' : vbin op dx dy kd := by
      cases op <;> first | (exact absurd rfl hne.1) | (exact absurd rfl hne.2) | exact h
    obtain ⟨q, x1, q', y1, rfl, rfl, hq⟩ := vbin_ints h' hne
    generalize a.eval x = vx at *
    generalize a.eval y = vy at *
    cases hx
    cases hy
    have hg : eqGuard op t x y (.int q x1) (.int q' y1) = Pure.pure () := eqGuard_at_int _ _ _ _ _ _ _
    have hrun : ∃ d v, (binOp op t (.int q x1) (.int q' y1)).run P w = .ok v w ∧ R S w μ d v ∧ kd d := by
      rcases hq with (rfl | rfl) | rfl
      · exact run_shift.1 h'
      · exact run_shift.2 h'
      · exact run_intop h' hne
    obtain ⟨d, v, h1, h2, h3⟩ := hrun
    exact key v d (by simp only [hg, Sem.run_bind, Sem.run_pure, Result.andThen_ok, h1]) h2 h3
  · have hop2 : op = .eql ∨ op = .neq := by
      cases op <;> first | exact .inl rfl | exact .inr rfl | exact absurd ⟨by decide, by decide⟩ hne
    rcases hop2 with rfl | rfl
    · have h : (bif eqTy (C.ty t) dx dy then vbin _ dx dy kd else False) := h
      cases hq : eqTy (C.ty t) dx dy with
      | false => simp [hq] at h
      | true =>
        simp only [hq, cond_true, vbin] at h
        cases hd : deq dx dy with
        | none => simp [hd] at h
        | some b =>
          simp only [hd] at h
          exact key _ _ (run_deq hx hy hd (hC.ty t) hq).1 (.bool b) h
    · have h : (bif eqTy (C.ty t) dx dy then vbin _ dx dy kd else False) := h
      cases hq : eqTy (C.ty t) dx dy with
      | false => simp [hq] at h
      | true =>
        simp only [hq, cond_true, vbin] at h
        cases hd : deq dx dy with
        | none => simp [hd] at h
        | some b =>
          simp only [hd] at h
          exact key _ _ (run_deq hx hy hd (hC.ty t) hq).2 (.bool !b) h
theorem CR_replicate {z : Value} {n : Nat} (hz : ∀ v ∈ z.cells.toList, v.oneCell' = true) (h0 : n = 0 ∨ 0 < z.cells.size) : CR S w μ (List.replicate n .top) ((Array.range n).map (z.cells[· % z.cells.size]!)) := by
  refine ⟨by simp, fun i d v h1 _ => ?_, fun i v h => ?_⟩
  · simp only [List.getElem?_replicate] at h1
    split at h1
    · injection h1 with h1; subst h1; exact .top v
    · cases h1
  · simp only [Array.getElem?_map] at h
    by_cases hi : i < n
    · simp only [Array.getElem?_range, hi, if_true, Option.map_some, Option.some.injEq] at h
      have hlt : i % z.cells.size < z.cells.size := Nat.mod_lt _ (by omega)
      subst h
      rw [getElem!_pos z.cells _ hlt]
      exact hz _ (by simp)
    · simp [hi] at h
theorem evs_map {ps : Array (Nat × Operand)} : (evs e ps).map (·.1) = ((ps.map fun (i, x) => (i, a.eval x)).toList).map (·.1) := by simp [evs, Function.comp_def]
theorem evs_R {ps : Array (Nat × Operand)} (he : EnvR S w μ e a) (j : Nat) (p : Nat × D) (q : Nat × Value) (h2 : (evs e ps)[j]? = some p) (h3 : ((ps.map fun (i, x) => (i, a.eval x)).toList)[j]? = some q) : R S w μ p.2 q.2 := by
  simp only [evs, Array.toList_map, List.getElem?_map] at h2 h3
  cases hp : ps.toList[j]? with
  | none => simp [hp] at h2
  | some x =>
    simp only [hp, Option.map_some, Option.some.injEq] at h2 h3
    subst h2; subst h3
    exact he.ev x.2
theorem run_slice_litL {t el es eb len : Nat} {ps : Array (Nat × Operand)} {l : List (Nat × D)} {K : List D → Prop} (hT : tyOK P t (.slice el es eb))
    (hmap : l.map (·.1) = ((ps.map fun (i, x) => (i, a.eval x)).toList).map (·.1)) (hrel : ∀ (j : Nat) p q, l[j]? = some p → ((ps.map fun (i, x) => (i, a.eval x)).toList)[j]? = some q → R S w μ p.2 q.2)
    (hb : len * es ≤ 16777216) (h : vfill (fun i => some (i * es, es)) K (List.replicate (len * es) .top) l) :
    ∃ cs vs, (Instr.buildSlice t len (ps.map fun (i, x) => (i, a.eval x))).run P w = .ok (.slice (some ⟨w.heap.size, 0, none⟩) len len) (w.alloc (.cells vs el)) ∧ CR S w μ cs vs ∧ K cs := by
  obtain ⟨hu, _, hes, hpos, i, z, hi, hzv, hsz, _, hzc, hz1⟩ := hT
  have hC : CR S w μ (List.replicate (len * es) .top) ((Array.range (len * es)).map (z.cells[· % z.cells.size]!)) := CR_replicate hz1 (.inr (by omega))
  generalize (ps.map fun (i, x) => (i, a.eval x)) = L at *
  obtain ⟨cs', cur', g1, g2, g3⟩ := sound_fill _ _ _ _ hmap hrel hC h
  refine ⟨cs', cur', ?_, g2, g3⟩
  have hzr : (zeroValue el).run P w = .ok z w := by simp [zeroValue, typeInfo, hi, hzv]
  by_cases h0 : len * es = 0
  · simp only [h0, Array.range_zero', List.map_toArray, List.map_nil] at g1
    simp [Instr.buildSlice, run_underlying hu, run_sizeOf hes, h0, g1, newRow, Array.range_zero']
  · simp only [Instr.buildSlice, Sem.run_bind, run_underlying hu, Result.andThen_ok, run_sizeOf hes]
    rw [if_neg (by omega), if_neg h0]
    simp [hzr, g1, newRow]
theorem run_slice_lit {t el es eb len : Nat} {ps : Array (Nat × Operand)} {K : List D → Prop} (hT : tyOK P t (.slice el es eb))
    (he : EnvR S w μ e a) (hb : len * es ≤ 16777216) (h : vfill (fun i => some (i * es, es)) K (List.replicate (len * es) .top) (evs e ps)) :
    ∃ cs vs, (Instr.buildSlice t len (ps.map fun (i, x) => (i, a.eval x))).run P w = .ok (.slice (some ⟨w.heap.size, 0, none⟩) len len) (w.alloc (.cells vs el)) ∧ CR S w μ cs vs ∧ K cs :=
  run_slice_litL hT evs_map (evs_R he) hb h
def deadV : Value → Value
  | .slice _ m _ => .slice none (m + 1) 0
  | v => v
def deadM (ids : List Nat) (μ : Mu) : Mu := fun o => if o ∈ ids then (μ o).map deadV else μ o
def deadS (S : Nat → Prop) (μ : Mu) (ids : List Nat) : Nat → Prop := fun b => S b ∨ ∃ o v, o ∈ ids ∧ μ o = some v ∧ blk v = some b
theorem deadH_len (H : HL) : ∀ ids, (deadH H ids).length = H.length
  | [] => rfl
  | o :: r => by simp [deadH, deadH_len H r]
theorem deadH_get {H : HL} {o : Nat} : ∀ {ids}, (∀ i, i ∈ ids → i < H.length) → hget (deadH H ids) o = if o ∈ ids then some .dead else hget H o
  | [], _ => by simp [deadH]
  | i :: r, h => by
    rw [deadH, hget_set _ _ _ (by rw [deadH_len]; exact h i (by simp))]
    unfold updH
    by_cases e : o = i
    · rw [if_pos e, if_pos (by simp [e])]
    · rw [if_neg e, deadH_get fun j hj => h j (by simp [hj])]
      simp [e]
theorem buf_form0 (hr : RelL S w μ H) {o e s n : Nat} {g : Nat → Nat → D} (ho : hget H o = some (.buf e s n g)) : ∃ A m c, μ o = some (.slice A m c) := by
  obtain ⟨mv, h1, xs, h2, _⟩ := hr.1.obs o _ ho
  rcases h2.2 with ⟨rfl, _⟩ | ⟨b, cap, cur, fz, rfl, _⟩ <;> exact ⟨_, _, _, h1⟩
theorem own_view0 (hr : Rel S w μ (hget H)) {oid e s m : Nat} {g : Nat → Nat → D} {v : Value} {S' : Nat → Prop} (hS : ∀ b, S b → S' b) (hS' : ∀ v b, μ oid = some v → blk v = some b → S' b) (ho : hget H oid = some (.buf e s m g)) (hd : R S w μ (.own oid m) v) : R S' w Mu0 (.rsl s m g) v := by
  cases hd with
  | own _ _ A m' c _ hm hn h1c hv =>
    obtain ⟨mv, h1, xs, hown, hx⟩ := hr.obs oid _ ho
    rw [hm] at h1
    injection h1 with h1
    have hmm : m = m' := by
      rcases hown.2 with ⟨e1, e2⟩ | ⟨b, cap, cur, fz, e1, _⟩
      · rw [← h1] at e1; injection e1 with _ e1 _; omega
      · rw [← h1] at e1; injection e1 with _ e1 _; exact e1.symm
    obtain rfl := hv hmm
    subst hmm
    refine .rsl s m g A c (fun i j => xs.getD (i * s + j) undef) ?_ (fun h0 => ?_) (fun i j hi hj => ?_)
    · rcases hown.2 with ⟨e1, e2⟩ | ⟨b, cap, cur, fz, e1, _, _, _, hc, _⟩
      · omega
      · rw [← h1] at e1; injection e1 with _ _ e1; omega
    · rcases hown.2 with ⟨e1, e2⟩ | ⟨b, cap, cur, fz, e1, _⟩
      · omega
      · have e2 := e1
        rw [← h1] at e1
        injection e1 with e1 _ _
        subst e1
        refine ⟨b, 0, rfl, hS' _ _ hm rfl, fun i j hi hj => ?_⟩
        obtain ⟨u, hu, hu1, _⟩ := hx i j hi hj
        rw [Nat.zero_add]
        exact ⟨by rw [own_cell hown e2 _ _ hu]; simp [hu], by simpa [hu] using hu1⟩
    · obtain ⟨u, hu, _, hur⟩ := hx i j hi hj
      simp only [List.getD_eq_getElem?_getD, hu, Option.getD_some]
      exact hur.keep hS (fun _ _ => rfl) (.refl _)
theorem dead_rel (hr : RelL S w μ H) {ids : List Nat} (hb : ∀ o, o ∈ ids → ∃ e s n g, hget H o = some (.buf e s n g)) :
    RelL (deadS S μ ids) w (deadM ids μ) (deadH H ids) ∧ Tr S w μ (hget H) (deadS S μ ids) w (deadM ids μ) (hget (deadH H ids)) := by
  have hlt : ∀ o, o ∈ ids → o < H.length := fun o ho => by
    obtain ⟨_, _, _, _, h⟩ := hb o ho
    exact lt_of_hget h
  have hg : ∀ o, hget (deadH H ids) o = if o ∈ ids then some .dead else hget H o := fun o => deadH_get hlt
  have hin : ∀ o, o ∈ ids → ∃ A m c, μ o = some (.slice A m c) ∧ deadM ids μ o = some (.slice none (m + 1) 0) := fun o ho => by
    obtain ⟨e, s, n, g, h⟩ := hb o ho
    obtain ⟨A, m, c, hm⟩ := buf_form0 hr h
    exact ⟨A, m, c, hm, by unfold deadM; rw [if_pos ho, hm]; rfl⟩
  have hout : ∀ o, o ∉ ids → deadM ids μ o = μ o := fun o ho => by unfold deadM; rw [if_neg ho]
  have hle : MuLe μ (deadM ids μ) := fun o v hv => by
    by_cases h : o ∈ ids
    · obtain ⟨A, m, c, hm, hd⟩ := hin o h
      rw [hm] at hv
      injection hv with hv
      subst hv
      exact ⟨_, hd, .inr (.inl ⟨A, m, c, none, m + 1, 0, rfl, rfl, Nat.lt_succ_self m⟩)⟩
    · exact ⟨v, by rw [hout o h]; exact hv, .refl v⟩
  have hS : ∀ b, S b → deadS S μ ids b := fun b hb => .inl hb
  -- what is not dead is as it was
  have live : ∀ o ob v, hget (deadH H ids) o = some ob → deadM ids μ o = some v → (∃ b, blk v = some b) → o ∉ ids ∧ hget H o = some ob ∧ μ o = some v := fun o ob v ho hv ⟨b, hb⟩ => by
    by_cases h : o ∈ ids
    · obtain ⟨A, m, c, _, hd⟩ := hin o h
      rw [hd] at hv
      injection hv with hv
      subst hv
      cases hb
    · rw [hg o, if_neg h] at ho
      rw [hout o h] at hv
      exact ⟨h, ho, hv⟩
  refine ⟨⟨⟨fun o ob ho => ?_, fun o o' ob ob' v v' b h1 h2 hne m1 m2 hb1 => ?_, fun b hb1 => ⟨?_, fun o ob v ho hv hbv => ?_⟩⟩, fun o ho => ?_⟩,
    ⟨rfl, rfl, rfl, Nat.le_refl _, fun _ _ _ => rfl, hS, fun b hb1 => ?_, hle, fun o ob v b ho hv hbv => ?_, fun o v h1 h2 => ?_, fun o ho => ?_⟩⟩
  · rw [hg o] at ho
    by_cases h : o ∈ ids
    · rw [if_pos h] at ho
      injection ho with ho
      subst ho
      obtain ⟨A, m, c, _, hd⟩ := hin o h
      exact ⟨_, hd, m + 1, 0, rfl⟩
    · rw [if_neg h] at ho
      obtain ⟨mv, m1, m2⟩ := hr.1.obs o ob ho
      exact ⟨mv, by rw [hout o h]; exact m1, m2.keep hS (fun _ _ => rfl) hle fun _ _ => rfl⟩
  · intro hb2
    obtain ⟨_, y1, n1⟩ := live o ob v h1 m1 ⟨b, hb1⟩
    obtain ⟨_, y2, n2⟩ := live o' ob' v' h2 m2 ⟨b, hb2⟩
    exact hr.1.sep o o' ob ob' v v' b y1 y2 hne n1 n2 hb1 hb2
  · rcases hb1 with h | ⟨o, v, h, hv, hbv⟩
    · exact (hr.1.stat b h).1
    · obtain ⟨e, s, n, g, ho⟩ := hb o h
      obtain ⟨mv, m1, m2⟩ := hr.1.obs o _ ho
      rw [hv] at m1; injection m1 with m1; subst m1
      exact m2.blk_lt hbv
  · obtain ⟨hno, y1, n1⟩ := live o ob v ho hv ⟨b, hbv⟩
    rcases hb1 with h | ⟨o3, v3, h, hv3, hb3⟩
    · exact (hr.1.stat b h).2 o ob v y1 n1 hbv
    · obtain ⟨e, s, n, g, ho3⟩ := hb o3 h
      exact hr.1.sep o o3 ob _ v v3 b y1 ho3 (fun e => hno (e ▸ h)) n1 hv3 hbv hb3
  · rw [deadH_len] at ho
    have h1 := hr.2 o ho
    unfold deadM
    split
    · rw [h1]; rfl
    · exact h1
  · rcases hb1 with h | ⟨o, v, h, hv, hbv⟩
    · exact .inl h
    · obtain ⟨e, s, n, g, ho⟩ := hb o h
      exact .inr (.inr ⟨o, _, v, ho, hv, hbv⟩)
  · obtain ⟨_, y1, n1⟩ := live o ob v ho hv ⟨b, hbv⟩
    exact .inr ⟨o, ob, v, y1, n1, hbv⟩
  · have hno : o ∉ ids := fun h => by
      obtain ⟨e, s, n, g, ho⟩ := hb o h
      rw [h1] at ho; cases ho
    exact ⟨by rw [hg o, if_neg hno]; exact h1, by rw [hout o hno]; exact h2⟩
  · by_cases h : o ∈ ids
    · exact .inl (by rw [hg o, if_pos h]; exact fun e => by cases e)
    · rw [hout o h] at ho
      by_cases hx : hget H o = none
      · exact .inr ⟨ho, hx⟩
      · exact .inl (by rw [hg o, if_neg h]; exact hx)
def NestD (H : HL) (ids : List Nat) (d d' : D) : Prop := d' = d ∨ ∃ o n e s g, d = .own o n ∧ o ∈ ids ∧ hget H o = some (.buf e s n g) ∧ d' = .rsl s n g
theorem NestD.mono {ids ids' : List Nat} {d d' : D} (h : NestD H ids d d') (hs : ∀ o, o ∈ ids → o ∈ ids') : NestD H ids' d d' := by
  rcases h with h | ⟨o, n, e, s, g, h1, h2, h3⟩
  · exact .inl h
  · exact .inr ⟨o, n, e, s, g, h1, hs o h2, h3⟩
theorem nestD_spec {d d' : D} {l : List Nat} (h : nestD H d = some (l, d')) : NestD H l d d' ∧ ∀ o, o ∈ l → ∃ e s n g, hget H o = some (.buf e s n g) := by
  unfold nestD at h
  split at h
  · rename_i o n
    split at h
    · rename_i e s m g ho
      cases hq : Nat.beq n m with
      | false => rw [hq] at h; cases h
      | true =>
        obtain rfl := Nat.eq_of_beq_eq_true hq
        rw [hq] at h
        simp only [cond_true, Option.some.injEq, Prod.mk.injEq] at h
        obtain ⟨rfl, rfl⟩ := h
        refine ⟨.inr ⟨o, n, e, s, g, rfl, by simp, ho, rfl⟩, fun i hi => ?_⟩
        obtain rfl : i = o := by simpa using hi
        exact ⟨_, _, _, _, ho⟩
    · cases h
  · simp only [Option.some.injEq, Prod.mk.injEq] at h
    obtain ⟨rfl, rfl⟩ := h
    exact ⟨.inl rfl, fun o ho => by cases ho⟩
theorem nestP_spec : ∀ {ps ps' : List (Nat × D)} {ids : List Nat}, nestP H ps = some (ids, ps') → ps'.map (·.1) = ps.map (·.1) ∧ (∀ (j : Nat) p p', ps[j]? = some p → ps'[j]? = some p' → NestD H ids p.2 p'.2) ∧ ∀ o, o ∈ ids → ∃ e s n g, hget H o = some (.buf e s n g)
  | [], ps', ids, h => by
    simp only [nestP, Option.some.injEq, Prod.mk.injEq] at h
    obtain ⟨rfl, rfl⟩ := h
    exact ⟨rfl, fun j p p' h => by simp at h, fun o ho => by cases ho⟩
  | p :: r, ps', ids, h => by
    unfold nestP at h
    split at h
    · rename_i l d l' r' h1 h2
      simp only [Option.some.injEq, Prod.mk.injEq] at h
      obtain ⟨rfl, rfl⟩ := h
      obtain ⟨a1, a2⟩ := nestD_spec h1
      obtain ⟨b1, b2, b3⟩ := nestP_spec h2
      refine ⟨by simp [b1], fun j q q' hq hq' => ?_, fun o ho => (List.mem_append.1 ho).elim (a2 o) (b3 o)⟩
      cases j with
      | zero =>
        simp only [List.getElem?_cons_zero, Option.some.injEq] at hq hq'
        subst hq
        subst hq'
        exact a1.mono fun o ho => List.mem_append_left _ ho
      | succ j => exact (b2 j q q' (by simpa using hq) (by simpa using hq')).mono fun o ho => List.mem_append_right _ ho
    · cases h
theorem sound_nest {t el es eb len : Nat} {ps : Array (Nat × Operand)} (hT : tyOK P t (.slice el es eb)) (he : EnvR S w μ e a) (hr : RelL S w μ H) (hno : μ nid = none) (hle : nid ≤ H.length) (hop : o.op = .buildSlice t len ps)
    (hq1 : len * es ≤ 16777216) (hq2 : len ≤ 16777216) (h : vnest nid el es len H (evs e ps) k) : Does P o a w (Post S w μ H k) := by
  unfold vnest at h
  split at h
  case h_2 => exact h.elim
  rename_i ids ps' hn
  rw [fzp_iff] at h
  obtain ⟨n1, n2, n3⟩ := nestP_spec hn
  obtain ⟨d1, d2⟩ := dead_rel hr n3
  have hd : ∀ d d' v, NestD H ids d d' → R S w μ d v → R (deadS S μ ids) w (deadM ids μ) d' v := fun d d' v hx hR => by
    rcases hx with rfl | ⟨o, n, e, s, g, rfl, hi, ho, rfl⟩
    · exact hR.keep d2.sub (fun _ _ => rfl) d2.mu
    · exact (own_view0 hr.1 d2.sub (fun v b hv hb => .inr ⟨o, v, hi, hv, hb⟩) ho hR).of0
  obtain ⟨cs, vs, g1, g2, g3⟩ := run_slice_litL (S := deadS S μ ids) (w := w) (μ := deadM ids μ) hT (n1.trans (evs_map (e := e))) (fun j p' q h2 h3 => by
    have hj : j < (evs e ps).length := by
      have := congrArg List.length n1
      simp only [List.length_map] at this
      rw [← this]
      exact (List.getElem?_eq_some_iff.1 h2).1
    exact hd _ _ _ (n2 j _ p' (List.getElem?_eq_getElem hj) h2) (evs_R he j _ q (List.getElem?_eq_getElem hj) h3)) hq1 h
  rw [fzl_iff] at g3
  cases hq : (cs.all okb && Nat.beq cs.length (len * es)) with
  | false => simp [hq] at g3
  | true =>
    simp only [hq, cond_true] at g3
    simp only [Bool.and_eq_true] at hq
    have hno' : deadM ids μ nid = none := by
      unfold deadM
      rw [hno]
      split <;> rfl
    obtain ⟨r1, r2, r3⟩ := new_buf d1 hno' (by rw [deadH_len]; exact hle) vs (e := el) (Nat.eq_of_beq_eq_true hq.2) (by unfold maxLen; omega) g2 (fun d hd => by
      have := List.all_eq_true.1 hq.1 d hd
      simp only [okb, Bool.or_eq_true] at this
      rcases this with h1 | h1
      · exact .inl h1
      · cases d <;> first | exact .inr rfl | cases h1)
    refine does_ok (v := .slice (some ⟨w.heap.size, 0, none⟩) len len) (w' := w.alloc (.cells vs el)) ?_ ⟨_, _, _, _, g3, r3, r1, d2.trans r2⟩
    simp only [execOp, hop, Sem.run_bind, g1, Result.andThen_ok, Sem.run_pure]
theorem sound_builtin {b : Builtin} {xs : Array Operand} {ts : Array Nat} (hC : COK P C) (he : EnvR S w μ e a) (hr : RelL S w μ H) (hop : o.op = .call { callee := .builtin b, args := xs, argTypes := ts })
    (h : vbuiltin C b ts.toList o.type (xs.toList.map (ev e)) H kd) : Does P o a w (PostR S w μ H kd) := by
  have key : ∀ (v : Value) (d : D), (builtin b ts o.type (xs.map fun | .const _ => true | _ => false) (xs.map a.eval)).run P w = .ok (.value v) w → R S w μ d v → kd d → Does P o a w (PostR S w μ H kd) := fun v d h1 h2 h3 => by
    refine does_ok (v := v) (w' := w) ?_ (Post.rd hr h3 h2)
    simp only [execOp, hop, Sem.run_bind, resolve, Sem.run_pure, Result.andThen_ok, invoke]
    exact h1
  obtain ⟨xs⟩ := xs
  obtain ⟨ts⟩ := ts
  have m1 : ∀ {d : D}, xs.map (ev e) = [d] → ∃ x, xs = [x] ∧ ev e x = d := fun {d} h => by
    match xs, h with
    | [x], h => exact ⟨x, rfl, by simpa using h⟩
  have m2 : ∀ {d d' : D}, xs.map (ev e) = [d, d'] → ∃ x y, xs = [x, y] ∧ ev e x = d ∧ ev e y = d' := fun {d d'} h => by
    match xs, h with
    | [x, y], h => exact ⟨x, y, rfl, by simpa using h⟩
  have m3 : ∀ {d d' d2 : D}, xs.map (ev e) = [d, d', d2] → ∃ x y x2, xs = [x, y, x2] ∧ ev e x = d ∧ ev e y = d' ∧ ev e x2 = d2 := fun {d d' d2} h => by
    match xs, h with
    | [x, y, x2], h => exact ⟨x, y, x2, rfl, by simpa using h⟩
  have m4 : ∀ {d d' d2 d3 : D}, xs.map (ev e) = [d, d', d2, d3] → ∃ x y x2 x3, xs = [x, y, x2, x3] ∧ ev e x = d ∧ ev e y = d' ∧ ev e x2 = d2 ∧ ev e x3 = d3 := fun {d d' d2 d3} h => by
    match xs, h with
    | [x, y, x2, x3], h => exact ⟨x, y, x2, x3, rfl, by simpa using h⟩
  unfold vbuiltin at h
  split at h
  · rename_i d0 heq
    obtain ⟨x, rfl, hd⟩ := m1 heq
    have hx := he.ev x
    rw [hd] at hx
    split at h
    · rename_i t ht
      simp only at ht
      subst ht
      have hty := hC.ty t
      generalize hvx : a.eval x = vx at *
      cases hT : C.ty t <;> rw [hT] at h hty <;> simp only at h
      case slice el es eb =>
        cases d0 <;> simp only at h
        case rsl s n g =>
          cases hx
          exact key _ _ (by simp [builtin, hvx, Builtin.len_, run_underlying hty.1, goInt]) (.int _ _) h
        case own oid n =>
          cases ho : hget H oid with
          | none => simp [ho] at h
          | some ob =>
            cases ob with
            | row _ => simp [ho] at h
            | mp _ => simp [ho] at h
            | lp _ _ => simp [ho] at h
            | dead => simp [ho] at h
            | buf el' s m g =>
              simp only [ho] at h
              obtain ⟨hnm, h⟩ := h
              obtain ⟨A, c, xs, hv, _⟩ := own_form hr ho hx hnm
              subst hnm
              subst hv
              exact key _ _ (by simp [builtin, hvx, Builtin.len_, run_underlying hty.1, goInt]) (.int _ _) h
        case nilS =>
          cases hx
          exact key _ _ (by simp [builtin, hvx, Builtin.len_, run_underlying hty.1, goInt]) (.int _ _) h
        case osl oid off n s =>
          cases hx
          exact key _ _ (by simp [builtin, hvx, Builtin.len_, run_underlying hty.1, goInt]) (.int _ _) h
      case str =>
        cases d0 <;> simp only at h
        cases hx
        exact key _ _ (by simp [builtin, hvx, Builtin.len_, run_underlying hty.1, goInt]) (.int _ _) h
      case map ks ek kt et =>
        obtain ⟨kt, et, o', M, r, es, clock, g1, g2, g3, g4, rfl, g6, _, g8, g9, g10, g11, g12, g13, h⟩ := vmap_sound hty hr hx h
        refine key _ _ ?_ (.int _ _) h
        simp [builtin, hvx, Builtin.len_, run_underlying g1, goInt, MapKept.run_getObj_map g9, g11]
    · exact h.elim
  · rename_i q n q' n' heq
    obtain ⟨x, y, rfl, hd, hd'⟩ := m2 heq
    have hx := he.ev x
    have hy := he.ev y
    rw [hd] at hx
    rw [hd'] at hy
    cases hq : keq q q' with
    | false => simp [hq] at h
    | true =>
      simp only [hq, cond_true] at h
      obtain rfl := keq_eq hq
      generalize hvx : a.eval x = vx at *
      generalize hvy : a.eval y = vy at *
      cases hx
      cases hy
      refine key _ _ ?_ (.int _ _) h
      have e : (if n' > n then n' else n) = max n n' := by rw [Int.max_def]; split <;> split <;> omega
      have e' : (if n < n' then n' else n) = max n n' := e
      simp [builtin, hvx, hvy, Builtin.max_, Builtin.max2, e']
  · rename_i q n q' n' heq
    obtain ⟨x, y, rfl, hd, hd'⟩ := m2 heq
    have hx := he.ev x
    have hy := he.ev y
    rw [hd] at hx
    rw [hd'] at hy
    cases hq : keq q q' with
    | false => simp [hq] at h
    | true =>
      simp only [hq, cond_true] at h
      obtain rfl := keq_eq hq
      generalize hvx : a.eval x = vx at *
      generalize hvy : a.eval y = vy at *
      cases hx
      cases hy
      refine key _ _ ?_ (.int _ _) h
      have e : (if n' < n then n' else n) = min n n' := by rw [Int.min_def]; split <;> split <;> omega
      simp [builtin, hvx, hvy, Builtin.min_, Builtin.min2, e]
  · rename_i q n q' n' q2 n2 heq
    obtain ⟨x, y, x2, rfl, hd, hd', hd2⟩ := m3 heq
    have hx := he.ev x
    have hy := he.ev y
    have hx2 := he.ev x2
    rw [hd] at hx
    rw [hd'] at hy
    rw [hd2] at hx2
    cases hq : (keq q q' && keq q q2) with
    | false => simp [hq] at h
    | true =>
      simp only [hq, cond_true] at h
      simp only [Bool.and_eq_true] at hq
      obtain rfl := keq_eq hq.1
      obtain rfl := keq_eq hq.2
      generalize hvx : a.eval x = vx at *
      generalize hvy : a.eval y = vy at *
      generalize hvx2 : a.eval x2 = vx2 at *
      cases hx
      cases hy
      cases hx2
      refine key _ _ ?_ (.int _ _) h
      have e : ∀ n n' : Int, (if n < n' then n' else n) = max n n' := fun n n' => by rw [Int.max_def]; split <;> split <;> omega
      simp [builtin, hvx, hvy, hvx2, Builtin.max_, Builtin.max2, e]
  · rename_i q n q' n' q2 n2 q3 n3 heq
    obtain ⟨x, y, x2, x3, rfl, hd, hd', hd2, hd3⟩ := m4 heq
    have hx := he.ev x
    have hy := he.ev y
    have hx2 := he.ev x2
    have hx3 := he.ev x3
    rw [hd] at hx
    rw [hd'] at hy
    rw [hd2] at hx2
    rw [hd3] at hx3
    cases hq : ((keq q q' && keq q q2) && keq q q3) with
    | false => simp [hq] at h
    | true =>
      simp only [hq, cond_true] at h
      simp only [Bool.and_eq_true] at hq
      obtain rfl := keq_eq hq.1.1
      obtain rfl := keq_eq hq.1.2
      obtain rfl := keq_eq hq.2
      generalize hvx : a.eval x = vx at *
      generalize hvy : a.eval y = vy at *
      generalize hvx2 : a.eval x2 = vx2 at *
      generalize hvx3 : a.eval x3 = vx3 at *
      cases hx
      cases hy
      cases hx2
      cases hx3
      refine key _ _ ?_ (.int _ _) h
      have e : ∀ n n' : Int, (if n' < n then n' else n) = min n n' := fun n n' => by rw [Int.min_def]; split <;> split <;> omega
      simp [builtin, hvx, hvy, hvx2, hvx3, Builtin.min_, Builtin.min2, e]
  · rename_i q n q' n' q2 n2 q3 n3 heq
    obtain ⟨x, y, x2, x3, rfl, hd, hd', hd2, hd3⟩ := m4 heq
    have hx := he.ev x
    have hy := he.ev y
    have hx2 := he.ev x2
    have hx3 := he.ev x3
    rw [hd] at hx
    rw [hd'] at hy
    rw [hd2] at hx2
    rw [hd3] at hx3
    cases hq : ((keq q q' && keq q q2) && keq q q3) with
    | false => simp [hq] at h
    | true =>
      simp only [hq, cond_true] at h
      simp only [Bool.and_eq_true] at hq
      obtain rfl := keq_eq hq.1.1
      obtain rfl := keq_eq hq.1.2
      obtain rfl := keq_eq hq.2
      generalize hvx : a.eval x = vx at *
      generalize hvy : a.eval y = vy at *
      generalize hvx2 : a.eval x2 = vx2 at *
      generalize hvx3 : a.eval x3 = vx3 at *
      cases hx
      cases hy
      cases hx2
      cases hx3
      refine key _ _ ?_ (.int _ _) h
      have e : ∀ n n' : Int, (if n < n' then n' else n) = max n n' := fun n n' => by rw [Int.max_def]; split <;> split <;> omega
      simp [builtin, hvx, hvy, hvx2, hvx3, Builtin.max_, Builtin.max2, e]
  · exact h.elim
theorem sound_idx {t : Nat} {x i : Operand} (hC : COK P C) (he : EnvR S w μ e a) (hr : RelL S w μ H) (hop : o.op = .indexAddr t x i) (h : vidx (C.ty t) (ev e x) (ev e i) H kd) : Does P o a w (PostR S w μ H kd) := by
  have hx := he.ev x
  have hi := he.ev i
  generalize ev e x = dx at *
  generalize ev e i = di at *
  have hty := hC.ty t
  cases di <;> simp only [vidx] at h
  rename_i q j
  generalize hvx : a.eval x = vx at *
  generalize hvi : a.eval i = vi at *
  cases hi
  cases hT : C.ty t <;> rw [hT] at h hty <;> simp only at h
  case slice el es eb =>
    obtain ⟨hu, _, hes, hpos, _⟩ := hty
    cases dx <;> simp only at h
    case rsl s n g =>
      obtain ⟨⟨h0, hn⟩, h⟩ := h
      cases hs : Nat.beq s es with
      | false => simp [hs] at h
      | true =>
        simp only [hs, cond_true] at h
        obtain rfl := Nat.eq_of_beq_eq_true hs
        cases hx with
        | rsl _ _ _ A c val hnc hcell hR =>
          have hlt : j.toNat < n := by omega
          obtain ⟨b, off, rfl, hb, hc⟩ := hcell (by omega)
          refine does_ok (v := .pointer (some ⟨b, off + j.toNat * s, none⟩)) (w' := w) ?_ (Post.rd hr h ?_)
          · simp [execOp, hop, hvx, hvi, Instr.indexAt, asIntOf, run_underlying hu, h0, hn, run_sizeOf hes, Addr.add_lit]
          · exact .eptr _ _ b _ (val j.toNat) hb (fun x hx => by rw [Nat.add_assoc]; exact hc _ _ hlt hx) (fun x hx => hR _ _ hlt hx)
    case own oid n =>
      cases ho : hget H oid with
      | none => simp [ho] at h
      | some ob =>
        cases ob with
        | row _ => simp [ho] at h
        | mp _ => simp [ho] at h
        | lp _ _ => simp [ho] at h
        | dead => simp [ho] at h
        | buf el' s m g =>
          simp only [ho] at h
          obtain ⟨⟨hnm, h0, hn⟩, h⟩ := h
          cases hs : Nat.beq s es with
          | false => simp [hs] at h
          | true =>
            simp only [hs, cond_true] at h
            obtain rfl := Nat.eq_of_beq_eq_true hs
            obtain ⟨A, c, xs, hv, hm, hown, _, hA⟩ := own_form hr ho hx hnm
            obtain ⟨b, rfl⟩ := hA (by omega)
            subst hv
            refine does_ok (v := .pointer (some ⟨b, j.toNat * s + 0, none⟩)) (w' := w) ?_ (Post.rd hr h ?_)
            · have hn' : j < (m : Int) := by omega
              simp [execOp, hop, hvx, hvi, Instr.indexAt, asIntOf, run_underlying hu, h0, hn', run_sizeOf hes, Addr.add_lit]
            · exact .optr oid n s j.toNat 0 _ m c b hm (by omega) (fun _ => rfl)
    case osl oid off n s =>
      obtain ⟨⟨h0, hn⟩, h⟩ := h
      cases hs : Nat.beq s es with
      | false => simp [hs] at h
      | true =>
        simp only [hs, cond_true] at h
        obtain rfl := Nat.eq_of_beq_eq_true hs
        cases hx with
        | osl _ _ _ _ b c hm hnc =>
          refine does_ok (v := .pointer (some ⟨b, off + j.toNat * s, none⟩)) (w' := w) ?_ (Post.rd hr h (.ptr _ _ b hm))
          simp [execOp, hop, hvx, hvi, Instr.indexAt, asIntOf, run_underlying hu, h0, hn, run_sizeOf hes, Addr.add_lit]
  case array n el es sz =>
    obtain ⟨hu, _, hes⟩ := hty
    cases dx <;> simp only at h
    case eptr m g =>
      obtain ⟨⟨h0, hn⟩, h⟩ := h
      cases hs : Nat.ble (n * es) m with
      | false => simp [hs] at h
      | true =>
        simp only [hs, cond_true] at h
        have hle := Nat.le_of_ble_eq_true hs
        have hin : j.toNat * es + es ≤ n * es := by
          have := Nat.mul_le_mul_right es (show j.toNat + 1 ≤ n by omega)
          rwa [Nat.add_mul, Nat.one_mul] at this
        cases hx with
        | eptr _ _ b off val hb hc hR =>
          refine does_ok (v := .pointer (some ⟨b, off + j.toNat * es, none⟩)) (w' := w) ?_ (Post.rd hr h ?_)
          · simp [execOp, hop, hvx, hvi, Instr.indexAt, Instr.sureAddr, asIntOf, run_underlying hu, h0, hn, run_sizeOf hes, Addr.add_lit]
          · exact .eptr _ _ b _ (fun x => val (j.toNat * es + x)) hb (fun x hx => by rw [Nat.add_assoc]; exact hc _ (by omega)) (fun x hx => hR _ (by omega))
    case ptr oid off =>
      obtain ⟨⟨h0, hn⟩, h⟩ := h
      cases hx with
      | ptr _ _ b hm =>
        refine does_ok (v := .pointer (some ⟨b, off + j.toNat * es, none⟩)) (w' := w) ?_ (Post.rd hr h (.ptr _ _ b hm))
        simp [execOp, hop, hvx, hvi, Instr.indexAt, Instr.sureAddr, asIntOf, run_underlying hu, h0, hn, run_sizeOf hes, Addr.add_lit]
    case optr oid m s q l =>
      obtain ⟨⟨h0, hn⟩, h⟩ := h
      cases hx with
      | optr _ _ _ _ _ A m' c b hm h1 h2 =>
        refine does_ok (v := .pointer (some ⟨b, q * s + (l + j.toNat * es), none⟩)) (w' := w) ?_ (Post.rd hr h (.optr _ _ _ _ _ A m' c b hm h1 h2))
        simp [execOp, hop, hvx, hvi, Instr.indexAt, Instr.sureAddr, asIntOf, run_underlying hu, h0, hn, run_sizeOf hes, Addr.add_lit, Nat.add_assoc]
theorem sound_index {t : Nat} {x i : Operand} (hC : COK P C) (he : EnvR S w μ e a) (hr : RelL S w μ H) (hop : o.op = .index t x i) (h : vindex C (C.ty t) (ev e x) (ev e i) kd) : Does P o a w (PostR S w μ H kd) := by
  have hx := he.ev x
  have hi := he.ev i
  generalize ev e x = dx at *
  generalize ev e i = di at *
  have hty := hC.ty t
  cases di <;> simp only [vindex] at h
  rename_i q j
  generalize hvx : a.eval x = vx at *
  generalize hvi : a.eval i = vi at *
  cases hi
  cases hT : C.ty t <;> rw [hT] at h hty <;> simp only at h
  case str =>
    cases dx <;> simp only at h
    rename_i s
    obtain ⟨⟨h0, hn⟩, h⟩ := h
    cases hx
    have hlt : j.toNat < s.size := by omega
    refine does_ok (v := .int .u8 (s[j.toNat]).toNat) (w' := w) ?_ (Post.rd hr h ?_)
    · simp [execOp, hop, hvx, hvi, Instr.index, asIntOf, run_underlying hty.1, h0, getElem?_pos s j.toNat hlt]
    · have : byteAt s j.toNat = (s[j.toNat]).toNat := by simp [byteAt, getElem?_pos s j.toNat hlt]
      rw [this]
      exact .int _ _
  case array n el es sz =>
    obtain ⟨hu, _, hes⟩ := hty
    have htye := hC.ty el
    cases dx <;> first | exact h.elim | skip
    rename_i cs
    split at h
    · rename_i hq1 hq2
      injection hq1 with hq1
      subst hq1
      rw [hq2] at htye
      cases hb : (Nat.beq es 1 && Nat.ble n cs.length && cs.all isI64) with
      | false => simp [hb] at h
      | true =>
        simp only [hb, cond_true] at h
        simp only [Bool.and_eq_true] at hb
        have he1 := Nat.eq_of_beq_eq_true hb.1.1
        have hle := Nat.le_of_ble_eq_true hb.1.2
        obtain ⟨⟨h0, hn⟩, h⟩ := h
        cases hx with
        | agg _ vs hl hR =>
          have hlt : j.toNat < cs.length := by omega
          have hlt' : j.toNat < vs.size := by omega
          have hd := hR j.toNat cs[j.toNat] vs[j.toNat] (by simp [hlt]) (by simp [hlt'])
          have hk := List.all_eq_true.1 hb.2 _ (List.getElem_mem hlt)
          refine does_ok (v := vs[j.toNat]) (w' := w) ?_ (Post.rd hr h ?_)
          · subst he1
            have hag := run_isAgg_plain (P := P) htye.1 rfl w
            simp [execOp, hop, hvx, hvi, Instr.index, asIntOf, run_underlying hu, h0, hn, run_sizeOf hes, part, hag, hlt']
          · have e1 : (cs.map numOf).getD j.toNat 0 = numOf cs[j.toNat] := by simp [hlt]
            rw [e1]
            generalize cs[j.toNat] = dd at *
            cases dd <;> simp only [isI64, Bool.false_eq_true] at hk
            rename_i q n
            cases q <;> simp only [isI64, Bool.false_eq_true] at hk
            exact hd
    · rename_i hq1 hq2
      injection hq1 with hq1
      subst hq1
      rw [hq2] at htye
      cases hb : (Nat.beq es 1 && Nat.ble n cs.length && cs.all isB) with
      | false => simp [hb] at h
      | true =>
        simp only [hb, cond_true] at h
        simp only [Bool.and_eq_true] at hb
        have he1 := Nat.eq_of_beq_eq_true hb.1.1
        have hle := Nat.le_of_ble_eq_true hb.1.2
        obtain ⟨⟨h0, hn⟩, h⟩ := h
        cases hx with
        | agg _ vs hl hR =>
          have hlt : j.toNat < cs.length := by omega
          have hlt' : j.toNat < vs.size := by omega
          have hd := hR j.toNat cs[j.toNat] vs[j.toNat] (by simp [hlt]) (by simp [hlt'])
          have hk := List.all_eq_true.1 hb.2 _ (List.getElem_mem hlt)
          refine does_ok (v := vs[j.toNat]) (w' := w) ?_ (Post.rd hr h ?_)
          · subst he1
            have hag := run_isAgg_plain (P := P) htye.1 rfl w
            simp [execOp, hop, hvx, hvi, Instr.index, asIntOf, run_underlying hu, h0, hn, run_sizeOf hes, part, hag, hlt']
          · have e1 : (cs.map boolOf).getD j.toNat false = boolOf cs[j.toNat] := by simp [hlt]
            rw [e1]
            generalize cs[j.toNat] = dd at *
            generalize vs[j.toNat] = vv at *
            cases dd <;> simp only [isB, Bool.false_eq_true] at hk
            · cases hd; exact .bool _
            · cases hd; exact .bool _
            · exact hd
    · rename_i hq1 hq2
      injection hq1 with hq1
      subst hq1
      rw [hq2] at htye
      cases hb : (Nat.beq es 1 && Nat.ble n cs.length) with
      | false => simp [hb] at h
      | true =>
        simp only [hb, cond_true] at h
        simp only [Bool.and_eq_true] at hb
        have he1 := Nat.eq_of_beq_eq_true hb.1
        have hle := Nat.le_of_ble_eq_true hb.2
        obtain ⟨⟨h0, hn⟩, h⟩ := h
        rw [fz_iff] at h
        obtain ⟨⟨dt, hdt, hpl⟩, _⟩ := htye
        cases hx with
        | agg _ vs hl hR =>
          have hlt : j.toNat < cs.length := by omega
          have hlt' : j.toNat < vs.size := by omega
          have hd := hR j.toNat cs[j.toNat] vs[j.toNat] (by simp [hlt]) (by simp [hlt'])
          have e1 : cs.getD j.toNat .top = cs[j.toNat] := by simp [List.getElem?_eq_getElem hlt]
          rw [e1] at h
          refine does_ok (v := vs[j.toNat]) (w' := w) ?_ (Post.rd hr h hd)
          subst he1
          have hag := run_isAgg_plain (P := P) hdt hpl w
          simp [execOp, hop, hvx, hvi, Instr.index, asIntOf, run_underlying hu, h0, hn, run_sizeOf hes, part, hag, hlt']
    · rename_i hq1 hq2
      injection hq1 with hq1
      subst hq1
      rw [hq2] at htye
      cases hb : Nat.ble (n * es) cs.length with
      | false => simp [hb] at h
      | true =>
        simp only [hb, cond_true] at h
        obtain ⟨⟨h0, hn⟩, h⟩ := h
        rw [fzl_iff] at h
        obtain ⟨fields', hu', _⟩ := htye
        have hag := run_isAgg_agg (P := P) hu' rfl w
        cases hx with
        | agg _ vs hl hR =>
          have q := RLA.part (⟨hl, hR⟩ : RLA S w μ cs vs) (j.toNat * es) es
          refine does_ok (v := .agg (vs.extract (j.toNat * es) (j.toNat * es + es))) (w' := w) ?_ (Post.rd hr h (.agg _ _ q.1 q.2))
          simp [execOp, hop, hvx, hvi, Instr.index, asIntOf, run_underlying hu, h0, hn, run_sizeOf hes, part, hag]
    · exact h.elim
theorem sound_slice {t : Nat} {x : Operand} {lo hi : Option Operand} (hC : COK P C) (he : EnvR S w μ e a) (hr : RelL S w μ H) (hop : o.op = .slice t x lo hi none) (h : vslice (C.ty t) (ev e x) (lo.map (ev e)) (hi.map (ev e)) kd) : Does P o a w (PostR S w μ H kd) := by
  have hx := he.ev x
  generalize ev e x = dx at *
  have hty := hC.ty t
  cases hT : C.ty t <;> rw [hT] at h hty <;> simp only [vslice] at h
  case array n el es sz =>
    obtain ⟨hu, _, hes⟩ := hty
    cases dx <;> simp only at h
    rename_i oid off
    cases lo with
    | some y =>
      cases hi with
      | some z => simp only [Option.map_some] at h; split at h <;> first | exact h.elim | (rename_i q1 q2; cases q2) | (rename_i q1 q2; cases q1)
      | none =>
        simp only [Option.map_some, Option.map_none] at h
        have hy := he.ev y
        generalize ev e y = dy at *
        cases dy <;> simp only at h <;> try exact h.elim
        rename_i q l
        obtain ⟨⟨h0, h1⟩, h⟩ := h
        generalize hvx : a.eval x = vx at *
        generalize hvy : a.eval y = vy at *
        cases hy
        cases hx with
        | ptr _ _ b hm =>
          refine does_ok (v := .slice (some ⟨b, off + l.toNat * es, none⟩) (n - l.toNat) (n - l.toNat)) (w' := w) ?_ (Post.rd hr h (.osl _ _ _ _ b (n - l.toNat) hm (Nat.le_refl _)))
          have hne : ¬ n = 0 := by omega
          have h2 : l ≤ (n : Int) := by omega
          have h3 : ¬ n - l.toNat = 0 := by omega
          simp [execOp, hop, hvx, hvy, Instr.sliceAt, Instr.sureAddr, Instr.sliceBounds, Instr.sliceBound, asIntOf, run_underlying hu, run_sizeOf hes, Addr.add_lit, hne, h0, h2, h3]
          exact fun hq => absurd hq (by omega)
    | none =>
      cases hi with
      | some z =>
        simp only [Option.map_some, Option.map_none] at h
        have hy := he.ev z
        generalize ev e z = dy at *
        cases dy <;> simp only at h <;> try exact h.elim
        rename_i q l
        obtain ⟨⟨h0, h1⟩, h⟩ := h
        cases hn : Nat.blt 0 n with
        | false => simp [hn] at h
        | true =>
          simp only [hn, cond_true] at h
          have hpos := (blt_iff _ _).1 hn
          generalize hvx : a.eval x = vx at *
          generalize hvy : a.eval z = vy at *
          cases hy
          cases hx with
          | ptr _ _ b hm =>
            refine does_ok (v := .slice (some ⟨b, off, none⟩) l.toNat n) (w' := w) ?_ (Post.rd hr h (.osl _ _ _ _ b n hm (by omega)))
            have hne : ¬ n = 0 := by omega
            simp [execOp, hop, hvx, hvy, Instr.sliceAt, Instr.sureAddr, Instr.sliceBounds, Instr.sliceBound, asIntOf, run_underlying hu, run_sizeOf hes, Addr.add_lit, hne, h0, h1]
      | none =>
        simp only [Option.map_none] at h
        cases hn : Nat.blt 0 n with
        | false => simp [hn] at h
        | true =>
          simp only [hn, cond_true] at h
          have hpos := (blt_iff _ _).1 hn
          generalize hvx : a.eval x = vx at *
          cases hx with
          | ptr _ _ b hm =>
            refine does_ok (v := .slice (some ⟨b, off, none⟩) n n) (w' := w) ?_ (Post.rd hr h (.osl _ _ _ _ b n hm (Nat.le_refl n)))
            have hne : ¬ n = 0 := by omega
            simp [execOp, hop, hvx, Instr.sliceAt, Instr.sureAddr, Instr.sliceBounds, run_underlying hu, run_sizeOf hes, Addr.add_lit, hne]
  rename_i el es eb
  obtain ⟨hu, _, hes, hpos, _⟩ := hty
  cases dx <;> simp only at h
  rename_i s n g
  split at h
  · rename_i l hh hlo hhi
    obtain ⟨⟨h0, h1, h2⟩, h⟩ := h
    cases hs : Nat.beq s es with
    | false => simp [hs] at h
    | true =>
      simp only [hs, cond_true] at h
      obtain rfl := Nat.eq_of_beq_eq_true hs
      generalize hvx : a.eval x = vx at *
      cases hx with
      | rsl _ _ _ A c val hnc hcell hR =>
        have hb : (Instr.sliceBounds true n c (lo.map a.eval) (hi.map a.eval) none).run P w = .ok (l.toNat, hh.toNat, c) w := by
          have elo : ∀ {lo : Option Operand} {l : Int}, (match lo.map (ev e) with | none => some 0 | some (.int _ l) => some l | _ => none) = some l → (lo = none ∧ l = 0) ∨ ∃ y q, lo = some y ∧ a.eval y = .int q l := fun {lo l} hq => by
            cases lo with
            | none => simp at hq; exact .inl ⟨rfl, hq.symm⟩
            | some y =>
              right
              have hy := he.ev y
              simp only [Option.map_some] at hq
              generalize ev e y = dy at *
              cases dy <;> simp only [reduceCtorEq, Option.some.injEq] at hq
              subst hq
              generalize hvy : a.eval y = vy at *
              cases hy
              exact ⟨y, _, rfl, hvy⟩
          have ehi : ∀ {lo : Option Operand} {l : Int}, (match lo.map (ev e) with | none => some (n : Int) | some (.int _ l) => some l | _ => none) = some l → (lo = none ∧ l = n) ∨ ∃ y q, lo = some y ∧ a.eval y = .int q l := fun {lo l} hq => by
            cases lo with
            | none => simp at hq; exact .inl ⟨rfl, hq.symm⟩
            | some y =>
              right
              have hy := he.ev y
              simp only [Option.map_some] at hq
              generalize ev e y = dy at *
              cases dy <;> simp only [reduceCtorEq, Option.some.injEq] at hq
              subst hq
              generalize hvy : a.eval y = vy at *
              cases hy
              exact ⟨y, _, rfl, hvy⟩
          have hc1 : hh ≤ (c : Int) := by omega
          have hc2 : l ≤ ((hh.toNat : Nat) : Int) := by omega
          have h0h : 0 ≤ hh := by omega
          rcases elo hlo with ⟨rfl, rfl⟩ | ⟨y, q, rfl, hy⟩ <;> rcases ehi hhi with ⟨rfl, rfl⟩ | ⟨y', q', rfl, hy'⟩
          · simp [Instr.sliceBounds]
          · simp [Instr.sliceBounds, Instr.sliceBound, hy', asIntOf, h0h, hc1]
          · simp only [Int.toNat_natCast] at hc2
            simp [Instr.sliceBounds, Instr.sliceBound, hy, asIntOf, h0, hc2]
          · simp [Instr.sliceBounds, Instr.sliceBound, hy, hy', asIntOf, h0, h0h, hc1, Int.toNat_of_nonneg h0h, h1]
        refine does_ok (v := .slice (if c = l.toNat then A else A.map (·.add (l.toNat * s))) (hh.toNat - l.toNat) (c - l.toNat)) (w' := w) ?_ (Post.rd hr h ?_)
        · simp only [execOp, hop, hvx, Instr.sliceAt, Instr.slice, Option.map_none, Sem.run_bind, run_underlying hu, Result.andThen_ok, hb, run_sizeOf hes, Sem.run_pure]
        · refine .rsl s _ _ _ _ (fun i j => val (l.toNat + i) j) (by omega) (fun hpos => ?_) (fun i j hi hj => hR _ _ (by omega) hj)
          obtain ⟨b, off, rfl, hbS, hc⟩ := hcell (by omega)
          have hne : ¬ c = l.toNat := by omega
          refine ⟨b, off + l.toNat * s, by rw [if_neg hne]; simp [Addr.add_lit], hbS, fun i j hi hj => ?_⟩
          have := hc (l.toNat + i) j (by omega) hj
          rw [Nat.add_mul, Nat.add_assoc] at this
          rw [Nat.add_assoc]
          exact this
  · exact h.elim
theorem sound_conv {s t : Nat} {x : Operand} (hC : COK P C) (he : EnvR S w μ e a) (hr : RelL S w μ H) (hop : o.op = .convert s t x) (h : vconv C (C.ty s) (C.ty t) (ev e x) H kd) : Does P o a w (PostR S w μ H kd) := by
  have hx := he.ev x
  generalize ev e x = dx at *
  generalize hvx : a.eval x = vx at *
  have hs := hC.ty s
  have ht := hC.ty t
  unfold vconv at h
  split at h
  · rename_i q hT
    rw [hT] at ht
    split at h
    · rename_i hS
      rw [hS] at hs
      cases hx
      refine does_ok (w' := w) ?_ (Post.rd hr (fits_iff h) (.int _ _))
      simp [execOp, hop, hvx, convert, run_underlying hs.1, run_underlying ht.1, Conv.intToInt]
    · exact h.elim
  · rename_i el eb hT
    rw [hT] at ht
    split at h
    · rename_i str hS hE
      have hel := hC.ty el
      rw [hE] at hel
      rw [hS] at hs
      cases hx
      have hrun := run_bytes_of_string (P := P) w s t el str hs.1 ht.1 hel.1
      have hcell : ∀ i, i < str.size → (w.drew.alloc (.cells (bytesRow str (grownCap w str.size 0 el)) el ((bytesRow str (grownCap w str.size 0 el)).size, (bytesRow str (grownCap w str.size 0 el)).size + 1))).cell? ⟨w.heap.size, i, none⟩ = some (.int .u8 (byteAt str i)) := fun i hi => by
        refine (row_cell (b := w.heap.size) (heap_alloc_new w.drew _) i).trans ?_
        have hlt : i < str.data.size := hi
        simp only [bytesRow, Array.getElem?_append, Array.size_map, hlt, if_true, Array.getElem?_map, Array.getElem?_eq_getElem hlt, Option.map_some]
        have : byteAt str i = (str.data[i]).toNat := by
          simp only [byteAt, getElem?_pos str i hi, Option.map_some, Option.getD_some]
          rfl
        rw [this]
      obtain ⟨g1, g2⟩ := hr.1.grow (w' := w.drew.alloc (.cells (bytesRow str (grownCap w str.size 0 el)) el ((bytesRow str (grownCap w str.size 0 el)).size, (bytesRow str (grownCap w str.size 0 el)).size + 1))) rfl rfl rfl (by simp) (fun b hb => RowKit.Below.heap_alloc w.drew _ b hb)
        (S' := fun b => S b ∨ b = w.heap.size) (fun b h => .inl h) (fun b hb => by
          rcases hb with h | h
          · exact .inl h
          · exact .inr (by omega)) (fun b hb => by
          have : (w.drew.alloc (.cells (bytesRow str (grownCap w str.size 0 el)) el ((bytesRow str (grownCap w str.size 0 el)).size, (bytesRow str (grownCap w str.size 0 el)).size + 1))).heap.size = w.heap.size + 1 := by simp
          rw [this]
          rcases hb with h | h
          · have := (hr.1.stat b h).1; omega
          · omega)
      refine does_ok (v := .slice (some ⟨w.heap.size, 0, none⟩) str.size (grownCap w str.size 0 el)) ?_ ⟨fun b => S b ∨ b = w.heap.size, μ, _, H, ⟨rfl, h⟩, .rsl 1 str.size _ _ _ (fun i _ => .int .u8 (byteAt str i)) (grownCap_ge w _ _ _) (fun _ => ⟨w.heap.size, 0, rfl, .inr rfl, fun i j hi hj => ?_⟩) (fun i j hi hj => .int _ _), ⟨g1, hr.2⟩, g2⟩
      · simp only [execOp, hop, Sem.run_bind, hvx, hrun, Result.andThen_ok, Sem.run_pure]
      · obtain rfl : j = 0 := by omega
        refine ⟨?_, rfl⟩
        rw [Nat.zero_add, Nat.mul_one, Nat.add_zero]
        exact hcell i hi
    · exact h.elim
  · rename_i hT
    rw [hT] at ht
    split at h
    · rename_i el eb hS
      rw [hS] at hs
      have hel := hC.ty el
      split at h
      · rename_i n g hE
        rw [hE] at hel
        obtain ⟨hg, h⟩ := h
        cases hx with
        | rsl _ _ _ A c val hnc hcell hR =>
          have hval : ∀ i, i < n → val i 0 = .int .u8 (numOf (g i 0)) := fun i hi => by
            have := hR i 0 hi (by omega)
            rw [hg i hi] at this
            generalize val i 0 = vv at this
            cases this
            rfl
          refine does_ok (w' := w) ?_ (Post.rd hr h (.str _))
          cases n with
          | zero =>
            have : strOfNums ((List.range 0).map fun i => numOf (g i 0)) = ByteArray.empty := rfl
            rw [this]
            cases A with
            | none => simp only [execOp, hop, hvx, Sem.run_bind, run_convert_bytes_nil (P := P) w s el hs.1 hel.1 0 c t ht.1, Result.andThen_ok, Sem.run_pure]
            | some ad =>
              obtain ⟨b, off, path⟩ := ad
              have hl : (loadCells ⟨b, off, path⟩ 0).run P w = .ok (([] : List Int).map (Value.int .u8)).toArray w := by simp [loadCells, loadCellsFrom]
              have := run_convert_bytes_string w s t el (some ⟨b, off, path⟩) 0 c hs.1 hel.1 ht.1
              simp only [execOp, hop, hvx, Sem.run_bind, this, run_bytesToString w ⟨b, off, path⟩ 0 c [] hl, Result.andThen_ok, Sem.run_pure]
              rfl
          | succ n =>
            obtain ⟨b, off, rfl, hb, hc⟩ := hcell (by omega)
            have := run_convert_bytes_arg (P := P) w s el hs.1 hel.1 b off (n + 1) c ((List.range (n + 1)).map fun i => numOf (g i 0)) (by simp) (fun i hi => by
              have h1 := (hc i 0 hi (by omega)).1
              rw [hval i hi, Nat.mul_one, Nat.add_zero] at h1
              rw [h1]
              simp [hi]) t ht.1
            simp only [execOp, hop, hvx, Sem.run_bind, this, Result.andThen_ok, Sem.run_pure]
      · rename_i oid n hE
        rw [hE] at hel
        cases ho : hget H oid with
        | none => simp [ho] at h
        | some ob =>
          cases ob with
          | row _ => simp [ho] at h
          | mp _ => simp [ho] at h
          | lp _ _ => simp [ho] at h
          | dead => simp [ho] at h
          | buf el' s' m g =>
            simp only [ho] at h
            split at h
            · rename_i heq
              injection heq with heq
              injection heq with _ heq1 heq2 heq3
              subst heq1; subst heq2; subst heq3
              obtain ⟨⟨hnm, hg⟩, h⟩ := h
              obtain ⟨A, c, xs, hv, hm, hown, hel', hA⟩ := own_form hr ho hx hnm
              subst hnm
              subst hv
              refine does_ok (w' := w) ?_ (Post.rd hr h (.str _))
              cases n with
              | zero =>
                have : strOfNums ((List.range 0).map fun i => numOf (g i 0)) = ByteArray.empty := rfl
                cases A with
                | none => simp only [execOp, hop, hvx, Sem.run_bind, run_convert_bytes_nil (P := P) w s el hs.1 hel.1 0 c t ht.1, Result.andThen_ok, Sem.run_pure]; rfl
                | some ad =>
                  obtain ⟨b, off, path⟩ := ad
                  have hl : (loadCells ⟨b, off, path⟩ 0).run P w = .ok (([] : List Int).map (Value.int .u8)).toArray w := by simp [loadCells, loadCellsFrom]
                  have := run_convert_bytes_string w s t el (some ⟨b, off, path⟩) 0 c hs.1 hel.1 ht.1
                  simp only [execOp, hop, hvx, Sem.run_bind, this, run_bytesToString w ⟨b, off, path⟩ 0 c [] hl, Result.andThen_ok, Sem.run_pure]
                  rfl
              | succ n =>
                obtain ⟨b, rfl⟩ := hA (by omega)
                have := run_convert_bytes_arg (P := P) w s el hs.1 hel.1 b 0 (n + 1) c ((List.range (n + 1)).map fun i => numOf (g i 0)) (by simp) (fun i hi => by
                  obtain ⟨u, hu, _, hur⟩ := hel' i 0 hi (by omega)
                  rw [hg i hi] at hur
                  cases hur
                  rw [Nat.zero_add, own_cell hown rfl i _ (by rw [Nat.mul_one, Nat.add_zero] at hu; exact hu)]
                  simp [hi]) t ht.1
                simp only [execOp, hop, hvx, Sem.run_bind, this, Result.andThen_ok, Sem.run_pure]
            · exact h.elim
      · rename_i hE
        rw [hE] at hel
        cases hx
        refine does_ok (w' := w) ?_ (Post.rd hr h (.str _))
        simp only [execOp, hop, hvx, Sem.run_bind, run_convert_bytes_nil (P := P) w s el hs.1 hel.1 0 0 t ht.1, Result.andThen_ok, Sem.run_pure]
      · exact h.elim
    · exact h.elim
  · exact h.elim
theorem sound_part {t f : Nat} {T : Ty} {d : D} {v : Value} {K : D → Prop} (hC : COK P C) (hT : tyOK P t T) (hd : R S w μ d v) (h : vpart C T d f K) :
    ∃ d' v', (Instr.field t v f).run P w = .ok v' w ∧ R S w μ d' v' ∧ K d' := by
  unfold vpart at h
  split at h <;> first | exact h.elim | skip
  rename_i sz fs cs
  cases hd with
  | agg _ vs hlen hR =>
  obtain ⟨fields, hu, _, hfs, _⟩ := hT
  cases hx : fs[f]? with
  | none => simp [hx] at h
  | some x =>
    simp only [hx] at h
    obtain ⟨fd, hf, ho, hty, hsz, hne⟩ := hfs f x hx
    rw [hty] at hsz
    have hco := hC.ty x.2.1
    have hRL : RLA S w μ cs vs := ⟨hlen, hR⟩
    by_cases hst : ∃ sz' fs', C.ty x.2.1 = .struct sz' fs'
    · obtain ⟨sz', fs', hT'⟩ := hst
      rw [hT'] at h hco
      simp only [fzl_iff] at h
      obtain ⟨fields', hu', _⟩ := hco
      have hag := run_isAgg_agg (P := P) hu' rfl w
      have q := hRL.part x.1 x.2.2
      refine ⟨_, .agg (vs.extract x.1 (x.1 + x.2.2)), ?_, .agg _ _ q.1 q.2, h⟩
      simp [Instr.field, run_underlying hu, hf, asAgg, part, hty, ho, hag, run_sizeOf hsz]
    · have h' : (bif (C.ty x.2.1).one then (match cs[x.1]? with | some d => fz d K | none => False) else False) := by
        cases hT' : C.ty x.2.1 <;> rw [hT'] at h <;> first | exact h | exact absurd ⟨_, _, hT'⟩ hst
      cases h1 : (C.ty x.2.1).one with
      | false => simp [h1] at h'
      | true =>
        simp only [h1, cond_true] at h'
        cases hc : cs[x.1]? with
        | none => simp [hc] at h'
        | some c =>
          simp only [hc, fz_iff] at h'
          obtain ⟨dsc, hu', hpl⟩ := hco.plain h1
          have hag := run_isAgg_plain (P := P) hu' hpl w
          have hxl : x.1 < vs.size := by have := (List.getElem?_eq_some_iff.1 hc).1; omega
          exact ⟨c, vs[x.1], by simp [Instr.field, run_underlying hu, hf, asAgg, part, hty, ho, hag, hxl], hR x.1 c _ hc (by simp [hxl]), h'⟩
theorem sound_rd (hC : COK P C) (he : EnvR S w μ e a) (hr : RelL S w μ H) (h : vrd C o e H kd) : Does P o a w (PostR S w μ H kd) := by
  have h0 := h
  unfold vrd at h
  cases hop : o.op <;> simp only [hop] at h
  case move x =>
    rw [fz_iff] at h
    exact does_ok (v := a.eval x) (w' := w) (by simp [execOp, hop]) (Post.rd hr h (he.ev x))
  case assign x =>
    rw [fz_iff] at h
    exact does_ok (v := a.eval x) (w' := w) (by simp [execOp, hop]) (Post.rd hr h (he.ev x))
  case pick c x y =>
    have hc := he.ev c
    generalize ev e c = dc at *
    generalize hvc : a.eval c = vc at *
    cases dc <;> simp only at h
    · cases hc
      rw [fz_iff] at h
      exact does_ok (v := a.eval x) (w' := w) (by simp [execOp, hop, hvc, asBool]) (Post.rd hr h (he.ev x))
    · cases hc
      rw [fz_iff] at h
      exact does_ok (v := a.eval y) (w' := w) (by simp [execOp, hop, hvc, asBool]) (Post.rd hr h (he.ev y))
  case build t ps =>
    cases hz : C.zero t with
    | none => simp [hz] at h
    | some z =>
      simp only [hz, fzp_iff] at h
      obtain ⟨cs, vs, g1, g2, g3⟩ := run_build (hC.ty t) (hC.zero t z hz) he h
      rw [fzl_iff] at g3
      refine does_ok (v := .agg vs) (w' := w) ?_ (Post.rd hr g3 (.agg _ _ g2.1.symm g2.2.1))
      simp only [execOp, hop, Sem.run_bind, g1, Result.andThen_ok, Sem.run_pure]
  case load t x =>
    obtain ⟨d, v, g1, g2, g3⟩ := sound_load (P := P) (hC.ty t) hr (he.ev x) h
    refine does_ok (v := v) (w' := w) ?_ (Post.rd hr g3 g2)
    simp only [execOp, hop, Sem.run_bind, g1, Result.andThen_ok, Sem.run_pure]
  case nilCheck x =>
    have hx := he.ev x
    generalize ev e x = dx at *
    generalize hvx : a.eval x = vx at *
    cases dx <;> simp only at h
    all_goals
      have hx' := hx
      cases hx
      refine does_ok (w' := w) ?_ (Post.rd hr h hx')
      simp [execOp, hop, hvx]
  case binOp op t x y yt => exact sound_bin hC he hr hop h0
  case unOp op t x =>
    have hx := he.ev x
    generalize ev e x = dx at *
    generalize hvx : a.eval x = vx at *
    cases op <;> cases dx <;> simp only at h
    case not.tt => cases hx; exact does_ok (w' := w) (by simp [execOp, hop, hvx, Op.unary]) (Post.rd hr h .ff)
    case not.ff => cases hx; exact does_ok (w' := w) (by simp [execOp, hop, hvx, Op.unary]) (Post.rd hr h .tt)
    case not.bool => cases hx; exact does_ok (w' := w) (by simp [execOp, hop, hvx, Op.unary]) (Post.rd hr h (.bool _))
    case neg.int => cases hx; exact does_ok (w' := w) (by simp [execOp, hop, hvx, Op.unary, Op.intArith]) (Post.rd hr (fits_iff h) (.int _ _))
  case convert s t x => exact sound_conv hC he hr hop h
  case index t x i => exact sound_index hC he hr hop h
  case slice t x lo hi mx =>
    cases mx <;> simp only at h
    exact sound_slice hC he hr hop h
  case makeFunc f fs cs =>
    cases f <;> simp only at h
    rename_i f
    rw [fzl_iff, fzl_iff] at h
    refine does_ok (v := .func (.func f) (fs.map a.eval) (cs.map a.eval)) (w' := w) ?_ (Post.rd hr h ?_)
    · simp [execOp, hop, Instr.makeFunc]
    · refine .fn f _ _ _ _ (by simp) (by simp) (fun i d v h1 h2 => ?_) (fun i d v h1 h2 => ?_)
      all_goals
        simp only [List.getElem?_map, Array.getElem?_map, Array.getElem?_toList] at h1 h2
        first
          | (cases hq : fs[i]? with
             | none => simp [hq] at h1
             | some x => simp only [hq, Option.map_some, Option.some.injEq] at h1 h2; subst h1; subst h2; exact he.ev x)
          | (cases hq : cs[i]? with
             | none => simp [hq] at h1
             | some x => simp only [hq, Option.map_some, Option.some.injEq] at h1 h2; subst h1; subst h2; exact he.ev x)
  case fieldAddr t x f =>
    obtain ⟨d, v, g1, g2, g3⟩ := sound_field (P := P) (hC.ty t) hr (he.ev x) h
    refine does_ok (v := v) (w' := w) ?_ (Post.rd hr g3 g2)
    simp only [execOp, hop, Sem.run_bind, g1, Result.andThen_ok, Sem.run_pure]
  case indexAddr t x i => exact sound_idx hC he hr hop h
  case field t x f =>
    obtain ⟨d, v, g1, g2, g3⟩ := sound_part hC (hC.ty t) (he.ev x) h
    refine does_ok (v := v) (w' := w) ?_ (Post.rd hr g3 g2)
    simp only [execOp, hop, Sem.run_bind, g1, Result.andThen_ok, Sem.run_pure]
  case makeInterface t x =>
    have hty := hC.ty t
    cases hT : C.ty t <;> rw [hT] at h hty <;> simp only [ifOK, cond_true, cond_false] at h
    all_goals
      rw [fz_iff] at h
      refine does_ok (v := .iface t (a.eval x)) (w' := w) ?_ (Post.rd hr h (.iface _ _ _ (he.ev x)))
    · simp [execOp, hop, Instr.makeInterface, run_underlying hty.1]
    · simp [execOp, hop, Instr.makeInterface, run_underlying hty.1]
    · simp [execOp, hop, Instr.makeInterface, run_underlying hty.1]
    · obtain ⟨f, hu, _⟩ := hty
      simp [execOp, hop, Instr.makeInterface, run_underlying hu]
  case typeAssert x xt t ok =>
    have hty := hC.ty t
    have hx := he.ev x
    cases ok <;> simp only at h
    · cases hok : ifOK (C.ty t) with
      | false => rw [hok] at h; exact h.elim
      | true =>
        rw [hok, cond_true] at h
        generalize ev e x = dx at *
        generalize hvx : a.eval x = vx at *
        cases dx <;> simp only at h
        rename_i t' d
        cases hq : Nat.beq t' t with
        | false => rw [hq] at h; exact h.elim
        | true =>
          rw [hq, cond_true, fz_iff] at h
          obtain rfl := Nat.eq_of_beq_eq_true hq
          cases hx with
          | iface _ _ v hv =>
            refine does_ok (v := v) (w' := w) ?_ (Post.rd hr h hv)
            cases hT : C.ty t' <;> rw [hT] at hok hty <;> simp only [ifOK, Bool.false_eq_true] at hok
            · simp [execOp, hop, hvx, Instr.typeAssert, run_underlying hty.1]
            · simp [execOp, hop, hvx, Instr.typeAssert, run_underlying hty.1]
            · simp [execOp, hop, hvx, Instr.typeAssert, run_underlying hty.1]
            · obtain ⟨f, hu, _⟩ := hty
              simp [execOp, hop, hvx, Instr.typeAssert, run_underlying hu]
    · cases hok : ifOK (C.ty t) with
      | false => rw [hok] at h; exact h.elim
      | true =>
        rw [hok, cond_true] at h
        generalize ev e x = dx at *
        generalize hvx : a.eval x = vx at *
        cases dx <;> simp only at h
        rename_i t' d
        cases hq : Nat.beq t' t with
        | false => rw [hq] at h; exact h.elim
        | true =>
          rw [hq, cond_true, fz_iff] at h
          obtain rfl := Nat.eq_of_beq_eq_true hq
          cases hx with
          | iface _ _ v hv =>
            have hpair : R S w μ (.tup [d, .tt]) (.tuple #[v, .bool true]) := .tup _ _ rfl fun i d' v' h1 h2 => by
              match i, h1, h2 with
              | 0, h1, h2 =>
                simp at h1 h2
                subst h1
                subst h2
                exact hv
              | 1, h1, h2 =>
                simp at h1 h2
                subst h1
                subst h2
                exact .tt
            refine does_ok (v := .tuple #[v, .bool true]) (w' := w) ?_ (Post.rd hr h hpair)
            cases hT : C.ty t' <;> rw [hT] at hok hty <;> simp only [ifOK, Bool.false_eq_true] at hok
            · simp [execOp, hop, hvx, Instr.typeAssert, run_underlying hty.1]
            · simp [execOp, hop, hvx, Instr.typeAssert, run_underlying hty.1]
            · simp [execOp, hop, hvx, Instr.typeAssert, run_underlying hty.1]
            · obtain ⟨f, hu, _⟩ := hty
              simp [execOp, hop, hvx, Instr.typeAssert, run_underlying hu]
  case lookup t x i ok =>
    obtain ⟨d, v, g1, g2, g3⟩ := sound_lookup (P := P) (hC.ty t) hr (he.ev x) (he.ev i) h
    rw [fza_iff] at g3
    refine does_ok (v := v) (w' := w) ?_ (Post.rd hr g3 g2)
    simp only [execOp, hop, Sem.run_bind, g1, Result.andThen_ok, Sem.run_pure]
  case extract x i =>
    have hx := he.ev x
    generalize ev e x = dx at *
    generalize hvx : a.eval x = vx at *
    cases dx <;> simp only at h
    rename_i l
    cases hl : l[i]? with
    | none => simp [hl] at h
    | some d =>
      simp only [hl, fz_iff] at h
      cases hx with
      | tup _ vs hlen hR =>
        have hlt : i < l.length := (List.getElem?_eq_some_iff.1 hl).1
        have hlt' : i < vs.size := by omega
        refine does_ok (v := vs[i]) (w' := w) ?_ (Post.rd hr h (hR i d _ hl (by simp [hlt'])))
        simp [execOp, hop, hvx, Instr.extract, hlt']
  case call c =>
    obtain ⟨callee, args, ats⟩ := c
    cases callee <;> simp only at h
    rw [fzl_iff] at h
    exact sound_builtin hC he hr hop h
theorem RL_src {es : Nat} {x : D} {v : Value} {K : Nat → (Nat → Nat → D) → Prop} (hr : RelL S w μ H) (hx : R S w μ x v) (h : vsrc es H x K) (hpos : 0 < es) :
    ∃ (m : Nat) (gx : Nat → Nat → D) (A : Option Addr) (c : Nat) (news : List Value), K m gx ∧ (A = none → m = 0) ∧ v = .slice A m c ∧ news.length = m * es ∧ (∀ ad, A = some ad → ∀ j u, news[j]? = some u → w.cell? (ad.add j) = some u) ∧ (∀ u ∈ news, u.oneCell' = true) ∧
      (∀ i j, i < m → j < es → ∃ u, news[i * es + j]? = some u ∧ u.oneCell' = true ∧ R S w Mu0 (gx i j) u) := by
  unfold vsrc at h
  split at h
  · rename_i s m g
    cases hs : Nat.beq s es with
    | false => simp [hs] at h
    | true =>
      simp only [hs, cond_true] at h
      obtain rfl := Nat.eq_of_beq_eq_true hs
      obtain ⟨_, h⟩ := h
      cases hx with
      | rsl _ _ _ A c val hnc hcell hR =>
        by_cases hm : 0 < m
        case neg =>
          obtain rfl : m = 0 := by omega
          exact ⟨0, g, A, c, [], h, fun _ => rfl, rfl, by simp, by simp, by simp, fun i j hi => absurd hi (Nat.not_lt_zero _)⟩
        obtain ⟨b, off, rfl, hb, hc⟩ := hcell hm
        have hdiv : ∀ t, t < m * s → t / s < m ∧ t % s < s := fun t ht => ⟨(Nat.div_lt_iff_lt_mul hpos).2 ht, Nat.mod_lt _ hpos⟩
        have hnews : ∀ t u, ((List.range (m * s)).map fun t => val (t / s) (t % s))[t]? = some u → t < m * s ∧ u = val (t / s) (t % s) := fun t u h => by
          simp only [List.getElem?_map] at h
          by_cases ht : t < m * s
          · simp [ht] at h; exact ⟨ht, h.symm⟩
          · simp [Nat.le_of_not_lt ht] at h
        refine ⟨m, g, some ⟨b, off, none⟩, c, (List.range (m * s)).map fun t => val (t / s) (t % s), h, nofun, rfl, by simp, fun ad had t u hu => ?_, fun u hu => ?_, fun i j hi hj => ?_⟩
        · cases had
          obtain ⟨ht, rfl⟩ := hnews t u hu
          obtain ⟨h1, h2⟩ := hdiv t ht
          have := (hc _ _ h1 h2).1
          rw [Addr.add_lit, ← this]
          congr 2
          have := Nat.div_add_mod t s
          rw [Nat.mul_comm] at this
          omega
        · obtain ⟨t, ht, rfl⟩ := List.getElem_of_mem hu
          simp only [List.length_map, List.length_range] at ht
          simp only [List.getElem_map, List.getElem_range]
          exact (hc _ _ (hdiv t ht).1 (hdiv t ht).2).2
        · have hlt : i * s + j < m * s := by
            have := Nat.mul_le_mul_right s (show i + 1 ≤ m by omega)
            rw [Nat.add_mul, Nat.one_mul] at this
            omega
          have e1 : (i * s + j) / s = i := by rw [Nat.mul_comm, Nat.mul_add_div hpos, Nat.div_eq_of_lt hj]; omega
          have e2 : (i * s + j) % s = j := by rw [Nat.mul_comm, Nat.mul_add_mod, Nat.mod_eq_of_lt hj]
          refine ⟨val i j, by simp [hlt, e1, e2], (hc i j hi hj).2, hR i j hi hj⟩
  · rename_i oid m
    cases ho : hget H oid with
    | none => simp [ho] at h
    | some ob =>
      cases ob with
      | row _ => simp [ho] at h
      | mp _ => simp [ho] at h
      | lp _ _ => simp [ho] at h
      | dead => simp [ho] at h
      | buf el s m' g =>
        simp only [ho] at h
        cases hs : Nat.beq s es with
        | false => simp [hs] at h
        | true =>
          simp only [hs, cond_true] at h
          obtain rfl := Nat.eq_of_beq_eq_true hs
          obtain ⟨⟨_, hmm⟩, h⟩ := h
          obtain ⟨A, c, xs, hv, hmu, hown, hel, hA⟩ := own_form hr ho hx hmm
          subst hmm
          by_cases hm : 0 < m
          case neg =>
            obtain rfl : m = 0 := by omega
            exact ⟨0, g, A, c, [], h, fun _ => rfl, hv, by simp, by simp, by simp, fun i j hi => absurd hi (Nat.not_lt_zero _)⟩
          obtain ⟨b, rfl⟩ := hA hm
          refine ⟨m, g, some ⟨b, 0, none⟩, c, xs, h, nofun, hv, hown.1, fun ad had t u hu => ?_, fun u hu => ?_, hel⟩
          · cases had
            rw [Addr.add_lit, Nat.zero_add]; exact own_cell hown rfl t u hu
          · obtain ⟨t, ht, rfl⟩ := List.getElem_of_mem hu
            rw [hown.1] at ht
            obtain ⟨u, hu, h1, _⟩ := hel (t / s) (t % s) ((Nat.div_lt_iff_lt_mul hpos).2 ht) (Nat.mod_lt _ hpos)
            have := Nat.div_add_mod t s
            rw [Nat.mul_comm, ] at this
            rw [this] at hu
            have e : xs[t]? = some xs[t] := List.getElem?_eq_getElem (by rw [hown.1]; exact ht)
            rw [e] at hu
            injection hu with hu
            rw [hu]; exact h1
  · exact h.elim
theorem run_append_opt (base : Nat) (t ty e : TypeId) (i : TypeInfo) (z : Value) (size bytes : Nat) (ht : P.underlying t = some (.slice e)) (hi : P.info? e = some i) (hz : i.zero = some z)
    (hsize : i.size = size) (hby : i.bytes = bytes) (hzs : z.cells.size = size) (hsz : 0 < size)
    (v : Value) (n : Nat) (xs : List Value) (hown : w.ownsG base e size v n xs)
    (A : Option Addr) (m c : Nat) (news : List Value) (hA : A = none → m = 0) (hl : news.length = m * size) (hnews : ∀ ad, A = some ad → ∀ j u, news[j]? = some u → w.cell? (ad.add j) = some u) (h1 : ∀ u ∈ news, u.oneCell' = true)
    (h63 : n + m ≤ maxLen) (hbytes : (n + m) * bytes ≤ 140737488355328) (hbase : base ≤ w.heap.size) :
    ∃ v' w', (Builtin.append_ #[t, t] ty #[v, .slice A m c]).run P w = .ok v' w' ∧ w'.ownsG base e size v' (n + m) (xs ++ news) ∧ w.grownBy w' v.ownBlock ∧
      (m = 0 → v' = v) ∧ (v'.ownBlock = v.ownBlock ∨ v'.ownBlock = some w.heap.size) := by
  by_cases hm : m = 0
  · subst hm
    have hn : news = [] := List.eq_nil_of_length_eq_zero (by simpa using hl)
    subst hn
    rw [List.append_nil, Nat.add_zero]
    refine ⟨v, w, ?_, hown, ⟨rfl, rfl, rfl, Nat.le_refl _, fun _ _ _ => rfl⟩, fun _ => rfl, Or.inl rfl⟩
    rcases hown.2 with ⟨rfl, rfl⟩ | ⟨g, cap, cur, fz, rfl, hbg, hg, hfz, hnc, hcm, hcs, htake⟩
    · cases A <;> simp [Builtin.append_, run_underlying ht, sizeOf, typeInfo, hi, Builtin.lenOf, Builtin.firstCells, loadCells, loadCellsFrom]
    · cases A <;> simp [Builtin.append_, run_underlying ht, sizeOf, typeInfo, hi, Builtin.lenOf, Builtin.firstCells, loadCells, loadCellsFrom, storeCells, hnc]
  · cases A with
    | some ad =>
      obtain ⟨v', w', q1, q2, q3, _, q5⟩ := run_append_ownG w base t ty e i z size bytes ht hi hz hsize hby hzs hsz v n xs hown ad m c news hl (hnews ad rfl) h1 h63 hbytes hbase
      exact ⟨v', w', q1, q2, q3, fun h => absurd h hm, q5⟩
    | none => exact absurd (hA rfl) hm
theorem turn_done {oid el es n m : Nat} {g gx : Nat → Nat → D} {mv v' : Value} {w' : World} {xs news : List Value} (hr : RelL S w μ H) (ho : hget H oid = some (.buf el es n g)) (hm : μ oid = some mv) (hown : w.ownsG 0 el es mv n xs)
    (hx : ∀ i j, i < n → j < es → ∃ u, xs[i * es + j]? = some u ∧ u.oneCell' = true ∧ R S w Mu0 (g i j) u) (hown' : w'.ownsG 0 el es v' (n + m) (xs ++ news)) (hgrow : w.grownBy w' mv.ownBlock) (hm0 : m = 0 → v' = mv)
    (hat : v'.ownBlock = mv.ownBlock ∨ v'.ownBlock = some w.heap.size) (hg : ∀ i j, i < m → j < es → ∃ u, news[i * es + j]? = some u ∧ u.oneCell' = true ∧ R S w Mu0 (gx i j) u) :
    RelL S w' (updM μ oid v') (H.set oid (some (.buf el es (n + m) fun i j => if i < n then g i j else gx (i - n) j))) ∧
      Tr S w μ (hget H) S w' (updM μ oid v') (hget (H.set oid (some (.buf el es (n + m) fun i j => if i < n then g i j else gx (i - n) j)))) ∧ R S w' (updM μ oid v') (.own oid (n + m)) v' := by
  have hform : ∃ A c', v' = .slice A (n + m) c' ∧ n + m ≤ c' := by
    rcases hown'.2 with ⟨e1, e2⟩ | ⟨b, cap, cur, fz, e1, _, _, _, hc, _⟩
    · exact ⟨none, 0, by rw [e1, e2], by omega⟩
    · exact ⟨_, _, e1, hc⟩
  obtain ⟨A, c', rfl, hc'⟩ := hform
  have hLe : Le mv (.slice A (n + m) c') := by
    by_cases hmz : m = 0
    · exact .inl (hm0 hmz)
    rcases hown.2 with ⟨e1, e2⟩ | ⟨b, cap, cur, fz, e1, _⟩
    · exact .inr (.inl ⟨none, 0, 0, A, n + m, c', e1, rfl, by omega⟩)
    · exact .inr (.inl ⟨_, n, _, A, n + m, c', e1, rfl, by omega⟩)
  have hxl := hown.1
  obtain ⟨g1, g2⟩ := turn_buf hr (g' := fun i j => if i < n then g i j else gx (i - n) j) ho hm hLe hgrow hat hown' (fun i j hi hj => by
    have hlt : i < n → i * es + j < n * es := fun h => by
      have := Nat.mul_le_mul_right es (show i + 1 ≤ n by omega)
      rw [Nat.add_mul, Nat.one_mul] at this
      omega
    by_cases hin : i < n
    · obtain ⟨u, hu, h1, h2⟩ := hx i j hin hj
      simp only [hin, if_true]
      exact ⟨u, by rw [List.getElem?_append_left (by rw [hxl]; exact hlt hin)]; exact hu, h1, h2⟩
    · obtain ⟨u, hu, h1, h2⟩ := hg (i - n) j (by omega) hj
      simp only [hin, if_false]
      refine ⟨u, ?_, h1, h2⟩
      have hmul : n * es ≤ i * es := Nat.mul_le_mul_right es (by omega)
      rw [List.getElem?_append_right (by rw [hxl]; omega), hxl]
      have : i * es + j - n * es = (i - n) * es + j := by rw [Nat.sub_mul]; omega
      rw [this]; exact hu)
  exact ⟨g1, g2, .own oid (n + m) A (n + m) c' _ (by simp [updM]) (Nat.le_refl _) rfl (fun _ => rfl)⟩
theorem turn_append {oid el es eb n m : Nat} {g gx : Nat → Nat → D} {mv : Value} {B : Option Addr} {c t ty : Nat} {news : List Value} (hT : tyOK P t (.slice el es eb)) (hr : RelL S w μ H) (ho : hget H oid = some (.buf el es n g)) (hm : μ oid = some mv)
    (hB : B = none → m = 0) (heb : 0 < eb) (hmax : (n + m) * eb ≤ 140737488355328) (hl : news.length = m * es) (hnews : ∀ ad, B = some ad → ∀ j u, news[j]? = some u → w.cell? (ad.add j) = some u) (h1 : ∀ u ∈ news, u.oneCell' = true)
    (hg : ∀ i j, i < m → j < es → ∃ u, news[i * es + j]? = some u ∧ u.oneCell' = true ∧ R S w Mu0 (gx i j) u) :
    ∃ v' w', (Builtin.append_ #[t, t] ty #[mv, .slice B m c]).run P w = .ok v' w' ∧ RelL S w' (updM μ oid v') (H.set oid (some (.buf el es (n + m) fun i j => if i < n then g i j else gx (i - n) j))) ∧
      Tr S w μ (hget H) S w' (updM μ oid v') (hget (H.set oid (some (.buf el es (n + m) fun i j => if i < n then g i j else gx (i - n) j)))) ∧ R S w' (updM μ oid v') (.own oid (n + m)) v' := by
  obtain ⟨hu, _, hes, hesp, i, z, hi, hz, hsz, hby, hzs, _⟩ := hT
  obtain ⟨mv0, hm0, xs, hown, hx⟩ := hr.1.obs oid _ ho
  rw [hm] at hm0
  injection hm0 with hm0
  subst hm0
  have hle : n + m ≤ 140737488355328 := Nat.le_trans (Nat.le_mul_of_pos_right _ heb) hmax
  obtain ⟨v', w', hrun, hown', hgrow, hm0, hat⟩ := run_append_opt (P := P) (w := w) 0 t ty el i z es eb hu hi hz hsz hby hzs hesp mv n xs hown B m c news hB hl hnews h1 (by unfold maxLen; omega) hmax (Nat.zero_le _)
  exact ⟨v', w', hrun, turn_done hr ho hm hown hx hown' hgrow hm0 hat hg⟩
theorem hnew_set (nid : Nat) (ob ob' : Ob) (hle : nid ≤ H.length) : (hnew H nid ob).set nid (some ob') = hnew H nid ob' := by
  unfold hnew
  cases hb : Nat.blt nid H.length with
  | true => simp
  | false =>
    have : ¬ nid < H.length := fun hl => by rw [(blt_iff _ _).2 hl] at hb; cases hb
    obtain rfl : nid = H.length := by omega
    simp
theorem sound_append {s x : Operand} {t : Nat} (hC : COK P C) (he : EnvR S w μ e a) (hr : RelL S w μ H) (hno : μ nid = none) (hle : nid ≤ H.length) (hop : o.op = .call { callee := .builtin .append, args := #[s, x], argTypes := #[t, t] })
    (h : vappend (C.ty t) nid (ev e s) (ev e x) H k) : Does P o a w (Post S w μ H k) := by
  have hs := he.ev s
  have hx := he.ev x
  have hty := hC.ty t
  unfold vappend at h
  split at h
  · rename_i el es eb hT
    rw [hT] at hty
    have hpos : 0 < es := hty.2.2.2.1
    obtain ⟨m, gx, B, c, news, hk, hm, hv, hl, hnews, h1, hg⟩ := RL_src hr hx h hpos
    have fin : ∀ {v' : Value} {w' : World} {d : D} {H' : HL} {μ' : Mu}, (Builtin.append_ #[t, t] o.type #[a.eval s, .slice B m c]).run P w = .ok v' w' → k d H' → R S w' μ' d v' → RelL S w' μ' H' → Tr S w μ (hget H) S w' μ' (hget H') → Does P o a w (Post S w μ H k) := fun {v' w' d H' μ'} hrun hk hR hrel htr => by
      refine does_ok (v := v') (w' := w') ?_ ⟨S, μ', d, H', hk, hR, hrel, htr⟩
      simp only [execOp, hop, resolve, invoke, builtin, Sem.run_bind, Sem.run_pure, Result.andThen_ok, List.map_toArray, List.map_cons, List.map_nil, hv, hrun]
    split at hk
    · rename_i oid n hd
      rw [hd] at hs
      cases ho : hget H oid with
      | none => simp [ho] at hk
      | some ob =>
        cases ob with
        | row _ => simp [ho] at hk
        | mp _ => simp [ho] at hk
        | lp _ _ => simp [ho] at hk
        | dead => simp [ho] at hk
        | buf e0 s0 n0 g =>
          simp only [ho] at hk
          cases hq : (Nat.beq e0 el && Nat.beq s0 es && Nat.blt 0 eb && ownNe (ev e x) oid) with
          | false => simp [hq] at hk
          | true =>
            simp only [hq, cond_true] at hk
            simp only [Bool.and_eq_true] at hq
            obtain rfl := Nat.eq_of_beq_eq_true hq.1.1.1
            obtain rfl := Nat.eq_of_beq_eq_true hq.1.1.2
            obtain ⟨⟨hnn, hmax⟩, hk⟩ := hk
            obtain ⟨A, c0, xs, hv0, hm0, _⟩ := own_form hr ho hs hnn
            subst hnn
            obtain ⟨v', w', hrun, g1, g2, g3⟩ := turn_append (P := P) (ty := o.type) (c := c) hty hr ho hm0 hm ((blt_iff _ _).1 hq.1.2) hmax hl hnews h1 hg
            rw [← hv0] at hrun
            exact fin hrun hk g3 g1 g2
    · rename_i hd
      rw [hd] at hs
      cases hq : Nat.blt 0 eb with
      | false => simp [hq] at hk
      | true =>
        simp only [hq, cond_true] at hk
        obtain ⟨hmax, hk⟩ := hk
        obtain ⟨r1, r2, r3⟩ := new_nil hr hno hle el es (fun _ _ => D.top)
        have hvs : a.eval s = .slice none 0 0 := by
          generalize a.eval s = vs at hs
          cases hs; rfl
        obtain ⟨v', w', hrun, g1, g2, g3⟩ := turn_append (P := P) (ty := o.type) (c := c) (oid := nid) (n := 0) (g := fun _ _ => D.top) (mv := .slice none 0 0) (gx := gx) hty r1 (by rw [hget_new _ hle]; simp [updH]) (by simp [updM]) hm ((blt_iff _ _).1 hq) hmax hl hnews h1 hg
        rw [← hvs] at hrun
        rw [hnew_set nid _ _ hle] at g1 g2
        have hf : (fun i j => if i < 0 then D.top else gx (i - 0) j) = fun i j => gx i j := by funext i j; simp
        rw [hf] at g1 g2
        exact fin hrun hk g3 g1 (r2.trans g2)
    · exact hk.elim
  · exact h.elim
theorem sound_appendS {s x : Operand} {t u : Nat} (hC : COK P C) (he : EnvR S w μ e a) (hr : RelL S w μ H) (hop : o.op = .call { callee := .builtin .append, args := #[s, x], argTypes := #[t, u] }) (hS : C.ty u = .str)
    (h : vappendS C (C.ty t) (ev e s) (ev e x) H k) : Does P o a w (Post S w μ H k) := by
  have hs := he.ev s
  have hx := he.ev x
  have hty := hC.ty t
  have hu := hC.ty u
  rw [hS] at hu
  unfold vappendS at h
  split at h
  case h_2 => exact h.elim
  rename_i oid' el' n' n0' str' g' happ
  unfold appS at happ
  split at happ
  · rename_i el hT
    rw [hT] at hty
    split at happ
    · rename_i str oid n hE hX hd
      rw [hX] at hx
      rw [hd] at hs
      split at happ
      · rename_i e0 n0 g ho
        cases hq : Nat.beq e0 el with
        | false => simp [hq] at happ
        | true =>
          simp only [hq, cond_true, Option.some.injEq, Prod.mk.injEq] at happ
          obtain rfl := Nat.eq_of_beq_eq_true hq
          obtain ⟨⟨rfl, rfl⟩, ⟨rfl, rfl⟩, rfl, rfl⟩ := happ
          obtain ⟨⟨rfl, hmax⟩, h⟩ := h
          obtain ⟨A, c0, xs, hv0, hm0, _⟩ := own_form hr ho hs rfl
          obtain ⟨hut, _, hes, hesp, i, z, hi, hz, hsz, hby, hzs, _⟩ := hty
          obtain ⟨mv, h1, xs', hown, hx'⟩ := hr.1.obs oid _ ho
          rw [hm0] at h1
          injection h1 with h1
          subst h1
          obtain ⟨v', w', q1, q2, q3, q4, q5⟩ := run_append_own_stringG (P := P) w 0 t u o.type e0 i hut hu.1 hi hz hzs hsz hby _ n xs' hown str (by unfold maxLen; omega) hmax (Nat.zero_le _)
          obtain ⟨g1, g2, g3⟩ := turn_done (gx := fun i _ => .int .u8 (byteAt str i)) (m := str.size) hr ho hm0 hown hx' q2 q3 q4 q5 (fun i j hi hj => by
            obtain rfl : j = 0 := by omega
            refine ⟨.int .u8 (byteAt str i), ?_, rfl, .int _ _⟩
            have hlt : i < str.data.toList.length := by rw [Array.length_toList]; exact hi
            have hby : byteAt str i = (str.data[i]'hi).toNat := by
              simp only [byteAt, getElem?_pos str i hi, Option.map_some, Option.getD_some]
              rfl
            simp [Lib.strCells, hby, hi])
          refine does_ok (v := v') (w' := w') ?_ ⟨S, _, _, _, h, g3, g1, g2⟩
          have hxv : a.eval x = .string str := by
            generalize a.eval x = vx at hx
            cases hx; rfl
          simp only [execOp, hop, resolve, invoke, builtin, Sem.run_bind, Sem.run_pure, Result.andThen_ok, List.map_toArray, List.map_cons, List.map_nil, hxv, hv0, q1]
      · cases happ
    · cases happ
  · cases happ
theorem intR {S : Nat → Prop} {w : World} {μ : Mu} {k : IntKind} {n : Int} {v : Value} (h : R S w μ (.int k n) v) : v = .int k n := by cases h; rfl
theorem new_bytes (hr : RelL S w μ H) {nid : Nat} (hno : μ nid = none) (hle : nid ≤ H.length) {e : Nat} {b : ByteArray} (hb : b.size ≤ 9223372036854775807) {w' : World} {v : Value}
    (hw' : w' = w.drew.alloc (.cells (bytesRow b (grownCap w b.size 0 e)) e ((bytesRow b (grownCap w b.size 0 e)).size, (bytesRow b (grownCap w b.size 0 e)).size + 1)))
    (hv : v = .slice (some ⟨w.heap.size, 0, none⟩) b.size (grownCap w b.size 0 e)) :
    RelL S w' (updM μ nid v) (hnew H nid (.buf e 1 b.size fun i _ => .int .u8 (byteAt b i))) ∧
      Tr S w μ (hget H) S w' (updM μ nid v) (hget (hnew H nid (.buf e 1 b.size fun i _ => .int .u8 (byteAt b i)))) ∧ R S w' (updM μ nid v) (.own nid b.size) v := by
  subst hw'
  subst hv
  have hge := grownCap_ge w b.size 0 e
  have hcm := grownCap_le_maxLen w b.size 0 e (by unfold maxLen; omega)
  have hlen : (bytesRow b (grownCap w b.size 0 e)).size = grownCap w b.size 0 e := by
    simp only [bytesRow, Array.size_append, Array.size_map, Array.size_replicate]
    show b.size + _ = _
    omega
  have htake : (bytesRow b (grownCap w b.size 0 e)).toList.take (b.size * 1) = Lib.strCells b := by
    have : b.size * 1 = (Lib.strCells b).length := by rw [Lib.strCells_length, Nat.mul_one]
    rw [this]
    simp only [bytesRow, Array.toList_append, Array.toList_map, Lib.strCells]
    exact List.take_left
  have hput := hr.1.put (o := nid) (ob := .buf e 1 b.size fun i _ => .int .u8 (byteAt b i)) (mv := .slice (some ⟨w.heap.size, 0, none⟩) b.size (grownCap w b.size 0 e)) (w' := w.drew.alloc (.cells (bytesRow b (grownCap w b.size 0 e)) e ((bytesRow b (grownCap w b.size 0 e)).size, (bytesRow b (grownCap w b.size 0 e)).size + 1))) rfl rfl rfl (by simp) (fun b' hb' _ => heap_alloc_old w.drew _ hb')
    (fun v hv => by rw [hno] at hv; cases hv) (fun b hb => by simp only [blk, Option.some.injEq] at hb; exact .inl (by omega))
    ⟨Lib.strCells b, ⟨by rw [Lib.strCells_length, Nat.mul_one], .inr ⟨w.heap.size, grownCap w b.size 0 e, _, _, rfl, Nat.zero_le _, heap_alloc_new w.drew _, .inr (Nat.le_refl _), hge, hcm, by rw [hlen, Nat.mul_one], htake⟩⟩, fun i j hi hj => by
      obtain rfl : j = 0 := by omega
      refine ⟨.int .u8 (byteAt b i), ?_, rfl, .int _ _⟩
      have hby : byteAt b i = (b.data[i]'hi).toNat := by
        simp only [byteAt, getElem?_pos b i hi, Option.map_some, Option.getD_some]
        rfl
      simp [Lib.strCells, hby, hi]⟩ (fun _ => hno)
  exact ⟨hr.new hle hput.1, by rw [hget_new _ hle]; exact hput.2, .own nid b.size (some ⟨w.heap.size, 0, none⟩) b.size (grownCap w b.size 0 e) _ (by simp [updM]) (Nat.le_refl _) rfl (fun _ => rfl)⟩
theorem sound_wr (hC : COK P C) (he : EnvR S w μ e a) (hr : RelL S w μ H) (hno : μ nid = none) (hle : nid ≤ H.length) (h : vwr C nid o e H k) : Does P o a w (Post S w μ H k) := by
  unfold vwr at h
  cases hop : o.op <;> simp only [hop] at h
  case alloc t =>
    cases hz : C.zero t with
    | none => simp [hz] at h
    | some cs =>
      simp only [hz] at h
      exact sound_alloc (hC.zero t cs hz) hr hno hle hop h
  case box t x =>
    rw [fz_iff] at h
    cases h1 : (cellsD (ev e x)).all one with
    | false => simp [h1] at h
    | true =>
      simp only [h1, cond_true] at h
      exact sound_box he hr hno hle hop h1 h
  case buildSlice t len ps =>
    cases hT : C.ty t <;> simp only [hT] at h
    rename_i el es eb
    have hty := hC.ty t
    rw [hT] at hty
    cases hq0 : (Nat.ble (len * es) 16777216 && Nat.ble len 16777216) with
    | false => simp [hq0] at h
    | true =>
      simp only [hq0, cond_true, fzp_iff] at h
      simp only [Bool.and_eq_true] at hq0
      cases hown : (evs e ps).any ownP with
      | true =>
        rw [hown] at h
        exact sound_nest hty he hr hno hle hop (Nat.le_of_ble_eq_true hq0.1) (Nat.le_of_ble_eq_true hq0.2) h
      | false =>
      rw [hown] at h
      simp only [cond_false] at h
      obtain ⟨cs, vs, g1, g2, g3⟩ := run_slice_lit hty he (Nat.le_of_ble_eq_true hq0.1) h
      rw [fzl_iff] at g3
      cases hq : (cs.all okb && Nat.beq cs.length (len * es)) with
      | false => simp [hq] at g3
      | true =>
        simp only [hq, cond_true] at g3
        simp only [Bool.and_eq_true] at hq
        have hlen : len ≤ 16777216 := Nat.le_of_ble_eq_true hq0.2
        obtain ⟨r1, r2, r3⟩ := new_buf hr hno hle vs (e := el) (Nat.eq_of_beq_eq_true hq.2) (by unfold maxLen; omega) g2 (fun d hd => by
          have := List.all_eq_true.1 hq.1 d hd
          simp only [okb, Bool.or_eq_true] at this
          rcases this with h1 | h1
          · exact .inl h1
          · cases d <;> first | exact .inr rfl | cases h1)
        refine does_ok (v := .slice (some ⟨w.heap.size, 0, none⟩) len len) (w' := w.alloc (.cells vs el)) ?_ ⟨S, _, _, _, g3, r3, r1, r2⟩
        simp only [execOp, hop, Sem.run_bind, g1, Result.andThen_ok, Sem.run_pure]
  case store t x y =>
    rw [fz_iff] at h
    exact sound_store hC he hr hop h
  case makeSlice t l c =>
    cases hT : C.ty t <;> rw [hT] at h <;> simp only at h
    rename_i el es eb
    have hty := hC.ty t
    rw [hT] at hty
    obtain ⟨hu, _, hes, hpos, i, z, hi, hzv, hsz, hby, hzc, hz1⟩ := hty
    split at h
    · rename_i q1 n q2 m hl hc
      cases hz : C.zero el with
      | none => rw [hz] at h; exact h.elim
      | some zs =>
        rw [hz] at h
        simp only at h
        cases hq : (zs.all okb && Nat.beq zs.length es) with
        | false => rw [hq] at h; exact h.elim
        | true =>
          rw [hq] at h
          simp only [cond_true] at h
          simp only [Bool.and_eq_true] at hq
          obtain ⟨⟨hmn, h0, hb1, hb2⟩, h⟩ := h
          obtain ⟨i', z', g1, g2, g3, g4, g5, g6⟩ := hC.zero el zs hz
          rw [hi] at g1
          injection g1 with g1
          subst g1
          rw [hzv] at g2
          injection g2 with g2
          subst g2
          have hvl := he.ev l
          have hvc := he.ev c
          rw [hl] at hvl
          rw [hc] at hvc
          have el1 : a.eval l = .int q1 n := intR hvl
          have el2 : a.eval c = .int q2 n := by rw [intR hvc, hmn]
          have hrun := run_make (P := P) w t el i z hu hi hzv q1 q2 n n h0 (Int.le_refl _) (by rw [hby, Int.mul_comm]; omega) hb2
          have hmx : n.toNat ≤ maxLen := by unfold maxLen; omega
          obtain ⟨r1, r2, r3⟩ := new_made (e := el) (n := n.toNat) (zs := zs.map bl) hr hno hle (by rw [List.length_map]; exact Nat.eq_of_beq_eq_true hq.2) (hzc) hz1 (fun S w j d v h1 h2 => by
            rw [List.getElem?_map] at h1
            cases hd : zs[j]? with
            | none => rw [hd] at h1; cases h1
            | some d' =>
              rw [hd] at h1
              injection h1 with h1
              subst h1
              exact R_bl (g6 S w j d' v hd h2)) hpos hmx
          rw [hsz] at hrun
          refine does_ok (v := .slice (some ⟨w.heap.size, 0, none⟩) n.toNat n.toNat) (w' := w.alloc (.cells (madeCells z.cells (n.toNat * es)) el)) ?_ ⟨S, _, _, _, h, r3, r1, r2⟩
          simp only [execOp, hop, Sem.run_bind, el1, el2, hrun, Result.andThen_ok, Sem.run_pure]
    · exact h.elim
  case makeMap t r =>
    cases r <;> simp only at h
    unfold vmakeMap at h
    cases hT : C.ty t <;> rw [hT] at h <;> simp only at h
    rename_i ks ek kt et
    obtain ⟨r1, r2, r3⟩ := new_map hr hno hle ks ek
    refine does_ok (v := .map (some w.heap.size)) (w' := w.alloc (.map #[] 0)) ?_ ⟨S, _, _, _, h, r3, r1, r2⟩
    simp [execOp, hop, Instr.makeMap]
  case mapEntry t m x =>
    obtain ⟨v, w', h1, h2⟩ := sound_mapEntry (P := P) (hC.ty t) hr (he.ev m) (he.ev x) h
    refine does_ok (v := v) (w' := w') ?_ h2
    simp only [execOp, hop, Sem.run_bind, h1, Result.andThen_ok, Sem.run_pure]
  case entryStore t m x y =>
    obtain ⟨w', h1, h2⟩ := sound_entryStore (P := P) (hC.ty t) hr (he.ev m) (he.ev x) (he.ev y) h
    refine does_skip (w' := w') ?_ h2
    simp only [execOp, hop, Sem.run_bind, h1, Result.andThen_ok, Sem.run_pure]
  case mapUpdate t m x y =>
    obtain ⟨w', h1, h2⟩ := sound_mapUpdate (P := P) (hC.ty t) hr (he.ev m) (he.ev x) (he.ev y) h
    refine does_skip (w' := w') ?_ h2
    simp only [execOp, hop, Sem.run_bind, h1, Result.andThen_ok, Sem.run_pure]
  case insert t m x y =>
    obtain ⟨w', h1, h2⟩ := sound_mapUpdate (P := P) (hC.ty t) hr (he.ev m) (he.ev x) (he.ev y) h
    refine does_skip (w' := w') ?_ h2
    simp only [execOp, hop, Sem.run_bind, h1, Result.andThen_ok, Sem.run_pure]
  case convert s t x =>
    have hx := he.ev x
    have hs := hC.ty s
    have ht := hC.ty t
    cases hst : Nat.beq s t with
    | true =>
    simp only [hst, cond_true] at h
    obtain rfl := Nat.eq_of_beq_eq_true hst
    unfold vsame at h
    split at h
    case h_2 => exact h.elim
    rename_i o1 e1 n m g hb
    unfold ownB at hb
    split at hb
    · rename_i el0 eb hT
      rw [hT] at ht
      split at hb
      · rename_i oid n0 hE hd
        have hel := hC.ty el0
        rw [hE] at hel
        rw [hd] at hx
        split at hb
        · rename_i e' m0 g0 ho
          cases hb
          obtain ⟨⟨hnm, hpos⟩, h⟩ := h
          obtain ⟨A, c, xs, hv, hm, hown, hel', hA⟩ := own_form hr ho hx hnm
          subst hnm
          obtain ⟨b, rfl⟩ := hA hpos
          obtain ⟨w', q1, q2, q3⟩ := run_convert_ownG (P := P) w (t := s) ht.1 hel.1 hown
          obtain ⟨t1, t2⟩ := turn_buf (w' := w') (g' := g) (n' := n) hr ho hm (.refl _) q3 (.inl rfl) q2 (fun i j hi hj => by
            obtain ⟨u, hu, hu1, hur⟩ := hel' i j hi hj
            exact ⟨u, hu, hu1, hur⟩)
          refine does_ok ?_ ⟨S, _, _, _, h, .own _ _ (some ⟨b, 0, none⟩) n c _ (by simp [updM]) (Nat.le_refl _) rfl (fun _ => rfl), t1, t2⟩
          simp only [execOp, hop, Sem.run_bind, hv, q1, Result.andThen_ok, Sem.run_pure]
        · cases hb
      · cases hb
    · cases hb
    | false =>
    simp only [hst, cond_false] at h
    unfold vbytes at h
    split at h
    case h_2 => exact h.elim
    rename_i el b hb
    unfold bytesOf at hb
    split at hb
    · rename_i el0 eb hT
      rw [hT] at ht
      split at hb
      · rename_i str hS hE hd
        cases hb
        have hel := hC.ty el
        rw [hE] at hel
        rw [hS] at hs
        rw [hd] at hx
        have hrun := run_bytes_of_string (P := P) w s t el b hs.1 ht.1 hel.1
        obtain ⟨r1, r2, r3⟩ := new_bytes (e := el) (b := b) hr hno hle h.1 rfl rfl
        refine does_ok ?_ ⟨S, _, _, _, h.2, r3, r1, r2⟩
        have hxv : a.eval x = .string b := by
          generalize a.eval x = vx at hx
          cases hx; rfl
        simp only [execOp, hop, Sem.run_bind, hxv, hrun, Result.andThen_ok, Sem.run_pure]
      · cases hb
    · cases hb
  case call c =>
    obtain ⟨callee, args, ats⟩ := c
    split at h
    · rename_i hcal
      simp only at hcal
      subst hcal
      split at h
      · rename_i s x t t' hargs hats
        obtain ⟨args⟩ := args
        obtain ⟨ats⟩ := ats
        simp only at hargs hats
        subst hargs
        subst hats
        cases hq : Nat.beq t t' with
        | false =>
          simp only [hq, cond_false] at h
          split at h
          · rename_i hS
            exact sound_appendS hC he hr hop hS h
          · exact h.elim
        | true =>
          simp only [hq, cond_true] at h
          obtain rfl := Nat.eq_of_beq_eq_true hq
          exact sound_append hC he hr hno hle hop h
      · exact h.elim
    · exact h.elim
end
end Go.V
end
section
namespace Go.V
structure Grow (S : Nat → Prop) (w : World) (S' : Nat → Prop) (w' : World) : Prop where
  os : w'.os = w.os
  tape : w'.tape = w.tape
  output : w'.output = w.output
  size : w.heap.size ≤ w'.heap.size
  block : ∀ b, b < w.heap.size → w'.heap[b]? = w.heap[b]?
  sub : ∀ b, S b → S' b
  new : ∀ b, S' b → S b ∨ w.heap.size ≤ b
  lt : ∀ b, S' b → b < w'.heap.size
def RL (S : Nat → Prop) (w : World) (μ : Mu) (ds : List D) (vs : List Value) : Prop := ds.length = vs.length ∧ ∀ (i : Nat) d v, ds[i]? = some d → vs[i]? = some v → R S w μ d v
def Det {α : Type} (F : (α → Prop) → Prop) : Prop := ∀ k, F k → ∃ x, k x ∧ ∀ k', k' x → F k'
structure PSound (P : Program) (f : Nat) (c : PRule) : Prop where
  det : ∀ ds, Det (c ds)
  enters : ∀ args w, (callFunc f args).run P w = .ok (.enter f args) w
  calls : ∀ ds k, c ds k → ∀ S w (vs : List Value), (∀ b, S b → b < w.heap.size) → RL S w Mu0 ds vs →
    Calls P f vs.toArray w fun e w' => ∃ v S' d, e = .returned v ∧ k d ∧ R S' w' Mu0 d v ∧ Grow S w S' w'
def noRef : D → Bool
  | .agg cs => cs.all noRef1
  | .fn _ fs cs => fs.all noRef1 && cs.all noRef1
  | d => noRef1 d
def flat1 : D → Bool
  | .tt | .ff | .int _ _ | .bool _ | .str _ | .nilI | .nilS | .nilP => true
  | _ => false
def flat : D → Bool
  | .agg cs | .tup cs => cs.all (fun d => flat1 d || (match d with | .agg cs => cs.all flat1 | _ => false))
  | d => flat1 d
def hide (H : HL) (d : D) : D := match d with
  | .own o n => match hget H o with
    | some (.buf _ s m g) => bif Nat.beq n m then .rsl s m g else .top
    | _ => .top
  | d => bif noRef1 d then d else .top
def view (H : HL) (d : D) (k : D → Prop) : Prop := match d with
  | .own o n => match hget H o with
    | some (.buf _ s m g) => n = m ∧ k (.rsl s m g)
    | _ => False
  | .ptr o off => match hget H o with
    | some (.row cs) => k (.eptr (cs.length - off) fun j => hide H (cs.getD (off + j) .top))
    | _ => False
  | .osl o off n s => match hget H o with
    | some (.row cs) => bif Nat.ble (off + n * s) cs.length then k (.rsl s n fun i j => hide H (cs.getD (off + (i * s + j)) .top)) else False
    | _ => False
  | d => fz d k
def viewl (H : HL) (l : List D) : (List D → Prop) → Prop := @List.rec D (fun _ => (List D → Prop) → Prop) (fun k => k []) (fun d _ ih k => view H d fun d => ih fun r => k (d :: r)) l
def viewa (H : HL) (d : D) (k : D → Prop) : Prop := match d with
  | .agg cs => viewl H cs fun cs => k (.agg cs)
  | .fn f fs cs => viewl H fs fun fs => viewl H cs fun cs => k (.fn f fs cs)
  | d => view H d k
def viewal (H : HL) (l : List D) : (List D → Prop) → Prop := @List.rec D (fun _ => (List D → Prop) → Prop) (fun k => k []) (fun d _ ih k => viewa H d fun d => ih fun r => k (d :: r)) l
def vcallp (c : PRule) (ds : List D) (H : HL) (k : D → Prop) : Prop :=
  bif ds.all noRef then c ds fun d => fz d k
  else viewal H ds fun ds => bif ds.all noRef then c ds fun d => fz d fun d => bif flat d then k d else False else False
section
variable {P : Program} {C : Cx} {o : Oper} {a : Act} {w : World} {S : Nat → Prop} {μ : Mu} {H : HL} {e : Env}
theorem noRef_R {d : D} {v : Value} (h : R S w μ d v) (hn : noRef d = true) : R S w Mu0 d v := by
  cases h with
  | agg cs vs hl hr => exact .agg cs vs hl fun i d v h1 h2 => noRef1_R (hr i d v h1 h2) (List.all_eq_true.1 hn d (List.mem_of_getElem? h1))
  | fn f fs cs vf vc h1 h2 h3 h4 =>
    simp only [noRef, Bool.and_eq_true] at hn
    exact .fn f fs cs vf vc h1 h2 (fun i d v g1 g2 => noRef1_R (h3 i d v g1 g2) (List.all_eq_true.1 hn.1 d (List.mem_of_getElem? g1)))
      fun i d v g1 g2 => noRef1_R (h4 i d v g1 g2) (List.all_eq_true.1 hn.2 d (List.mem_of_getElem? g1))
  | top v => cases hn
  | _ => exact noRef1_R (μ := μ) (by first | exact .tt | exact .ff | exact .int _ _ | exact .bool _ | exact .str _ | exact .nilI | exact .nilS | exact .nilP | (constructor <;> assumption)) hn
theorem flat1_R {S' : Nat → Prop} {w' : World} {d : D} {v : Value} (h : R S w μ d v) (hn : flat1 d = true) : R S' w' Mu0 d v := by
  cases h <;> first | (cases hn; done) | exact .tt | exact .ff | exact .int _ _ | exact .bool _ | exact .str _ | exact .nilI | exact .nilS | exact .nilP
theorem flat_R {S' : Nat → Prop} {w' : World} {d : D} {v : Value} (h : R S w μ d v) (hn : flat d = true) : R S' w' Mu0 d v := by
  have key : ∀ {d : D} {v : Value}, R S w μ d v → (flat1 d || (match d with | .agg cs => cs.all flat1 | _ => false)) = true → R S' w' Mu0 d v := fun {d v} h hn => by
    simp only [Bool.or_eq_true] at hn
    rcases hn with hn | hn
    · exact flat1_R h hn
    · cases h with
      | agg cs vs hl hr => exact .agg cs vs hl fun i d v h1 h2 => flat1_R (hr i d v h1 h2) (List.all_eq_true.1 hn d (List.mem_of_getElem? h1))
      | _ => cases hn
  cases h with
  | agg cs vs hl hr => exact .agg cs vs hl fun i d v h1 h2 => key (hr i d v h1 h2) (List.all_eq_true.1 hn d (List.mem_of_getElem? h1))
  | tup cs vs hl hr => exact .tup cs vs hl fun i d v h1 h2 => key (hr i d v h1 h2) (List.all_eq_true.1 hn d (List.mem_of_getElem? h1))
  | top v => cases hn
  | _ => exact flat1_R (S := S) (w := w) (μ := μ) (by first | exact .tt | exact .ff | exact .int _ _ | exact .bool _ | exact .str _ | exact .nilI | exact .nilS | exact .nilP | (constructor <;> assumption)) hn
def withH (S : Nat → Prop) (μ : Mu) (H : Hp) (b : Nat) : Prop := S b ∨ ∃ o ob v, H o = some ob ∧ μ o = some v ∧ blk v = some b
theorem R.up {d : D} {v : Value} (h : R S w μ d v) {S' : Nat → Prop} (hS : ∀ b, S b → S' b) : R S' w μ d v := h.keep hS (fun _ _ => rfl) (.refl _)
theorem own_view (hr : Rel S w μ (hget H)) {oid e s m : Nat} {g : Nat → Nat → D} {v : Value} (ho : hget H oid = some (.buf e s m g)) (hd : R S w μ (.own oid m) v) : R (withH S μ (hget H)) w Mu0 (.rsl s m g) v := by
  cases hd with
  | own _ _ A m' c _ hm hn h1c hv =>
    obtain ⟨mv, h1, xs, hown, hx⟩ := hr.obs oid _ ho
    rw [hm] at h1
    injection h1 with h1
    have hmm : m = m' := by
      rcases hown.2 with ⟨e1, e2⟩ | ⟨b, cap, cur, fz, e1, _⟩
      · rw [← h1] at e1; injection e1 with _ e1 _; omega
      · rw [← h1] at e1; injection e1 with _ e1 _; exact e1.symm
    obtain rfl := hv hmm
    subst hmm
    refine .rsl s m g A c (fun i j => xs.getD (i * s + j) undef) ?_ (fun h0 => ?_) (fun i j hi hj => ?_)
    · rcases hown.2 with ⟨e1, e2⟩ | ⟨b, cap, cur, fz, e1, _, _, _, hc, _⟩
      · omega
      · rw [← h1] at e1; injection e1 with _ _ e1; omega
    · rcases hown.2 with ⟨e1, e2⟩ | ⟨b, cap, cur, fz, e1, _⟩
      · omega
      · have e2 := e1
        rw [← h1] at e1
        injection e1 with e1 _ _
        subst e1
        refine ⟨b, 0, rfl, .inr ⟨oid, _, _, ho, hm, rfl⟩, fun i j hi hj => ?_⟩
        obtain ⟨u, hu, hu1, _⟩ := hx i j hi hj
        rw [Nat.zero_add]
        exact ⟨by rw [own_cell hown e2 _ _ hu]; simp [hu], by simpa [hu] using hu1⟩
    · obtain ⟨u, hu, _, hur⟩ := hx i j hi hj
      simp only [List.getD_eq_getElem?_getD, hu, Option.getD_some]
      exact hur.up fun b hb => .inl hb
theorem hide_R (hr : Rel S w μ (hget H)) {d : D} {v : Value} (hd : R S w μ d v) : R (withH S μ (hget H)) w Mu0 (hide H d) v := by
  unfold hide
  split
  · rename_i o n
    split
    · rename_i e s m g ho
      cases hb : Nat.beq n m with
      | false => exact .top v
      | true =>
        obtain rfl := Nat.eq_of_beq_eq_true hb
        exact own_view hr ho hd
    · exact .top v
  · cases hn : noRef1 d with
    | false => exact .top v
    | true => exact (noRef1_R hd hn).up fun b hb => .inl hb
theorem sound_view (hr : Rel S w μ (hget H)) {d : D} {v : Value} (hd : R S w μ d v) {k : D → Prop} (h : view H d k) : ∃ d', k d' ∧ (noRef d' = true → R (withH S μ (hget H)) w Mu0 d' v) := by
  have plain : ∀ d, R S w μ d v → k d → ∃ d', k d' ∧ (noRef d' = true → R (withH S μ (hget H)) w Mu0 d' v) := fun d hd hk => ⟨d, hk, fun hn => (noRef_R hd hn).up fun b hb => .inl hb⟩
  cases d <;> simp only [view, fz_iff] at h <;> try exact plain _ hd h
  case own o n =>
    cases ho : hget H o with
    | none => simp [ho] at h
    | some ob =>
      cases ob with
      | row _ => simp [ho] at h
      | mp _ => simp [ho] at h
      | lp _ _ => simp [ho] at h
      | dead => simp [ho] at h
      | buf e s m g =>
        simp only [ho] at h
        obtain ⟨rfl, h⟩ := h
        exact ⟨_, h, fun _ => own_view hr ho hd⟩
  case ptr o off =>
    cases ho : hget H o with
    | none => simp [ho] at h
    | some ob =>
      cases ob with
      | buf _ _ _ _ => simp [ho] at h
      | mp _ => simp [ho] at h
      | lp _ _ => simp [ho] at h
      | dead => simp [ho] at h
      | row cs =>
        simp only [ho] at h
        refine ⟨_, h, fun _ => ?_⟩
        cases hd with
        | ptr _ _ b hm =>
          obtain ⟨mv, h1, b', cells, T, e, hheap, hlen, hcs, hone⟩ := hr.obs o _ ho
          rw [hm] at h1
          injection h1 with h1
          subst h1
          injection e with e
          injection e with e
          injection e with e
          subst e
          refine .eptr _ _ b off (fun j => cells.getD (off + j) undef) (.inr ⟨o, _, _, ho, hm, rfl⟩) (fun j hj => ?_) (fun j hj => ?_)
          · have hlt : off + j < cells.size := by omega
            exact ⟨by simp [row_cell hheap, Array.getD, hlt], hone (off + j) _ (by simp [Array.getD, hlt])⟩
          · have hlt : off + j < cells.size := by omega
            have hlt' : off + j < cs.length := by omega
            have hc := hcs (off + j) cs[off + j] cells[off + j] (by simp [hlt']) (by simp [hlt])
            have e1 : cs.getD (off + j) .top = cs[off + j] := by simp [List.getElem?_eq_getElem hlt']
            have e2 : cells.getD (off + j) undef = cells[off + j] := by simp [Array.getD, hlt]
            rw [e1, e2]
            exact hide_R hr hc
  case osl o off n s =>
    cases ho : hget H o with
    | none => simp [ho] at h
    | some ob =>
      cases ob with
      | buf _ _ _ _ => simp [ho] at h
      | mp _ => simp [ho] at h
      | lp _ _ => simp [ho] at h
      | dead => simp [ho] at h
      | row cs =>
        simp only [ho] at h
        cases hb : Nat.ble (off + n * s) cs.length with
        | false => simp [hb] at h
        | true =>
          simp only [hb, cond_true] at h
          have hle := Nat.le_of_ble_eq_true hb
          refine ⟨_, h, fun _ => ?_⟩
          cases hd with
          | osl _ _ _ _ b c hm hnc =>
            obtain ⟨mv, h1, b', cells, T, e, hheap, hlen, hcs, hone⟩ := hr.obs o _ ho
            rw [hm] at h1
            injection h1 with h1
            subst h1
            injection e with e
            injection e with e
            injection e with e
            subst e
            have hin : ∀ i j, i < n → j < s → off + (i * s + j) < cells.size := fun i j hi hj => by
              have := Nat.mul_le_mul_right s (show i + 1 ≤ n by omega)
              rw [Nat.add_mul, Nat.one_mul] at this
              omega
            refine .rsl _ _ _ _ _ (fun i j => cells.getD (off + (i * s + j)) undef) hnc (fun _ => ⟨b, off, rfl, .inr ⟨o, _, _, ho, hm, rfl⟩, fun i j hi hj => ?_⟩) (fun i j hi hj => ?_)
            · have hlt := hin i j hi hj
              exact ⟨by rw [row_cell hheap]; simp [Array.getD, hlt], hone (off + (i * s + j)) _ (by simp [Array.getD, hlt])⟩
            · have hlt := hin i j hi hj
              have hlt' : off + (i * s + j) < cs.length := by omega
              have hc := hcs (off + (i * s + j)) cs[off + (i * s + j)] cells[off + (i * s + j)] (by simp [hlt']) (by simp [hlt])
              have e1 : cs.getD (off + (i * s + j)) .top = cs[off + (i * s + j)] := by simp [List.getElem?_eq_getElem hlt']
              have e2 : cells.getD (off + (i * s + j)) undef = cells[off + (i * s + j)] := by simp [Array.getD, hlt]
              rw [e1, e2]
              exact hide_R hr hc
theorem noRef_of1 {d : D} (h : noRef1 d = true) : noRef d = true := by cases d <;> first | exact h | cases h
theorem sound_viewl (hr : Rel S w μ (hget H)) : ∀ (ds : List D) (vs : List Value) {k : List D → Prop}, RL S w μ ds vs → viewl H ds k → ∃ ds', k ds' ∧ (ds'.all noRef1 = true → RL (withH S μ (hget H)) w Mu0 ds' vs) ∧ ds'.length = ds.length
  | [], vs, k, hl, h => ⟨[], h, fun _ => ⟨hl.1, fun i d v h1 => by simp at h1⟩, rfl⟩
  | d :: ds, vs, k, hl, h => by
    match vs, hl with
    | v :: vs, hl =>
      have h : view H d (fun d => viewl H ds fun r => k (d :: r)) := h
      obtain ⟨d', h1, h2⟩ := sound_view hr (hl.2 0 d v rfl rfl) h
      obtain ⟨ds', h3, h4, h5⟩ := sound_viewl hr ds vs ⟨by simpa using hl.1, fun i d v a b => hl.2 (i + 1) d v (by simpa using a) (by simpa using b)⟩ h1
      refine ⟨d' :: ds', h3, fun hn => ?_, by simp [h5]⟩
      simp only [List.all_cons, Bool.and_eq_true] at hn
      obtain ⟨g1, g2⟩ := h4 hn.2
      refine ⟨by simp [g1], fun i x u hx hu => ?_⟩
      cases i with
      | zero => simp at hx hu; subst hx; subst hu; exact h2 (noRef_of1 hn.1)
      | succ i => exact g2 i x u (by simpa using hx) (by simpa using hu)
theorem sound_viewa (hr : Rel S w μ (hget H)) {d : D} {v : Value} (hd : R S w μ d v) {k : D → Prop} (h : viewa H d k) : ∃ d', k d' ∧ (noRef d' = true → R (withH S μ (hget H)) w Mu0 d' v) := by
  have toL : ∀ {cs : List D} {vs : Array Value}, cs.length = vs.size → (∀ (i : Nat) d v, cs[i]? = some d → vs[i]? = some v → R S w μ d v) → RL S w μ cs vs.toList := fun h1 h2 => ⟨by simpa using h1, fun i d v a b => h2 i d v a (by simpa using b)⟩
  cases d
  case agg cs =>
    simp only [viewa] at h
    cases hd with
    | agg _ vs hl hR =>
      obtain ⟨cs', h1, h2, h3⟩ := sound_viewl hr cs vs.toList (toL hl hR) h
      refine ⟨_, h1, fun hn => ?_⟩
      obtain ⟨g1, g2⟩ := h2 hn
      exact .agg _ _ (by simpa using g1) fun i d v a b => g2 i d v a (by simpa using b)
  case fn f fs cs =>
    simp only [viewa] at h
    cases hd with
    | fn _ _ _ vf vc hl1 hl2 hR1 hR2 =>
      obtain ⟨fs', h1, h2, h3⟩ := sound_viewl hr fs vf.toList (toL hl1 hR1) h
      obtain ⟨cs', h4, h5, h6⟩ := sound_viewl hr cs vc.toList (toL hl2 hR2) h1
      refine ⟨_, h4, fun hn => ?_⟩
      simp only [noRef, Bool.and_eq_true] at hn
      obtain ⟨g1, g2⟩ := h2 hn.1
      obtain ⟨g3, g4⟩ := h5 hn.2
      exact .fn f _ _ _ _ (by simpa using g1) (by simpa using g3) (fun i d v a b => g2 i d v a (by simpa using b)) fun i d v a b => g4 i d v a (by simpa using b)
  all_goals exact sound_view hr hd (by simpa only [viewa] using h)
end
end Go.V
end
