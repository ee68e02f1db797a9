/-
  A small logic of our own, part 12: code, loops, functions.
-/
import Derived.Test.YtbkehkiflfhpfaaVs
set_option linter.unusedVariables false
set_option linter.unusedSimpArgs false
namespace Go.V

/-- One value tells at least what the other tells; then k. -/
def impC (gs : Nat → Bool) (d d' : D) (k : Prop) : Prop := match d' with
  | .top => k
  | .tt => match d with | .tt => k | .bool b => b = true ∧ k | _ => False
  | .ff => match d with | .ff => k | .bool b => b = false ∧ k | _ => False
  | .bool b => match d with | .tt => true = b ∧ k | .ff => false = b ∧ k | .bool b' => b' = b ∧ k | _ => False
  | .int q n => match d with | .int q' n' => bif keq q' q then n' = n ∧ k else False | _ => False
  | .str s => match d with | .str s' => s' = s ∧ k | _ => False
  | .rsl s n g => match d with | .rsl s' n' g' => bif Nat.beq s' s then n' = n ∧ (∀ i j, i < n → j < s → g' i j = g i j) ∧ k else False | .nilS => 0 = n ∧ k | _ => False
  | .eptr n g => match d with | .eptr n' g' => n' = n ∧ (∀ j, j < n → g' j = g j) ∧ k | _ => False
  | .ptr o f => match d with | .ptr o' f' => bif Nat.beq o' o && Nat.beq f' f then k else False | _ => False
  | .own o n => match d with | .own o' n' => bif Nat.beq o' o then n' = n ∧ k else False | .nilS => bif gs o then 0 = n ∧ k else False | _ => False
  | .nilI => match d with | .nilI => k | _ => False
  | .nilS => match d with | .nilS => k | _ => False
  | d' => d = d' ∧ k
def impL (gs : Nat → Bool) (l : List D) : List D → Prop → Prop := @List.rec D (fun _ => List D → Prop → Prop)
  (fun l' k => match l' with | [] => k | _ :: _ => False) (fun x _ ih l' k => match l' with | [] => False | y :: s => impC gs x y (ih s k)) l
theorem impL_nil (gs : Nat → Bool) (k : Prop) : impL gs [] [] k = k := rfl
theorem impL_cons (gs : Nat → Bool) (x y : D) (r s : List D) (k : Prop) : impL gs (x :: r) (y :: s) k = impC gs x y (impL gs r s k) := rfl
/-- With the parts of structures and tuples, two levels deep. -/
def impB (gs : Nat → Bool) (x y : D) (k : Prop) : Prop := match y with
  | .agg l => match x with | .agg l' => impL gs l' l k | _ => False
  | y => impC gs x y k
def impAL (gs : Nat → Bool) (l : List D) : List D → Prop → Prop := @List.rec D (fun _ => List D → Prop → Prop)
  (fun l' k => match l' with | [] => k | _ :: _ => False) (fun x _ ih l' k => match l' with | [] => False | y :: s => impB gs x y (ih s k)) l
def impA (gs : Nat → Bool) (d d' : D) (k : Prop) : Prop := match d' with
  | .agg l => match d with | .agg l' => impL gs l' l k | _ => False
  | .tup l => match d with | .tup l' => impAL gs l' l k | _ => False
  | d' => impC gs d d' k
def impE (gs : Nat → Bool) (e : Env) (l : List (Nat × D)) : Prop → Prop := @List.rec (Nat × D) (fun _ => Prop → Prop) (fun k => k) (fun p _ ih k => impA gs (e p.1) p.2 (ih k)) l
def impO (gs : Nat → Bool) (x y : Option Ob) (k : Prop) : Prop := match y with
  | none => match x with | none => k | _ => False
  | some (.row cs) => match x with | some (.row cs') => impL gs cs' cs k | _ => False
  | some (.buf e s n g) => match x with | some (.buf e' s' n' g') => bif Nat.beq e' e && Nat.beq s' s then n' = n ∧ (∀ i j, i < n → j < s → g' i j = g i j) ∧ k else False | _ => False
  | some (.mp m) => match x with | some (.mp m') => bif ksEq m'.ks m.ks && ekEq m'.ek m.ek then m'.n = m.n ∧ (∀ q, keyOK m.ks q → m'.has q = m.has q) ∧ (∀ q j, keyOK m.ks q → m.has q = true → m'.get q j = m.get q j) ∧ k else False | _ => False
  | some (.lp l p) => match x with | some (.lp l' p') => l' = l ∧ p' = p ∧ k | _ => False
def impH (gs : Nat → Bool) (H H' : HL) : Prop → Prop := @List.rec (Option Ob) (fun _ => HL → Prop → Prop) (fun _ k => k) (fun y _ ih H k => match H with | [] => False | x :: r => impO gs x y (ih r k)) H' H
def lenB : HL → HL → Bool
  | [], [] => true
  | _ :: r, _ :: s => lenB r s
  | _, _ => false
def idb : Nat → Nat → D → Bool
  | 0, _, _ => false
  | f + 1, n, d => match d with
    | .ptr o _ => Nat.blt o n
    | .own o _ => Nat.blt o n
    | .optr o _ _ _ _ => Nat.blt o n
    | .map o => Nat.blt o n
    | .yld o => Nat.blt o n
    | .stamp o _ => Nat.blt o n
    | .agg l => l.all (idb f n)
    | .tup l => l.all (idb f n)
    | .fn _ a b => a.all (idb f n) && b.all (idb f n)
    | .iface _ d => idb f n d
    | _ => true
def dfIds (n : Nat) : Option (List D) → Bool
  | none => true
  | some df => df.all (idb 4 n)
def idsOK (n : Nat) (sl : List (Nat × D)) (H : HL) (df : Option (List D)) : Bool := (sl.all (fun p => idb 4 n p.2) && H.all fun
  | some (.row cs) => cs.all (idb 4 n)
  | _ => true) && dfIds n df
def envOf : List (Nat × D) → Env
  | [], _ => .top
  | (i, d) :: r, j => bif Nat.beq j i then d else envOf r j

def ghosts (gh : List (Nat × Nat)) : HL := gh.map fun p => some (.buf p.1 p.2 0 fun _ _ => .top)
def isGh (n m : Nat) (o : Nat) : Bool := Nat.ble n o && Nat.blt o (n + m)
def noGh : Nat → Bool := fun _ => false
def refE (c : Operand) (e : Env) (d : D) : Env := match c with
  | .tmp i => upd e i d
  | _ => e

abbrev VK := (VX → St → Prop) → St → Prop
def initE : List D → Env
  | [], _ => .top
  | d :: r, j => match j with
    | 0 => d
    | j + 1 => initE r j
def vcSeq (y : VK) (K : VX → St → Prop) (e : VX) (s' : St) : Prop := match e with
  | .normal => y K s'
  | e => K e s'
def vcBlock (id : Nat) (K : VX → St → Prop) (e : VX) (s' : St) : Prop := match e with
  | .exit i => bif Nat.beq i id then K .normal s' else K (.exit i) s'
  | e => K e s'
def vcCond (c : Operand) (x y : VK) (K : VX → St → Prop) (s : St) : Prop := match s with
  | ⟨e0, H0, df0⟩ => match ev e0 c with
    | .tt => x K ⟨e0, H0, df0⟩
    | .ff => y K ⟨e0, H0, df0⟩
    | .bool b => (b = true → x K ⟨refE c e0 .tt, H0, df0⟩) ∧ (b = false → y K ⟨refE c e0 .ff, H0, df0⟩)
    | _ => False
theorem vcCond_eq (c : Operand) (x y : VK) (K : VX → St → Prop) (s : St) : vcCond c x y K s = (match ev s.e c with
  | .tt => x K s
  | .ff => y K s
  | .bool b => (b = true → x K ⟨refE c s.e .tt, s.H, s.df⟩) ∧ (b = false → y K ⟨refE c s.e .ff, s.H, s.df⟩)
  | _ => False) := by cases s; rfl
def vcRound {G : Type} (sl : G → List (Nat × D)) (hp : G → HL) (m : G → Nat) (I : G → Prop) (df : Option (List D)) (g : G) (K : VX → St → Prop) (e : VX) (s' : St) : Prop := match e with
  | .normal => ∃ g', s'.df = df ∧ impE noGh s'.e (sl g') (impH noGh s'.H (hp g') (I g' ∧ m g' < m g))
  | e => K e s'
def vcLoop1 (x : VK) (K : VX → St → Prop) (s : St) : Prop := match s with
  | ⟨e0, H0, df0⟩ => ∃ (G : Type) (sl : G → List (Nat × D)) (hp : G → HL) (m : G → Nat) (I : G → Prop) (gh : List (Nat × Nat)) (g0 : G),
    (∀ g, idsOK (H0 ++ ghosts gh).length (sl g) (hp g) df0 = true ∧ lenB (hp g) (H0 ++ ghosts gh) = true) ∧ impE (isGh H0.length gh.length) e0 (sl g0) (impH (isGh H0.length gh.length) (H0 ++ ghosts gh) (hp g0) (I g0)) ∧
    ∀ g, I g → x (vcRound sl hp m I df0 g K) ⟨envOf (sl g), hp g, df0⟩
theorem vcLoop1_eq (x : VK) (K : VX → St → Prop) (s : St) : vcLoop1 x K s = (∃ (G : Type) (sl : G → List (Nat × D)) (hp : G → HL) (m : G → Nat) (I : G → Prop) (gh : List (Nat × Nat)) (g0 : G),
  (∀ g, idsOK (s.H ++ ghosts gh).length (sl g) (hp g) s.df = true ∧ lenB (hp g) (s.H ++ ghosts gh) = true) ∧ impE (isGh s.H.length gh.length) s.e (sl g0) (impH (isGh s.H.length gh.length) (s.H ++ ghosts gh) (hp g0) (I g0)) ∧
  ∀ g, I g → x (vcRound sl hp m I s.df g K) ⟨envOf (sl g), hp g, s.df⟩) := by cases s; rfl
def vcLoop (x : VK) (K : VX → St → Prop) (s : St) : Prop := match s with
  | ⟨e0, H0, df0⟩ => fzh H0 fun H => vcLoop1 x K ⟨e0, H, df0⟩
theorem vcLoop_eq (x : VK) (K : VX → St → Prop) (s : St) : vcLoop x K s = (fzh s.H fun H => vcLoop1 x K ⟨s.e, H, s.df⟩) := by cases s; rfl
/-- The parameters of a round. -/
def bindE (N : Nat) (ps : List Nat) : List D → Env → (Env → Prop) → Prop := @List.rec Nat (fun _ => List D → Env → (Env → Prop) → Prop)
  (fun ds e k => match ds with | [] => k e | _ => False) (fun p _ ih ds e k => match ds with | [] => False | d :: ds => bif Nat.blt p N then ih ds (upd e p d) k else False) ps
/-- The loop's record, where it is as it must be. -/
def lpIs (H : HL) (ol : Nat) (r0 : Loop) (p : Pj) (k : Prop) : Prop := match hget H ol with
  | some (.lp r q) => (r = r0 ∧ q = p) ∧ k
  | _ => False
def lpEnd (K : Res → HL → Prop) (ol : Nat) (r0 : Loop) (x : VX) (s : St) : Prop := match s with
  | ⟨e0, H0, df0⟩ => match x with
    | .normal => lpIs H0 ol r0 .busy (K (.ret .tt) (H0.set ol (some (.lp r0 .ready))))
    | .ret => lpIs H0 ol r0 .busy (K (.ret .ff) (H0.set ol (some (.lp r0 .ret))))
    | .exit i => lpIs H0 ol r0 .busy (K (.ret .ff) (H0.set ol (some (.lp r0 (.exit i)))))
    | .panic _ => False
theorem lpEnd_eq (K : Res → HL → Prop) (ol : Nat) (r0 : Loop) (x : VX) (s : St) : lpEnd K ol r0 x s = (match x with
  | .normal => lpIs s.H ol r0 .busy (K (.ret .tt) (s.H.set ol (some (.lp r0 .ready))))
  | .ret => lpIs s.H ol r0 .busy (K (.ret .ff) (s.H.set ol (some (.lp r0 .ret))))
  | .exit i => lpIs s.H ol r0 .busy (K (.ret .ff) (s.H.set ol (some (.lp r0 (.exit i)))))
  | .panic _ => False) := by cases s; rfl
def lpBody (body : VK) (K : Res → HL → Prop) (ol : Nat) (r0 : Loop) (x : VX) (s : St) : Prop := match s with
  | ⟨e0, H0, df0⟩ => match x with
    | .normal => lpIs H0 ol r0 .ready (body (lpEnd K ol r0) ⟨e0, H0.set ol (some (.lp r0 .busy)), none⟩)
    | _ => False
theorem lpBody_eq (body : VK) (K : Res → HL → Prop) (ol : Nat) (r0 : Loop) (x : VX) (s : St) : lpBody body K ol r0 x s = (match x with
  | .normal => lpIs s.H ol r0 .ready (body (lpEnd K ol r0) ⟨s.e, s.H.set ol (some (.lp r0 .busy)), none⟩)
  | _ => False) := by cases s; rfl
/-- A call of yield. -/
def vcYield (N : Nat) (ol : Nat) (e : Env) (r0 : Loop) (ps : List Nat) (asg body : VK) : CRule := fun ds H K =>
  lpIs H ol r0 .ready (bindE N ps ds e fun e1 => asg (lpBody body K ol r0) ⟨e1, H, none⟩)
def lpOut (K : VX → St → Prop) (s : St) (ol : Nat) (r : Res) (H : HL) : Prop := match s with
  | ⟨e0, H0, df0⟩ => match r with
    | .pan d => fzh H fun H => K (.panic d) ⟨e0, H, df0⟩
    | .ret _ => match hget H ol with
      | some (.lp r p) => match p with
        | .ready => fzh (H.set ol (some (.lp r .gone))) fun H => K .normal ⟨e0, H, df0⟩
        | .ret => fzh (H.set ol (some (.lp r .gone))) fun H => K .ret ⟨e0, H, df0⟩
        | .exit i => fzh (H.set ol (some (.lp r .gone))) fun H => K (.exit i) ⟨e0, H, df0⟩
        | _ => False
      | _ => False
theorem lpOut_eq (K : VX → St → Prop) (s : St) (ol : Nat) (r : Res) (H : HL) : lpOut K s ol r H = (match r with
  | .pan d => fzh H fun H => K (.panic d) ⟨s.e, H, s.df⟩
  | .ret _ => match hget H ol with
    | some (.lp r p) => match p with
      | .ready => fzh (H.set ol (some (.lp r .gone))) fun H => K .normal ⟨s.e, H, s.df⟩
      | .ret => fzh (H.set ol (some (.lp r .gone))) fun H => K .ret ⟨s.e, H, s.df⟩
      | .exit i => fzh (H.set ol (some (.lp r .gone))) fun H => K (.exit i) ⟨s.e, H, s.df⟩
      | _ => False
    | _ => False) := by cases s; rfl
def vcRange (C : Cx) (N : Nat) (f : Operand) (ps : Array Nat) (asg body : VK) (K : VX → St → Prop) (s : St) : Prop := match s with
  | ⟨e0, H0, df0⟩ => match ev e0 f with
    | .fn g fs cs => match C.iter g with
      | some it => match df0 with
        | some df => fzh H0 fun H => fzn H.length fun n => ∀ r0 : Loop, fzl (fs ++ [.yld n] ++ cs) fun ds => it n (vcYield N n e0 r0 ps.toList asg body) ds (H ++ [some (.lp r0 .ready)]) (lpOut K ⟨e0, H, some df⟩ n)
        | none => False
      | none => False
    | _ => False
theorem vcRange_eq (C : Cx) (N : Nat) (f : Operand) (ps : Array Nat) (asg body : VK) (K : VX → St → Prop) (s : St) : vcRange C N f ps asg body K s = (match ev s.e f with
  | .fn g fs cs => match C.iter g with
    | some it => match s.df with
      | some df => fzh s.H fun H => ∀ r0 : Loop, it H.length (vcYield N H.length s.e r0 ps.toList asg body) (fs ++ [.yld H.length] ++ cs) (H ++ [some (.lp r0 .ready)]) (lpOut K ⟨s.e, H, some df⟩ H.length)
      | none => False
    | none => False
  | _ => False) := by
  cases s
  simp only [vcRange, fzn_eq, fzl_eq]
def vc (C : Cx) (N : Nat) (c : Code) : VK := @Code.rec (fun _ => VK)
  (fun K s => K .normal s)
  (fun _ ops draw K s => bif draw then vdraw C N ops K s else vops C N ops.toList K ops.toList s)
  (fun _ _ x y K s => x (vcSeq y K) s)
  (fun c _ _ x y K s => vcCond c x y K s)
  (fun id _ x K s => x (vcBlock id K) s)
  (fun _ x K s => vcLoop x K s)
  (fun f ps _ _ x y K s => vcRange C N f ps x y K s)
  (fun i K s => K (.exit i) s)
  (fun _ _ _ _ => False)
  (fun _ _ _ => False)
  (fun _ _ _ => False)
  (fun K s => K .ret s)
  (fun _ _ _ => False) c

def vresB (C : Cx) (r : ResultVar) (e : Env) (H : HL) (k : D → Prop) : Prop := match r with
  | .tmp t => fz (e t) k
  | .cell a t => vload (C.ty t) (e a) H k
def vres (C : Cx) (rs : List ResultVar) (e : Env) (H : HL) : (List D → Prop) → Prop := @List.rec ResultVar (fun _ => (List D → Prop) → Prop) (fun k => k []) (fun r _ ih k => vresB C r e H fun d => ih fun ds => k (d :: ds)) rs
def imp1 (d : D) (k : D → Prop) : Prop := ∃ d0, k d0 ∧ Imp d d0
/-- A function leaves: its deferred calls; then its results, or its panic. -/
def vleave (C : Cx) (rs : List ResultVar) (e : Env) (fin : List D → HL → Prop) (finP : D → HL → Prop) (df : List D) : Md → HL → Prop := @List.rec D (fun _ => Md → HL → Prop)
  (fun md H => match md with | .ret => vres C rs e H fun ds => fin ds H | .pan d => finP d H)
  (fun d _ ih md H => match d with
    | .fn f fs cs => match C.dfr f with
      | some dr => dr md (fs ++ cs) H fun md H => fzh H fun H => ih md H
      | none => False
    | _ => False) df
def vbody (C : Cx) (fn : Func) (code : Code) (fin : List D → HL → Prop) (finP : D → HL → Prop) (ds : List D) (H : HL) : Prop := vc C fn.ntmps code (fun x s => match s.df with
  | some df => (match x with
    | .ret => vleave C fn.results.toList s.e fin finP df .ret s.H
    | .normal => vleave C fn.results.toList s.e fin finP df .ret s.H
    | .panic d => vleave C fn.results.toList s.e fin finP df (.pan d) s.H
    | .exit _ => False)
  | none => False) ⟨initE ds, H, some []⟩
def finPure (k : D → Prop) (ds : List D) (H : HL) : Prop := viewal H ds fun ds => bif ds.all noRef then (match ds with
  | [d] => imp1 d k
  | ds => imp1 (.tup ds) k) else False
def finCall (K : Res → HL → Prop) (ds : List D) (H : HL) : Prop := match ds with
  | [d] => K (.ret d) H
  | ds => K (.ret (.tup ds)) H
def vfun (C : Cx) (fn : Func) (code : Code) (k : D → Prop) (ds : List D) : Prop := vbody C fn code (finPure k) (fun _ _ => False) ds []
/-- A function's rule out of its code. -/
def inlC (C : Cx) (fn : Func) (code : Code) : CRule := fun ds H K => bif Nat.ble ds.length fn.ntmps then vbody C fn code (finCall K) (fun d H => K (.pan d) H) ds H else False
def inlI (C : Cx) (fn : Func) (code : Code) : IRule := fun ol h => inlC { C with yld := some (ol, h) } fn code
/-- A function that is deferred, and asks first of all what panic there is. -/
def recD : Md → D
  | .ret => .nilI
  | .pan d => d
def recOp (o : Oper) : Bool := match o.guard with
  | none => match o.op with
    | .call c => match c.callee with
      | .builtin .recover => nilB (c.args.toList.map fun _ => 0)
      | _ => false
    | _ => false
  | _ => false
def inlD (C : Cx) (fn : Func) (code : Code) : DRule := fun md ds H K => match code with
  | .seq (.region _ ops false) rest => match ops.toList with
    | [o1, o2] => bif recOp o1 && Nat.ble ds.length fn.ntmps then (match o2.guard with
      | none => match o2.op with
        | .assign (.tmp t) => fz (recD md) fun d0 => vput fn.ntmps (initE ds) o1.dst d0 fun e => vput fn.ntmps e o2.dst (e t) fun e =>
            vc { C with iter := fun _ => none } fn.ntmps rest (fun x s => match x with
              | .ret => match s.df with | some [] => K .ret s.H | _ => False
              | .normal => match s.df with | some [] => K .ret s.H | _ => False
              | _ => False) ⟨e, H, some []⟩
        | _ => False
      | _ => False) else False
    | _ => False
  | _ => False

end Go.V
