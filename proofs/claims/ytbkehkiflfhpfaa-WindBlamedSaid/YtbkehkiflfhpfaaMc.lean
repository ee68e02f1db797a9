/-
  A small logic of our own, part 12: code, loops, functions.
-/
import Derived.Test.YtbkehkiflfhpfaaMb
import Derived.DeepKeys4
import Derived.StringKeys
import Derived.Test.YtbkehkiflfhpfaaProg
import Derived.ProofKit
import Derived.OpenShut
import Derived.ChangeCalls
section
set_option linter.unusedVariables false
set_option linter.unusedSimpArgs false
namespace Go.V

/-- One value tells at least what the other tells; then k. -/
def impC (gs : Nat → Bool) (d d' : D) (k : Prop) : Prop := match d' with
  | .top => k
  | .tt => match d with | .tt => k | .bool b => b = true ∧ k | _ => False
  | .ff => match d with | .ff => k | .bool b => b = false ∧ k | _ => False
  | .bool b => match d with | .tt => true = b ∧ k | .ff => false = b ∧ k | .bool b' => b' = b ∧ k | _ => False
  | .int q n => match d with | .int q' n' => bif keq q' q then n' = n ∧ k else False | _ => False
  | .str s => match d with | .str s' => s' = s ∧ k | _ => False
  | .rsl s n g => match d with | .rsl s' n' g' => bif Nat.beq s' s then n' = n ∧ (∀ i j, i < n → j < s → g' i j = g i j) ∧ k else False | .nilS => 0 = n ∧ k | _ => False
  | .eptr n g => match d with | .eptr n' g' => n' = n ∧ (∀ j, j < n → g' j = g j) ∧ k | _ => False
  | .ptr o f => match d with | .ptr o' f' => bif Nat.beq o' o && Nat.beq f' f then k else False | _ => False
  | .own o n => match d with | .own o' n' => bif Nat.beq o' o then n' = n ∧ k else False | .nilS => bif gs o then 0 = n ∧ k else False | _ => False
  | .nilI => match d with | .nilI => k | _ => False
  | .nilS => match d with | .nilS => k | _ => False
  | d' => d = d' ∧ k
def impL (gs : Nat → Bool) (l : List D) : List D → Prop → Prop := @List.rec D (fun _ => List D → Prop → Prop)
  (fun l' k => match l' with | [] => k | _ :: _ => False) (fun x _ ih l' k => match l' with | [] => False | y :: s => impC gs x y (ih s k)) l
theorem impL_nil (gs : Nat → Bool) (k : Prop) : impL gs [] [] k = k := rfl
theorem impL_cons (gs : Nat → Bool) (x y : D) (r s : List D) (k : Prop) : impL gs (x :: r) (y :: s) k = impC gs x y (impL gs r s k) := rfl
/-- With the parts of structures and tuples, two levels deep. -/
def impB (gs : Nat → Bool) (x y : D) (k : Prop) : Prop := match y with
  | .agg l => match x with | .agg l' => impL gs l' l k | _ => False
  | y => impC gs x y k
def impAL (gs : Nat → Bool) (l : List D) : List D → Prop → Prop := @List.rec D (fun _ => List D → Prop → Prop)
  (fun l' k => match l' with | [] => k | _ :: _ => False) (fun x _ ih l' k => match l' with | [] => False | y :: s => impB gs x y (ih s k)) l
def impA (gs : Nat → Bool) (d d' : D) (k : Prop) : Prop := match d' with
  | .agg l => match d with | .agg l' => impL gs l' l k | _ => False
  | .tup l => match d with | .tup l' => impAL gs l' l k | _ => False
  | d' => impC gs d d' k
def impE (gs : Nat → Bool) (e : Env) (l : List (Nat × D)) : Prop → Prop := @List.rec (Nat × D) (fun _ => Prop → Prop) (fun k => k) (fun p _ ih k => impA gs (e p.1) p.2 (ih k)) l
def impO (gs : Nat → Bool) (x y : Option Ob) (k : Prop) : Prop := match y with
  | none => match x with | none => k | _ => False
  | some (.row cs) => match x with | some (.row cs') => impL gs cs' cs k | _ => False
  | some (.buf e s n g) => match x with | some (.buf e' s' n' g') => bif Nat.beq e' e && Nat.beq s' s then n' = n ∧ (∀ i j, i < n → j < s → g' i j = g i j) ∧ k else False | _ => False
  | some (.mp m) => match x with | some (.mp m') => bif ksEq m'.ks m.ks && ekEq m'.ek m.ek then m'.n = m.n ∧ (∀ q, keyOK m.ks q → m'.has q = m.has q) ∧ (∀ q j, keyOK m.ks q → m.has q = true → m'.get q j = m.get q j) ∧ k else False | _ => False
  | some (.lp l p) => match x with | some (.lp l' p') => l' = l ∧ p' = p ∧ k | _ => False
  | some .dead => match x with | some .dead => k | _ => False
def impH (gs : Nat → Bool) (H H' : HL) : Prop → Prop := @List.rec (Option Ob) (fun _ => HL → Prop → Prop) (fun _ k => k) (fun y _ ih H k => match H with | [] => False | x :: r => impO gs x y (ih r k)) H' H
def lenB : HL → HL → Bool
  | [], [] => true
  | _ :: r, _ :: s => lenB r s
  | _, _ => false
def idb : Nat → Nat → D → Bool
  | 0, _, _ => false
  | f + 1, n, d => match d with
    | .ptr o _ => Nat.blt o n
    | .own o _ => Nat.blt o n
    | .optr o _ _ _ _ => Nat.blt o n
    | .map o => Nat.blt o n
    | .yld o => Nat.blt o n
    | .stamp o _ => Nat.blt o n
    | .agg l => l.all (idb f n)
    | .tup l => l.all (idb f n)
    | .fn _ a b => a.all (idb f n) && b.all (idb f n)
    | .iface _ d => idb f n d
    | _ => true
def dfIds (n : Nat) : Option (List D) → Bool
  | none => true
  | some df => df.all (idb 4 n)
def idsOK (n : Nat) (sl : List (Nat × D)) (H : HL) (df : Option (List D)) : Bool := (sl.all (fun p => idb 4 n p.2) && H.all fun
  | some (.row cs) => cs.all (idb 4 n)
  | _ => true) && dfIds n df
def envOf : List (Nat × D) → Env
  | [], _ => .top
  | (i, d) :: r, j => bif Nat.beq j i then d else envOf r j

def ghosts (gh : List (Nat × Nat)) : HL := gh.map fun p => some (.buf p.1 p.2 0 fun _ _ => .top)
def isGh (n m : Nat) (o : Nat) : Bool := Nat.ble n o && Nat.blt o (n + m)
def noGh : Nat → Bool := fun _ => false
def refE (c : Operand) (e : Env) (d : D) : Env := match c with
  | .tmp i => upd e i d
  | _ => e

abbrev VK := (VX → St → Prop) → St → Prop
def initE : List D → Env
  | [], _ => .top
  | d :: r, j => match j with
    | 0 => d
    | j + 1 => initE r j
def vcSeq (y : VK) (K : VX → St → Prop) (e : VX) (s' : St) : Prop := match e with
  | .normal => y K s'
  | e => K e s'
def vcBlock (id : Nat) (K : VX → St → Prop) (e : VX) (s' : St) : Prop := match e with
  | .exit i => bif Nat.beq i id then K .normal s' else K (.exit i) s'
  | e => K e s'
def vcCond (c : Operand) (x y : VK) (K : VX → St → Prop) (s : St) : Prop := match s with
  | ⟨e0, H0, df0⟩ => match ev e0 c with
    | .tt => x K ⟨e0, H0, df0⟩
    | .ff => y K ⟨e0, H0, df0⟩
    | .bool b => (b = true → x K ⟨refE c e0 .tt, H0, df0⟩) ∧ (b = false → y K ⟨refE c e0 .ff, H0, df0⟩)
    | _ => False
theorem vcCond_eq (c : Operand) (x y : VK) (K : VX → St → Prop) (s : St) : vcCond c x y K s = (match ev s.e c with
  | .tt => x K s
  | .ff => y K s
  | .bool b => (b = true → x K ⟨refE c s.e .tt, s.H, s.df⟩) ∧ (b = false → y K ⟨refE c s.e .ff, s.H, s.df⟩)
  | _ => False) := by cases s; rfl
def vcRound {G : Type} (sl : G → List (Nat × D)) (hp : G → HL) (m : G → Nat) (I : G → Prop) (df : Option (List D)) (g : G) (K : VX → St → Prop) (e : VX) (s' : St) : Prop := match e with
  | .normal => ∃ g', s'.df = df ∧ impE noGh s'.e (sl g') (impH noGh s'.H (hp g') (I g' ∧ m g' < m g))
  | e => K e s'
def vcLoop1 (x : VK) (K : VX → St → Prop) (s : St) : Prop := match s with
  | ⟨e0, H0, df0⟩ => ∃ (G : Type) (sl : G → List (Nat × D)) (hp : G → HL) (m : G → Nat) (I : G → Prop) (gh : List (Nat × Nat)) (g0 : G),
    (∀ g, idsOK (H0 ++ ghosts gh).length (sl g) (hp g) df0 = true ∧ lenB (hp g) (H0 ++ ghosts gh) = true) ∧ impE (isGh H0.length gh.length) e0 (sl g0) (impH (isGh H0.length gh.length) (H0 ++ ghosts gh) (hp g0) (I g0)) ∧
    ∀ g, I g → x (vcRound sl hp m I df0 g K) ⟨envOf (sl g), hp g, df0⟩
theorem vcLoop1_eq (x : VK) (K : VX → St → Prop) (s : St) : vcLoop1 x K s = (∃ (G : Type) (sl : G → List (Nat × D)) (hp : G → HL) (m : G → Nat) (I : G → Prop) (gh : List (Nat × Nat)) (g0 : G),
  (∀ g, idsOK (s.H ++ ghosts gh).length (sl g) (hp g) s.df = true ∧ lenB (hp g) (s.H ++ ghosts gh) = true) ∧ impE (isGh s.H.length gh.length) s.e (sl g0) (impH (isGh s.H.length gh.length) (s.H ++ ghosts gh) (hp g0) (I g0)) ∧
  ∀ g, I g → x (vcRound sl hp m I s.df g K) ⟨envOf (sl g), hp g, s.df⟩) := by cases s; rfl
def vcLoop (x : VK) (K : VX → St → Prop) (s : St) : Prop := match s with
  | ⟨e0, H0, df0⟩ => fzh H0 fun H => vcLoop1 x K ⟨e0, H, df0⟩
theorem vcLoop_eq (x : VK) (K : VX → St → Prop) (s : St) : vcLoop x K s = (fzh s.H fun H => vcLoop1 x K ⟨s.e, H, s.df⟩) := by cases s; rfl
/-- The parameters of a round. -/
def bindE (N : Nat) (ps : List Nat) : List D → Env → (Env → Prop) → Prop := @List.rec Nat (fun _ => List D → Env → (Env → Prop) → Prop)
  (fun ds e k => match ds with | [] => k e | _ => False) (fun p _ ih ds e k => match ds with | [] => False | d :: ds => bif Nat.blt p N then ih ds (upd e p d) k else False) ps
/-- The loop's record, where it is as it must be. -/
def lpIs (H : HL) (ol : Nat) (r0 : Loop) (p : Pj) (k : Prop) : Prop := match hget H ol with
  | some (.lp r q) => (r = r0 ∧ q = p) ∧ k
  | _ => False
def lpEnd (K : Res → HL → Prop) (ol : Nat) (r0 : Loop) (x : VX) (s : St) : Prop := match s with
  | ⟨e0, H0, df0⟩ => match x with
    | .normal => lpIs H0 ol r0 .busy (K (.ret .tt) (H0.set ol (some (.lp r0 .ready))))
    | .ret => lpIs H0 ol r0 .busy (K (.ret .ff) (H0.set ol (some (.lp r0 .ret))))
    | .exit i => lpIs H0 ol r0 .busy (K (.ret .ff) (H0.set ol (some (.lp r0 (.exit i)))))
    | .panic _ => False
theorem lpEnd_eq (K : Res → HL → Prop) (ol : Nat) (r0 : Loop) (x : VX) (s : St) : lpEnd K ol r0 x s = (match x with
  | .normal => lpIs s.H ol r0 .busy (K (.ret .tt) (s.H.set ol (some (.lp r0 .ready))))
  | .ret => lpIs s.H ol r0 .busy (K (.ret .ff) (s.H.set ol (some (.lp r0 .ret))))
  | .exit i => lpIs s.H ol r0 .busy (K (.ret .ff) (s.H.set ol (some (.lp r0 (.exit i)))))
  | .panic _ => False) := by cases s; rfl
def lpBody (body : VK) (K : Res → HL → Prop) (ol : Nat) (r0 : Loop) (x : VX) (s : St) : Prop := match s with
  | ⟨e0, H0, df0⟩ => match x with
    | .normal => lpIs H0 ol r0 .ready (body (lpEnd K ol r0) ⟨e0, H0.set ol (some (.lp r0 .busy)), none⟩)
    | _ => False
theorem lpBody_eq (body : VK) (K : Res → HL → Prop) (ol : Nat) (r0 : Loop) (x : VX) (s : St) : lpBody body K ol r0 x s = (match x with
  | .normal => lpIs s.H ol r0 .ready (body (lpEnd K ol r0) ⟨s.e, s.H.set ol (some (.lp r0 .busy)), none⟩)
  | _ => False) := by cases s; rfl
/-- A call of yield. -/
def vcYield (N : Nat) (ol : Nat) (e : Env) (r0 : Loop) (ps : List Nat) (asg body : VK) : CRule := fun ds H K =>
  lpIs H ol r0 .ready (bindE N ps ds e fun e1 => asg (lpBody body K ol r0) ⟨e1, H, none⟩)
def lpOut (K : VX → St → Prop) (s : St) (ol : Nat) (r : Res) (H : HL) : Prop := match s with
  | ⟨e0, H0, df0⟩ => match r with
    | .pan d => fzh H fun H => K (.panic d) ⟨e0, H, df0⟩
    | .ret _ => match hget H ol with
      | some (.lp r p) => match p with
        | .ready => fzh (H.set ol (some (.lp r .gone))) fun H => K .normal ⟨e0, H, df0⟩
        | .ret => fzh (H.set ol (some (.lp r .gone))) fun H => K .ret ⟨e0, H, df0⟩
        | .exit i => fzh (H.set ol (some (.lp r .gone))) fun H => K (.exit i) ⟨e0, H, df0⟩
        | _ => False
      | _ => False
theorem lpOut_eq (K : VX → St → Prop) (s : St) (ol : Nat) (r : Res) (H : HL) : lpOut K s ol r H = (match r with
  | .pan d => fzh H fun H => K (.panic d) ⟨s.e, H, s.df⟩
  | .ret _ => match hget H ol with
    | some (.lp r p) => match p with
      | .ready => fzh (H.set ol (some (.lp r .gone))) fun H => K .normal ⟨s.e, H, s.df⟩
      | .ret => fzh (H.set ol (some (.lp r .gone))) fun H => K .ret ⟨s.e, H, s.df⟩
      | .exit i => fzh (H.set ol (some (.lp r .gone))) fun H => K (.exit i) ⟨s.e, H, s.df⟩
      | _ => False
    | _ => False) := by cases s; rfl
def vcRange (C : Cx) (N : Nat) (f : Operand) (ps : Array Nat) (asg body : VK) (K : VX → St → Prop) (s : St) : Prop := match s with
  | ⟨e0, H0, df0⟩ => match ev e0 f with
    | .fn g fs cs => match C.iter g with
      | some it => match df0 with
        | some df => fzh H0 fun H => fzn H.length fun n => ∀ r0 : Loop, fzl (fs ++ [.yld n] ++ cs) fun ds => it n (vcYield N n e0 r0 ps.toList asg body) ds (H ++ [some (.lp r0 .ready)]) (lpOut K ⟨e0, H, some df⟩ n)
        | none => False
      | none => False
    | _ => False
theorem vcRange_eq (C : Cx) (N : Nat) (f : Operand) (ps : Array Nat) (asg body : VK) (K : VX → St → Prop) (s : St) : vcRange C N f ps asg body K s = (match ev s.e f with
  | .fn g fs cs => match C.iter g with
    | some it => match s.df with
      | some df => fzh s.H fun H => ∀ r0 : Loop, it H.length (vcYield N H.length s.e r0 ps.toList asg body) (fs ++ [.yld H.length] ++ cs) (H ++ [some (.lp r0 .ready)]) (lpOut K ⟨s.e, H, some df⟩ H.length)
      | none => False
    | none => False
  | _ => False) := by
  cases s
  simp only [vcRange, fzn_eq, fzl_eq]
def vc (C : Cx) (N : Nat) (c : Code) : VK := @Code.rec (fun _ => VK)
  (fun K s => K .normal s)
  (fun _ ops draw K s => bif draw then vdraw C N ops K s else vops C N ops.toList K ops.toList s)
  (fun _ _ x y K s => x (vcSeq y K) s)
  (fun c _ _ x y K s => vcCond c x y K s)
  (fun id _ x K s => x (vcBlock id K) s)
  (fun _ x K s => vcLoop x K s)
  (fun f ps _ _ x y K s => vcRange C N f ps x y K s)
  (fun i K s => K (.exit i) s)
  (fun _ _ _ _ => False)
  (fun _ _ _ => False)
  (fun _ _ _ => False)
  (fun K s => K .ret s)
  (fun _ _ _ => False) c

def vresB (C : Cx) (r : ResultVar) (e : Env) (H : HL) (k : D → Prop) : Prop := match r with
  | .tmp t => fz (e t) k
  | .cell a t => vload (C.ty t) (e a) H k
def vres (C : Cx) (rs : List ResultVar) (e : Env) (H : HL) : (List D → Prop) → Prop := @List.rec ResultVar (fun _ => (List D → Prop) → Prop) (fun k => k []) (fun r _ ih k => vresB C r e H fun d => ih fun ds => k (d :: ds)) rs
def imp1 (d : D) (k : D → Prop) : Prop := ∃ d0, k d0 ∧ Imp d d0
/-- A function leaves: its deferred calls; then its results, or its panic. -/
def vleave (C : Cx) (rs : List ResultVar) (e : Env) (fin : List D → HL → Prop) (finP : D → HL → Prop) (df : List D) : Md → HL → Prop := @List.rec D (fun _ => Md → HL → Prop)
  (fun md H => match md with | .ret => vres C rs e H fun ds => fin ds H | .pan d => finP d H)
  (fun d _ ih md H => match d with
    | .fn f fs cs => match C.dfr f with
      | some dr => dr md (fs ++ cs) H fun md H => fzh H fun H => ih md H
      | none => False
    | _ => False) df
def vbody (C : Cx) (fn : Func) (code : Code) (fin : List D → HL → Prop) (finP : D → HL → Prop) (ds : List D) (H : HL) : Prop := vc C fn.ntmps code (fun x s => match s.df with
  | some df => (match x with
    | .ret => vleave C fn.results.toList s.e fin finP df .ret s.H
    | .normal => vleave C fn.results.toList s.e fin finP df .ret s.H
    | .panic d => vleave C fn.results.toList s.e fin finP df (.pan d) s.H
    | .exit _ => False)
  | none => False) ⟨initE ds, H, some []⟩
def finPure (k : D → Prop) (ds : List D) (H : HL) : Prop := viewal H ds fun ds => bif ds.all noRef then (match ds with
  | [d] => imp1 d k
  | ds => imp1 (.tup ds) k) else False
def finCall (K : Res → HL → Prop) (ds : List D) (H : HL) : Prop := match ds with
  | [d] => K (.ret d) H
  | ds => K (.ret (.tup ds)) H
def vfun (C : Cx) (fn : Func) (code : Code) (k : D → Prop) (ds : List D) : Prop := vbody C fn code (finPure k) (fun _ _ => False) ds []
/-- A function's rule out of its code. -/
def inlC (C : Cx) (fn : Func) (code : Code) : CRule := fun ds H K => bif Nat.ble ds.length fn.ntmps then vbody C fn code (finCall K) (fun d H => K (.pan d) H) ds H else False
def inlI (C : Cx) (fn : Func) (code : Code) : IRule := fun ol h => inlC { C with yld := some (ol, h) } fn code
/-- A function that is deferred, and asks first of all what panic there is. -/
def recD : Md → D
  | .ret => .nilI
  | .pan d => d
def recOp (o : Oper) : Bool := match o.guard with
  | none => match o.op with
    | .call c => match c.callee with
      | .builtin .recover => nilB (c.args.toList.map fun _ => 0)
      | _ => false
    | _ => false
  | _ => false
def inlD (C : Cx) (fn : Func) (code : Code) : DRule := fun md ds H K => match code with
  | .seq (.region _ ops false) rest => match ops.toList with
    | [o1, o2] => bif recOp o1 && Nat.ble ds.length fn.ntmps then (match o2.guard with
      | none => match o2.op with
        | .assign (.tmp t) => fz (recD md) fun d0 => vput fn.ntmps (initE ds) o1.dst d0 fun e => vput fn.ntmps e o2.dst (e t) fun e =>
            vc { C with iter := fun _ => none } fn.ntmps rest (fun x s => match x with
              | .ret => match s.df with | some [] => K .ret s.H | _ => False
              | .normal => match s.df with | some [] => K .ret s.H | _ => False
              | _ => False) ⟨e, H, some []⟩
        | _ => False
      | _ => False) else False
    | _ => False
  | _ => False

end Go.V
end
section
set_option linter.unusedVariables false
set_option linter.unusedSimpArgs false
namespace Go.V

section
variable {P : Program} {C : Cx} {T : RT} {N : Nat} {S : Nat → Prop} {w : World} {μ : Mu} {r : Option Nat} {B : Option Nat}

theorem wpIn_loop_ghost {F : Fence} {n : Nat} {c : Code} {G : Type} {Q : Exit → Act → World → Prop} {a : Act} {w : World} (I : G → Act → World → Prop) (m : G → Nat) (g0 : G) (h₀ : I g0 a w)
    (round : ∀ g a w, I g a w → c.wpIn F n P (Exit.then (fun a' w' => ∃ g', I g' a' w' ∧ m g' < m g) Q) a w) : (Code.loop c).wpIn F n P Q a w := by
  intro b k cs hro hb hr
  have key : ∀ j g a w, m g = j → I g a w → ∃ e a' w', Q e a' w' ∧ ArrivesIn (Machine.fenced P F) P (lone (b.atR a (.code c :: .inLoop c :: k)) cs w) b k cs e a' w' := by
    intro j
    induction j using Nat.strongRecOn with
    | _ j ih =>
      intro g a w hn hI
      obtain ⟨e, a₁, w₁, hq, harr⟩ := round g a w hI b (.inLoop c :: k) cs hro hb hr
      cases e with
      | normal =>
        obtain ⟨g', hI₁, hlt⟩ := hq
        obtain ⟨e₂, a₂, w₂, hq₂, harr₂⟩ := ih (m g') (hn ▸ hlt) g' a₁ w₁ rfl hI₁
        exact ⟨e₂, a₂, w₂, hq₂, .of_steps (StepsIn.trans harr (.one (fenced_calm hb hr rfl) stepR_inLoop)) harr₂⟩
      | exit id => exact ⟨_, a₁, w₁, hq, .pass (x := .inLoop c) rfl (fun _ _ => .inl (by simp)) harr⟩
      | goto l => exact ⟨_, a₁, w₁, hq, .pass (x := .inLoop c) rfl (fun _ _ => .inl (by simp)) harr⟩
      | ret => exact ⟨_, a₁, w₁, hq, .pass (x := .inLoop c) rfl (fun _ _ => .inl (by simp)) harr⟩
      | panic ch => exact ⟨_, a₁, w₁, hq, .pass (x := .inLoop c) rfl (fun _ _ => .inl (by simp)) harr⟩
      | outgrown => exact ⟨_, a₁, w₁, hq, .pass (x := .inLoop c) rfl (fun _ _ => .inl (by simp)) harr⟩
  obtain ⟨e, a', w', hq, harr⟩ := key _ g0 a w rfl h₀
  exact ⟨e, a', w', hq, .of_steps (.one (fenced_calm hb hr rfl) stepR_loop) harr⟩

variable {gs : Nat → Bool}
theorem impC_sound (hgs : ∀ o, gs o = true → μ o = some (.slice none 0 0)) {d d' : D} {v : Value} {k : Prop} (h : impC gs d d' k) (hR : R S w μ d v) : R S w μ d' v ∧ k := by
  unfold impC at h
  split at h
  · exact ⟨.top v, h⟩
  · split at h
    · exact ⟨hR, h⟩
    · obtain ⟨rfl, h⟩ := h; cases hR; exact ⟨.tt, h⟩
    · exact h.elim
  · split at h
    · exact ⟨hR, h⟩
    · obtain ⟨rfl, h⟩ := h; cases hR; exact ⟨.ff, h⟩
    · exact h.elim
  · split at h
    · obtain ⟨rfl, h⟩ := h; cases hR; exact ⟨.bool _, h⟩
    · obtain ⟨rfl, h⟩ := h; cases hR; exact ⟨.bool _, h⟩
    · obtain ⟨rfl, h⟩ := h; exact ⟨hR, h⟩
    · exact h.elim
  · split at h
    · rename_i q n _ q' n'
      cases hq : keq q' q with
      | false => simp [hq] at h
      | true =>
        simp only [hq, cond_true] at h
        obtain rfl := keq_eq hq
        obtain ⟨rfl, h⟩ := h
        exact ⟨hR, h⟩
    · exact h.elim
  · split at h
    · obtain ⟨rfl, h⟩ := h; exact ⟨hR, h⟩
    · exact h.elim
  · split at h
    · rename_i s n g _ s' n' g'
      cases hq : Nat.beq s' s with
      | false => simp [hq] at h
      | true =>
        simp only [hq, cond_true] at h
        obtain rfl := Nat.eq_of_beq_eq_true hq
        obtain ⟨rfl, hg, h⟩ := h
        cases hR with
        | rsl _ _ _ A c val h1 h2 h3 => exact ⟨.rsl _ _ _ A c val h1 h2 fun i j hi hj => by rw [← hg i j hi hj]; exact h3 i j hi hj, h⟩
    · obtain ⟨rfl, h⟩ := h
      cases hR
      exact ⟨.rsl _ 0 _ none 0 (fun _ _ => undef) (Nat.le_refl _) (fun h => absurd h (by omega)) (fun i j hi => absurd hi (by omega)), h⟩
    · exact h.elim
  · split at h
    · obtain ⟨rfl, hg, h⟩ := h
      cases hR with
      | eptr _ _ b off val h1 h2 h3 => exact ⟨.eptr _ _ b off val h1 h2 fun j hj => by rw [← hg j hj]; exact h3 j hj, h⟩
    · exact h.elim
  · split at h
    · rename_i o f _ o' f'
      cases hq : (Nat.beq o' o && Nat.beq f' f) with
      | false => simp [hq] at h
      | true =>
        simp only [hq, cond_true] at h
        simp only [Bool.and_eq_true] at hq
        obtain rfl := Nat.eq_of_beq_eq_true hq.1
        obtain rfl := Nat.eq_of_beq_eq_true hq.2
        exact ⟨hR, h⟩
    · exact h.elim
  · split at h
    · rename_i o n _ o' n'
      cases hq : Nat.beq o' o with
      | false => simp [hq] at h
      | true =>
        simp only [hq, cond_true] at h
        obtain rfl := Nat.eq_of_beq_eq_true hq
        obtain ⟨rfl, h⟩ := h
        exact ⟨hR, h⟩
    · rename_i o n _
      cases hq : gs o with
      | false => simp [hq] at h
      | true =>
        simp only [hq, cond_true] at h
        obtain ⟨rfl, h⟩ := h
        cases hR
        exact ⟨.own o 0 none 0 0 _ (hgs o hq) (Nat.le_refl _) rfl (fun _ => rfl), h⟩
    · exact h.elim
  · split at h
    · exact ⟨hR, h⟩
    · exact h.elim
  · split at h
    · exact ⟨hR, h⟩
    · exact h.elim
  · obtain ⟨rfl, h⟩ := h
    exact ⟨hR, h⟩

theorem RL.cons_inv {d : D} {ds : List D} {v : Value} {vs : List Value} (h : RL S w μ (d :: ds) (v :: vs)) : R S w μ d v ∧ RL S w μ ds vs :=
  ⟨h.2 0 d v rfl rfl, by simpa using h.1, fun i x y a b => h.2 (i + 1) x y (by simpa using a) (by simpa using b)⟩
theorem RL.cons {d : D} {ds : List D} {v : Value} {vs : List Value} (h : R S w μ d v) (h' : RL S w μ ds vs) : RL S w μ (d :: ds) (v :: vs) :=
  ⟨by simp [h'.1], fun i x y a b => by
    cases i with
    | zero => simp at a b; subst a; subst b; exact h
    | succ i => exact h'.2 i x y (by simpa using a) (by simpa using b)⟩
theorem impL_sound (hgs : ∀ o, gs o = true → μ o = some (.slice none 0 0)) : ∀ {l l' : List D} {vs : List Value} {k : Prop}, RL S w μ l vs → impL gs l l' k → RL S w μ l' vs ∧ k
  | [], [], vs, k, hr, h => ⟨hr, h⟩
  | x :: r, y :: s, [], k, hr, h => by have := hr.1; simp at this
  | x :: r, y :: s, v :: vs, k, hr, h => by
    rw [impL_cons] at h
    obtain ⟨h1, h2⟩ := hr.cons_inv
    obtain ⟨g1, g2⟩ := impC_sound hgs h h1
    obtain ⟨g3, g4⟩ := impL_sound hgs h2 g2
    exact ⟨.cons g1 g3, g4⟩
  | [], _ :: _, _, _, _, h => h.elim
  | _ :: _, [], _, _, _, h => h.elim
theorem R.toRL {l : List D} {vs : Array Value} (h1 : l.length = vs.size) (h2 : ∀ (i : Nat) d v, l[i]? = some d → vs[i]? = some v → R S w μ d v) : RL S w μ l vs.toList := ⟨by simpa using h1, fun i d v a b => h2 i d v a (by simpa using b)⟩
theorem impB_sound (hgs : ∀ o, gs o = true → μ o = some (.slice none 0 0)) {d d' : D} {v : Value} {k : Prop} (h : impB gs d d' k) (hR : R S w μ d v) : R S w μ d' v ∧ k := by
  unfold impB at h
  split at h
  · split at h
    · cases hR with
      | agg _ us hl hR =>
        obtain ⟨g1, g2⟩ := impL_sound hgs (R.toRL hl hR) h
        exact ⟨.agg _ us (by simpa using g1.1) fun i d v a b => g1.2 i d v a (by simpa using b), g2⟩
    · exact h.elim
  · exact impC_sound hgs h hR
theorem impAL_sound (hgs : ∀ o, gs o = true → μ o = some (.slice none 0 0)) : ∀ {l l' : List D} {vs : List Value} {k : Prop}, RL S w μ l vs → impAL gs l l' k → RL S w μ l' vs ∧ k
  | [], [], vs, k, hr, h => ⟨hr, h⟩
  | x :: r, y :: s, [], k, hr, h => by have := hr.1; simp at this
  | x :: r, y :: s, v :: vs, k, hr, h => by
    have h : impB gs x y (impAL gs r s k) := h
    obtain ⟨h1, h2⟩ := hr.cons_inv
    obtain ⟨g1, g2⟩ := impB_sound hgs h h1
    obtain ⟨g3, g4⟩ := impAL_sound hgs h2 g2
    exact ⟨.cons g1 g3, g4⟩
  | [], _ :: _, _, _, _, h => h.elim
  | _ :: _, [], _, _, _, h => h.elim
theorem impA_sound (hgs : ∀ o, gs o = true → μ o = some (.slice none 0 0)) {d d' : D} {v : Value} {k : Prop} (h : impA gs d d' k) (hR : R S w μ d v) : R S w μ d' v ∧ k := by
  unfold impA at h
  split at h
  · split at h
    · cases hR with
      | agg _ us hl hR =>
        obtain ⟨g1, g2⟩ := impL_sound hgs (R.toRL hl hR) h
        exact ⟨.agg _ us (by simpa using g1.1) fun i d v a b => g1.2 i d v a (by simpa using b), g2⟩
    · exact h.elim
  · split at h
    · cases hR with
      | tup _ us hl hR =>
        obtain ⟨g1, g2⟩ := impAL_sound hgs (R.toRL hl hR) h
        exact ⟨.tup _ us (by simpa using g1.1) fun i d v a b => g1.2 i d v a (by simpa using b), g2⟩
    · exact h.elim
  · exact impC_sound hgs h hR
theorem impE_sound (hgs : ∀ o, gs o = true → μ o = some (.slice none 0 0)) {e : Env} {a : Act} (he : EnvR S w μ e a) : ∀ {sl : List (Nat × D)} {k : Prop}, impE gs e sl k → EnvR S w μ (envOf sl) a ∧ k
  | [], k, h => ⟨fun j => .top _, h⟩
  | (i, d) :: r, k, h => by
    have h : impA gs (e i) d (impE gs e r k) := h
    obtain ⟨g1, g2⟩ := impA_sound hgs h (he i)
    obtain ⟨g3, g4⟩ := impE_sound hgs he g2
    refine ⟨fun j => ?_, g4⟩
    simp only [envOf]
    cases hj : Nat.beq j i with
    | true => obtain rfl := Nat.eq_of_beq_eq_true hj; exact g1
    | false => exact g3 j

/-- One object tells at least what another one tells. -/
def ImpOb (S : Nat → Prop) (w : World) (μ : Mu) (ob ob' : Ob) : Prop := ∀ mv, ObR S w μ mv ob → ObR S w μ mv ob'
def ImpO (S : Nat → Prop) (w : World) (μ : Mu) (x y : Option Ob) (k : Prop) : Prop := match y with
  | none => x = none ∧ k
  | some ob' => ∃ ob, x = some ob ∧ ∀ mv, ObR S w μ mv ob → ObR S w μ mv ob' ∧ k
theorem impO_sound (hgs : ∀ o, gs o = true → μ o = some (.slice none 0 0)) {x y : Option Ob} {k : Prop} (h : impO gs x y k) : ImpO S w μ x y k := by
  cases y with
  | none => cases x with
    | none => exact ⟨rfl, h⟩
    | some _ => exact h.elim
  | some y => cases x with
    | none => cases y <;> exact h.elim
    | some x => cases y with
      | row cs => cases x with
        | row cs' =>
          refine ⟨_, rfl, fun mv ho => ?_⟩
          obtain ⟨b, cells, T, h1, h2, h3, h4, h5⟩ := ho
          obtain ⟨g1, g2⟩ := impL_sound hgs (R.toRL h3.symm h4) h
          exact ⟨⟨b, cells, T, h1, h2, by simpa using g1.1.symm, fun i d v a b => g1.2 i d v a (by simpa using b), h5⟩, g2⟩
        | _ => exact h.elim
      | mp m => cases x with
        | mp m' =>
          have h' : (bif ksEq m'.ks m.ks && ekEq m'.ek m.ek then m'.n = m.n ∧ (∀ q, keyOK m.ks q → m'.has q = m.has q) ∧ (∀ q j, keyOK m.ks q → m.has q = true → m'.get q j = m.get q j) ∧ k else False) := h
          cases hq : (ksEq m'.ks m.ks && ekEq m'.ek m.ek) with
          | false => rw [hq] at h'; exact h'.elim
          | true =>
            rw [hq, cond_true] at h'
            simp only [Bool.and_eq_true] at hq
            obtain ⟨h1, h2, h3, hk⟩ := h'
            have hks := ksEq_eq hq.1
            have hek := ekEq_eq hq.2
            refine ⟨_, rfl, fun mv ⟨r, es, clock, g1, g2, g3, g4, g5, g6⟩ => ⟨⟨r, es, clock, g1, g2, g3, by rw [g4, h1], fun x hx => ?_, fun q hq hh => ?_⟩, hk⟩⟩
            · obtain ⟨a1, a2, a3⟩ := g5 x hx
              rw [hks] at a1
              rw [h2 _ a1] at a2
              refine ⟨a1, a2, ?_⟩
              rw [a3, hek]
              congr 1
              funext j
              exact h3 _ j a1 a2
            · exact g6 q (by rw [hks]; exact hq) (by rw [h2 q hq]; exact hh)
        | _ => exact h.elim
      | lp l p => cases x with
        | lp l' p' =>
          obtain ⟨rfl, rfl, hk⟩ := h
          exact ⟨_, rfl, fun mv hmv => ⟨hmv, hk⟩⟩
        | _ => exact h.elim
      | dead => cases x with
        | dead => exact ⟨_, rfl, fun mv hmv => ⟨hmv, h⟩⟩
        | _ => exact h.elim
      | buf e s n g => cases x with
        | row _ => exact h.elim
        | mp _ => exact h.elim
        | lp _ _ => exact h.elim
        | dead => exact h.elim
        | buf e' s' n' g' =>
          have h' : (bif Nat.beq e' e && Nat.beq s' s then n' = n ∧ (∀ i j, i < n → j < s → g' i j = g i j) ∧ k else False) := h
          cases hq : (Nat.beq e' e && Nat.beq s' s) with
          | false => rw [hq] at h'; exact h'.elim
          | true =>
            rw [hq, cond_true] at h'
            simp only [Bool.and_eq_true] at hq
            obtain rfl := Nat.eq_of_beq_eq_true hq.1
            obtain rfl := Nat.eq_of_beq_eq_true hq.2
            obtain ⟨rfl, hg, hk⟩ := h'
            refine ⟨_, rfl, fun mv ⟨xs, h1, h2⟩ => ⟨⟨xs, h1, fun i j hi hj => ?_⟩, hk⟩⟩
            rw [← hg i j hi hj]
            exact h2 i j hi hj
theorem impH_sound (hgs : ∀ o, gs o = true → μ o = some (.slice none 0 0)) {H : HL} (hr : ∀ o ob, hget H o = some ob → ∃ mv, ObR S w μ mv ob) : ∀ {H' : HL} {k : Prop}, impH gs H H' k → H'.length ≤ H.length ∧ (∀ o, o < H'.length → match hget H' o with
    | none => hget H o = none
    | some ob' => ∃ ob, hget H o = some ob ∧ ∀ mv, ObR S w μ mv ob → ObR S w μ mv ob') ∧ k := by
  induction H with
  | nil =>
    intro H' k h
    cases H' with
    | nil => exact ⟨Nat.le_refl _, fun o ho => absurd ho (by simp), h⟩
    | cons _ _ => exact h.elim
  | cons x r ih =>
    intro H' k h
    cases H' with
    | nil => exact ⟨Nat.zero_le _, fun o ho => absurd ho (by simp), h⟩
    | cons y s =>
      have h1 := impO_sound hgs (S := S) (w := w) (μ := μ) (h : impO gs x y (impH gs r s k))
      have ih' := ih (fun o ob ho => hr (o + 1) ob (by simpa [hget] using ho)) (H' := s) (k := k)
      cases y with
      | none =>
        obtain ⟨e, h2⟩ := h1
        obtain ⟨g1, g2, g3⟩ := ih' h2
        refine ⟨by simp; omega, fun o ho => ?_, g3⟩
        cases o with
        | zero => simp [hget, e]
        | succ o => simpa [hget] using g2 o (by simpa using ho)
      | some ob' =>
        obtain ⟨ob, e, h2⟩ := h1
        obtain ⟨mv, hmv⟩ := hr 0 ob (by simp [hget, e])
        obtain ⟨g1, g2, g3⟩ := ih' (h2 mv hmv).2
        refine ⟨by simp; omega, fun o ho => ?_, g3⟩
        cases o with
        | zero => simpa [hget, e] using fun mv h => (h2 mv h).1
        | succ o => simpa [hget] using g2 o (by simpa using ho)

theorem lenB_len : ∀ {H H' : HL}, lenB H H' = true → H.length = H'.length
  | [], [], _ => rfl
  | x :: r, y :: s, h => by simp [lenB_len (H := r) (H' := s) (by simpa [lenB] using h)]
  | [], _ :: _, h => by simp [lenB] at h
  | _ :: _, [], h => by simp [lenB] at h

def cutM (n : Nat) (μ : Mu) : Mu := fun o => if o < n then μ o else none
theorem cutM_le {n : Nat} {o : Nat} (h : o < n) : cutM n μ o = μ o := by simp [cutM, h]
theorem idb_R : ∀ (f n : Nat) {d : D} {v : Value}, idb f n d = true → R S w μ d v → R S w (cutM n μ) d v
  | 0, n, d, v, h, _ => by simp [idb] at h
  | f + 1, n, d, v, h, hR => by
    cases hR with
    | top v => exact .top v
    | tt => exact .tt
    | ff => exact .ff
    | int k m => exact .int k m
    | bool b => exact .bool b
    | str s => exact .str s
    | nilI => exact .nilI
    | nilS => exact .nilS
    | rsl size m g A c val h1 h2 h3 => exact .rsl size m g A c val h1 h2 h3
    | eptr m g b off val h1 h2 h3 => exact .eptr m g b off val h1 h2 h3
    | ptr o off b hm => exact .ptr o off b (by rw [cutM_le ((blt_iff _ _).1 (by simpa [idb] using h))]; exact hm)
    | own o m A m' c v hm h1 h2 h3 => exact .own o m A m' c v (by rw [cutM_le ((blt_iff _ _).1 (by simpa [idb] using h))]; exact hm) h1 h2 h3
    | optr o m size i j A m' c b hm h1 h2 => exact .optr o m size i j A m' c b (by rw [cutM_le ((blt_iff _ _).1 (by simpa [idb] using h))]; exact hm) h1 h2
    | map o r ks hm => exact .map o r ks (by rw [cutM_le ((blt_iff _ _).1 (by simpa [idb] using h))]; exact hm)
    | yld o l hm => exact .yld o l (by rw [cutM_le ((blt_iff _ _).1 (by simpa [idb] using h))]; exact hm)
    | stamp o k r ks i born hm hi => exact .stamp o k r ks i born (by rw [cutM_le ((blt_iff _ _).1 (by simpa [idb] using h))]; exact hm) hi
    | agg cs vs h1 h2 =>
      simp only [idb, List.all_eq_true] at h
      exact .agg cs vs h1 fun i d v a b => idb_R f n (h d (List.mem_of_getElem? a)) (h2 i d v a b)
    | tup cs vs h1 h2 =>
      simp only [idb, List.all_eq_true] at h
      exact .tup cs vs h1 fun i d v a b => idb_R f n (h d (List.mem_of_getElem? a)) (h2 i d v a b)
    | fn g fs cs vf vc h1 h2 h3 h4 =>
      simp only [idb, Bool.and_eq_true, List.all_eq_true] at h
      exact .fn g fs cs vf vc h1 h2 (fun i d v a b => idb_R f n (h.1 d (List.mem_of_getElem? a)) (h3 i d v a b)) fun i d v a b => idb_R f n (h.2 d (List.mem_of_getElem? a)) (h4 i d v a b)
    | iface t d v h1 => exact .iface t d v (idb_R f n (by simpa [idb] using h) h1)

theorem envOf_ids {n : Nat} {sl : List (Nat × D)} (h : sl.all (fun p => idb 4 n p.2) = true) (j : Nat) : idb 4 n (envOf sl j) = true := by
  induction sl with
  | nil => rfl
  | cons p r ih =>
    obtain ⟨i, d⟩ := p
    simp only [List.all_cons, Bool.and_eq_true] at h
    simp only [envOf]
    cases hj : Nat.beq j i with
    | true => exact h.1
    | false => exact ih h.2

/-- The state at the head of a loop. -/
theorem cut_state {a : Act} {s : St} {sl : List (Nat × D)} {Hg H0 : HL} {S0 : Nat → Prop} {w0 : World} {μ0 : Mu} {k : Prop} (hst : RelSt r N B S w μ s a) (t : Tr S0 w0 μ0 (hget H0) S w μ (hget s.H)) (h0 : ∀ o, H0.length ≤ o → μ0 o = none) (hl : Hg.length = H0.length)
    (hgs : ∀ o, gs o = true → μ o = some (.slice none 0 0)) (hids : idsOK H0.length sl Hg s.df = true) (h : impE gs s.e sl (impH gs s.H Hg k)) : ∃ μ', RelSt r N B S w μ' ⟨envOf sl, Hg, s.df⟩ a ∧ Tr S0 w0 μ0 (hget H0) S w μ' (hget Hg) ∧ k := by
  obtain ⟨hr, he, hN, hdf, hro⟩ := hst
  simp only [idsOK, Bool.and_eq_true] at hids
  obtain ⟨he', h⟩ := impE_sound hgs he h
  obtain ⟨g1, g2, g3⟩ := impH_sound hgs (S := S) (w := w) (μ := μ) (fun o ob ho => let ⟨mv, _, h⟩ := hr.1.obs o ob ho; ⟨mv, h⟩) h
  have hcut : ∀ o, o < Hg.length → cutM H0.length μ o = μ o := fun o ho => cutM_le (by omega)
  have hlt : ∀ {o ob}, hget Hg o = some ob → o < Hg.length := fun h => lt_of_hget h
  have hold : ∀ {o ob'}, hget Hg o = some ob' → ∃ ob, hget s.H o = some ob ∧ ∀ mv, ObR S w μ mv ob → ObR S w μ mv ob' := fun {o ob'} ho => by
    have := g2 o (hlt ho)
    rw [ho] at this
    exact this
  have hrow : ∀ {o cs}, hget Hg o = some (.row cs) → cs.all (idb 4 H0.length) = true := fun {o cs} ho => by
    have hlt := hlt ho
    have : Hg[o]? = some (some (.row cs)) := by
      unfold hget at ho
      rw [List.getD_eq_getElem?_getD, List.getElem?_eq_getElem hlt] at ho
      rw [List.getElem?_eq_getElem hlt]
      simpa using ho
    exact List.all_eq_true.1 hids.1.2 _ (List.mem_of_getElem? this)
  have hob : ∀ {o ob mv}, hget Hg o = some ob → ObR S w μ mv ob → ObR S w (cutM H0.length μ) mv ob := fun {o ob mv} ho h => by
    cases ob with
    | row cs =>
      obtain ⟨b, cells, T, h1, h2, h3, h4, h5⟩ := h
      have := hrow ho
      exact ⟨b, cells, T, h1, h2, h3, fun i d v x y => idb_R 4 _ (List.all_eq_true.1 this d (List.mem_of_getElem? x)) (h4 i d v x y), h5⟩
    | buf e s n g => exact h
    | mp m => exact h
    | lp l p => exact h
    | dead => exact h
  have hdfc : DfR B S w (cutM H0.length μ) (hget Hg) s.df a.defers := by
    have h3 := hids.2
    cases hsd : s.df with
    | none => trivial
    | some df =>
      rw [hsd] at hdf h3
      have hdf2 : DfL B S w μ (hget s.H) df a.defers := hdf
      have h4 : df.all (idb 4 H0.length) = true := h3
      clear hdf h3
      show DfL B S w (cutM H0.length μ) (hget Hg) df a.defers
      clear hsd hids
      generalize a.defers = ds at hdf2
      induction hdf2 with
      | nil => exact .nil
      | fn f fs cs vf vc h1 _ ih =>
        simp only [List.all_cons, Bool.and_eq_true] at h4
        exact .fn f fs cs vf vc (idb_R 4 _ h4.1 h1) (ih h4.2)
      | mark b D h0 h1 h2 h3' h4' h5 h6 _ ih =>
        refine .mark b D h0 h1 h2 h3' h4' (fun o ob v ho hv => ?_) h6 (ih h4)
        rw [hcut o (hlt ho)] at hv
        obtain ⟨ob0, e1, _⟩ := hold ho
        exact h5 o ob0 v e1 hv
  refine ⟨cutM H0.length μ, ⟨⟨⟨fun o ob ho => ?_, fun o o' ob ob' v v' b h1 h2 hne m1 m2 => ?_, fun b hb => ⟨(hr.1.stat b hb).1, fun o ob v ho hv => ?_⟩⟩, fun o ho => ?_⟩, fun j => idb_R 4 _ (envOf_ids hids.1.1 j) (he' j), hN, hdfc, hro⟩,
    ⟨t.os, t.tape, t.output, t.size, t.block, t.sub, t.new, fun o v hv => ?_, fun o ob v b ho hv hb => ?_, fun o v h1 h2 => ?_, fun o ho => ?_⟩, g3⟩
  · obtain ⟨ob0, h1, h2⟩ := hold ho
    obtain ⟨mv, m1, m2⟩ := hr.1.obs o ob0 h1
    exact ⟨mv, by rw [hcut o (hlt ho)]; exact m1, hob ho (h2 mv m2)⟩
  · rw [hcut o (hlt h1)] at m1
    rw [hcut o' (hlt h2)] at m2
    obtain ⟨ob0, e1, _⟩ := hold h1
    obtain ⟨ob0', e2, _⟩ := hold h2
    exact hr.1.sep o o' ob0 ob0' v v' b e1 e2 hne m1 m2
  · rw [hcut o (hlt ho)] at hv
    obtain ⟨ob0, e1, _⟩ := hold ho
    exact (hr.1.stat b hb).2 o ob0 v e1 hv
  · have : ¬ o < H0.length := by simp only at ho; omega
    simp [cutM, this]
  · have hlt : o < H0.length := by
      rcases Nat.lt_or_ge o H0.length with h1 | h1
      · exact h1
      · rw [h0 o h1] at hv; cases hv
    obtain ⟨v', h1, h2⟩ := t.mu o v hv
    exact ⟨v', by rw [cutM_le hlt]; exact h1, h2⟩
  · rw [hcut o (hlt ho)] at hv
    obtain ⟨ob0, e1, _⟩ := hold ho
    exact t.blks o ob0 v b e1 hv hb
  · have hlt : o < H0.length := by
      rcases Nat.lt_or_ge o H0.length with h1 | h1
      · exact h1
      · rw [h0 o h1] at h2; cases h2
    obtain ⟨k1, k2⟩ := t.off o v h1 h2
    refine ⟨?_, by rw [cutM_le hlt]; exact k2⟩
    cases hx : hget Hg o with
    | none => rfl
    | some ob' => obtain ⟨ob, e1, _⟩ := hold hx; rw [k1] at e1; cases e1
  · have hlt : o < H0.length := by
      rcases Nat.lt_or_ge o H0.length with h1 | h1
      · exact h1
      · have : ¬ o < H0.length := by omega
        simp [cutM, this] at ho
    rw [cutM_le hlt] at ho
    rcases t.dom o ho with h1 | h1
    · refine .inl fun hx => ?_
      have := g2 o (by omega)
      rw [hx] at this
      exact h1 this
    · exact .inr h1

theorem add_ghosts : ∀ (gh : List (Nat × Nat)) {μ : Mu} {H : HL}, RelL S w μ H → ∃ μ', RelL S w μ' (H ++ ghosts gh) ∧ Tr S w μ (hget H) S w μ' (hget (H ++ ghosts gh)) ∧ ∀ o, isGh H.length gh.length o = true → μ' o = some (.slice none 0 0)
  | [], μ, H, hr => ⟨μ, by simpa [ghosts] using hr, by simpa [ghosts] using Tr.refl S w μ (hget H), fun o ho => by
    simp only [isGh, Bool.and_eq_true, blt_iff, Nat.ble_eq] at ho; simp at ho; omega⟩
  | p :: gh, μ, H, hr => by
    obtain ⟨h1, h2, h3⟩ := new_nil hr (hr.2 _ (Nat.le_refl _)) (Nat.le_refl _) p.1 p.2 (fun _ _ => D.top)
    have e : hnew H H.length (.buf p.1 p.2 0 fun _ _ => .top) = H ++ [some (.buf p.1 p.2 0 fun _ _ => .top)] := by
      unfold hnew
      have : Nat.blt H.length H.length = false := by
        cases hb : Nat.blt H.length H.length with
        | false => rfl
        | true => have := (blt_iff _ _).1 hb; omega
      rw [this]; rfl
    rw [e] at h1 h2
    obtain ⟨μ', g1, g2, g3⟩ := add_ghosts gh h1
    have e2 : (H ++ [some (Ob.buf p.1 p.2 0 fun _ _ => .top)]) ++ ghosts gh = H ++ ghosts (p :: gh) := by simp [ghosts]
    rw [e2] at g1 g2
    refine ⟨μ', g1, h2.trans g2, fun o ho => ?_⟩
    simp only [isGh, Bool.and_eq_true, blt_iff, Nat.ble_eq, List.length_cons] at ho
    rcases Nat.eq_or_lt_of_le ho.1 with rfl | hlt
    · obtain ⟨v', k1, k2⟩ := g2.mu H.length (.slice none 0 0) (by simp [updM])
      rcases k2 with rfl | ⟨A, m, c, A', m', c', e1, rfl, hlt⟩ | ⟨r, ks, ys, e1, _⟩
      · exact k1
      · have hg := g1.1.obs H.length (.buf p.1 p.2 0 fun _ _ => .top) (by simp [hget, ghosts])
        obtain ⟨mv, m1, xs, m2, _⟩ := hg
        rw [k1] at m1
        injection m1 with m1
        rcases m2.2 with ⟨rfl, _⟩ | ⟨b, cap, cur, rfl, _⟩
        · rw [k1, m1]
        · injection m1 with _ m1 _; omega
      · cases e1
    · exact g3 o (by simp only [isGh, Bool.and_eq_true, blt_iff, Nat.ble_eq]; simp; omega)

end
end Go.V
end
section
set_option linter.unusedVariables false
set_option linter.unusedSimpArgs false
namespace Go.V

section
variable {P : Program} {C : Cx} {T : RT} {N : Nat} {S : Nat → Prop} {w : World} {μ : Mu} {B : Option Nat} {H : HL}

/-- A loop's record is turned. -/
theorem turn_lp (hr : RelL S w μ H) {o l : Nat} {r0 : Loop} {p p' : Pj} {x x' : Loop} (ho : hget H o = some (.lp r0 p)) (hm : μ o = some (.func (.yield l) #[] #[])) (hl : w.heap[l]? = some (.loop x)) (hx : lpR r0 p' x') :
    RelL S (w.putObj l (.loop x')) μ (H.set o (some (.lp r0 p'))) ∧ Tr S w μ (hget H) S (w.putObj l (.loop x')) μ (hget (H.set o (some (.lp r0 p')))) := by
  have hoid := lt_of_hget ho
  have hlt := (Array.getElem?_eq_some_iff.1 hl).1
  have hput := hr.1.put (o := o) (ob := .lp r0 p') (mv := .func (.yield l) #[] #[]) (w' := w.putObj l (.loop x')) rfl rfl rfl (by simp)
    (fun b hb' hno => World.putObj_heap_other (fun e => hno _ _ ho hm (by simp [blk, e])))
    (fun v hv => by rw [hm] at hv; injection hv with hv; subst hv; exact .refl _)
    (fun b hb' => .inr ⟨_, _, ho, hm, hb'⟩)
    ⟨l, x', rfl, World.putObj_heap_same hlt, hx⟩ (fun e => by rw [ho] at e; cases e)
  have hupd : updM μ o (.func (.yield l) #[] #[]) = μ := by
    funext o'
    unfold updM
    split
    · rename_i h; rw [h, hm]
    · rfl
  rw [hupd] at hput
  rw [hget_set _ _ _ hoid]
  exact ⟨⟨by rw [hget_set _ _ _ hoid]; exact hput.1, fun o' ho' => hr.2 o' (by simpa using ho')⟩, hput.2⟩
theorem lp_at (hr : RelL S w μ H) {o l : Nat} {r0 : Loop} {p : Pj} (ho : hget H o = some (.lp r0 p)) (hm : μ o = some (.func (.yield l) #[] #[])) : ∃ x, w.heap[l]? = some (.loop x) ∧ lpR r0 p x := by
  obtain ⟨mv, h1, l', x, h2, h3, h4⟩ := hr.1.obs o _ ho
  rw [hm] at h1
  injection h1 with h1
  rw [← h1] at h2
  injection h2 with h2
  injection h2 with h2
  subst h2
  exact ⟨x, h3, h4⟩
theorem mark_keep {μ μ' : Mu} (h : MuLe μ μ') {o l : Nat} (hm : μ o = some (.func (.yield l) #[] #[])) : μ' o = some (.func (.yield l) #[] #[]) := by
  obtain ⟨v', h1, h2⟩ := h o _ hm
  rcases h2 with rfl | ⟨A, m, c, A', m', c', e, _⟩ | ⟨r, ks, ys, e, _⟩
  · exact h1
  · cases e
  · injection e with e; cases e
theorem lpIs_iff {ol : Nat} {r0 : Loop} {p : Pj} {k : Prop} (h : lpIs H ol r0 p k) : hget H ol = some (.lp r0 p) ∧ k := by
  unfold lpIs at h
  split at h
  · rename_i r q ho
    obtain ⟨⟨rfl, rfl⟩, hk⟩ := h
    exact ⟨ho, hk⟩
  · exact h.elim

theorem bind_env {tmps : Array Value} (hN : tmps.size = N) : ∀ (ps : List Nat) (ds : List D) (vs : List Value) (e : Env) (k : Env → Prop) (a : Array Value), a.size = N → EnvR S w μ e { tmps := a, defers := [] } → RL S w μ ds vs → bindE N ps ds e k →
    ∃ e1, k e1 ∧ EnvR S w μ e1 { tmps := (ps.zip vs).foldl (fun t (x : Nat × Value) => t.setIfInBounds x.1 x.2) a, defers := [] } ∧ ((ps.zip vs).foldl (fun t (x : Nat × Value) => t.setIfInBounds x.1 x.2) a).size = N ∧ ps.length = vs.length
  | [], [], vs, e, k, a, ha, he, hr, h => by
    have : vs = [] := by have := hr.1; simpa using this.symm
    subst this
    exact ⟨e, h, he, ha, rfl⟩
  | [], d :: ds, vs, e, k, a, ha, he, hr, h => h.elim
  | p :: ps, [], vs, e, k, a, ha, he, hr, h => h.elim
  | p :: ps, d :: ds, [], e, k, a, ha, he, hr, h => by have := hr.1; simp at this
  | p :: ps, d :: ds, v :: vs, e, k, a, ha, he, hr, h => by
    have h : (bif Nat.blt p N then bindE N ps ds (upd e p d) k else False) := h
    cases hq : Nat.blt p N with
    | false => rw [hq] at h; exact h.elim
    | true =>
      rw [hq, cond_true] at h
      obtain ⟨hd, hr'⟩ := hr.cons_inv
      have hp := (blt_iff _ _).1 hq
      have he' : EnvR S w μ (upd e p d) { tmps := a.setIfInBounds p v, defers := [] } := fun j => by
        simp only [V.upd]
        cases hj : Nat.beq j p with
        | true =>
          obtain rfl := Nat.eq_of_beq_eq_true hj
          simp only [cond_true]
          have : j < a.size := by omega
          simpa [Array.getD, this] using hd
        | false =>
          have hne : p ≠ j := fun e => by subst e; rw [Nat.beq_refl] at hj; cases hj
          simp only [cond_false]
          have := he j
          rw [Array.getD_eq_getD_getElem?] at this ⊢
          rwa [Array.getElem?_setIfInBounds_ne hne]
      obtain ⟨e1, g1, g2, g3, g4⟩ := bind_env hN ps ds vs _ k _ (by simpa using ha) he' hr' h
      exact ⟨e1, g1, g2, g3, by simp [g4]⟩

/-- What code's conditions are good for. -/
def Sound (P : Program) (T : RT) (N : Nat) (B : Option Nat) (c : Code) (v : VK) : Prop :=
  ∀ (r : Option Nat) (n : Nat) (K : VX → St → Prop) (s : St) (S : Nat → Prop) (w : World) (μ : Mu) (a : Act), RelSt r N B S w μ s a → (∀ b, B = some b → b ≤ w.heap.size) → T S w μ (hget s.H) → v K s → c.wpIn (FW r) n P (PostC S w μ (hget s.H) r N B K) a w

/-- A call of yield: one round, out of the walks of the loop's assignments and of its body. -/
theorem yield_sound (hT : RTok T) {asg body : Code} {va vb : VK} (ha : Sound P T N B asg va) (hb : Sound P T N B body vb) {ps : Array Nat} {e : Env} {a0 : Array Value} {S0 : Nat → Prop} {w0 : World} {μ0 : Mu} {H0 : Hp} {ol l fn : Nat} {dd : Nat}
    (hN : a0.size = N) (he : EnvR S0 w0 μ0 e { tmps := a0, defers := [] }) (hr0 : Rel S0 w0 μ0 H0) (ht0 : T S0 w0 μ0 H0) (hb0 : ∀ b, B = some b → b ≤ w0.heap.size) (hm0 : μ0 ol = some (.func (.yield l) #[] #[]))
    {r0 : Loop} (hrec : r0 = { state := .ready, pending := none, fn := fn, tmps := a0, params := ps, assign := asg, body := body, defers := dd }) :
    YSound P (fun S w μ H => Tr S0 w0 μ0 H0 S w μ H) ol (vcYield N ol e r0 ps.toList va vb) := by
  intro ds H K h S w μ vs hTr hr hRL l' hl'
  have hm := mark_keep hTr.mu hm0
  rw [hm] at hl'
  simp only [Option.some.injEq, Value.func.injEq, Fn.yield.injEq, and_true] at hl'
  subst hl'
  obtain ⟨hlp, h⟩ := lpIs_iff h
  obtain ⟨x, hx, hxr⟩ := lp_at hr hlp hm
  have hxe : x = r0 := by rw [hxr, hrec]
  subst hxe
  have he1 : EnvR S w μ e { tmps := a0, defers := [] } := fun j => (he j).tr hr0 hTr
  obtain ⟨e1, h1, h2, h3, h4⟩ := bind_env hN ps.toList ds vs e _ a0 hN he1 hRL h
  have hfold : (ps.zip vs.toArray).foldl (fun t (x : Nat × Value) => t.setIfInBounds x.1 x.2) a0 = (ps.toList.zip vs).foldl (fun t (x : Nat × Value) => t.setIfInBounds x.1 x.2) a0 := by
    rw [← Array.foldl_toList, Array.toList_zip]
  have hy := run_yield (P := P) (args := vs.toArray) hx (by rw [hrec]; simp [← h4])
  have htw : T S w μ (hget H) := hT _ _ _ _ _ _ _ _ ht0 hTr
  have hbw : ∀ b, B = some b → b ≤ w.heap.size := fun b e => Nat.le_trans (hb0 b e) hTr.size
  refine ⟨_, _, _, _, hy, fun n => ?_⟩
  rw [hrec]
  simp only
  refine roundIn_of_wpIn (F := FW none) trivial ?_
  show asg.wpIn (FW (some l)) n P _ _ w
  rw [hfold]
  have hst : RelSt (some l) N B S w μ ⟨e1, H, none⟩ { tmps := (ps.toList.zip vs).foldl (fun t (x : Nat × Value) => t.setIfInBounds x.1 x.2) a0, defers := [] } := ⟨hr, h2, h3, trivial, .inr rfl⟩
  refine wpIn_mono (ha (some l) n _ ⟨e1, H, none⟩ S w μ _ hst hbw htw h1) ?_
  rintro x a1 w1 ⟨S1, μ1, s1, x1, k1, k2, k3, k4⟩
  cases x1 <;> simp only [lpBody] at k1
  cases x <;> try exact k2.elim
  obtain ⟨hl1, k1⟩ := lpIs_iff k1
  have hm1 := mark_keep k4.mu hm
  obtain ⟨y1, hy1, hyr1⟩ := lp_at k3.rel hl1 hm1
  obtain ⟨t1, t2⟩ := turn_lp (p' := .busy) k3.rel hl1 hm1 hy1 (x' := { y1 with state := .busy }) (by rw [hyr1]; rfl)
  refine ⟨w1.putObj l (.loop { y1 with state := .busy }), run_beginRound hy1 (by rw [hyr1]), ?_⟩
  show body.wpIn (FW (some l)) n P _ _ _
  have hst1 : RelSt (some l) N B S1 (w1.putObj l (.loop { y1 with state := .busy })) μ1 ⟨s1.e, s1.H.set ol (some (.lp _ .busy)), none⟩ a1 := ⟨t1, fun j => (k3.env j).tr k3.rel.1 t2, k3.size, trivial, .inr rfl⟩
  refine wpIn_mono (hb (some l) n _ _ S1 _ μ1 _ hst1 (fun b e => Nat.le_trans (hbw b e) (k4.trans t2).size) (hT _ _ _ _ _ _ _ _ htw (k4.trans t2)) k1) ?_
  rintro x2 a2 w2 ⟨S2, μ2, s2, x3, q1, q2, q3, q4⟩
  have hm2 := mark_keep q4.mu hm1
  have tr2 := (k4.trans t2).trans q4
  cases x3 with
  | panic d => exact q1.elim
  | normal =>
    cases x2 <;> try exact q2.elim
    obtain ⟨hl2, q1⟩ := lpIs_iff q1
    obtain ⟨y2, hy2, hyr2⟩ := lp_at q3.rel hl2 hm2
    obtain ⟨u1, u2⟩ := turn_lp (p' := .ready) q3.rel hl2 hm2 hy2 (x' := { y2 with state := if (none : Option Code).isNone then .ready else .done, pending := none }) (by rw [hyr2]; rfl)
    exact ⟨_, _, run_endRound none hy2, S2, μ2, .ret .tt, _, q1, .tt, u1, tr2.trans u2⟩
  | ret =>
    cases x2 <;> try exact q2.elim
    obtain ⟨hl2, q1⟩ := lpIs_iff q1
    obtain ⟨y2, hy2, hyr2⟩ := lp_at q3.rel hl2 hm2
    obtain ⟨u1, u2⟩ := turn_lp (p' := .ret) q3.rel hl2 hm2 hy2 (x' := { y2 with state := if (some Code.ret).isNone then .ready else .done, pending := some .ret }) (by rw [hyr2]; rfl)
    exact ⟨_, _, run_endRound (some .ret) hy2, S2, μ2, .ret .ff, _, q1, .ff, u1, tr2.trans u2⟩
  | exit i =>
    cases x2 <;> try exact q2.elim
    rename_i i'
    have q2 : i = i' := q2
    subst q2
    obtain ⟨hl2, q1⟩ := lpIs_iff q1
    obtain ⟨y2, hy2, hyr2⟩ := lp_at q3.rel hl2 hm2
    obtain ⟨u1, u2⟩ := turn_lp (p' := .exit i) q3.rel hl2 hm2 hy2 (x' := { y2 with state := if (some (Code.exit i)).isNone then .ready else .done, pending := some (.exit i) }) (by rw [hyr2]; rfl)
    exact ⟨_, _, run_endRound (some (.exit i)) hy2, S2, μ2, .ret .ff, _, q1, .ff, u1, tr2.trans u2⟩

/-- A range over a function. -/
theorem sound_range (hC : CallsOK P C T) (hB : (∃ b, B = some b) ∨ ∀ g, C.iter g = none) {f : Operand} {ps : Array Tmp} {asg body : Code} {va vb : VK} (iha : Sound P T N B asg va) (ihb : Sound P T N B body vb) {r : Option Nat} {n : Nat} {K : VX → St → Prop} {s : St} {a : Act}
    (hst : RelSt r N B S w μ s a) (hb : ∀ b, B = some b → b ≤ w.heap.size) (hT : T S w μ (hget s.H)) (h : vcRange C N f ps va vb K s) : (Code.rangeFunc f ps asg body).wpIn (FW r) n P (PostC S w μ (hget s.H) r N B K) a w := by
  rw [vcRange_eq] at h
  split at h
  · rename_i g fs cs hd
    split at h
    · rename_i it hit
      split at h
      · rename_i df hsd
        rw [fzh_iff] at h
        obtain ⟨hr, he, hN, hdf, hro⟩ := hst
        have hrn : r = none := hro.resolve_right (by rw [hsd]; exact fun e => by cases e)
        subst hrn
        obtain ⟨b, rfl⟩ : ∃ b, B = some b := hB.resolve_right (fun h => by rw [h g] at hit; cases hit)
        have hi := hC.iter g it hit
        have hf := he.ev f
        rw [hd] at hf
        generalize hvf : a.eval f = fv at hf
        refine wpIn_rangeFunc (F := FW none) fun fn _ => ?_
        cases hf with
        | fn _ _ _ vf vc hl1 hl2 hR1 hR2 =>
          obtain ⟨l, hl⟩ : ∃ l, l = w.heap.size + 1 := ⟨_, rfl⟩
          obtain ⟨r0, hrec⟩ : ∃ r0 : Loop, r0 = { state := .ready, pending := none, fn := fn, tmps := a.tmps, params := ps, assign := asg, body := body, defers := w.heap.size } := ⟨_, rfl⟩
          obtain ⟨w1, hw1⟩ : ∃ w1, w1 = (w.alloc (.deferred (some []))).alloc (.loop r0) := ⟨_, rfl⟩
          obtain ⟨μ1, hμ1⟩ : ∃ μ1, μ1 = updM μ s.H.length (.func (.yield l) #[] #[]) := ⟨_, rfl⟩
          obtain ⟨H1, hH1d⟩ : ∃ H1 : HL, H1 = s.H ++ [some (.lp r0 .ready)] := ⟨_, rfl⟩
          have hz := hr.2 s.H.length (Nat.le_refl _)
          have hsize1 : w1.heap.size = w.heap.size + 2 := by rw [hw1]; simp
          have hblk1 : ∀ b, b < w.heap.size → w1.heap[b]? = w.heap[b]? := fun b hb => by rw [hw1]; exact (RowKit.Below.heap_alloc _ _ b (by simp; omega)).trans (RowKit.Below.heap_alloc w _ b hb)
          have hl1' : w1.heap[l]? = some (.loop r0) := by
            have := World.alloc_heap_new (w.alloc (.deferred (some []))) (.loop r0)
            rw [hw1, hl]; simpa using this
          have hD1 : w1.heap[w.heap.size]? = some (.deferred (some [])) := by rw [hw1]; exact (RowKit.Below.heap_alloc _ _ _ (by simp)).trans (World.alloc_heap_new w _)
          have hput := hr.1.put (o := s.H.length) (ob := .lp r0 .ready) (mv := .func (.yield l) #[] #[]) (w' := w1) (by rw [hw1]; rfl) (by rw [hw1]; rfl) (by rw [hw1]; rfl) (by rw [hsize1]; omega) (fun b hb _ => hblk1 b hb)
            (fun v hv => by rw [hz] at hv; cases hv) (fun b hb => by simp only [blk, Option.some.injEq] at hb; exact .inl (by omega))
            ⟨l, r0, rfl, hl1', by rw [hrec]; rfl⟩ (fun _ => hz)
          have hH1 : hget H1 = updH (hget s.H) s.H.length (.lp r0 .ready) := by rw [hH1d]; exact hget_push _ _
          have hr1 : RelL S w1 μ1 H1 := ⟨by rw [hH1, hμ1]; exact hput.1, fun o ho => by
            rw [hH1d] at ho
            have : o ≠ s.H.length := by simp at ho; omega
            rw [hμ1]
            simp only [updM, this, if_false]
            exact hr.2 o (by simp at ho; omega)⟩
          have t1 : Tr S w μ (hget s.H) S w1 μ1 (hget H1) := by rw [hH1, hμ1]; exact hput.2
          have hm1 : μ1 s.H.length = some (.func (.yield l) #[] #[]) := by rw [hμ1]; simp [updM]
          have he1 : EnvR S w1 μ1 s.e a := fun j => (he j).tr hr.1 t1
          have hT1 := hC.step _ _ _ _ _ _ _ _ hT t1
          have hb1 : ∀ b', some b = some b' → b' ≤ w1.heap.size := fun b' e => Nat.le_trans (hb b' e) t1.size
          have hys := yield_sound (P := P) (T := T) (N := N) (B := some b) hC.step iha ihb (ps := ps) (e := s.e) (a0 := a.tmps) (S0 := S) (w0 := w1) (μ0 := μ1) (H0 := hget H1) (ol := s.H.length) (l := l) (fn := fn) (dd := w.heap.size) hN
            (fun j => he1 j) hr1.1 hT1 hb1 hm1 (r0 := r0) hrec
          have hRL : RL S w1 μ1 (fs ++ [.yld s.H.length] ++ cs) (vf ++ #[Value.func (.yield l) #[] #[]] ++ vc).toList := by
            have hR1' : ∀ (i : Nat) d v, fs[i]? = some d → vf[i]? = some v → R S w1 μ1 d v := fun i d v a b => (hR1 i d v a b).tr hr.1 t1
            have hR2' : ∀ (i : Nat) d v, cs[i]? = some d → vc[i]? = some v → R S w1 μ1 d v := fun i d v a b => (hR2 i d v a b).tr hr.1 t1
            refine ⟨by simp [hl1, hl2], fun i d v h1 h2 => ?_⟩
            simp only [Array.toList_append, List.append_assoc, List.singleton_append] at h1 h2
            rw [List.getElem?_append] at h1 h2
            simp only [Array.length_toList, hl1] at h1 h2
            split at h1
            · rename_i hlt
              rw [if_pos hlt] at h2
              exact hR1' i d v h1 (by simpa using h2)
            · rename_i hlt
              rw [if_neg hlt] at h2
              cases hq : i - vf.size with
              | zero =>
                rw [hq] at h1 h2
                simp at h1 h2
                subst h1; subst h2
                exact .yld _ l hm1
              | succ q =>
                rw [hq] at h1 h2
                exact hR2' q d v (by simpa using h1) (by simpa using h2)
          have hcalls := hi.calls s.H.length _ (fun S' w' μ' H' => Tr S w1 μ1 (hget H1) S' w' μ' H') (fun _ _ _ _ _ _ _ _ h1 h2 => Tr.trans h1 h2) hys _ _ _ (by have := h r0; rw [← hH1d] at this; exact this) S w1 μ1 _ (.refl ..) hr1 hRL
          rw [Array.toArray_toList] at hcalls
          have hmk : DfL (some b) S w1 μ1 (hget H1) df ({ target := .collected w.heap.size, args := #[] } :: a.defers) := by
            rw [hsd] at hdf
            have hdf : DfL (some b) S w μ (hget s.H) df a.defers := hdf
            refine .mark b w.heap.size rfl (hb b rfl) (by rw [hsize1]; omega) hD1 (fun hs => absurd (hr.1.stat _ hs).1 (by omega)) (fun o ob v ho hv hbv => ?_) (fun d hd e => ?_) (hdf.tr hr.1 t1)
            · rw [hH1] at ho
              by_cases e : o = s.H.length
              · subst e
                rw [hm1] at hv
                injection hv with hv
                subst hv
                rw [hl] at hbv; simp [blk] at hbv
              · simp only [updH, e, if_false] at ho
                rw [hμ1] at hv
                simp only [updM, e, if_false] at hv
                obtain ⟨mv, m1, m2⟩ := hr.1.obs o ob ho
                rw [hv] at m1; injection m1 with m1; subst m1
                exact absurd (m2.blk_lt hbv) (by omega)
            · exact absurd (hdf.marks d hd _ e) (by omega)
          have hen : (Instr.enterLoop fn a.tmps ps asg body none).run P w = .ok (l, [{ target := .collected w.heap.size, args := #[] }]) w1 := by rw [hw1, hl, hrec]; exact run_enterLoop_outer _ _ _ _ _
          have hres : (resolve a.eval (rangeCall f l) 0).run P w1 = .ok { target := .fn (.func g) vc, args := vf ++ #[Value.func (.yield l) #[] #[]] } w1 := by
            have hev : a.eval (.const (.func (.yield l) #[] #[])) = Value.func (.yield l) #[] #[] := rfl
            simp only [resolve, hvf, Deferred.ofValue, Sem.run_pure]
            simp [hev]
          have hinv : (invoke (.fn (.func g) vc) (vf ++ #[Value.func (.yield l) #[] #[]])).run P w1 = .ok (.enter g (vf ++ #[Value.func (.yield l) #[] #[]] ++ vc)) w1 := hi.enters _ _
          suffices hfin : CallsIn (FW none) (n - 1) P g (vf ++ #[Value.func (.yield l) #[] #[]] ++ vc) w1 (rangePost (FW none) n P l (PostC S w μ (hget s.H) none N (some b) K) { a with defers := [{ target := .collected w.heap.size, args := #[] }] ++ a.defers }) from
            ⟨l, _, w1, _, w1, g, _, w1, hen, hres, fun _ _ => trivial, hinv, fun h => absurd h Bool.false_ne_true, hfin⟩
          refine callsIn_FW.2 (Calls.mono hcalls ?_)
          rintro e' w2 ⟨S2, μ2, res, H2, k1, k2, k3, k4⟩
          have tt := t1.trans k4
          have hdf2 := hmk.tr hr1.1 k4
          have he2 : EnvR S2 w2 μ2 s.e { a with defers := [{ target := .collected w.heap.size, args := #[] }] ++ a.defers } := fun j => (he1 j).tr hr1.1 k4
          cases res with
          | pan d =>
            cases e' with
            | panicked ch =>
              simp only [lpOut_eq, fzh_iff] at k1
              exact ⟨S2, μ2, _, .panic d, k1, k2, ⟨k3, he2, hN, hdf2, .inl rfl⟩, tt⟩
            | _ => exact k2.elim
          | ret d =>
            cases e' with
            | returned v =>
              simp only [lpOut_eq] at k1
              have hm2 := mark_keep k4.mu hm1
              cases ho : hget H2 s.H.length with
              | none => rw [ho] at k1; exact k1.elim
              | some ob =>
                rw [ho] at k1
                cases ob <;> simp only at k1
                rename_i r2 p2
                obtain ⟨y, hy, hyr⟩ := lp_at k3 ho hm2
                have out : ∀ (x' : VX) (x : Exit), y.state ≠ .busy → K x' ⟨s.e, H2.set s.H.length (some (.lp r2 .gone)), some df⟩ → XR S2 (w2.putObj l (.loop { y with state := .exhausted })) μ2 x' x →
                    (Instr.endLoop l).run P w2 = .ok y.pending (w2.putObj l (.loop { y with state := .exhausted })) ∧ PostC S w μ (hget s.H) none N (some b) K x { a with defers := [{ target := .collected w.heap.size, args := #[] }] ++ a.defers } (w2.putObj l (.loop { y with state := .exhausted })) := fun x' x hb' hk hx => by
                  obtain ⟨u1, u2⟩ := turn_lp (p' := .gone) k3 ho hm2 hy (x' := { y with state := .exhausted }) trivial
                  exact ⟨run_endLoop hy hb', S2, μ2, _, x', hk, hx, ⟨u1, fun j => (he2 j).tr k3.1 u2, hN, hdf2.tr k3.1 u2, .inl rfl⟩, tt.trans u2⟩
                cases p2 <;> simp only [fzh_iff] at k1
                · obtain ⟨o1, o2⟩ := out .normal .normal (by rw [hyr]; simp) k1 trivial
                  refine ⟨_, _, o1, ?_⟩
                  rw [hyr]
                  rw [hyr] at o2
                  exact o2
                · obtain ⟨o1, o2⟩ := out .ret .ret (by rw [hyr]; simp) k1 trivial
                  refine ⟨_, _, o1, ?_⟩
                  rw [hyr]
                  rw [hyr] at o2
                  exact wpIn_ret o2
                · rename_i i
                  obtain ⟨o1, o2⟩ := out (.exit i) (.exit i) (by rw [hyr]; simp) k1 rfl
                  refine ⟨_, _, o1, ?_⟩
                  rw [hyr]
                  rw [hyr] at o2
                  exact wpIn_exit o2
            | _ => exact k2.elim
      · exact h.elim
    · exact h.elim
  · exact h.elim

theorem sound_vc (hC : CallsOK P C T) (hB : (∃ b, B = some b) ∨ ∀ g, C.iter g = none) : ∀ (c : Code), Sound P T N B c (vc C N c) := by
  intro c
  induction c with
  | skip => exact fun r n K s S w μ a hst hb hT h => wpIn_skip ⟨S, μ, s, .normal, h, trivial, hst, .refl ..⟩
  | ret => exact fun r n K s S w μ a hst hb hT h => wpIn_ret ⟨S, μ, s, .ret, h, trivial, hst, .refl ..⟩
  | exit i => exact fun r n K s S w μ a hst hb hT h => wpIn_exit ⟨S, μ, s, .exit i, h, rfl, hst, .refl ..⟩
  | seq x y ihx ihy =>
    intro r n K s S w μ a hst hb hT h
    refine wpIn_seq (wpIn_mono (ihx r n _ s S w μ a hst hb hT h) (fun e a' w' hq => ?_))
    obtain ⟨S', μ', s', x', h1, h2, h3, h4⟩ := hq
    cases x' with
    | normal =>
      cases e <;> try exact h2.elim
      exact wpIn_mono (ihy r n K s' S' w' μ' a' h3 (fun b e => Nat.le_trans (hb b e) h4.size) (hC.step _ _ _ _ _ _ _ _ hT h4) h1) (fun e a w hq => PostC.from h4 hq)
    | _ => cases e <;> first | exact h2.elim | exact ⟨S', μ', s', _, h1, h2, h3, h4⟩
  | cond c x y ihx ihy =>
    intro r n K s S w μ a hst hb hT h
    have h : vcCond c (vc C N x) (vc C N y) K s := h
    rw [vcCond_eq] at h
    have he := hst.env
    have hc := he.ev c
    split at h
    · rename_i hd
      rw [hd] at hc
      generalize hv : a.eval c = v at hc
      cases hc
      exact wpIn_cond_true hv (ihx r n K s S w μ a hst hb hT h)
    · rename_i hd
      rw [hd] at hc
      generalize hv : a.eval c = v at hc
      cases hc
      exact wpIn_cond_false hv (ihy r n K s S w μ a hst hb hT h)
    · rename_i b hd
      rw [hd] at hc
      have hc' := hc
      generalize hv : a.eval c = v at hc'
      cases hc'
      have ref : ∀ d, R S w μ d (a.eval c) → RelSt r N B S w μ ⟨refE c s.e d, s.H, s.df⟩ a := fun d hR => ⟨hst.rel, by
        cases c with
        | tmp i => exact he.upd hR
        | _ => exact he, hst.size, hst.df, hst.round⟩
      cases b with
      | true => exact wpIn_cond_true hv (ihx r n K ⟨refE c s.e .tt, s.H, s.df⟩ S w μ a (ref .tt (R_tt_of hc rfl)) hb hT (h.1 rfl))
      | false => exact wpIn_cond_false hv (ihy r n K ⟨refE c s.e .ff, s.H, s.df⟩ S w μ a (ref .ff (R_ff_of hc rfl)) hb hT (h.2 rfl))
    · exact h.elim
  | block id x ih =>
    intro r n K s S w μ a hst hb hT h
    refine wpIn_block (wpIn_mono (ih r n _ s S w μ a hst hb hT h) (fun e a' w' hq => ?_))
    obtain ⟨S', μ', s', x', h1, h2, h3, h4⟩ := hq
    cases x' with
    | exit i =>
      cases e <;> try exact h2.elim
      have h2 : i = _ := h2
      subst h2
      have h1 : (bif Nat.beq i id then K .normal s' else K (.exit i) s') := h1
      simp only [Exit.inBlock]
      cases hi : Nat.beq i id with
      | true =>
        rw [hi, cond_true] at h1
        rw [if_pos (Nat.eq_of_beq_eq_true hi)]
        exact ⟨S', μ', s', .normal, h1, trivial, h3, h4⟩
      | false =>
        rw [hi, cond_false] at h1
        rw [if_neg (fun e => by subst e; rw [Nat.beq_refl] at hi; cases hi)]
        exact ⟨S', μ', s', .exit i, h1, rfl, h3, h4⟩
    | _ => cases e <;> first | exact h2.elim | exact ⟨S', μ', s', _, h1, h2, h3, h4⟩
  | region id ops draw =>
    intro r n K s S w μ a hst hb hT h
    cases draw with
    | true => exact sound_draw hC hst h
    | false =>
      have := sound_ops (n := n) hC ops.toList 0 s S w μ a rfl hst hT h
      refine wpIn_region ?_
      rwa [← List.range_eq_range', Array.length_toList] at this
  | loop x ih =>
    intro r n K s S w μ a hst hb hT h
    have h : fzh s.H (fun H => vcLoop1 (vc C N x) K ⟨s.e, H, s.df⟩) := h
    rw [fzh_iff] at h
    obtain ⟨G, sl, hp, m, I, gh, g0, h1, h2, h3⟩ := h
    obtain ⟨hr, he, hN, hdf, hro⟩ := hst
    obtain ⟨μ1, r1, t1, hgs⟩ := add_ghosts gh hr
    have he1 : EnvR S w μ1 s.e a := fun j => (he j).tr hr.1 t1
    have h0 : ∀ o, (s.H ++ ghosts gh).length ≤ o → μ1 o = none := r1.2
    refine wpIn_loop_ghost (fun g a' w' => I g ∧ ∃ S' μ', RelSt r N B S' w' μ' ⟨envOf (sl g), hp g, s.df⟩ a' ∧ Tr S w μ1 (hget (s.H ++ ghosts gh)) S' w' μ' (hget (hp g))) m g0 ?_ fun g a' w' ⟨hI, S', μ', k1, k2⟩ => ?_
    · obtain ⟨μ', g1, g2, g3⟩ := cut_state (s := ⟨s.e, s.H ++ ghosts gh, s.df⟩) ⟨r1, he1, hN, hdf.tr hr.1 t1, hro⟩ (.refl ..) h0 (lenB_len (h1 g0).2) hgs (h1 g0).1 h2
      exact ⟨g3, S, μ', g1, g2⟩
    · have tt := t1.trans k2
      refine wpIn_mono (ih r n _ ⟨envOf (sl g), hp g, s.df⟩ S' w' μ' a' k1 (fun b e => Nat.le_trans (hb b e) tt.size) (hC.step _ _ _ _ _ _ _ _ hT tt) (h3 g hI)) (fun e a2 w2 hq => ?_)
      obtain ⟨S2, μ2, s2, x2, q1, q2, q3, q4⟩ := hq
      cases x2 with
      | normal =>
        cases e <;> try exact q2.elim
        obtain ⟨g', hdf2, q1⟩ := q1
        obtain ⟨μ3, r1, r2, r3⟩ := cut_state q3 (k2.trans q4) h0 (lenB_len (h1 g').2) (gs := noGh) (fun o ho => by cases ho) (by rw [hdf2]; exact (h1 g').1) q1
        rw [hdf2] at r1
        exact ⟨g', ⟨r3.1, S2, μ3, r1, r2⟩, r3.2⟩
      | _ => cases e <;> first | exact q2.elim | exact ⟨S2, μ2, s2, _, q1, q2, q3, tt.trans q4⟩
  | rangeFunc f ps asg body iha ihb => exact fun r n K s S w μ a hst hb hT h => sound_range hC hB iha ihb hst hb hT h
  | _ => intro r n K s S w μ a hst hb hT h; exact h.elim
end
end Go.V
end
section
set_option linter.unusedVariables false
set_option linter.unusedSimpArgs false
namespace Go.V

section
variable {P : Program} {C : Cx} {T : RT} {N : Nat} {S : Nat → Prop} {w : World} {μ : Mu} {H : HL}

theorem initE_get (ds : List D) (j : Nat) : initE ds j = ds.getD j .top := by
  induction ds generalizing j with
  | nil => rfl
  | cons d r ih => cases j with
    | zero => rfl
    | succ j => simpa [initE] using ih j
theorem init_env {ds : List D} {vs : List Value} (hRL : RL S w μ ds vs) (n : Nat) (dfs : List Deferred) : EnvR S w μ (initE ds) { tmps := vs.toArray ++ Array.replicate (n - vs.toArray.size) undef, defers := dfs } := fun j => by
  have hl := hRL.1
  show R S w μ (initE ds j) _
  rw [initE_get]
  rcases Nat.lt_or_ge j ds.length with hj | hj
  · have hj' : j < vs.length := by omega
    have := hRL.2 j ds[j] vs[j] (by simp [hj]) (by simp [hj'])
    have e1 : ds.getD j .top = ds[j] := by simp [List.getElem?_eq_getElem hj]
    have e2 : (vs.toArray ++ Array.replicate (n - vs.toArray.size) undef).getD j undef = vs[j] := by
      simp only [Array.getD_eq_getD_getElem?, Array.getElem?_append, List.size_toArray, hj', if_true, List.getElem?_toArray, List.getElem?_eq_getElem hj', Option.getD_some]
    rw [e1]
    simp only [e2]
    exact this
  · rw [List.getD_eq_getElem?_getD, List.getElem?_eq_none hj]
    exact .top _

theorem run_loadVar {t : Nat} {b off : Nat} {v : Value} (h : (Instr.loadAt t (.pointer (some ⟨b, off, none⟩))).run P w = .ok v w) : (loadVar t ⟨b, off, none⟩).run P w = .ok v w := by
  simpa [Instr.loadAt, Instr.sureAddr] using h
theorem R_ptr_form {T : Ty} {d : D} {v : Value} {H : HL} {k : D → Prop} (h : vload T d H k) (hR : R S w μ d v) : ∃ b off, v = .pointer (some ⟨b, off, none⟩) := by
  cases hR <;> simp only [V.vload] at h <;> exact ⟨_, _, rfl⟩

def resOne (tmps : Array Value) : ResultVar → Sem Value
  | .tmp t => Pure.pure (tmps.getD t undef)
  | .cell a t => do loadVar t (← asAddr (tmps.getD a undef))
theorem results_eq (fn : Func) (tmps : Array Value) : results fn tmps = (do let vs ← fn.results.mapM (resOne tmps); Pure.pure (if h : vs.size = 1 then vs[0] else .tuple vs)) := rfl
theorem vres_sound (hC : COK P C) {a : Act} {H : HL} {e : Env} (hr : RelL S w μ H) (he : EnvR S w μ e a) : ∀ (rs : List ResultVar) {k : List D → Prop}, vres C rs e H k →
    ∃ ds vs, (rs.mapM (resOne a.tmps)).run P w = .ok vs w ∧ RL S w μ ds vs ∧ k ds
  | [], k, h => ⟨[], [], by simp, ⟨rfl, fun i d v h => by simp at h⟩, h⟩
  | r :: rs, k, h => by
    cases r with
    | tmp t =>
      have h : fz (e t) (fun d => vres C rs e H fun ds => k (d :: ds)) := h
      rw [fz_iff] at h
      obtain ⟨ds, vs, g1, g2, g3⟩ := vres_sound hC hr he rs h
      refine ⟨e t :: ds, a.tmps.getD t undef :: vs, ?_, .cons (he t) g2, g3⟩
      simp only [List.mapM_cons, resOne, Sem.run_bind, Sem.run_pure, Result.andThen_ok, g1]
    | cell x t =>
      have h : vload (C.ty t) (e x) H (fun d => vres C rs e H fun ds => k (d :: ds)) := h
      obtain ⟨b, off, hv⟩ := R_ptr_form h (he x)
      obtain ⟨d, v, k1, k2, k3⟩ := sound_load (P := P) (hC.ty t) hr (he x) h
      obtain ⟨ds, vs, g1, g2, g3⟩ := vres_sound hC hr he rs k3
      refine ⟨d :: ds, v :: vs, ?_, .cons k2 g2, g3⟩
      rw [hv] at k1
      simp only [List.mapM_cons, resOne, Sem.run_bind, hv, asAddr, Sem.run_pure, Result.andThen_ok, run_loadVar k1, g1]

/-- What is no object's, and is not only read, may turn. -/
theorem put_other (hr : RelL S w μ H) {D : Nat} {ob : Obj} (hs : ¬ S D) (ho : ∀ o ob v, hget H o = some ob → μ o = some v → blk v ≠ some D) : RelL S (w.putObj D ob) μ H ∧ ∀ {d v}, R S w μ d v → R S (w.putObj D ob) μ d v := by
  have hst : ∀ b, S b → (w.putObj D ob).heap[b]? = w.heap[b]? := fun b hb => World.putObj_heap_other (fun e => hs (e ▸ hb))
  refine ⟨⟨⟨fun o ob' ho' => ?_, hr.1.sep, fun b hb => ⟨by rw [World.putObj_size]; exact (hr.1.stat b hb).1, (hr.1.stat b hb).2⟩⟩, hr.2⟩, fun h => h.keep (fun _ h => h) hst (.refl _)⟩
  obtain ⟨mv, h1, h2⟩ := hr.1.obs o ob' ho'
  exact ⟨mv, h1, h2.keep (fun _ h => h) hst (.refl _) fun b hb => World.putObj_heap_other (fun e => ho o ob' mv ho' h1 (by rw [hb, e]))⟩
theorem DfL.put {B : Option Nat} {Hp : Hp} {df : List D} {ds : List Deferred} (h : DfL B S w μ Hp df ds) {D : Nat} {ob : Obj} (hn : ∀ d ∈ ds, d.target ≠ .collected D) (hR : ∀ {d v}, R S w μ d v → R S (w.putObj D ob) μ d v) : DfL B S (w.putObj D ob) μ Hp df ds := by
  induction h with
  | nil => exact .nil
  | fn f fs cs vf vc h1 _ ih => exact .fn f fs cs vf vc (hR h1) (ih fun d hd => hn d (List.mem_cons_of_mem _ hd))
  | mark b D' h0 h1 h2 h3 h4 h5 h6 _ ih =>
    refine .mark b D' h0 h1 (by rw [World.putObj_size]; exact h2) ?_ h4 h5 h6 (ih fun d hd => hn d (List.mem_cons_of_mem _ hd))
    rw [World.putObj_heap_other (fun e => hn _ List.mem_cons_self (by rw [e]))]
    exact h3

def resV (vs : List Value) : Value := if h : vs.toArray.size = 1 then vs.toArray[0] else .tuple vs.toArray
/-- How a function ends. -/
def Fin (fin : List D → HL → Prop) (finP : D → HL → Prop) (S : Nat → Prop) (w : World) (μ : Mu) (H : HL) (e : Ending) (w' : World) : Prop := ∃ S' μ' H', RelL S' w' μ' H' ∧ Tr S w μ (hget H) S' w' μ' (hget H') ∧
  ((∃ ds vs, fin ds H' ∧ RL S' w' μ' ds vs ∧ e = .returned (resV vs)) ∨ ∃ d v, finP d H' ∧ R S' w' μ' d v ∧ e = .panicked [{ v, recovered := false }])

theorem leave_sound (hC : CallsOK P C T) {fn : Func} {tmps : Array Value} {e : Env} {fin : List D → HL → Prop} {finP : D → HL → Prop} {S0 : Nat → Prop} {w0 : World} {μ0 : Mu} {H0 : HL} {n : Nat} : ∀ (ds : List Deferred) (df : List D) (md : Md) (H : HL) (S : Nat → Prop) (w : World) (μ : Mu) (u : FrameMode),
    vleave C fn.results.toList e fin finP df md H → RelL S w μ H → EnvR S w μ e { tmps := tmps, defers := [] } → DfL (some w0.heap.size) S w μ (hget H) df ds → MdR S w μ md u → Tr S0 w0 μ0 (hget H0) S w μ (hget H) →
    LeavesInM (FW none) n P fn tmps (Fin fin finP S0 w0 μ0 H0) ds u w
  | [], df, md, H, S, w, μ, u, h, hr, he, hdf, hmd, t => by
    cases hdf
    cases md with
    | ret =>
      have hmd : u = .returning := hmd
      subst hmd
      have h : vres C fn.results.toList e H (fun ds => fin ds H) := h
      obtain ⟨ds, vs, g1, g2, g3⟩ := vres_sound hC.ok hr he _ h
      refine ⟨resV vs, ?_, S, μ, H, hr, t, .inl ⟨ds, vs, g3, g2, rfl⟩⟩
      rw [results_eq]
      simp only [Sem.run_bind]
      rw [Array.mapM_eq_mapM_toList]
      simp only [Sem.run_map]
      rw [g1]
      rfl
    | pan d =>
      obtain ⟨v, rfl, hv⟩ := hmd
      exact ⟨S, μ, H, hr, t, .inr ⟨d, v, h, hv, rfl⟩⟩
  | d :: ds, df, md, H, S, w, μ, u, h, hr, he, hdf, hmd, t => by
    have hu : u ≠ .run := fun e => by
      subst e
      cases md with
      | ret => have hmd : FrameMode.run = .returning := hmd; cases hmd
      | pan d => obtain ⟨v, e, _⟩ := hmd; cases e
    refine ⟨hu, ?_⟩
    cases hdf with
    | fn f fs cs vf vc h1 hdf' =>
      rename_i df
      have h : (match C.dfr f with
        | some dr => dr md (fs ++ cs) H fun md H => fzh H fun H => vleave C fn.results.toList e fin finP df md H
        | none => False) := h
      cases hd : C.dfr f with
      | none => rw [hd] at h; exact h.elim
      | some dr =>
        rw [hd] at h
        simp only at h
        have hs := hC.dfr f dr hd
        cases h1 with
        | fn _ _ _ _ _ hl1 hl2 hR1 hR2 =>
          have hRL : RL S w μ (fs ++ cs) (vf ++ vc).toList := by
            refine ⟨by simp [hl1, hl2], fun i d v h1 h2 => ?_⟩
            rw [Array.toList_append] at h2
            rw [List.getElem?_append] at h1 h2
            simp only [Array.length_toList, hl1] at h1 h2
            split at h1
            · rename_i hlt; rw [if_pos hlt] at h2; exact hR1 i d v h1 (by simpa using h2)
            · rename_i hlt; rw [if_neg hlt] at h2; exact hR2 _ d v h1 (by simpa using h2)
          have hcalls := hs.calls md _ H _ h S w μ _ u (n - 1) hr hRL hmd
          rw [Array.toArray_toList] at hcalls
          refine .inr ⟨fun h => absurd h Bool.false_ne_true, .func f, vc, f, vf ++ vc, rfl, hs.enters _ _, fun _ _ => trivial, hcalls.mono ?_⟩
          rintro e' u' w' ⟨⟨v, rfl⟩, S', μ', md', H', k1, k2, k3, k4⟩
          rw [fzh_iff] at k1
          exact leave_sound hC ds df md' H' S' w' μ' (settle u') k1 k3 (fun j => (he j).tr hr.1 k4) (hdf'.tr hr.1 k4) k2 (t.trans k4)
    | mark b D hb0 hb1 hlt hD hS hob hne hdf' =>
      injection hb0 with hb0
      obtain ⟨p1, p2⟩ := put_other (ob := .deferred none) hr hS hob
      refine .inl ⟨D, _, rfl, run_takeDeferred hD, leave_sound hC ds df md H S _ μ u h p1 (fun j => p2 (he j)) (hdf'.put hne p2) ?_ ?_⟩
      · cases md with
        | ret => exact hmd
        | pan d => obtain ⟨v, e, hv⟩ := hmd; exact ⟨v, e, p2 hv⟩
      · exact ⟨t.os, t.tape, t.output, by rw [World.putObj_size]; exact t.size, fun b hb hno => (World.putObj_heap_other (by omega)).trans (t.block b hb hno), t.sub, t.new, t.mu, t.blks, t.off, t.dom⟩

/-- A function's body: how it ends. -/
theorem body_sound (hC : CallsOK P C T) {f : Nat} {fn : Func} {code : Code} (hf : P.funcs[f]? = some fn) (hb : fn.body = some code) {fin : List D → HL → Prop} {finP : D → HL → Prop} {ds : List D} (h : vbody C fn code fin finP ds H) (hle : ds.length ≤ fn.ntmps)
    {vs : List Value} (hT : T S w μ (hget H)) (hr : RelL S w μ H) (hRL : RL S w μ ds vs) : Calls P f vs.toArray w (Fin fin finP S w μ H) := by
  refine (callsIn_FW (r := none) (n := 0)).1 (callsIn_of_wp_marks (F := FW none) hf hb trivial ?_)
  have hl := hRL.1
  have hst : RelSt none fn.ntmps (some w.heap.size) S w μ ⟨initE ds, H, some []⟩ { tmps := vs.toArray ++ Array.replicate (fn.ntmps - vs.toArray.size) undef, defers := [] } :=
    ⟨hr, init_env hRL _ _, by simp; omega, .nil, .inl rfl⟩
  refine wpIn_mono (sound_vc hC (.inl ⟨_, rfl⟩) code none 0 _ ⟨initE ds, H, some []⟩ S w μ _ hst (fun b e => by injection e with e; omega) hT h) ?_
  rintro x a' w' ⟨S', μ', s', x', q1, q2, q3, q4⟩
  cases hsd : s'.df with
  | none => simp only [hsd] at q1
  | some df =>
    simp only [hsd] at q1
    have hdf := q3.df
    rw [hsd] at hdf
    have he : EnvR S' w' μ' s'.e { tmps := a'.tmps, defers := [] } := q3.env
    cases x' with
    | normal => cases x <;> first | exact q2.elim | exact leave_sound hC _ df .ret s'.H S' w' μ' .returning q1 q3.rel he hdf rfl q4
    | ret => cases x <;> first | exact q2.elim | exact leave_sound hC _ df .ret s'.H S' w' μ' .returning q1 q3.rel he hdf rfl q4
    | exit i => exact q1.elim
    | panic d =>
      cases x <;> try exact q2.elim
      obtain ⟨v, rfl, hv⟩ := q2
      exact leave_sound hC _ df (.pan d) s'.H S' w' μ' _ q1 q3.rel he hdf ⟨v, rfl, hv⟩ q4

theorem sound_viewal {H : HL} (hr : Rel S w μ (hget H)) : ∀ (ds : List D) (vs : List Value) {k : List D → Prop}, RL S w μ ds vs → viewal H ds k → ∃ ds', k ds' ∧ (ds'.all noRef = true → RL (withH S μ (hget H)) w Mu0 ds' vs)
  | [], vs, k, hl, h => ⟨[], h, fun _ => ⟨hl.1, fun i d v h1 => by simp at h1⟩⟩
  | d :: ds, [], k, hl, h => by have := hl.1; simp at this
  | d :: ds, v :: vs, k, hl, h => by
    obtain ⟨hd, hl'⟩ := hl.cons_inv
    have h : viewa H d (fun d => viewal H ds fun r => k (d :: r)) := h
    obtain ⟨d', h1, h2⟩ := sound_viewa hr hd h
    obtain ⟨ds', h3, h4⟩ := sound_viewal hr ds vs hl' h1
    refine ⟨d' :: ds', h3, fun hn => ?_⟩
    simp only [List.all_cons, Bool.and_eq_true] at hn
    exact .cons (h2 hn.1) (h4 hn.2)

theorem enters_of {f : Nat} {fn : Func} {code : Code} (hf : P.funcs[f]? = some fn) (hname : (fn.name == "runtime.NumGoroutine") = false) (hb : fn.body = some code) : Enters P f := fun args w => by
  have hn : fn.name ≠ "runtime.NumGoroutine" := by simpa using hname
  simp [callFunc, hf, hn, hb, mark]

/-- A function that only reads: what it returns. -/
theorem vfun_calls {f : Nat} {fn : Func} {code : Code} (hf : P.funcs[f]? = some fn) (hb : fn.body = some code) (hC : CallsOK P C fun _ _ _ _ => True) {ds : List D} {k : D → Prop} (hle : ds.length ≤ fn.ntmps) (h : vfun C fn code k ds)
    (S : Nat → Prop) (w : World) (vs : List Value) (hS : ∀ b, S b → b < w.heap.size) (hRL : RL S w Mu0 ds vs) : Calls P f vs.toArray w fun e w' => ∃ v S' d, e = .returned v ∧ k d ∧ R S' w' Mu0 d v ∧ Grow S w S' w' := by
  have hr0 : RelL S w Mu0 [] := ⟨⟨fun o ob ho => by simp [hget] at ho, fun o o' ob ob' v v' b ho => by simp [hget] at ho, fun b hb => ⟨hS b hb, fun o ob v ho => by simp [hget] at ho⟩⟩, fun _ _ => rfl⟩
  refine (body_sound hC hf hb h hle trivial hr0 hRL).mono ?_
  rintro e w' ⟨S', μ', H', hr, t, ⟨ds1, vs1, h1, h2, rfl⟩ | ⟨d, v, h1, _⟩⟩
  · unfold finPure at h1
    obtain ⟨ds2, g4, g5⟩ := sound_viewal hr.1 ds1 vs1 h2 h1
    cases hn : ds2.all noRef with
    | false => simp [hn] at g4
    | true =>
      simp only [hn, cond_true] at g4
      have g6 := g5 hn
      have hgrow : Grow S w (withH S' μ' (hget H')) w' := ⟨t.os, t.tape, t.output, t.size, fun b hb => t.block b hb fun o ob v ho => by simp [hget] at ho, fun b hb => .inl (t.sub b hb), fun b hb => by
        rcases hb with hb | ⟨o, ob, v, ho, hv, hbv⟩
        · exact (t.new b hb).imp_right fun h => h.elim id fun ⟨o, ob, v, h1, _⟩ => by simp [hget] at h1
        · rcases t.blks o ob v b ho hv hbv with h1 | ⟨o', ob', v', h1, _⟩
          · exact .inr h1
          · simp [hget] at h1, fun b hb => by
        rcases hb with hb | ⟨o, ob, v, ho, hv, hbv⟩
        · exact (hr.1.stat b hb).1
        · obtain ⟨mv, m1, m2⟩ := hr.1.obs o ob ho
          rw [hv] at m1; injection m1 with m1; subst m1
          exact m2.blk_lt hbv⟩
      split at g4
      · rename_i d
        obtain ⟨d0, k1, k2⟩ := g4
        match vs1, g6 with
        | [v], g6 => exact ⟨_, _, d0, rfl, k1, by simpa [resV] using k2 _ _ _ g6.cons_inv.1, hgrow⟩
        | [], g6 => have := g6.1; simp at this
        | _ :: _ :: _, g6 => have := g6.1; simp at this
      · rename_i hne
        obtain ⟨d0, k1, k2⟩ := g4
        have : ¬ vs1.toArray.size = 1 := fun h1 => by
          have h2 := g6.1
          simp only [List.size_toArray] at h1
          match ds2, h2 with
          | [d], _ => exact hne d rfl
          | [], h2 => simp at h2; omega
          | _ :: _ :: _, h2 => simp at h2; omega
        refine ⟨_, _, d0, rfl, k1, ?_, hgrow⟩
        unfold resV
        rw [dif_neg this]
        exact k2 _ _ _ (.tup _ _ (by simpa using g6.1) fun i d v a b => g6.2 i d v a (by simpa using b))
  · exact h1.elim
theorem psound_of {f : Nat} {fn : Func} {code : Code} {r : PRule} (hf : P.funcs[f]? = some fn) (hname : (fn.name == "runtime.NumGoroutine") = false) (hb : fn.body = some code) (hC : CallsOK P C fun _ _ _ _ => True) (hdet : ∀ ds, Det (r ds))
    (h : ∀ ds k, r ds k → ds.length ≤ fn.ntmps ∧ ∃ ds', impAL noGh ds ds' (vfun C fn code k ds')) : PSound P f r := by
  refine ⟨hdet, enters_of hf hname hb, fun ds k hk S w vs hS hRL => ?_⟩
  obtain ⟨hle, ds', hi⟩ := h ds k hk
  obtain ⟨g1, g2⟩ := impAL_sound (gs := noGh) (fun o ho => by cases ho) hRL hi
  exact vfun_calls hf hb hC (by have := g1.1; have := hRL.1; omega) g2 S w vs hS g1

theorem inlC_calls (hC : CallsOK P C T) {f : Nat} {fn : Func} {code : Code} (hf : P.funcs[f]? = some fn) (hb : fn.body = some code) {ds : List D} {K : Res → HL → Prop} (h : inlC C fn code ds H K) {vs : List Value} (hT : T S w μ (hget H)) (hr : RelL S w μ H) (hRL : RL S w μ ds vs) :
    Calls P f vs.toArray w (CallPost S w μ H K) := by
  unfold inlC at h
  cases hq : Nat.ble ds.length fn.ntmps with
  | false => rw [hq] at h; exact h.elim
  | true =>
    rw [hq, cond_true] at h
    refine (body_sound hC hf hb h (Nat.le_of_ble_eq_true hq) hT hr hRL).mono ?_
    rintro e w' ⟨S', μ', H', hr', t, ⟨ds1, vs1, h1, h2, rfl⟩ | ⟨d, v, h1, h2, rfl⟩⟩
    · unfold finCall at h1
      split at h1
      · rename_i d
        match vs1, h2 with
        | [v], h2 => exact ⟨S', μ', .ret d, H', h1, by simpa [ResR, resV] using h2.cons_inv.1, hr', t⟩
        | [], h2 => have := h2.1; simp at this
        | _ :: _ :: _, h2 => have := h2.1; simp at this
      · rename_i hne
        have : ¬ vs1.toArray.size = 1 := fun h3 => by
          have h4 := h2.1
          simp only [List.size_toArray] at h3
          match ds1, h4 with
          | [d], _ => exact hne d rfl
          | [], h4 => simp at h4; omega
          | _ :: _ :: _, h4 => simp at h4; omega
        refine ⟨S', μ', .ret (.tup ds1), H', h1, ?_, hr', t⟩
        show R S' w' μ' (.tup ds1) (resV vs1)
        unfold resV
        rw [dif_neg this]
        exact .tup _ _ (by simpa using h2.1) fun i d v a b => h2.2 i d v a (by simpa using b)
    · exact ⟨S', μ', .pan d, H', h1, ⟨v, rfl, h2⟩, hr', t⟩
theorem csound_of {f : Nat} {fn : Func} {code : Code} (hf : P.funcs[f]? = some fn) (hname : (fn.name == "runtime.NumGoroutine") = false) (hb : fn.body = some code) (hC : CallsOK P C fun _ _ _ _ => True) : CSound P f (inlC C fn code) :=
  ⟨enters_of hf hname hb, fun _ _ _ h _ _ _ _ hr hRL => inlC_calls hC hf hb h trivial hr hRL⟩
theorem CallsOK.withY (hC : CallsOK P C T) {T' : RT} {ol : Nat} {h : CRule} (hT : RTok T') (hy : YSound P T' ol h) : CallsOK P { C with yld := some (ol, h) } T' :=
  ⟨⟨hC.ok.ty, hC.ok.zero, hC.ok.eq⟩, hC.mixed, hC.pure, hC.call, hC.iter, hC.dfr, fun ol' h' e => by
    simp only [Option.some.injEq, Prod.mk.injEq] at e
    obtain ⟨rfl, rfl⟩ := e
    exact hy, hT⟩
theorem isound_of {f : Nat} {fn : Func} {code : Code} (hf : P.funcs[f]? = some fn) (hname : (fn.name == "runtime.NumGoroutine") = false) (hb : fn.body = some code) (hC : CallsOK P C T) : ISound P f (inlI C fn code) :=
  ⟨enters_of hf hname hb, fun ol h T' hT hy ds H K hk S w μ vs hTw hr hRL => inlC_calls (hC.withY hT hy) hf hb hk hTw hr hRL⟩

theorem DfL.none_nil {Hp : Hp} {ds : List Deferred} (h : DfL none S w μ Hp [] ds) : ds = [] := by
  cases h with
  | nil => rfl
  | mark b D h0 => cases h0

theorem dsound_of {f : Nat} {fn : Func} {code : Code} (hf : P.funcs[f]? = some fn) (hname : (fn.name == "runtime.NumGoroutine") = false) (hb : fn.body = some code) (hres : fn.results = #[]) (hC : CallsOK P C fun _ _ _ _ => True) : DSound P f (inlD C fn code) := by
  refine ⟨enters_of hf hname hb, fun md ds H K h S w μ vs u n hr hRL hmd => ?_⟩
  unfold inlD at h
  split at h
  · rename_i id ops rest
    split at h
    · rename_i o1 o2 hops
      cases hq : (recOp o1 && Nat.ble ds.length fn.ntmps) with
      | false => rw [hq] at h; exact h.elim
      | true =>
        rw [hq, cond_true] at h
        simp only [Bool.and_eq_true] at hq
        obtain ⟨hro, hle⟩ := hq
        have hle := Nat.le_of_ble_eq_true hle
        split at h
        · rename_i hg2
          split at h
          · rename_i t hop2
            rw [fz_iff] at h
            obtain ⟨ops⟩ := ops
            simp only at hops
            subst hops
            have hC' : CallsOK P { C with iter := fun _ => none } fun _ _ _ _ => True := ⟨⟨hC.ok.ty, hC.ok.zero, hC.ok.eq⟩, hC.mixed, hC.pure, hC.call, (fun f i e => by cases e), hC.dfr, hC.yld, hC.step⟩
            have hl := hRL.1
            have hrec : o1.guard = none ∧ ∃ ats, o1.op = .call { callee := .builtin .recover, args := #[], argTypes := ats } := by
              unfold recOp at hro
              split at hro
              · rename_i hg
                split at hro
                · rename_i c hop
                  obtain ⟨callee, args, ats⟩ := c
                  split at hro
                  · rename_i hcal
                    simp only at hcal
                    subst hcal
                    have := nilB_eq hro
                    have : args = #[] := by simpa using this
                    subst this
                    exact ⟨hg, ats, hop⟩
                  · cases hro
                · cases hro
              · cases hro
            obtain ⟨hg1, ats, hop1⟩ := hrec
            obtain ⟨v0, u0, hv0, hrd, hset⟩ : ∃ v0 u0, R S w μ (recD md) v0 ∧ (∀ (c₀ : Frame) (cs : List Frame), c₀.mode = u → (recoverD (c₀ :: cs) = some (v0, { c₀ with mode := u0 } :: cs) ∨ (recoverD (c₀ :: cs) = none ∧ v0 = .nilIface ∧ u0 = u))) ∧ settle u0 = .returning := by
              cases md with
              | ret =>
                have hmd : u = .returning := hmd
                subst hmd
                refine ⟨.nilIface, .returning, .nilI, fun c₀ cs hc => .inr ⟨?_, rfl, rfl⟩, rfl⟩
                simp [recoverD, hc]
              | pan d =>
                obtain ⟨v, rfl, hv⟩ := hmd
                refine ⟨v, .panicking [{ v, recovered := true }], hv, fun c₀ cs hc => .inl ?_, by simp [settle]⟩
                simp [recoverD, hc]
            refine callsDIn_of_wpSIn (F := FW none) hf hb trivial fun c₀ cs hc => ?_
            have hN : (vs.toArray ++ Array.replicate (fn.ntmps - vs.toArray.size) undef).size = fn.ntmps := by simp; omega
            have he0 : EnvR S w μ (initE ds) { tmps := vs.toArray ++ Array.replicate (fn.ntmps - vs.toArray.size) undef, defers := [] } := init_env hRL _ _
            obtain ⟨e1, h1, he1⟩ := sound_put he0 hN hv0 h
            obtain ⟨e2, h2, he2⟩ := sound_put he1 (by rw [V.Act.put_size]; exact hN) (he1 t) h1
            refine wpSIn_seq (wpSIn_region ?_)
            -- the first region
            have fin : ∀ (cs' : List Frame), cs' = { c₀ with mode := u0 } :: cs →
                wpOpsSIn (FW none) n P #[o1, o2] (Exit.thenS (rest.wpSIn (FW none) n P (bodyPostS P fn c₀ cs fun e u' w' => (∃ v, e = Ending.returned v) ∧ ∃ S' μ' md' H', K md' H' ∧ MdR S' w' μ' md' (settle u') ∧ RelL S' w' μ' H' ∧ Tr S w μ (hget H) S' w' μ' (hget H')))
                  (bodyPostS P fn c₀ cs fun e u' w' => (∃ v, e = Ending.returned v) ∧ ∃ S' μ' md' H', K md' H' ∧ MdR S' w' μ' md' (settle u') ∧ RelL S' w' μ' H' ∧ Tr S w μ (hget H) S' w' μ' (hget H'))) [1]
                  (({ tmps := vs.toArray ++ Array.replicate (fn.ntmps - vs.toArray.size) undef, defers := [] } : Act).put o1.dst v0) cs' w := fun cs' hcs => by
              subst hcs
              simp only [wpOpsSIn, List.getElem?_toArray, List.getElem?_cons_succ, List.getElem?_cons_zero]
              refine ⟨fun _ _ => trivial, ?_⟩
              have hw2 : Region.wanted o2 (yielded #[o1, o2] (({ tmps := vs.toArray ++ Array.replicate (fn.ntmps - vs.toArray.size) undef, defers := [] } : Act).put o1.dst v0).tmps) = true := by simp [Region.wanted, hg2]
              rw [if_pos hw2]
              have hrun2 : ∀ (a : Act), (execOp a.eval o2).run P w = .ok (.value (a.tmps.getD t undef)) w := fun a => by simp [execOp, hop2, Act.eval]
              rw [hrun2]
              simp only [Exit.thenS]
              refine wpSIn_of_wpIn rfl ?_
              have hst : RelSt none fn.ntmps none S w μ ⟨e2, H, some []⟩ ((({ tmps := vs.toArray ++ Array.replicate (fn.ntmps - vs.toArray.size) undef, defers := [] } : Act).put o1.dst v0).put o2.dst ((({ tmps := vs.toArray ++ Array.replicate (fn.ntmps - vs.toArray.size) undef, defers := [] } : Act).put o1.dst v0).tmps.getD t undef)) :=
                ⟨hr, he2, by rw [V.Act.put_size, V.Act.put_size]; exact hN, by rw [V.Act.put_defers, V.Act.put_defers]; exact .nil, .inl rfl⟩
              refine wpIn_mono (sound_vc hC' (.inr fun _ => rfl) rest none n _ _ S w μ _ hst (fun b e => by cases e) trivial h2) ?_
              rintro x a' w' ⟨S', μ', s', x', q1, q2, q3, q4⟩
              have out : (match s'.df with | some [] => K .ret s'.H | _ => False) → a'.defers = [] ∧ ∃ u', ({ c₀ with mode := u0 } :: cs : List Frame) = { c₀ with mode := u' } :: cs ∧ ∃ v, (results fn a'.tmps).run P w' = .ok v w' ∧ (∃ v', Ending.returned v = Ending.returned v') ∧ ∃ S' μ' md' H', K md' H' ∧ MdR S' w' μ' md' (settle u') ∧ RelL S' w' μ' H' ∧ Tr S w μ (hget H) S' w' μ' (hget H') := fun q => by
                have hdf := q3.df
                cases hsd : s'.df with
                | none => rw [hsd] at q; exact q.elim
                | some df =>
                  cases df with
                  | cons _ _ => rw [hsd] at q; exact q.elim
                  | nil =>
                    rw [hsd] at q hdf
                    have hd0 := DfL.none_nil hdf
                    refine ⟨hd0, u0, rfl, .tuple #[], ?_, ⟨_, rfl⟩, S', μ', .ret, s'.H, q, hset, q3.rel, q4⟩
                    simp [results, hres]
              cases x' with
              | normal => cases x <;> first | exact q2.elim | exact out q1
              | ret => cases x <;> first | exact q2.elim | exact out q1
              | exit i => exact q1.elim
              | panic d => exact q1.elim
            have hrange : List.range (#[o1, o2] : Array Oper).size = [0, 1] := rfl
            rw [hrange]
            simp only [wpOpsSIn, List.getElem?_toArray, List.getElem?_cons_zero]
            refine ⟨fun _ _ => trivial, ?_⟩
            have hw1 : Region.wanted o1 (yielded #[o1, o2] (vs.toArray ++ Array.replicate (fn.ntmps - vs.toArray.size) undef)) = true := by simp [Region.wanted, hg1]
            rw [if_pos hw1]
            have hrun1 : ∀ (a : Act), (execOp a.eval o1).run P w = .ok .recover w := fun a => by simp [execOp, hop1, resolve, invoke, builtin]
            rw [hrun1]
            simp only
            rcases hrd c₀ cs hc with h3 | ⟨h3, rfl, rfl⟩
            · rw [h3]
              exact fin _ rfl
            · rw [h3]
              have hf1 := fin (c₀ :: cs) (by cases c₀; simp only at hc; rw [hc])
              simp only [wpOpsSIn, List.getElem?_toArray, List.getElem?_cons_succ, List.getElem?_cons_zero, h3] at hf1 ⊢
              exact hf1
          · exact h.elim
        · exact h.elim
    · exact h.elim
  · exact h.elim
end
end Go.V
end
section
set_option linter.unusedVariables false
set_option linter.unusedSimpArgs false
namespace Go.V

def szB (P : Program) (t n : Nat) : Bool := match P.info? t with
  | some i => i.size == n
  | none => false
def fieldsB (P : Program) : List Field → List (Nat × Nat × Nat) → Bool
  | [], [] => true
  | f :: r, x :: s => f.offset == x.1 && f.type == x.2.1 && szB P f.type x.2.2 && x.2.2 != 0 && fieldsB P r s
  | _, _ => false
/-- The fields of a struct that are all numbers, cell by cell. -/
def fieldsK (P : Program) : Nat → List Field → Bool
  | _, [] => true
  | i, f :: r => f.offset == i && f.name != "_" && (match P.underlying f.type with | some (.int .i64) => true | _ => false) && P.cellsOf f.type == 1 && fieldsK P (i + 1) r
def ksB (P : Program) (k : Nat) : KS → Bool
  | .str => (match P.underlying k with | some .string => true | _ => false)
  | .int q => (match P.underlying k with | some (.int q') => keq q' q | _ => false)
  | .ints m => (match P.underlying k with | some (.struct fields) => fieldsK P 0 fields.toList && fields.size == m | _ => false) && P.cellsOf k == m && P.keyType k && Nat.blt k P.types.size && P.keyTypeAt 9 k && laidOutB P
def isZ : Value → Bool
  | .int .i64 n => decide (n = 0)
  | _ => false
def ekB (P : Program) (e : Nat) : EK → Bool
  | .bool => (match P.info? e with | some i => (match i.zero with | some (.bool false) => true | _ => false) | none => false)
  | .ints m => (match P.info? e with | some i => (match i.zero with | some (.agg cs) => cs.toList.all isZ && cs.toList.length == m | _ => false) | none => false)
theorem ekB_ok {P : Program} {e : Nat} {ek : EK} (h : ekB P e ek = true) (w : World) : (zeroValue e).run P w = .ok (elemV ek fun _ => 0) w := by
  have key : ∀ {i : TypeInfo} {z : Value}, P.info? e = some i → i.zero = some z → (zeroValue e).run P w = .ok z w := fun hi hz => by simp [zeroValue, typeInfo, hi, hz]
  cases ek with
  | bool =>
    simp only [ekB] at h
    split at h
    · rename_i i hi
      split at h
      · rename_i hz
        rw [key hi hz]
        simp [elemV]
      · cases h
    · cases h
  | ints m =>
    simp only [ekB] at h
    split at h
    · rename_i i hi
      split at h
      · rename_i cs hz
        rw [key hi hz]
        simp only [Bool.and_eq_true, beq_iff_eq] at h
        obtain ⟨h1, h2⟩ := h
        simp only [elemV]
        congr 2
        apply Array.ext_getElem?
        intro j
        by_cases hj : j < m
        · have hj' : j < cs.size := by simpa using (h2 ▸ hj : j < cs.toList.length)
          have hz := List.all_eq_true.1 h1 cs[j] (by simp)
          have : cs[j] = Value.int .i64 0 := by
            generalize cs[j] = v at hz
            cases v with
            | int k n => cases k <;> simp [isZ] at hz; rw [hz]
            | _ => simp [isZ] at hz
          simp [hj, hj', this]
        · have hj' : ¬ j < cs.size := fun hh => hj (by rw [← h2]; simpa using hh)
          simp [hj, hj']
      · cases h
    · cases h
theorem fieldsK_mapM {P : Program} {ns : List Int} (hw : ∀ n ∈ ns, (Lit.int .i64 n).wf = true) {d : Nat} : ∀ {l : List Field} {i : Nat}, fieldsK P i l = true → i + l.length ≤ ns.length →
    ∃ r, l.mapM (fun f => P.keyLits (d + 1) f.type (((ns.map (Value.int .i64)).drop f.offset).take (P.cellsOf f.type))) = some r
  | [], i, _, _ => ⟨[], rfl⟩
  | f :: l, i, h, hl => by
    simp only [fieldsK, Bool.and_eq_true, beq_iff_eq] at h
    obtain ⟨⟨⟨⟨h1, h2⟩, h3⟩, h4⟩, h5⟩ := h
    simp only [List.length_cons] at hl
    obtain ⟨r, hr⟩ := fieldsK_mapM (d := d) hw h5 (by omega)
    have hu : P.underlying f.type = some (.int .i64) := by
      split at h3
      · rename_i hu; exact hu
      · cases h3
    have hi : i < ns.length := by omega
    have e : ((ns.map (Value.int .i64)).drop i).take 1 = [Value.int .i64 ns[i]] := by
      rw [List.drop_eq_getElem_cons (by simpa using hi)]
      simp
    refine ⟨[.int .i64 ns[i]] :: r, ?_⟩
    rw [List.mapM_cons, hr, h1, h4, e]
    simp [Program.keyLits, hu, hw ns[i] (List.getElem_mem hi)]
theorem fieldsK_names {P : Program} : ∀ {l : List Field} {i : Nat}, fieldsK P i l = true → ∀ f ∈ l, (f.name != "_") = true
  | [], i, _, f, hf => by cases hf
  | g :: l, i, h, f, hf => by
    simp only [fieldsK, Bool.and_eq_true] at h
    rcases List.mem_cons.1 hf with rfl | hf
    · exact h.1.1.1.2
    · exact fieldsK_names h.2 f hf
theorem ksB_ok {P : Program} {k : Nat} {ks : KS} (h : ksB P k ks = true) : Go.Maps.Keyed P k ∧ ∀ v, keyOK ks v → ∃ l, keyOf P k v = some l := by
  cases ks with
  | str =>
    simp only [ksB] at h
    split at h
    · rename_i hu
      refine ⟨Go.Maps.string_keyed hu, fun v hv => ?_⟩
      obtain ⟨s, rfl, hs⟩ := hv
      exact ⟨_, Go.WideMaps.keyOf_string_mk hu hs⟩
    · cases h
  | int q =>
    simp only [ksB] at h
    split at h
    · rename_i q' hu
      rw [keq_eq h] at hu
      refine ⟨Go.Maps.int_keyed hu, fun v hv => ?_⟩
      obtain ⟨n, rfl, hn⟩ := hv
      exact ⟨_, Go.Maps.keyOf_int_mk hu hn⟩
    · cases h
  | ints m =>
    simp only [ksB, Bool.and_eq_true, beq_iff_eq] at h
    obtain ⟨⟨⟨⟨⟨h1, h2⟩, h3⟩, h4⟩, h5⟩, h6⟩ := h
    split at h1
    · rename_i fields hu
      simp only [Bool.and_eq_true, beq_iff_eq] at h1
      obtain ⟨f1, f2⟩ := h1
      refine ⟨Go.Maps.Keyed.of_law (deep_law_laid h6 (m := 9) (by decide) ((blt_iff _ _).1 h4) h5 (by rw [hu])), fun v hv => ?_⟩
      obtain ⟨ns, hl, rfl, hw⟩ := hv
      have hsz : ∃ d, P.types.size = d + 1 := ⟨P.types.size - 1, by have := (blt_iff _ _).1 h4; omega⟩
      obtain ⟨d, hd⟩ := hsz
      obtain ⟨r, hr⟩ := fieldsK_mapM (P := P) (d := d) hw f1 (by simp; omega)
      have hall : fields.all (·.name != "_") = true := by
        rw [← Array.all_toList]
        exact List.all_eq_true.2 (fieldsK_names f1)
      have hlits : P.keyLits (P.types.size + 1) k (ns.map (Value.int .i64)) = some r.flatten := by
        rw [hd]
        unfold Program.keyLits
        simp only [hu]
        rw [if_pos ⟨by simp [hl, h2], hall⟩, hr]
        rfl
      refine ⟨.string (keyBytes r.flatten), ?_⟩
      simp only [keyOf, hu]
      rw [if_pos (by simp [h3, Value.formed, hu, hl, h2])]
      simp only [Value.cells]
      rw [hlits]
      rfl
    · cases h1
def tyB (P : Program) (t : Nat) : Ty → Bool
  | .int k => (match P.underlying t with | some (.int k') => keq k' k | _ => false) && szB P t 1
  | .bool => (match P.underlying t with | some .bool => true | _ => false) && szB P t 1
  | .str => (match P.underlying t with | some .string => true | _ => false) && szB P t 1
  | .struct sz fs => (match P.underlying t with | some (.struct fields) => fieldsB P fields.toList fs | _ => false) && szB P t sz
  | .array n e es sz => (match P.underlying t with | some (.array n' e') => n' == n && e' == e | _ => false) && szB P t sz && szB P e es
  | .slice e es eb => (match P.underlying t with | some (.slice e') => e' == e | _ => false) && szB P t 1 && szB P e es && Nat.blt 0 es && (match P.info? e with
    | some i => (match i.zero with | some z => i.size == es && i.bytes == eb && z.cells.size == es && z.cells.toList.all (·.oneCell') | none => false)
    | none => false)
  | .map ks ek k e => (match P.underlying t with | some (.map k' e') => k' == k && e' == e | _ => false) && szB P t 1 && ksB P k ks && ekB P e ek
  | .ptr e => (match P.underlying t with | some (.pointer e') => e' == e | _ => false) && szB P t 1
  | .iface => (match P.underlying t with | some (.interface _) => true | _ => false) && szB P t 1
  | .other => (match P.underlying t with | some d => plainT d | none => false) && szB P t 1
  | .no => true

theorem szB_ok {P : Program} {t n : Nat} (h : szB P t n = true) : szOf P t n := by
  unfold szB at h
  unfold szOf
  split at h
  · rename_i i hi
    rw [hi]
    simpa using h
  · cases h
theorem fieldsB_ok {P : Program} : ∀ {fs : List Field} {l : List (Nat × Nat × Nat)}, fieldsB P fs l = true →
    (∀ (i : Nat) x, l[i]? = some x → ∃ f, fs[i]? = some f ∧ f.offset = x.1 ∧ f.type = x.2.1 ∧ szOf P f.type x.2.2 ∧ x.2.2 ≠ 0) ∧ fs.mapM (fun f => (P.info? f.type).map fun i => (f.offset, i.size)) = some (l.map fun x => (x.1, x.2.2))
  | [], [], _ => ⟨fun i x h => by simp at h, rfl⟩
  | f :: r, x :: s, h => by
    simp only [fieldsB, Bool.and_eq_true, beq_iff_eq, bne_iff_ne] at h
    obtain ⟨⟨⟨⟨h1, h2⟩, h3⟩, h4⟩, h5⟩ := h
    obtain ⟨g1, g2⟩ := fieldsB_ok h5
    refine ⟨fun i y hy => ?_, ?_⟩
    · cases i with
      | zero => simp at hy; subst hy; exact ⟨f, rfl, h1, h2, szB_ok h3, h4⟩
      | succ i => exact g1 i y (by simpa using hy)
    · have := szB_ok h3
      unfold szOf at this
      cases hi : P.info? f.type with
      | none => simp [hi] at this
      | some i =>
        simp [hi] at this
        rw [List.mapM_cons, g2]
        simp [hi, h1, this]
  | [], _ :: _, h => by cases h
  | _ :: _, [], h => by cases h

theorem tyB_ok {P : Program} {t : Nat} {T : Ty} (h : tyB P t T = true) : tyOK P t T := by
  cases T <;> simp only [tyB, Bool.and_eq_true] at h <;> simp only [tyOK]
  case int k =>
    refine ⟨?_, szB_ok h.2⟩
    have h1 := h.1
    split at h1
    · rename_i k' hu; rw [hu, keq_eq h1]
    · cases h1
  case bool =>
    refine ⟨?_, szB_ok h.2⟩
    have h1 := h.1
    split at h1
    · rename_i hu; exact hu
    · cases h1
  case str =>
    refine ⟨?_, szB_ok h.2⟩
    have h1 := h.1
    split at h1
    · rename_i hu; exact hu
    · cases h1
  case struct sz fs =>
    have h1 := h.1
    split at h1
    · rename_i fields hu
      obtain ⟨g1, g2⟩ := fieldsB_ok h1
      exact ⟨fields, hu, szB_ok h.2, fun i x hx => let ⟨f, a, b⟩ := g1 i x hx; ⟨f, by simpa using a, b⟩, g2⟩
    · cases h1
  case array n e es sz =>
    refine ⟨?_, szB_ok h.1.2, szB_ok h.2⟩
    have h1 := h.1.1
    split at h1
    · rename_i n' e' hu
      simp only [Bool.and_eq_true, beq_iff_eq] at h1
      rw [hu, h1.1, h1.2]
    · cases h1
  case slice e es eb =>
    obtain ⟨⟨⟨⟨h1, h2⟩, h3⟩, h4⟩, h5⟩ := h
    refine ⟨?_, szB_ok h2, szB_ok h3, (blt_iff _ _).1 h4, ?_⟩
    · split at h1
      · rename_i e' hu; rw [hu, eq_of_beq h1]
      · cases h1
    · split at h5
      · rename_i i hi
        split at h5
        · rename_i z hz
          simp only [Bool.and_eq_true, beq_iff_eq] at h5
          exact ⟨i, z, hi, hz, h5.1.1.1, h5.1.1.2, h5.1.2, fun v hv => List.all_eq_true.1 h5.2 v hv⟩
        · cases h5
      · cases h5
  case map ks ek k e =>
    refine ⟨?_, szB_ok h.1.1.2, (ksB_ok h.1.2).1, (ksB_ok h.1.2).2, fun w => ekB_ok h.2 w⟩
    have h1 := h.1.1.1
    split at h1
    · rename_i k' e' hu
      simp only [Bool.and_eq_true, beq_iff_eq] at h1
      rw [hu, h1.1, h1.2]
    · cases h1
  case ptr e =>
    refine ⟨?_, szB_ok h.2⟩
    have h1 := h.1
    split at h1
    · rename_i e' hu; rw [hu, eq_of_beq h1]
    · cases h1
  case iface =>
    refine ⟨?_, szB_ok h.2⟩
    have h1 := h.1
    split at h1
    · rename_i ms hu; exact ⟨ms, hu⟩
    · cases h1
  case other =>
    refine ⟨?_, szB_ok h.2⟩
    have h1 := h.1
    split at h1
    · rename_i d hu; exact ⟨d, hu, h1⟩
    · cases h1

def zcB : Value → D → Bool
  | .int k n, .int k' n' => keq k k' && decide (n = n')
  | .bool b, .ff => !b
  | .string s, .str s' => decide (s = s')
  | .slice none 0 0, .rsl _ 0 _ => true
  | .nilIface, .nilI => true
  | .slice none 0 0, .nilS => true
  | _, .top => true
  | _, _ => false
theorem zcB_ok {S : Nat → Prop} {w : World} {v : Value} {d : D} (h : zcB v d = true) : R S w Mu0 d v := by
  unfold zcB at h
  split at h
  · simp only [Bool.and_eq_true, decide_eq_true_eq] at h
    obtain rfl := keq_eq h.1
    obtain rfl := h.2
    exact .int _ _
  · cases ‹Bool› <;> simp at h; exact .ff
  · simp only [decide_eq_true_eq] at h
    subst h
    exact .str _
  · exact .rsl _ 0 _ none 0 (fun _ _ => undef) (Nat.le_refl _) (fun h => absurd h (by omega)) (fun i j hi => absurd hi (by omega))
  · exact .nilI
  · exact .nilS
  · exact .top _
  · cases h
def zlB : List Value → List D → Bool
  | [], [] => true
  | v :: r, d :: s => zcB v d && zlB r s
  | _, _ => false
theorem zlB_ok : ∀ {vs : List Value} {ds : List D}, zlB vs ds = true → vs.length = ds.length ∧ ∀ (S : Nat → Prop) w (j : Nat) d v, ds[j]? = some d → vs[j]? = some v → R S w Mu0 d v
  | [], [], _ => ⟨rfl, fun S w j d v h => by simp at h⟩
  | v :: r, d :: s, h => by
    simp only [zlB, Bool.and_eq_true] at h
    obtain ⟨g1, g2⟩ := zlB_ok h.2
    refine ⟨by simp [g1], fun S w j a b ha hb => ?_⟩
    cases j with
    | zero => simp at ha hb; subst ha; subst hb; exact zcB_ok h.1
    | succ j => exact g2 S w j a b (by simpa using ha) (by simpa using hb)
  | [], _ :: _, h => by cases h
  | _ :: _, [], h => by cases h
def zeroB (P : Program) (t : Nat) (cs : List D) : Bool := match P.info? t with
  | some i => (match i.zero with | some z => i.size == cs.length && z.cells.toList.all (·.oneCell') && zlB z.cells.toList cs | none => false)
  | none => false
theorem zeroB_ok {P : Program} {t : Nat} {cs : List D} (h : zeroB P t cs = true) : zeroOK P t cs := by
  unfold zeroB at h
  split at h
  · rename_i i hi
    split at h
    · rename_i z hz
      simp only [Bool.and_eq_true, beq_iff_eq] at h
      obtain ⟨g1, g2⟩ := zlB_ok h.2
      refine ⟨i, z, hi, hz, h.1.1, by simpa using g1, fun j v hv => ?_, fun S w j d v h1 h2 => g2 S w j d v h1 (by simpa using h2)⟩
      exact List.all_eq_true.1 h.1.2 v (by simpa using List.mem_of_getElem? (l := z.cells.toList) (i := j) (by simpa using hv))
    · cases h
  · cases h

def eqB (P : Program) (t : Nat) : Bool := (P.fieldsOf t).toList.all (fun f => f.name != "_") && !P.stoodInHeld t && !P.eqGuardType P.depth t
theorem eqB_ok {P : Program} {t : Nat} (h : eqB P t = true) : eqOK P t := by
  simp only [eqB, Bool.and_eq_true, Bool.not_eq_true', List.all_eq_true, bne_iff_ne] at h
  exact ⟨h.1.1, h.1.2, h.2⟩

/-- A table of types, of their zero cells, and of those that are compared part by part. -/
abbrev Tab := List (Ty × Option (List D) × Bool)
def tabB (P : Program) : Nat → Tab → Bool
  | _, [] => true
  | t, (T, z, q) :: r => tyB P t T && (match z with | some cs => zeroB P t cs | none => true) && (!q || eqB P t) && tabB P (t + 1) r
theorem tabB_ok {P : Program} : ∀ {r : Tab} {t : Nat}, tabB P t r = true → ∀ (i : Nat) x, r[i]? = some x → tyOK P (t + i) x.1 ∧ (∀ cs, x.2.1 = some cs → zeroOK P (t + i) cs) ∧ (x.2.2 = true → eqOK P (t + i))
  | [], t, _, i, x, hx => by simp at hx
  | (T, z, q) :: r, t, h, i, x, hx => by
    simp only [tabB, Bool.and_eq_true] at h
    cases i with
    | zero =>
      simp only [List.getElem?_cons_zero, Option.some.injEq] at hx
      subst hx
      refine ⟨tyB_ok h.1.1.1, fun cs hcs => ?_, fun hq => ?_⟩
      · simp only at hcs
        subst hcs
        exact zeroB_ok h.1.1.2
      · simp only at hq
        subst hq
        exact eqB_ok (by simpa using h.1.2)
    | succ i =>
      have := tabB_ok h.2 i x (by simpa using hx)
      rwa [show t + 1 + i = t + (i + 1) by omega] at this
def tabTy (tab : Tab) (t : Nat) : Ty := match tab[t]? with
  | some x => x.1
  | none => .no
def tabZero (tab : Tab) (t : Nat) : Option (List D) := match tab[t]? with
  | some x => x.2.1
  | none => none
def tabEq (tab : Tab) (t : Nat) : Bool := match tab[t]? with
  | some x => x.2.2
  | none => false
theorem cok_of {P : Program} {tab : Tab} (h : tabB P 0 tab = true) {C : Cx} (h1 : C.ty = tabTy tab) (h2 : C.zero = tabZero tab) (h3 : C.eq = tabEq tab) : COK P C := by
  obtain ⟨ty, zero, pure, eq, call, iter, dfr, yld⟩ := C
  simp only at h1 h2 h3
  subst h1; subst h2; subst h3
  refine ⟨fun t => ?_, fun t cs hz => ?_, fun t hq => ?_⟩
  · show tyOK P t (tabTy tab t)
    unfold tabTy
    split
    · rename_i x hx
      have := (tabB_ok h t x hx).1
      rwa [Nat.zero_add] at this
    · exact trivial
  · have hz' : tabZero tab t = some cs := hz
    unfold tabZero at hz'
    split at hz'
    · rename_i x hx
      have := (tabB_ok h t x hx).2.1 cs hz'
      rwa [Nat.zero_add] at this
    · cases hz'
  · have hq' : tabEq tab t = true := hq
    unfold tabEq at hq'
    split at hq'
    · rename_i x hx
      have := (tabB_ok h t x hx).2.2 hq'
      rwa [Nat.zero_add] at this
    · cases hq'
end Go.V
end
section
set_option linter.unusedVariables false
set_option maxRecDepth 100000
namespace Go.Proofs.Ytbkehkiflfhpfaa
open Go.V
def tab : Tab := [
  (.no, none, false),
  (.other, some [.top], false),
  (.int .i64, some [.int .i64 0], false),
  (.int .i64, some [.int .i64 0], false),
  (.bool, some [.ff], false),
  (.int .u8, some [.int .u8 0], false),
  (.int .u8, some [.int .u8 0], false),
  (.struct 4 [(0, 2, 1), (1, 3, 1), (2, 4, 1), (3, 6, 1)], some [.int .i64 0, .int .i64 0, .ff, .int .u8 0], true),
  (.struct 4 [(0, 2, 1), (1, 3, 1), (2, 4, 1), (3, 6, 1)], some [.int .i64 0, .int .i64 0, .ff, .int .u8 0], true),
  (.str, some [.str ⟨#[]⟩], false),
  (.str, some [.str ⟨#[]⟩], false),
  (.str, some [.str ⟨#[]⟩], false),
  (.int .u64, some [.int .u64 0], false),
  (.struct 2 [(0, 9, 1), (1, 12, 1)], some [.str ⟨#[]⟩, .int .u64 0], false),
  (.struct 2 [(0, 9, 1), (1, 12, 1)], some [.str ⟨#[]⟩, .int .u64 0], false),
  (.ptr 184, some [.top], false),
  (.ptr 187, some [.top], false),
  (.ptr 196, some [.top], false),
  (.struct 1 [(0, 17, 1)], some [.top], false),
  (.struct 1 [(0, 17, 1)], some [.top], false),
  (.iface, some [.nilI], false),
  (.int .i32, some [.int .i32 0], false),
  (.slice 107 7 64, some [.nilS], false),
  (.slice 80 5 40, some [.nilS], false),
  (.slice 3 1 8, some [.nilS], false),
  (.struct 5 [(0, 22, 1), (1, 23, 1), (2, 24, 1), (3, 3, 1), (4, 3, 1)], some [.nilS, .nilS, .nilS, .int .i64 0, .int .i64 0], true),
  (.struct 5 [(0, 22, 1), (1, 23, 1), (2, 24, 1), (3, 3, 1), (4, 3, 1)], some [.nilS, .nilS, .nilS, .int .i64 0, .int .i64 0], true),
  (.int .i64, some [.int .i64 0], false),
  (.no, none, false),
  (.other, some [.top], false),
  (.other, some [.top], false),
  (.other, some [.top], false),
  (.other, some [.top], false),
  (.array 3 3 1 3, some [.int .i64 0, .int .i64 0, .int .i64 0], false),
  (.struct 2 [(0, 3, 1), (1, 3, 1)], some [.int .i64 0, .int .i64 0], true),
  (.struct 2 [(0, 3, 1), (1, 3, 1)], some [.int .i64 0, .int .i64 0], true),
  (.no, none, false),
  (.other, some [.top], false),
  (.slice 61 6 48, some [.nilS], false),
  (.no, none, false),
  (.other, some [.top], false),
  (.other, some [.top], false),
  (.other, some [.top], false),
  (.array 4 3 1 4, some [.int .i64 0, .int .i64 0, .int .i64 0, .int .i64 0], false),
  (.no, none, false),
  (.other, some [.top], false),
  (.other, some [.top], false),
  (.no, none, false),
  (.other, some [.top], false),
  (.other, some [.top], false),
  (.no, none, false),
  (.other, some [.top], false),
  (.int .i16, some [.int .i16 0], false),
  (.slice 170 1 1, some [.nilS], false),
  (.struct 7 [(0, 52, 1), (1, 52, 1), (2, 52, 1), (3, 52, 1), (4, 52, 1), (5, 52, 1), (6, 53, 1)], some [.int .i16 0, .int .i16 0, .int .i16 0, .int .i16 0, .int .i16 0, .int .i16 0, .nilS], true),
  (.struct 7 [(0, 52, 1), (1, 52, 1), (2, 52, 1), (3, 52, 1), (4, 52, 1), (5, 52, 1), (6, 53, 1)], some [.int .i16 0, .int .i16 0, .int .i16 0, .int .i16 0, .int .i16 0, .int .i16 0, .nilS], true),
  (.no, none, false),
  (.other, some [.top], false),
  (.no, none, false),
  (.other, some [.top], false),
  (.struct 6 [(0, 3, 1), (1, 3, 1), (2, 35, 2), (4, 35, 2)], some [.int .i64 0, .int .i64 0, .int .i64 0, .int .i64 0, .int .i64 0, .int .i64 0], true),
  (.struct 6 [(0, 3, 1), (1, 3, 1), (2, 35, 2), (4, 35, 2)], some [.int .i64 0, .int .i64 0, .int .i64 0, .int .i64 0, .int .i64 0, .int .i64 0], true),
  (.other, some [.top], false),
  (.other, some [.top], false),
  (.other, some [.top], false),
  (.slice 5 1 1, some [.nilS], false),
  (.no, none, false),
  (.other, some [.top], false),
  (.other, some [.top], false),
  (.no, none, false),
  (.other, some [.top], false),
  (.other, some [.top], false),
  (.other, some [.top], false),
  (.int .u16, some [.int .u16 0], false),
  (.struct 2 [(0, 73, 1), (1, 5, 1)], some [.int .u16 0, .int .u8 0], true),
  (.struct 2 [(0, 73, 1), (1, 5, 1)], some [.int .u16 0, .int .u8 0], true),
  (.other, some [.top], false),
  (.array 2 3 1 2, some [.int .i64 0, .int .i64 0], false),
  (.array 2 52 1 2, some [.int .i16 0, .int .i16 0], false),
  (.struct 5 [(0, 3, 1), (1, 3, 1), (2, 3, 1), (3, 3, 1), (4, 3, 1)], some [.int .i64 0, .int .i64 0, .int .i64 0, .int .i64 0, .int .i64 0], true),
  (.struct 5 [(0, 3, 1), (1, 3, 1), (2, 3, 1), (3, 3, 1), (4, 3, 1)], some [.int .i64 0, .int .i64 0, .int .i64 0, .int .i64 0, .int .i64 0], true),
  (.other, some [.top], false),
  (.other, some [.top], false),
  (.other, some [.top], false),
  (.other, some [.top], false),
  (.no, none, false),
  (.other, some [.top], false),
  (.other, some [.top], false),
  (.no, none, false),
  (.other, some [.top], false),
  (.other, some [.top], false),
  (.int .u32, some [.int .u32 0], false),
  (.other, some [.top], false),
  (.struct 3 [(0, 38, 1), (1, 38, 1), (2, 38, 1)], some [.nilS, .nilS, .nilS], true),
  (.struct 3 [(0, 38, 1), (1, 38, 1), (2, 38, 1)], some [.nilS, .nilS, .nilS], true),
  (.other, some [.top], false),
  (.other, some [.top], false),
  (.slice 24 1 24, some [.nilS], false),
  (.slice 33 3 24, some [.nilS], false),
  (.slice 77 2 16, some [.nilS], false),
  (.other, some [.top], false),
  (.array 2 35 2 4, some [.int .i64 0, .int .i64 0, .int .i64 0, .int .i64 0], false),
  (.slice 101 4 32, some [.nilS], false),
  (.other, some [.top], false),
  (.other, some [.top], false),
  (.map .str .bool 9 4, some [.top], false),
  (.struct 7 [(0, 9, 1), (1, 3, 1), (2, 3, 1), (3, 3, 1), (4, 3, 1), (5, 3, 1), (6, 3, 1)], some [.str ⟨#[]⟩, .int .i64 0, .int .i64 0, .int .i64 0, .int .i64 0, .int .i64 0, .int .i64 0], true),
  (.struct 7 [(0, 9, 1), (1, 3, 1), (2, 3, 1), (3, 3, 1), (4, 3, 1), (5, 3, 1), (6, 3, 1)], some [.str ⟨#[]⟩, .int .i64 0, .int .i64 0, .int .i64 0, .int .i64 0, .int .i64 0, .int .i64 0], true),
  (.other, some [.top], false),
  (.ptr 113, some [.top], false),
  (.map (.ints 3) .bool 163 4, some [.top], false),
  (.map (.int .i64) (.ints 3) 3 163, some [.top], false),
  (.struct 2 [(0, 110, 1), (1, 111, 1)], some [.top, .top], true),
  (.struct 2 [(0, 110, 1), (1, 111, 1)], some [.top, .top], true),
  (.other, some [.top], false),
  (.other, some [.top], false),
  (.struct 7 [(0, 26, 5), (5, 3, 1), (6, 3, 1)], some [.nilS, .nilS, .nilS, .int .i64 0, .int .i64 0, .int .i64 0, .int .i64 0], true),
  (.struct 7 [(0, 26, 5), (5, 3, 1), (6, 3, 1)], some [.nilS, .nilS, .nilS, .int .i64 0, .int .i64 0, .int .i64 0, .int .i64 0], true),
  (.no, none, false),
  (.other, some [.top], false),
  (.other, some [.top], false),
  (.slice 35 2 16, some [.nilS], false),
  (.slice 35 2 16, some [.nilS], false),
  (.no, none, false),
  (.other, some [.top], false),
  (.struct 2 [(0, 3, 1), (1, 3, 1)], some [.int .i64 0, .int .i64 0], true),
  (.struct 2 [(0, 3, 1), (1, 3, 1)], some [.int .i64 0, .int .i64 0], true),
  (.no, none, false),
  (.other, some [.top], false),
  (.other, some [.top], false),
  (.no, none, false),
  (.other, some [.top], false),
  (.other, some [.top], false),
  (.other, some [.top], false),
  (.other, some [.top], false),
  (.other, some [.top], false),
  (.other, some [.top], false),
  (.other, some [.top], false),
  (.no, none, false),
  (.other, some [.top], false),
  (.other, some [.top], false),
  (.ptr 80, some [.top], false),
  (.other, some [.top], false),
  (.other, some [.top], false),
  (.other, some [.top], false),
  (.struct 5 [(0, 4, 1), (1, 35, 2), (3, 35, 2)], some [.ff, .int .i64 0, .int .i64 0, .int .i64 0, .int .i64 0], true),
  (.struct 5 [(0, 4, 1), (1, 35, 2), (3, 35, 2)], some [.ff, .int .i64 0, .int .i64 0, .int .i64 0, .int .i64 0], true),
  (.other, some [.top], false),
  (.other, some [.top], false),
  (.other, some [.top], false),
  (.other, some [.top], false),
  (.other, some [.top], false),
  (.ptr 154, some [.top], false),
  (.struct 3 [(0, 65, 1), (1, 3, 1), (2, 4, 1)], some [.nilS, .int .i64 0, .ff], true),
  (.struct 3 [(0, 65, 1), (1, 3, 1), (2, 4, 1)], some [.nilS, .int .i64 0, .ff], true),
  (.other, some [.top], false),
  (.other, some [.top], false),
  (.other, some [.top], false),
  (.other, some [.top], false),
  (.other, some [.top], false),
  (.slice 38 1 24, some [.nilS], false),
  (.other, some [.top], false),
  (.struct 3 [(0, 3, 1), (1, 3, 1), (2, 3, 1)], some [.int .i64 0, .int .i64 0, .int .i64 0], true),
  (.struct 3 [(0, 3, 1), (1, 3, 1), (2, 3, 1)], some [.int .i64 0, .int .i64 0, .int .i64 0], true),
  (.no, none, false),
  (.other, some [.top], false),
  (.other, some [.top], false),
  (.other, some [.top], false),
  (.other, some [.top], false),
  (.other, some [.top], false),
  (.int .i8, some [.int .i8 0], false),
  (.other, some [.top], false),
  (.other, some [.top], false),
  (.other, some [.top], false),
  (.other, some [.top], false),
  (.other, some [.top], false),
  (.int .u64, some [.int .u64 0], false),
  (.other, some [.top], false),
  (.other, some [.top], false),
  (.other, some [.top], false),
  (.other, some [.top], false),
  (.other, some [.top], false),
  (.other, some [.top], false),
  (.struct 4 [(0, 17, 1), (1, 17, 1), (2, 17, 1), (3, 9, 1)], some [.top, .top, .top, .str ⟨#[]⟩], false),
  (.struct 4 [(0, 17, 1), (1, 17, 1), (2, 17, 1), (3, 9, 1)], some [.top, .top, .top, .str ⟨#[]⟩], false),
  (.array 0 16 1 0, some [], false),
  (.no, some [], false),
  (.no, some [], false),
  (.other, some [.top], false),
  (.int .u8, some [.int .u8 0], false),
  (.int .u8, some [.int .u8 0], false),
  (.other, some [.top], false),
  (.ptr 5, some [.top], false),
  (.int .i32, some [.int .i32 0], false),
  (.int .i32, some [.int .i32 0], false),
  (.struct 11 [(0, 12, 1), (1, 12, 1), (2, 91, 1), (3, 189, 1), (4, 5, 1), (5, 5, 1), (6, 190, 1), (7, 191, 1), (8, 192, 1), (9, 193, 1), (10, 194, 1)], some [.int .u64 0, .int .u64 0, .int .u32 0, .int .u8 0, .int .u8 0, .int .u8 0, .int .u8 0, .top, .top, .int .i32 0, .int .i32 0], false),
  (.struct 11 [(0, 12, 1), (1, 12, 1), (2, 91, 1), (3, 189, 1), (4, 5, 1), (5, 5, 1), (6, 190, 1), (7, 191, 1), (8, 192, 1), (9, 193, 1), (10, 194, 1)], some [.int .u64 0, .int .u64 0, .int .u32 0, .int .u8 0, .int .u8 0, .int .u8 0, .int .u8 0, .top, .top, .int .i32 0, .int .i32 0], false),
  (.no, some [.top], false)
]
theorem tab_ok : tabB Go.Proofs.Try.prog 0 tab = true := by kernel_rfl
end Go.Proofs.Ytbkehkiflfhpfaa
end
section
set_option linter.unusedVariables false
set_option linter.unusedSimpArgs false
namespace Go.V

abbrev Lib := List (Nat × PRule)
def libGet : Lib → Nat → Option PRule
  | [], _ => none
  | (f, r) :: l, g => bif Nat.beq f g then some r else libGet l g
def LibOK (P : Program) (l : Lib) : Prop := ∀ f r, libGet l f = some r → PSound P f r
theorem LibOK.nil (P : Program) : LibOK P [] := fun f r h => by cases h
theorem LibOK.cons {P : Program} {l : Lib} {f : Nat} {r : PRule} (h : PSound P f r) (hl : LibOK P l) : LibOK P ((f, r) :: l) := fun g s hg => by
  simp only [libGet] at hg
  cases hb : Nat.beq f g with
  | true =>
    rw [hb, cond_true, Option.some.injEq] at hg
    subst hg
    rw [← Nat.eq_of_beq_eq_true hb]
    exact h
  | false =>
    rw [hb, cond_false] at hg
    exact hl g s hg
def asGet {α : Type} : List (Nat × α) → Nat → Option α
  | [], _ => none
  | (f, r) :: l, g => bif Nat.beq f g then some r else asGet l g
theorem asGet_cons {α : Type} {Q : Nat → α → Prop} {l : List (Nat × α)} {f : Nat} {r : α} (h : Q f r) (hl : ∀ g s, asGet l g = some s → Q g s) : ∀ g s, asGet ((f, r) :: l) g = some s → Q g s := fun g s hg => by
  simp only [asGet] at hg
  cases hb : Nat.beq f g with
  | true =>
    rw [hb, cond_true, Option.some.injEq] at hg
    subst hg
    rw [← Nat.eq_of_beq_eq_true hb]
    exact h
  | false =>
    rw [hb, cond_false] at hg
    exact hl g s hg
/-- What is known of functions: those that only read; those that turn objects, or panic; those that are ranged over; those that are deferred. -/
structure Libs where
  p : Lib
  c : List (Nat × CRule)
  i : List (Nat × IRule)
  d : List (Nat × DRule)
structure LibsOK (P : Program) (L : Libs) : Prop where
  p : LibOK P L.p
  c : ∀ f r, asGet L.c f = some r → CSound P f r
  i : ∀ f r, asGet L.i f = some r → ISound P f r
  d : ∀ f r, asGet L.d f = some r → DSound P f r
def cxA (tab : Tab) (L : Libs) : Cx := ⟨tabTy tab, tabZero tab, libGet L.p, tabEq tab, asGet L.c, asGet L.i, asGet L.d, none⟩
def cxOf (tab : Tab) (l : Lib) : Cx := cxA tab ⟨l, [], [], []⟩
abbrev TT : RT := fun _ _ _ _ => True
theorem callsOK_A {P : Program} {tab : Tab} {L : Libs} (ht : tabB P 0 tab = true) (hm : P.follows .mixedOrders = true) (hl : LibsOK P L) : CallsOK P (cxA tab L) TT :=
  ⟨cok_of ht rfl rfl rfl, hm, hl.p, hl.c, hl.i, hl.d, fun ol h e => (by cases e), fun _ _ _ _ _ _ _ _ _ _ => trivial⟩
theorem LibsOK.of {P : Program} {l : Lib} (hl : LibOK P l) : LibsOK P ⟨l, [], [], []⟩ := ⟨hl, fun f r h => (by cases h), fun f r h => (by cases h), fun f r h => (by cases h)⟩
theorem callsOK_of {P : Program} {tab : Tab} {l : Lib} (ht : tabB P 0 tab = true) (hm : P.follows .mixedOrders = true) (hl : LibOK P l) : CallsOK P (cxOf tab l) TT := callsOK_A ht hm (.of hl)

def toI : D → Int
  | .int _ n => n
  | _ => 0
def toS : D → ByteArray
  | .str s => s
  | _ => ⟨#[]⟩
/-- Cells that are numbers. -/
def imD (a : Nat → Nat → Int) (i j : Nat) : D := .int .i64 (a i j)
def im (g : Nat → Nat → D) (i j : Nat) : Int := toI (g i j)
def IM (n s : Nat) (g : Nat → Nat → D) : Prop := ∀ i j, i < n → j < s → g i j = imD (im g) i j
theorem IM_imD (n s : Nat) (a : Nat → Nat → Int) : IM n s (imD a) := fun _ _ _ _ => rfl
theorem im_imD (a : Nat → Nat → Int) : im (imD a) = a := rfl
/-- Elements whose first cell is a string, and whose others are numbers. -/
def smD (nm : Nat → ByteArray) (a : Nat → Nat → Int) (i j : Nat) : D := match j with
  | 0 => .str (nm i)
  | j + 1 => .int .i64 (a i j)
def imS (g : Nat → Nat → D) (i j : Nat) : Int := toI (g i (j + 1))
def nmOf (g : Nat → Nat → D) (i : Nat) : ByteArray := toS (g i 0)
def SM (n s : Nat) (g : Nat → Nat → D) : Prop := ∀ i j, i < n → j < s → g i j = smD (nmOf g) (imS g) i j
theorem SM_smD (n s : Nat) (nm : Nat → ByteArray) (a : Nat → Nat → Int) : SM n s (smD nm a) := fun i j _ _ => by cases j <;> rfl

/-- A rule: what is asked, and what is returned. -/
def mk (f : List D → Option (Prop × D)) : PRule := fun ds k => match f ds with
  | some (p, d) => p ∧ k d
  | none => False
theorem mk_det (f : List D → Option (Prop × D)) (ds : List D) : Det (mk f ds) := fun k h => by
  unfold mk at h ⊢
  cases hf : f ds with
  | none => rw [hf] at h; exact h.elim
  | some x => rw [hf] at h; exact ⟨x.2, h.2, fun k' h' => ⟨h.1, h'⟩⟩
theorem psound_mk {P : Program} {C : Cx} {f : Nat} {fn : Func} {code : Code} {g : List D → Option (Prop × D)} (hf : P.funcs[f]? = some fn) (hname : (fn.name == "runtime.NumGoroutine") = false) (hb : fn.body = some code) (hC : CallsOK P C TT)
    (h : ∀ ds p d, g ds = some (p, d) → ds.length ≤ fn.ntmps ∧ (p → ∀ k : D → Prop, k d → ∃ ds', impAL noGh ds ds' (vfun C fn code k ds'))) : PSound P f (mk g) :=
  psound_of hf hname hb hC (mk_det g) fun ds k hk => by
    unfold mk at hk
    cases hg : g ds with
    | none => rw [hg] at hk; exact hk.elim
    | some x =>
      obtain ⟨p, d⟩ := x
      rw [hg] at hk
      obtain ⟨h1, h2⟩ := h ds p d hg
      exact ⟨h1, h2 hk.1 k hk.2⟩

/-- A result that is told. -/
theorem fin_of {d d0 : D} {k : D → Prop} (h : k d0) (hi : impA noGh d d0 True) : imp1 d k := ⟨d0, h, fun S w v hR => (impA_sound (fun o ho => by cases ho) hi hR).1⟩

end Go.V
end
section
set_option linter.unusedVariables false
set_option linter.unusedSimpArgs false
namespace Go.V

/-- What a function's body is. -/
def codeOf (fn : Func) : Code := fn.body.getD .skip
def inl (C : Cx) (fn : Func) : CRule := inlC C fn (codeOf fn)
theorem csound_in {P : Program} {C : Cx} {f : Nat} {fn : Func} (hf : P.funcs[f]? = some fn) (hname : (fn.name == "runtime.NumGoroutine") = false) (hb : fn.body = some (codeOf fn)) (hC : CallsOK P C TT) : CSound P f (inl C fn) := csound_of hf hname hb hC
/-- A call leaves with a result and a heap of our choice: as many objects as there were, told as we like. -/
def tidyK (H : HL) (K : Res → HL → Prop) (r : Res) (H' : HL) : Prop := match r with
  | .pan d => K (.pan d) H'
  | .ret d => ∃ (d' : D) (H2 : HL), (idsOK H.length [(0, d')] H2 none = true ∧ lenB H2 H = true) ∧ impA noGh d d' (impH noGh H' H2 (K (.ret d') H2))
def tidy (c : CRule) : CRule := fun ds H K => c ds H (tidyK H K)
theorem tidy_ok {P : Program} {f : Nat} {c : CRule} (h : CSound P f c) : CSound P f (tidy c) := by
  refine ⟨h.enters, fun ds H K hk S w μ vs hr hRL => Calls.mono (h.calls ds H _ hk S w μ vs hr hRL) fun e w' hp => ?_⟩
  obtain ⟨S', μ', r, H', k1, k2, k3, k4⟩ := hp
  cases r with
  | pan d => exact ⟨S', μ', .pan d, H', k1, k2, k3, k4⟩
  | ret d =>
    obtain ⟨d', H2, ⟨hids, hlen⟩, himp⟩ := k1
    cases e with
    | returned v =>
      have k2' : R S' w' μ' d v := k2
      have hst : RelSt none 1 none S' w' μ' ⟨upd (fun _ => .top) 0 d, H', none⟩ { tmps := #[v], defers := [] } := ⟨k3, fun i => by
        cases i with
        | zero => exact k2'
        | succ i => exact .top _, rfl, trivial, .inl rfl⟩
      obtain ⟨μ2, g1, g2, g3⟩ := cut_state (s := ⟨upd (fun _ => .top) 0 d, H', none⟩) (sl := [(0, d')]) (Hg := H2) (H0 := H) (gs := noGh) hst k4 hr.2 (lenB_len hlen) (fun o ho => by cases ho) hids himp
      exact ⟨S', μ2, .ret d', H2, g3, g1.env 0, g1.rel, g2⟩
    | _ => exact k2.elim
theorem csound_mono {P : Program} {f : Nat} {c c' : CRule} (h : CSound P f c) (hi : ∀ ds H K, c' ds H K → c ds H K) : CSound P f c' :=
  ⟨h.enters, fun ds H K hk S w μ vs hr hRL => h.calls ds H K (hi ds H K hk) S w μ vs hr hRL⟩
/-- The rule of a function that turns objects. -/
theorem csound_mk {P : Program} {C : Cx} {f : Nat} {fn : Func} {c : CRule} (hf : P.funcs[f]? = some fn) (hname : (fn.name == "runtime.NumGoroutine") = false) (hb : fn.body = some (codeOf fn)) (hC : CallsOK P C TT) (hi : ∀ ds H K, c ds H K → tidy (inl C fn) ds H K) : CSound P f c :=
  csound_mono (tidy_ok (csound_in hf hname hb hC)) hi
end Go.V
end
section
set_option linter.unusedVariables false
set_option linter.unusedSimpArgs false
namespace Go.V

/-- The kinds of cells. -/
inductive CK where
  | int (k : IntKind)
  | bool
  | str
  | sl (ks : List CK)

def fieldsCK (P : Program) (K : Nat → Option (List CK)) : Nat → List Field → Option (List CK)
  | _, [] => some []
  | off, f :: r => match K f.type with
    | some ks => if f.offset = off ∧ P.cellsOf f.type = ks.length then (fieldsCK P K (off + ks.length) r).map (ks ++ ·) else none
    | none => none
def repCK (ks : List CK) : Nat → List CK
  | 0 => []
  | n + 1 => ks ++ repCK ks n
/-- The kinds of a type's cells. -/
def cks (P : Program) : Nat → Nat → Option (List CK)
  | 0, _ => none
  | f + 1, t => match P.underlying t with
    | some .bool => some [.bool]
    | some (.int k) => some [.int k]
    | some .string => some [.str]
    | some (.slice e) => match cks P f e with
      | some ks => if P.cellsOf e = ks.length ∧ 0 < ks.length then some [.sl ks] else none
      | none => none
    | some (.struct fs) => match fieldsCK P (cks P f) 0 fs.toList with
      | some ks => if P.cellsOf t = ks.length then some ks else none
      | none => none
    | some (.array n e) => match cks P f e with
      | some ks => if P.cellsOf e = ks.length ∧ P.cellsOf t = n * ks.length then some (repCK ks n) else none
      | none => none
    | _ => none

/-- What a cell tells. -/
def Is : Nat → CK → D → Prop
  | 0, _, _ => False
  | _ + 1, .int k, d => ∃ n, d = .int k n ∧ k.min ≤ n ∧ n ≤ k.max
  | _ + 1, .bool, d => ∃ b, d = .bool b
  | _ + 1, .str, d => ∃ s, d = .str s ∧ s.size ≤ 9223372036854775807
  | f + 1, .sl ks, d => ∃ n g, d = .rsl ks.length n g ∧ n ≤ 9223372036854775807 ∧ ∀ i j c, i < n → ks[j]? = some c → Is f c (g i j)
theorem Is.one {f : Nat} {c : CK} {d : D} (h : Is f c d) : one d = true := by
  cases f with
  | zero => exact h.elim
  | succ f =>
    cases c with
    | int k => obtain ⟨n, rfl, _⟩ := h; rfl
    | bool => obtain ⟨b, rfl⟩ := h; rfl
    | str => obtain ⟨s, rfl, _⟩ := h; rfl
    | sl ks => obtain ⟨n, g, rfl, _⟩ := h; rfl

/-- Cells of some kinds, told. -/
def Told (w : World) (f : Nat) (ks : List CK) (cs : List Value) : Prop := ∃ ds : List D, ds.length = ks.length ∧ cs.length = ks.length ∧ (∀ (i : Nat) c d, ks[i]? = some c → ds[i]? = some d → Is f c d) ∧
  ∀ (i : Nat) d v, ds[i]? = some d → cs[i]? = some v → R (fun b => b < w.heap.size) w Mu0 d v
theorem Told.nil (w : World) (f : Nat) : Told w f [] [] := ⟨[], rfl, rfl, fun i c d h => (by simp at h), fun i d v h => (by simp at h)⟩
theorem Told.append {w : World} {f : Nat} {k1 k2 : List CK} {c1 c2 : List Value} (h1 : Told w f k1 c1) (h2 : Told w f k2 c2) : Told w f (k1 ++ k2) (c1 ++ c2) := by
  obtain ⟨d1, a1, b1, e1, r1⟩ := h1
  obtain ⟨d2, a2, b2, e2, r2⟩ := h2
  refine ⟨d1 ++ d2, by simp [a1, a2], by simp [b1, b2], fun i c d hc hd => ?_, fun i d v hd hv => ?_⟩
  · by_cases hi : i < k1.length
    · rw [List.getElem?_append_left hi] at hc
      rw [List.getElem?_append_left (by omega)] at hd
      exact e1 i c d hc hd
    · rw [List.getElem?_append_right (by omega)] at hc
      rw [List.getElem?_append_right (by omega), a1] at hd
      exact e2 _ c d hc hd
  · by_cases hi : i < k1.length
    · rw [List.getElem?_append_left (by omega)] at hd hv
      exact r1 i d v hd hv
    · rw [List.getElem?_append_right (by omega), a1] at hd
      rw [List.getElem?_append_right (by omega), b1] at hv
      exact r2 _ d v hd hv
theorem Told.one {w : World} {f : Nat} {c : CK} {d : D} {v : Value} (h : Is f c d) (hr : R (fun b => b < w.heap.size) w Mu0 d v) : Told w f [c] [v] := by
  refine ⟨[d], rfl, rfl, fun i c' d' hc hd => ?_, fun i d' v' hd hv => ?_⟩
  · cases i with
    | zero => simp at hc hd; subst hc; subst hd; exact h
    | succ i => simp at hc
  · cases i with
    | zero => simp at hd hv; subst hd; subst hv; exact hr
    | succ i => simp at hd

theorem wf_kind {k : IntKind} {n : Int} (h : (Lit.int k n).wf = true) : k.min ≤ n ∧ n ≤ k.max := by
  simpa [Lit.wf] using h

section
variable {H : Type} {enc : TypeId × Value → H} {P : Program} {w : World} {spare : Nat → Bool} {held : Bool}

theorem told_fields {K : Nat → Option (List CK)} {f n : Nat} {cs : List Value} (ih : ∀ t ks cs x, DataW.trod enc P w 0 spare held n t cs = some x → K t = some ks → Told w f ks cs) :
    ∀ {l : List Field} {off : Nat} {ks : List CK}, (∀ (i : Nat) (f : Field), l[i]? = some f → ∃ y, DataW.trod enc P w 0 spare held n f.type ((cs.drop f.offset).take (P.cellsOf f.type)) = some y) →
      fieldsCK P K off l = some ks → Told w f ks ((cs.drop off).take ks.length)
  | [], off, ks, _, h => by
    simp only [fieldsCK, Option.some.injEq] at h
    subst h
    simpa using Told.nil w f
  | fd :: r, off, ks, hf, h => by
    simp only [fieldsCK] at h
    split at h
    · rename_i k1 hk1
      split at h
      · rename_i hc
        obtain ⟨h1, h2⟩ := hc
        rw [Option.map_eq_some_iff] at h
        obtain ⟨k2, hk2, rfl⟩ := h
        obtain ⟨y, hy⟩ := hf 0 fd rfl
        rw [h1, h2] at hy
        have g1 := ih _ _ _ _ hy hk1
        have g2 := told_fields ih (l := r) (fun i f hi => hf (i + 1) f (by simpa using hi)) hk2
        have := g1.append g2
        rwa [← List.drop_drop, ← List.take_add, ← List.length_append] at this
      · cases h
    · cases h

theorem told_rep {f n e : Nat} {cs : List Value} {ks : List CK} (ih : ∀ cs x, DataW.trod enc P w 0 spare held n e cs = some x → Told w f ks cs) (he : P.cellsOf e = ks.length) :
    ∀ (m off : Nat), (∀ i, i < m → ∃ y, DataW.trod enc P w 0 spare held n e ((cs.drop ((off + i) * P.cellsOf e)).take (P.cellsOf e)) = some y) → Told w f (repCK ks m) ((cs.drop (off * ks.length)).take (m * ks.length))
  | 0, off, _ => by simpa [repCK] using Told.nil w f
  | m + 1, off, h => by
    obtain ⟨y, hy⟩ := h 0 (by omega)
    rw [he] at hy
    have g1 := ih _ _ hy
    have g2 := told_rep ih he m (off + 1) fun i hi => by
      have := h (i + 1) (by omega)
      rwa [show off + (i + 1) = off + 1 + i by omega] at this
    have := g1.append g2
    rw [Nat.add_zero, Nat.add_mul, Nat.one_mul, ← List.drop_drop, ← List.take_add] at this
    rwa [repCK, show (m + 1) * ks.length = ks.length + m * ks.length by rw [Nat.add_mul]; omega]

theorem cell_lt {w : World} {a : Addr} {v : Value} (h : w.cell? a = some v) : a.block < w.heap.size := by
  unfold World.cell? at h
  split at h
  · rename_i hb
    exact (Array.getElem?_eq_some_iff.1 hb).1
  · cases h

theorem cells_get {w : World} {a : Addr} {n : Nat} {cs : List Value} (h : w.cells? 0 a n = some cs) : cs.length = n ∧ ∀ j, j < n → w.cell? (a.add j) = cs[j]? := by
  unfold World.cells? at h
  rw [if_pos (Nat.zero_le _)] at h
  exact ⟨by simpa using mapM_some_length h, fun j hj => mapM_some_get h j j (by simp [hj])⟩

theorem add_add (a : Addr) (m n : Nat) (h : (a.add (m + n)).spot = none) : (a.add m).add n = a.add (m + n) := by
  obtain ⟨b, o, s⟩ := a
  unfold Addr.add at *
  by_cases hm : m = 0
  · subst hm; simp
  · by_cases hn : n = 0
    · subst hn; simp [hm]
    · have : m + n ≠ 0 := by omega
      simp [hm, hn, this, Nat.add_assoc]
theorem add_of {a : Addr} {m n : Nat} {v : Value} {w : World} (h : w.cell? ((a.add m).add n) = some v) (h0 : a.spot = none) : w.cell? ⟨a.block, a.off + (m + n), none⟩ = some v := by
  obtain ⟨b, o, s⟩ := a
  simp only at h0
  subst h0
  rw [← h]
  unfold Addr.add
  by_cases hm : m = 0
  · subst hm
    by_cases hn : n = 0
    · subst hn; simp
    · simp [hn]
  · by_cases hn : n = 0
    · subst hn; simp [hm]
    · simp [hm, hn, Nat.add_assoc]

theorem told_of_trod : ∀ (f : Nat) {n t : Nat} {cs : List Value} {x : DataW H × List MemPlace} {ks : List CK}, DataW.trod enc P w 0 spare held n t cs = some x → cks P f t = some ks → Told w f ks cs
  | 0, n, t, cs, x, ks, _, h => by cases h
  | f + 1, n, t, cs, x, ks, ht, h => by
    have up : ∀ {ks : List CK} {cs : List Value}, Told w f ks cs → Told w (f + 1) ks cs := by
      intro ks cs h
      obtain ⟨ds, a, b, e, r⟩ := h
      have mono : ∀ (f : Nat) (c : CK) (d : D), Is f c d → Is (f + 1) c d := by
        intro f
        induction f with
        | zero => intro c d h; exact h.elim
        | succ f ih =>
          intro c d h
          cases c with
          | int k => exact h
          | bool => exact h
          | str => exact h
          | sl ks => obtain ⟨n, g, rfl, hn, hg⟩ := h; exact ⟨n, g, rfl, hn, fun i j c hi hj => ih c _ (hg i j c hi hj)⟩
      exact ⟨ds, a, b, fun i c d hc hd => mono f c d (e i c d hc hd), r⟩
    simp only [cks] at h
    split at h
    · rename_i hu
      obtain ⟨b, rfl, _⟩ := DataW.trod_bool hu ht
      cases h
      exact .one (d := .bool b) ⟨b, rfl⟩ (.bool b)
    · rename_i k hu
      obtain ⟨m, rfl, _, hw⟩ := DataW.trod_int hu ht
      cases h
      exact .one (d := .int k m) ⟨m, rfl, wf_kind hw⟩ (.int k m)
    · rename_i hu
      obtain ⟨s, rfl, _, hs⟩ := DataW.trod_string hu ht
      cases h
      exact .one (d := .str s) ⟨s, rfl, by unfold maxLen at hs; omega⟩ (.str s)
    · rename_i e hu
      split at h
      · rename_i ks' hks
        split at h
        · rename_i hc
          obtain ⟨hc1, hc2⟩ := hc
          cases h
          rcases DataW.trod_slice hu ht with ⟨rfl, _⟩ | ⟨a, len, cap, elems, rest, m, _, rfl, _, _, hl, hm, hlen, hel, _, _⟩
          · exact .one (d := .rsl ks'.length 0 fun _ _ => .top) ⟨0, _, rfl, by omega, fun i j c hi => absurd hi (by omega)⟩ (.rsl _ 0 _ none 0 (fun _ _ => undef) (Nat.le_refl _) (fun h => absurd h (by omega)) (fun i j hi => absurd hi (by omega)))
          · have hrow : ∀ i, i < len → ∃ cs' : List Value, w.cells? 0 (a.add (i * ks'.length)) ks'.length = some cs' ∧ Told w f ks' cs' := fun i hi => by
              have h1 := hel i hi
              rw [List.getElem?_eq_getElem (by omega)] at h1
              rw [Option.bind_eq_some_iff] at h1
              obtain ⟨cs', h2, h3⟩ := h1
              rw [hc1] at h2
              exact ⟨cs', h2, told_of_trod f h3 hks⟩
            have hex : ∀ i, ∃ (cs' : List Value) (ds : List D), i < len → w.cells? 0 (a.add (i * ks'.length)) ks'.length = some cs' ∧ ds.length = ks'.length ∧ (∀ (j : Nat) c d, ks'[j]? = some c → ds[j]? = some d → Is f c d) ∧
                ∀ (j : Nat) d v, ds[j]? = some d → cs'[j]? = some v → R (fun b => b < w.heap.size) w Mu0 d v := fun i => by
              by_cases hi : i < len
              · obtain ⟨cs', h1, ds, h2, h3, h4, h5⟩ := hrow i hi
                exact ⟨cs', ds, fun _ => ⟨h1, h2, h4, h5⟩⟩
              · exact ⟨[], [], fun h => absurd h hi⟩
            obtain ⟨csf, hcs⟩ := Classical.axiomOfChoice hex
            obtain ⟨dsf, hds⟩ := Classical.axiomOfChoice hcs
            have hcell : ∀ i j, i < len → j < ks'.length → ∃ v, (csf i)[j]? = some v ∧ w.cell? ((a.add (i * ks'.length)).add j) = some v := fun i j hi hj => by
              obtain ⟨h1, h2, _⟩ := hds i hi
              obtain ⟨g1, g2⟩ := cells_get h1
              refine ⟨(csf i)[j]'(by omega), List.getElem?_eq_getElem _, ?_⟩
              rw [g2 j hj, List.getElem?_eq_getElem]
            have hg : ∀ i j, i < len → j < ks'.length → ∃ d v, (dsf i)[j]? = some d ∧ (dsf i).getD j .top = d ∧ (csf i)[j]? = some v ∧ (csf i).getD j undef = v ∧ R (fun b => b < w.heap.size) w Mu0 d v ∧ v.oneCell' = true := fun i j hi hj => by
              obtain ⟨h1, h2, h3, h4⟩ := hds i hi
              obtain ⟨v, v1, v2⟩ := hcell i j hi hj
              have hd : (dsf i)[j]? = some ((dsf i)[j]'(by omega)) := List.getElem?_eq_getElem _
              have hr := h4 j _ v hd v1
              have hk : ks'[j]? = some (ks'[j]) := List.getElem?_eq_getElem _
              exact ⟨_, v, hd, by rw [List.getD_eq_getElem?_getD, hd]; rfl, v1, by rw [List.getD_eq_getElem?_getD, v1]; rfl, hr, hr.one (h3 j _ _ hk hd).one⟩
            refine .one (d := .rsl ks'.length len fun i j => (dsf i).getD j .top) ⟨len, _, rfl, by unfold maxLen at hm; omega, fun i j c hi hc => ?_⟩ ?_
            · have hj : j < ks'.length := (List.getElem?_eq_some_iff.1 hc).1
              obtain ⟨d, v, h1, h2, _⟩ := hg i j hi hj
              show Is f c ((dsf i).getD j .top)
              rw [h2]
              exact (hds i hi).2.2.1 j c d hc h1
            · refine .rsl ks'.length len _ (some a) cap (fun i j => (csf i).getD j undef) hl (fun h0 => ?_) fun i j hi hj => ?_
              · have hspot : a.spot = none := by
                  obtain ⟨v, _, h1⟩ := hcell 0 0 h0 hc2
                  simpa [Addr.add] using World.cell?_spot h1
                have hlt : a.block < w.heap.size := by
                  obtain ⟨v, _, h1⟩ := hcell 0 0 h0 hc2
                  simpa [Addr.add] using cell_lt h1
                obtain ⟨ab, ao, asp⟩ := a
                simp only at hspot hlt
                subst hspot
                refine ⟨ab, ao, rfl, hlt, fun i j hi hj => ?_⟩
                obtain ⟨d, v, _, _, h3, h4, _, h6⟩ := hg i j hi hj
                obtain ⟨v', h7, h8⟩ := hcell i j hi hj
                rw [h3] at h7
                cases h7
                show w.cell? ⟨ab, ao + (i * ks'.length + j), none⟩ = some ((csf i).getD j undef) ∧ ((csf i).getD j undef).oneCell' = true
                rw [h4]
                exact ⟨add_of h8 rfl, h6⟩
              · obtain ⟨d, v, _, h2, _, h4, h5, _⟩ := hg i j hi hj
                show R (fun b => b < w.heap.size) w Mu0 ((dsf i).getD j .top) ((csf i).getD j undef)
                rw [h2, h4]
                exact h5
        · cases h
      · cases h
    · rename_i fs hu
      split at h
      · rename_i ks' hks
        split at h
        · rename_i hc
          cases h
          obtain ⟨xs, m, _, _, hl, hlen, hf⟩ := DataW.trod_struct hu ht
          have g := told_fields (n := m) (w := w) (cs := cs) (fun t ks cs x h1 h2 => told_of_trod f h1 h2) (l := fs.toList) (off := 0) (fun i fd hi => by
            have h1 := hf i fd (by simpa using hi)
            have h2 : i < xs.length := by rw [hlen]; simpa using (List.getElem?_eq_some_iff.1 hi).1
            rw [List.getElem?_eq_getElem h2] at h1
            exact ⟨_, h1⟩) hks
          rw [List.drop_zero, ← hc, ← hl, List.take_length] at g
          exact up g
        · cases h
      · cases h
    · rename_i m e hu
      split at h
      · rename_i ks' hks
        split at h
        · rename_i hc
          obtain ⟨hc1, hc2⟩ := hc
          cases h
          obtain ⟨xs, m', _, _, hl, hlen, hf⟩ := DataW.trod_array hu ht
          have g := told_rep (n := m') (w := w) (cs := cs) (ks := ks') (e := e) (fun cs x h1 => told_of_trod f h1 hks) hc1 m 0 (fun i hi => by
            have h1 := hf i hi
            rw [List.getElem?_eq_getElem (by omega)] at h1
            rw [Nat.zero_add]
            exact ⟨_, h1⟩)
          rw [Nat.zero_mul, List.drop_zero, ← hc2, ← hl, List.take_length] at g
          exact up g
        · cases h
      · cases h
    · cases h

/-- Arguments: one cell, or several. -/
inductive AK where
  | one (c : CK)
  | agg (ks : List CK)
def akOf (P : Program) (t : Nat) : Option AK := match P.underlying t with
  | some (.struct _) => (cks P 5 t).map .agg
  | some (.array _ _) => (cks P 5 t).map .agg
  | some (.bool) | some (.int _) | some .string | some (.slice _) => match cks P 5 t with
    | some [c] => some (.one c)
    | _ => none
  | _ => none
def IsA (a : AK) (d : D) : Prop := match a with
  | .one c => Is 5 c d
  | .agg ks => ∃ ds : List D, d = .agg ds ∧ ds.length = ks.length ∧ ∀ (i : Nat) c d, ks[i]? = some c → ds[i]? = some d → Is 5 c d
def IsAL : List AK → List D → Prop
  | [], [] => True
  | a :: r, d :: s => IsA a d ∧ IsAL r s
  | _, _ => False
def aksOf (P : Program) : List Nat → Option (List AK)
  | [] => some []
  | t :: r => match akOf P t, aksOf P r with
    | some a, some l => some (a :: l)
    | _, _ => none

theorem isA_of_trod {t : Nat} {v : Value} {d : DataW H} {ps : List MemPlace} {a : AK} {base : Nat} (h : DataW.Trod enc P w 0 spare held t v d ps) (hok : Value.okWide P w .any base t v) (ha : akOf P t = some a) :
    ∃ d', IsA a d' ∧ R (fun b => b < w.heap.size) w Mu0 d' v := by
  obtain ⟨n, hn⟩ := h
  have agg : ∀ ks cs, v = .agg cs → cks P 5 t = some ks → ∃ d', IsA (.agg ks) d' ∧ R (fun b => b < w.heap.size) w Mu0 d' v := by
    intro ks cs hv hks
    subst hv
    obtain ⟨ds, h1, h2, h3, h4⟩ := told_of_trod 5 hn hks
    have h2' : cs.size = ks.length := by simpa [Value.cells] using h2
    exact ⟨.agg ds, ⟨ds, rfl, h1, h3⟩, .agg ds cs (by rw [h1, h2']) fun i d v hd hv => h4 i d v hd (by simpa [Value.cells] using hv)⟩
  have one : ∀ c, v.cells = #[v] → cks P 5 t = some [c] → ∃ d', IsA (.one c) d' ∧ R (fun b => b < w.heap.size) w Mu0 d' v := by
    intro c hv hks
    obtain ⟨ds, h1, h2, h3, h4⟩ := told_of_trod 5 hn hks
    rw [hv] at h2 h4
    match ds, h1 with
    | [d], _ => exact ⟨d, h3 0 c d rfl rfl, h4 0 d v rfl rfl⟩
  unfold akOf at ha
  unfold Value.okWide at hok
  split at ha
  · rename_i fs hu
    rw [hu] at hok
    obtain ⟨cs, hv, _⟩ := hok
    rw [Option.map_eq_some_iff] at ha
    obtain ⟨ks, hks, rfl⟩ := ha
    exact agg ks cs hv hks
  · rename_i m e hu
    rw [hu] at hok
    obtain ⟨cs, hv, _⟩ := hok
    rw [Option.map_eq_some_iff] at ha
    obtain ⟨ks, hks, rfl⟩ := ha
    exact agg ks cs hv hks
  all_goals first
    | (rename_i hu
       rw [hu] at hok
       split at ha
       · rename_i c hks
         cases ha
         refine one c ?_ hks
         cases v <;> simp [Cell.okWide, Cell.ok, hu] at hok <;> rfl
       · cases ha)
    | cases ha

theorem isAL_of_trod {base : Nat} : ∀ {ts : List Nat} {vs : List Value} {ds : List (DataW H)} {ps : List MemPlace} {l : List AK}, DataW.TrodAll enc P w 0 spare held ts vs ds ps →
    (∀ (j : Nat) t v, ts[j]? = some t → vs[j]? = some v → Value.okWide P w .any base t v) → aksOf P ts = some l → ∃ ds', IsAL l ds' ∧ RL (fun b => b < w.heap.size) w Mu0 ds' vs
  | [], vs, ds, ps, l, h, _, hl => by
    obtain ⟨rfl, _, _⟩ := ChangeShapes.trodAll_nil h
    cases hl
    exact ⟨[], trivial, rfl, fun i d v h => by simp at h⟩
  | t :: ts, vs, ds, ps, l, h, hok, hl => by
    obtain ⟨v, vs1, d, ds1, p1, p2, rfl, _, _, h1, h2⟩ := ChangeShapes.trodAll_cons h
    simp only [aksOf] at hl
    split at hl
    · rename_i a l' ha hl'
      cases hl
      obtain ⟨d', g1, g2⟩ := isA_of_trod h1 (hok 0 t v rfl rfl) ha
      obtain ⟨ds', g3, g4⟩ := isAL_of_trod h2 (fun j t v a b => hok (j + 1) t v (by simpa using a) (by simpa using b)) hl'
      refine ⟨d' :: ds', ⟨g1, g3⟩, by simp [g4.1], fun i x y hx hy => ?_⟩
      cases i with
      | zero => simp at hx hy; subst hx; subst hy; exact g2
      | succ i => exact g4.2 i x y (by simpa using hx) (by simpa using hy)
    · cases hl
end

/-- Kinds that are all whole numbers. -/
def allI : List CK → Bool
  | [] => true
  | .int .i64 :: r => allI r
  | _ => false
theorem allI_get : ∀ {ks : List CK}, allI ks = true → ∀ j, j < ks.length → ks[j]? = some (.int .i64)
  | [], _, j, hj => absurd hj (Nat.not_lt_zero _)
  | c :: r, h, j, hj => by
    unfold allI at h
    split at h
    · rename_i heq; cases heq
    · rename_i heq
      cases heq
      cases j with
      | zero => rfl
      | succ j => exact allI_get h j (by simpa using hj)
    · cases h
theorem IM_of {f n : Nat} {ks : List CK} {g : Nat → Nat → D} (h : ∀ i j c, i < n → ks[j]? = some c → Is (f + 1) c (g i j)) (hk : allI ks = true) : IM n ks.length g := fun i j hi hj => by
  obtain ⟨x, hx, _⟩ := h i j _ hi (allI_get hk j hj)
  simp only [imD, im, hx, toI]
theorem SM_of {f n : Nat} {ks : List CK} {g : Nat → Nat → D} (h : ∀ i j c, i < n → (.str :: ks)[j]? = some c → Is (f + 1) c (g i j)) (hk : allI ks = true) : SM n (ks.length + 1) g ∧ ∀ i, i < n → (nmOf g i).size ≤ 9223372036854775807 := by
  have hs : ∀ i, i < n → ∃ s, g i 0 = .str s ∧ s.size ≤ 9223372036854775807 := fun i hi => h i 0 _ hi rfl
  refine ⟨fun i j hi hj => ?_, fun i hi => ?_⟩
  · cases j with
    | zero =>
      obtain ⟨s, hs, _⟩ := hs i hi
      simp only [smD, nmOf, hs, toS]
    | succ j =>
      obtain ⟨x, hx, _⟩ := h i (j + 1) (.int .i64) hi (by simpa using allI_get hk j (by omega))
      simp only [smD, imS, hx, toI]
  · obtain ⟨s, hs, h2⟩ := hs i hi
    simp only [nmOf, hs, toS]
    exact h2

section
variable {H : Type} {enc : TypeId × Value → H} {P : Program}
theorem trodAll_stays (hl : laidOutB P = true) {W W' : World} (hb : RowKit.Below W.heap.size W W') {sp : Nat → Bool} : ∀ {ts : List Nat} {vs : List Value} {ds : List (DataW H)} {ps : List MemPlace}, (∀ t ∈ ts, P.readableRec t = true ∧ t < P.types.size) →
    DataW.TrodAll enc P W 0 (fun _ => true) true ts vs ds ps → (∀ p ∈ ps, p.block < W.heap.size) → (∀ p ∈ ps, sp p.block = true) → DataW.TrodAll enc P W' 0 sp true ts vs ds ps
  | [], vs, ds, ps, _, h, _, _ => by
    obtain ⟨rfl, rfl, rfl⟩ := ChangeShapes.trodAll_nil h
    exact rfl
  | t :: ts, vs, ds, ps, ht, h, hlt, hs => by
    obtain ⟨v, vs1, d, ds1, p1, p2, rfl, rfl, rfl, h1, h2⟩ := ChangeShapes.trodAll_cons h
    exact ⟨p1, p2, WideElems.Trod_stays hl (ht t (List.mem_cons_self ..)).1 (ht t (List.mem_cons_self ..)).2 h1 (fun p hp => hb.same (hlt p (List.mem_append_left _ hp))) (fun p hp => hs p (List.mem_append_left _ hp)),
      trodAll_stays hl hb (fun t ht' => ht t (List.mem_cons_of_mem _ ht')) h2 (fun p hp => hlt p (List.mem_append_right _ hp)) (fun p hp => hs p (List.mem_append_right _ hp)), rfl⟩

/-- A law's function: what its contract tells is the statement. -/
theorem law_contract {f tb : Nat} {fn : Func} {s : ChangeSpec} {rule : List D → Option (Prop × D)} {l : List AK} {fresh handsOn again : Bool} (hl : laidOutB P = true) (hs : PSound P f (mk rule)) (ha : aksOf P fn.params.toList = some l)
    (hread : (fn.params.toList.all fun t => P.readableRec t && decide (t < P.types.size)) = true) (hres : fn.resultTypes = #[tb]) (htb : P.underlying tb = some .bool)
    (hrule : ∀ ds, IsAL l ds → ∃ p d, rule ds = some (p, d) ∧ p ∧ (d = .tt ∨ d = .bool true)) (hvars : s.vars = [])
    (hfn : ∀ ds : List (DataW H), ds.length = fn.params.size → (s.fn H ds).results = [.lit (.bool true)] ∧ (s.fn H ds).args = ds ∧ (s.fn H ds).vars = [])
    (W : World) (base : Nat) (args : Array Value) (ds gs : List (DataW H)) (before : List MemPlace)
    (hok : ∀ (j : Nat) t v, fn.params[j]? = some t → args[j]? = some v → Value.okWide P W .any base t v)
    (hW : DataW.Whole enc P fn.params.toList s.vars false W args.toList ds gs before) :
    Calls P f args W fun e W' => ∃ v, e = .returned v ∧ s.post enc P fn false fresh handsOn again W args v W' := by
  have hWW := hW
  obtain ⟨p, q, hA, hV, rfl, hfz, _⟩ := hW
  rw [hvars] at hV
  obtain ⟨rfl, rfl⟩ := ChangeShapes.trodVars_none hV
  obtain ⟨ds', h1, h2⟩ := isAL_of_trod hA (fun j t v ht hv => hok j t v (by simpa using ht) (by simpa using hv)) ha
  obtain ⟨pr, d, hr, hp, hd⟩ := hrule ds' h1
  have hlen : ds.length = fn.params.size := by simpa using (trodAll_length hA).2
  have hk : mk rule ds' (fun x => x = d) := by unfold mk; rw [hr]; exact ⟨hp, rfl⟩
  have hc := hs.calls ds' _ hk (fun b => b < W.heap.size) W args.toList (fun b hb => hb) h2
  rw [Array.toArray_toList] at hc
  refine hc.mono ?_
  rintro e W' ⟨v, S', d1, rfl, rfl, hR, hg⟩
  have hv : v = .bool true := by
    rcases hd with rfl | rfl
    · cases hR; rfl
    · cases hR; rfl
  subst hv
  have hb : RowKit.Below W.heap.size W W' := ⟨hg.os, hg.tape, hg.output, hg.size, hg.block⟩
  obtain ⟨f1, f2, f3⟩ := hfn (ds ++ []) (by simpa using hlen)
  have hlt : ∀ x ∈ p ++ [], x.block < W.heap.size := fun x hx => by simpa using hWW.lt x hx
  have hlt' : ∀ x ∈ p, x.block < W.heap.size := fun x hx => hlt x (by simpa using hx)
  have hread' : ∀ t ∈ fn.params.toList, P.readableRec t = true ∧ t < P.types.size := fun t ht => by
    have := List.all_eq_true.1 hread t ht
    simpa using this
  have hbool : ∀ (b : Nat) (sp : Nat → Bool) (hd : Bool), DataW.TrodAll enc P W' b sp hd fn.resultTypes.toList ((Value.bool true).resultList fn.resultTypes.size) [.lit (.bool true)] [] := fun b sp hd => by
    rw [hres]
    exact ⟨[], [], RowKit.shut_bool htb true, rfl, rfl⟩
  have hokr : ∀ (j : Nat) (t : TypeId) (r : Value), fn.resultTypes[j]? = some t → ((Value.bool true).resultList fn.resultTypes.size)[j]? = some r → Value.okWide P W' .any 0 t r := fun j t r h1 h2 => by
    rw [hres] at h1 h2
    cases j with
    | zero =>
      simp at h1
      subst h1
      have h2' : some (Value.bool true) = some r := h2
      cases h2'
      exact RowKit.okWide_bool_mk htb true
    | succ j => simp at h1
  refine ⟨_, rfl, ds, [], p ++ [], [], p, [], hWW, by rw [f1]; exact hbool _ _ _, ?_, by rw [hvars, f3]; exact rfl, hb.frame _, fun _ => ⟨hokr, [.lit (.bool true)] ++ ds, [], p, ?_, fun x hx _ => by simpa using hx⟩⟩
  · rw [f2, List.append_nil]
    exact trodAll_stays hl hb hread' hA hlt' fun x hx => decide_eq_true (hlt' x hx)
  · refine ⟨[] ++ p, [], ?_, by rw [hvars]; exact rfl, by simp, fun b off hbo => ?_, fun h => by cases h⟩
    · exact ChangeShapes.trodAll_append (trodAll_stays hl hb hread' hA hlt' fun _ _ => rfl) (hbool _ _ _)
    · have hm : MemPlace.cell b off ∈ p := by simpa using hbo
      rw [hb.frozen (p := ⟨b, off, none⟩) (hlt' _ hm)]
      exact hfz b off (by simpa using hm)
end
end Go.V
end
section
set_option linter.unusedVariables false
set_option linter.unusedSimpArgs false
namespace Go.V

def lockIds1 : D → List Nat
  | .own o _ => [o]
  | _ => []
def lockIds : D → List Nat
  | .agg l => l.flatMap lockIds1
  | d => lockIds1 d
def isBuf (H : HL) (o : Nat) : Bool := match hget H o with
  | some (.buf _ _ _ _) => true
  | _ => false
def lockD (ids : List Nat) (H : HL) (d : D) (k : D → Prop) : Prop := match d with
  | .own o n => bif memB o ids then (match hget H o with
    | some (.buf _ s m g) => n = m ∧ k (.rsl s m g)
    | _ => False) else k (.own o n)
  | d => k d
def lockL (ids : List Nat) (H : HL) (l : List D) : (List D → Prop) → Prop := @List.rec D (fun _ => (List D → Prop) → Prop) (fun k => k []) (fun d _ ih k => lockD ids H d fun d => ih fun r => k (d :: r)) l
def lockO (ids : List Nat) (H : HL) (i : Nat) (x : Option Ob) (k : Option Ob → Prop) : Prop := match x with
  | some (.row cs) => lockL ids H cs fun cs => k (some (.row cs))
  | some (.buf e s n g) => bif memB i ids then k (some .dead) else k (some (.buf e s n g))
  | x => k x
def lockH (ids : List Nat) (H : HL) (l : HL) : Nat → (HL → Prop) → Prop := @List.rec (Option Ob) (fun _ => Nat → (HL → Prop) → Prop) (fun _ k => k []) (fun x _ ih i k => lockO ids H i x fun y => ih (i + 1) fun r => k (y :: r)) l
/-- The rule of such a call. -/
def lockC (c : PRule) : CRule := fun ds H K => fznl (ds.flatMap lockIds) fun ids => gate (ids.all (isBuf H)) (viewal (resH ids 0 H) ds fun ds' => bif ds'.all noRef then c ds' fun d => fz d fun d => lockH ids H H 0 fun H' => fzh H' fun H' => K (.ret d) H' else False)

def LockD (ids : List Nat) (H : HL) (d d' : D) : Prop := d' = d ∨ ∃ o n e s m g, d = .own o n ∧ o ∈ ids ∧ hget H o = some (.buf e s m g) ∧ n = m ∧ d' = .rsl s m g
theorem lockD_spec {ids : List Nat} {H : HL} {d : D} {k : D → Prop} (h : lockD ids H d k) : ∃ d', k d' ∧ LockD ids H d d' := by
  unfold lockD at h
  cases d with
  | own o n =>
    simp only at h
    cases hm : memB o ids with
    | false => rw [hm] at h; exact ⟨_, h, .inl rfl⟩
    | true =>
      rw [hm] at h
      cases ho : hget H o with
      | none => rw [ho] at h; exact h.elim
      | some ob =>
        rw [ho] at h
        cases ob with
        | buf e s m g => exact ⟨_, h.2, .inr ⟨o, n, e, s, m, g, rfl, (memB_iff _ _).1 hm, ho, h.1, rfl⟩⟩
        | _ => exact h.elim
  | _ => exact ⟨_, h, .inl rfl⟩
theorem lockL_spec {ids : List Nat} {H : HL} : ∀ {l : List D} {k : List D → Prop}, lockL ids H l k → ∃ l', k l' ∧ l'.length = l.length ∧ ∀ (i : Nat) d d', l[i]? = some d → l'[i]? = some d' → LockD ids H d d'
  | [], k, h => ⟨[], h, rfl, fun i d d' h1 => by simp at h1⟩
  | d :: l, k, h => by
    obtain ⟨d', h1, h2⟩ := lockD_spec (d := d) (k := fun d => lockL ids H l fun r => k (d :: r)) h
    obtain ⟨l', h3, h4, h5⟩ := lockL_spec h1
    refine ⟨d' :: l', h3, by simp [h4], fun i x y hx hy => ?_⟩
    cases i with
    | zero => simp at hx hy; subst hx; subst hy; exact h2
    | succ i => exact h5 i x y (by simpa using hx) (by simpa using hy)
/-- How an object looks once some slices are only read. -/
def LockO (ids : List Nat) (H : HL) (i : Nat) (x y : Option Ob) : Prop :=
  (∃ cs cs', x = some (.row cs) ∧ y = some (.row cs') ∧ cs'.length = cs.length ∧ ∀ (i : Nat) d d', cs[i]? = some d → cs'[i]? = some d' → LockD ids H d d') ∨
  (∃ e s n g, x = some (.buf e s n g) ∧ i ∈ ids ∧ y = some .dead) ∨ (y = x ∧ ∀ e s n g, x = some (.buf e s n g) → i ∉ ids)
theorem lockO_spec {ids : List Nat} {H : HL} {i : Nat} {x : Option Ob} {k : Option Ob → Prop} (h : lockO ids H i x k) : ∃ y, k y ∧ LockO ids H i x y := by
  unfold lockO at h
  cases x with
  | none => exact ⟨_, h, .inr (.inr ⟨rfl, fun _ _ _ _ h => by cases h⟩)⟩
  | some ob =>
    cases ob with
    | row cs =>
      obtain ⟨cs', h1, h2, h3⟩ := lockL_spec h
      exact ⟨_, h1, .inl ⟨cs, cs', rfl, rfl, h2, h3⟩⟩
    | buf e s n g =>
      simp only at h
      cases hm : memB i ids with
      | false =>
        rw [hm] at h
        exact ⟨_, h, .inr (.inr ⟨rfl, fun _ _ _ _ _ hi => by rw [(memB_iff _ _).2 hi] at hm; cases hm⟩)⟩
      | true => rw [hm] at h; exact ⟨_, h, .inr (.inl ⟨e, s, n, g, rfl, (memB_iff _ _).1 hm, rfl⟩)⟩
    | _ => exact ⟨_, h, .inr (.inr ⟨rfl, fun _ _ _ _ h => by cases h⟩)⟩
theorem lockH_spec {ids : List Nat} {H : HL} : ∀ {l : HL} {i : Nat} {k : HL → Prop}, lockH ids H l i k → ∃ l', k l' ∧ l'.length = l.length ∧ ∀ o, o < l.length → LockO ids H (i + o) (l.getD o none) (l'.getD o none)
  | [], i, k, h => ⟨[], h, rfl, fun o ho => by simp at ho⟩
  | x :: l, i, k, h => by
    obtain ⟨y, h1, h2⟩ := lockO_spec (x := x) (k := fun y => lockH ids H l (i + 1) fun r => k (y :: r)) h
    obtain ⟨l', h3, h4, h5⟩ := lockH_spec h1
    refine ⟨y :: l', h3, by simp [h4], fun o ho => ?_⟩
    cases o with
    | zero => simpa using h2
    | succ o =>
      have := h5 o (by simpa using ho)
      simpa [Nat.add_assoc, Nat.add_comm 1 o] using this

/-- What stands for a slice that is only read from now on. -/
def deadV : Value → Value
  | .slice _ m _ => .slice none (m + 1) 0
  | v => v
def lockM (ids : List Nat) (H : HL) (μ : Mu) : Mu := fun o => if o ∈ ids ∧ isBuf H o = true then (μ o).map deadV else μ o

section
variable {P : Program} {S : Nat → Prop} {w : World} {μ : Mu} {H : HL}
theorem isBuf_iff {o : Nat} : isBuf H o = true ↔ ∃ e s n g, hget H o = some (.buf e s n g) := by
  unfold isBuf
  cases hget H o with
  | none => simp
  | some ob => cases ob <;> simp
theorem buf_form (hr : RelL S w μ H) {o e s n : Nat} {g : Nat → Nat → D} (ho : hget H o = some (.buf e s n g)) : ∃ A m c, μ o = some (.slice A m c) := by
  obtain ⟨mv, h1, xs, h2, _⟩ := hr.1.obs o _ ho
  rcases h2.2 with ⟨rfl, _⟩ | ⟨b, cap, cur, rfl, _⟩ <;> exact ⟨_, _, _, h1⟩
theorem lockM_le (hr : RelL S w μ H) (ids : List Nat) : MuLe μ (lockM ids H μ) := fun o v hv => by
  unfold lockM
  by_cases h : o ∈ ids ∧ isBuf H o = true
  · obtain ⟨e, s, n, g, ho⟩ := isBuf_iff.1 h.2
    obtain ⟨A, m, c, hm⟩ := buf_form hr ho
    rw [hm] at hv
    injection hv with hv
    subst hv
    exact ⟨.slice none (m + 1) 0, by rw [if_pos h, hm]; rfl, .inr (.inl ⟨A, m, c, none, m + 1, 0, rfl, rfl, Nat.lt_succ_self m⟩)⟩
  · exact ⟨v, by rw [if_neg h]; exact hv, .refl v⟩

theorem csound_lock {f : Nat} {c : PRule} (hs : PSound P f c) : CSound P f (lockC c) := by
  refine ⟨hs.enters, fun ds H K h S w μ vs hr hRL => ?_⟩
  unfold lockC at h
  rw [fznl_iff] at h
  generalize ds.flatMap lockIds = ids at h
  obtain ⟨hb, h⟩ := h
  have hb : ids.all (isBuf H) = true := hb
  have hbuf : ∀ o, o ∈ ids → isBuf H o = true := fun o ho => List.all_eq_true.1 hb o ho
  have hlen := resH_len ids H 0
  have hget2 : ∀ o, hget (resH ids 0 H) o = bif memB o ids then hget H o else none := fun o => by
    have := resH_get ids H 0 o
    rw [Nat.zero_add] at this
    exact this
  have hsub : ∀ o ob, hget (resH ids 0 H) o = some ob → hget H o = some ob ∧ o ∈ ids := fun o ob ho => by
    rw [hget2] at ho
    cases hm : memB o ids with
    | false => rw [hm] at ho; cases ho
    | true => rw [hm] at ho; exact ⟨ho, (memB_iff _ _).1 hm⟩
  have hin : ∀ o, o ∈ ids → hget (resH ids 0 H) o = hget H o := fun o ho => by rw [hget2, (memB_iff _ _).2 ho]; rfl
  have hr2 : RelL S w μ (resH ids 0 H) := hr.sub hlen fun o ob ho => (hsub o ob ho).1
  obtain ⟨ds', h1, h2⟩ := sound_viewal hr2.1 ds vs hRL h
  cases hn : ds'.all noRef with
  | false => simp [hn] at h1
  | true =>
    simp only [hn, cond_true] at h1
    have hRL' := h2 hn
    have hlt : ∀ b, withH S μ (hget (resH ids 0 H)) b → b < w.heap.size := fun b hb => by
      rcases hb with hb | ⟨o, ob, v, ho, hv, hbv⟩
      · exact (hr.1.stat b hb).1
      · obtain ⟨mv, m1, m2⟩ := hr2.1.obs o ob ho
        rw [hv] at m1; injection m1 with m1; subst m1
        exact m2.blk_lt hbv
    refine (hs.calls ds' _ h1 _ w vs hlt hRL').mono ?_
    rintro e w' ⟨v, S', d, rfl, hk, hR, hg⟩
    rw [fz_iff] at hk
    obtain ⟨H', hk, hl', hO⟩ := lockH_spec hk
    rw [fzh_iff] at hk
    have hO' : ∀ o, o < H.length → LockO ids H o (hget H o) (hget H' o) := fun o ho => by
      have := hO o ho
      rwa [Nat.zero_add] at this
    have hnone : ∀ o, ¬ o < H.length → hget H o = none ∧ hget H' o = none := fun o ho => by
      unfold hget
      rw [List.getD_eq_getElem?_getD, List.getD_eq_getElem?_getD, List.getElem?_eq_none (by omega), List.getElem?_eq_none (by omega)]
      exact ⟨rfl, rfl⟩
    have hle := lockM_le hr ids
    have hS : ∀ b, S b → S' b := fun b hb => hg.sub b (.inl hb)
    have hSb : ∀ b, S b → w'.heap[b]? = w.heap[b]? := fun b hb => hg.block b (hr.1.stat b hb).1
    -- what is not dead is as it was
    have live : ∀ o ob v, hget H' o = some ob → lockM ids H μ o = some v → (∃ b, blk v = some b) → ¬ (o ∈ ids ∧ isBuf H o = true) ∧ μ o = some v ∧ ∃ ob0, hget H o = some ob0 := fun o ob v ho hv hb => by
      have hlt : o < H.length := by
        rcases Nat.lt_or_ge o H.length with h | h
        · exact h
        · rw [(hnone o (by omega)).2] at ho; cases ho
      have hno : ¬ (o ∈ ids ∧ isBuf H o = true) := fun hx => by
        unfold lockM at hv
        rw [if_pos hx] at hv
        obtain ⟨e, s, n, g, hq⟩ := isBuf_iff.1 hx.2
        obtain ⟨A, m, c, hm⟩ := buf_form hr hq
        rw [hm] at hv
        injection hv with hv
        subst hv
        obtain ⟨b, hb⟩ := hb
        cases hb
      unfold lockM at hv
      rw [if_neg hno] at hv
      refine ⟨hno, hv, ?_⟩
      rcases hO' o hlt with ⟨cs, cs', hx, _⟩ | ⟨e, s, n, g, hx, _⟩ | ⟨hx, _⟩
      · exact ⟨_, hx⟩
      · exact ⟨_, hx⟩
      · exact ⟨ob, by rw [← hx]; exact ho⟩
    have cellR : ∀ d d' v, R S w μ d v → LockD ids H d d' → R S' w' (lockM ids H μ) d' v := fun d d' v hd hx => by
      rcases hx with rfl | ⟨o, n, e, s, m, g, rfl, hi, ho, rfl, rfl⟩
      · exact hd.keep hS hSb hle
      · have h3 := own_view (H := resH ids 0 H) hr2.1 (by rw [hin o hi]; exact ho) hd
        exact (h3.keep (S' := S') (w' := w') hg.sub (fun b hb => hg.block b (hlt b hb)) (.refl _)).of0
    refine ⟨S', lockM ids H μ, .ret d, H', hk, hR.of0, ⟨⟨fun o ob ho => ?_, fun o1 o2 ob1 ob2 v1 v2 b x1 x2 hne m1 m2 hb => ?_, fun b hb => ⟨hg.lt b hb, fun o ob v ho hv hbv => ?_⟩⟩, fun o ho => ?_⟩,
      ⟨hg.os, hg.tape, hg.output, hg.size, fun b hb _ => hg.block b hb, hS, fun b hb => ?_, hle, fun o ob v b ho hv hbv => ?_, fun o v h1 h2 => ?_, fun o ho => ?_⟩⟩
    · have hlt : o < H.length := by
        rcases Nat.lt_or_ge o H.length with h | h
        · exact h
        · rw [(hnone o (by omega)).2] at ho; cases ho
      rcases hO' o hlt with ⟨cs, cs', hx, hy, hl, hc⟩ | ⟨e, s, n, g, hx, hi, hy⟩ | ⟨hx, hno⟩
      · rw [hy] at ho
        injection ho with ho
        subst ho
        obtain ⟨mv, m1, b, cells, T, rfl, g1, g2, g3, g4⟩ := hr.1.obs o _ hx
        have hno : ¬ (o ∈ ids ∧ isBuf H o = true) := fun hq => by
          obtain ⟨e, s, n, g, hq⟩ := isBuf_iff.1 hq.2
          rw [hx] at hq; cases hq
        refine ⟨_, by unfold lockM; rw [if_neg hno]; exact m1, b, cells, T, rfl, (hg.block b (Array.getElem?_eq_some_iff.1 g1).1).trans g1, by rw [hl]; exact g2, fun i d' v h3 h4 => ?_, g4⟩
        have hi : i < cs.length := by
          rw [← hl]; exact (List.getElem?_eq_some_iff.1 h3).1
        exact cellR cs[i] d' v (g3 i _ v (by simp [hi]) h4) (hc i _ _ (by simp [hi]) h3)
      · rw [hy] at ho
        injection ho with ho
        subst ho
        obtain ⟨A, m, c, hm⟩ := buf_form hr hx
        exact ⟨.slice none (m + 1) 0, by unfold lockM; rw [if_pos ⟨hi, isBuf_iff.2 ⟨_, _, _, _, hx⟩⟩, hm]; rfl, m + 1, 0, rfl⟩
      · rw [hx] at ho
        obtain ⟨mv, m1, m2⟩ := hr.1.obs o ob ho
        have hno' : ¬ (o ∈ ids ∧ isBuf H o = true) := fun hq => by
          obtain ⟨e, s, n, g, hq2⟩ := isBuf_iff.1 hq.2
          exact hno e s n g hq2 hq.1
        exact ⟨mv, by unfold lockM; rw [if_neg hno']; exact m1, m2.keep hS hSb hle fun b hb => hg.block b (m2.blk_lt hb)⟩
    · intro hb2
      obtain ⟨_, n1, ob1', y1⟩ := live o1 ob1 v1 x1 m1 ⟨b, hb⟩
      obtain ⟨_, n2, ob2', y2⟩ := live o2 ob2 v2 x2 m2 ⟨b, hb2⟩
      exact hr.1.sep o1 o2 ob1' ob2' v1 v2 b y1 y2 hne n1 n2 hb hb2
    · obtain ⟨hno, n1, ob0, y1⟩ := live o ob v ho hv ⟨b, hbv⟩
      rcases hg.new b hb with (h3 | ⟨o3, ob3, v3, e1, e2, e3⟩) | h3
      · exact (hr.1.stat b h3).2 o ob0 v y1 n1 hbv
      · obtain ⟨q1, q2⟩ := hsub o3 ob3 e1
        have hne : o ≠ o3 := fun e => hno (e ▸ ⟨q2, hbuf o3 q2⟩)
        exact hr.1.sep o o3 ob0 ob3 v v3 b y1 q1 hne n1 e2 hbv e3
      · obtain ⟨mv, m1, m2⟩ := hr.1.obs o ob0 y1
        rw [n1] at m1; injection m1 with m1; subst m1
        exact absurd (m2.blk_lt hbv) (by omega)
    · have h1 := hr.2 o (by omega)
      unfold lockM
      split
      · rw [h1]; rfl
      · exact h1
    · rcases hg.new b hb with (h3 | ⟨o3, ob3, v3, e1, e2, e3⟩) | h3
      · exact .inl h3
      · exact .inr (.inr ⟨o3, ob3, v3, (hsub o3 ob3 e1).1, e2, e3⟩)
      · exact .inr (.inl h3)
    · obtain ⟨_, n1, ob0, y1⟩ := live o ob v ho hv ⟨b, hbv⟩
      exact .inr ⟨o, ob0, v, y1, n1, hbv⟩
    · have hno : ¬ (o ∈ ids ∧ isBuf H o = true) := fun hq => by
        obtain ⟨e, s, n, g, hq⟩ := isBuf_iff.1 hq.2
        rw [h1] at hq; cases hq
      refine ⟨?_, by unfold lockM; rw [if_neg hno]; exact h2⟩
      rcases Nat.lt_or_ge o H.length with h | h
      · rcases hO' o h with ⟨cs, cs', hx, _⟩ | ⟨e, s, n, g, hx, _⟩ | ⟨hx, _⟩
        · rw [h1] at hx; cases hx
        · rw [h1] at hx; cases hx
        · rw [hx]; exact h1
      · exact (hnone o (by omega)).2
    · rcases Nat.lt_or_ge o H.length with h | h
      · rcases hO' o h with ⟨cs, cs', hx, hy, _⟩ | ⟨e, s, n, g, hx, hi, hy⟩ | ⟨hx, hno⟩
        · exact .inl (by rw [hy]; exact fun e => by cases e)
        · exact .inl (by rw [hy]; exact fun e => by cases e)
        · have hno' : ¬ (o ∈ ids ∧ isBuf H o = true) := fun hq => by
            obtain ⟨e, s, n, g, hq2⟩ := isBuf_iff.1 hq.2
            exact hno e s n g hq2 hq.1
          unfold lockM at ho
          rw [if_neg hno'] at ho
          by_cases hx2 : hget H o = none
          · exact .inr ⟨ho, hx2⟩
          · exact .inl (by rw [hx]; exact hx2)
      · have h1 := hr.2 o h
        refine absurd ?_ ho
        unfold lockM
        split
        · rw [h1]; rfl
        · exact h1
end
end Go.V
end
