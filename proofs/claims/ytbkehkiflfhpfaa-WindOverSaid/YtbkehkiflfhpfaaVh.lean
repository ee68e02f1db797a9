/-
  A small logic of our own, part 8: code, loops, functions.
-/
import Derived.Test.YtbkehkiflfhpfaaVg
set_option linter.unusedVariables false
set_option linter.unusedSimpArgs false
namespace Go.V

def fzhB (x : Option Ob) (ih : (HL → Prop) → Prop) (k : HL → Prop) : Prop := match x with
  | none => ih fun r => k (none :: r)
  | some (.row cs) => fzl cs fun cs => ih fun r => k (some (.row cs) :: r)
  | some (.buf e s n g) => ih fun r => k (some (.buf e s n g) :: r)
  | some (.mp m) => ih fun r => k (some (.mp m) :: r)
  | some (.lp l p) => ih fun r => k (some (.lp l p) :: r)
def fzh (l : HL) : (HL → Prop) → Prop := @List.rec (Option Ob) (fun _ => (HL → Prop) → Prop) (fun k => k []) (fun x _ ih => fzhB x ih) l
theorem fzh_iff : ∀ (l : HL) (k : HL → Prop), fzh l k ↔ k l
  | [], k => Iff.rfl
  | none :: r, k => by show fzh r (fun r => k (none :: r)) ↔ _; rw [fzh_iff r]
  | some (.row cs) :: r, k => by show fzl cs (fun cs => fzh r fun r => k (some (.row cs) :: r)) ↔ _; rw [fzl_iff, fzh_iff r]
  | some (.buf e s n g) :: r, k => by show fzh r (fun r => k (some (.buf e s n g) :: r)) ↔ _; rw [fzh_iff r]
  | some (.mp m) :: r, k => by show fzh r (fun r => k (some (.mp m) :: r)) ↔ _; rw [fzh_iff r]
  | some (.lp l p) :: r, k => by show fzh r (fun r => k (some (.lp l p) :: r)) ↔ _; rw [fzh_iff r]

abbrev RT := (Nat → Prop) → World → Mu → Hp → Prop
theorem uponIn_mono {F : Fence} {n : Nat} {P : Program} {o : Oper} {a : Act} {next next' : Act → World → Prop} {Q Q' : Exit → Act → World → Prop} (hn : ∀ a w, next a w → next' a w) (hq : ∀ x a w, Q x a w → Q' x a w) (r : Result Next) (h : o.uponIn F n P a next Q r) : o.uponIn F n P a next' Q' r := by
  have hout : LetsOut Q → LetsOut Q' := fun ⟨a, w, h⟩ => ⟨a, w, hq _ _ _ h⟩
  cases r with
  | ok x w' =>
    cases x <;> simp only [Oper.uponIn] at h ⊢ <;>
      first
        | exact hn _ _ h
        | exact ⟨h.1, CallsIn.mono h.2 (fun e w'' he => by cases e <;> first | exact hn _ _ he | exact hq _ _ _ he | exact hout he)⟩
        | exact ⟨h.1, RowsIn.mono h.2 (fun _ _ he => hn _ _ he)⟩
        | exact ⟨h.1, RoundIn.mono h.2 (fun e w'' he => by cases e <;> first | exact hn _ _ he | exact hq _ _ _ he | exact hout he)⟩
  | halt x w' => cases x <;> simp only [Oper.uponIn] at h ⊢ <;> first | exact h | exact hq _ _ _ h
theorem wpIn_post {F : Fence} {n : Nat} {P : Program} {o : Oper} {a : Act} {w : World} {next next' : Act → World → Prop} {Q Q' : Exit → Act → World → Prop} (hn : ∀ a w, next a w → next' a w) (hq : ∀ x a w, Q x a w → Q' x a w) (h : o.wpIn F n P a w next Q) : o.wpIn F n P a w next' Q' :=
  ⟨h.1, uponIn_mono hn hq _ h.2⟩
theorem wpOpsIn_mono {F : Fence} {n : Nat} {P : Program} {ops : Array Oper} {Q Q' : Exit → Act → World → Prop} (hq : ∀ x a w, Q x a w → Q' x a w) : ∀ {l : List Nat} {a : Act} {w : World}, wpOpsIn F n P ops Q l a w → wpOpsIn F n P ops Q' l a w
  | [], a, w, h => hq _ _ _ h
  | i :: r, a, w, h => by
    rw [wpOpsIn_cons] at h ⊢
    unfold wpOpIn at h ⊢
    cases ho : ops[i]? with
    | none => simp only [ho] at h ⊢; exact wpOpsIn_mono hq h
    | some o =>
      simp only [ho] at h ⊢
      by_cases hw : Region.wanted o (yielded ops a.tmps) = true
      · rw [if_pos hw] at h ⊢
        exact wpIn_post (fun a w => wpOpsIn_mono hq) hq h
      · rw [if_neg hw] at h ⊢
        exact ⟨h.1, wpOpsIn_mono hq h.2⟩
/-- The temporaries; the heap; the deferred calls (none: a round's frame, which has none). -/
structure St where
  e : Env
  H : HL
  df : Option (List D)

/-- A reading operation, or a call of a function that only reads. -/
def vsr (C : Cx) (o : Oper) (e : Env) (H : HL) (k : D → Prop) : Prop := match o.op with
  | .call c => match c.callee with
    | .value f => match ev e f with
      | .fn f fs cs => match C.pure f with
        | some r => fzl (c.args.toList.map (ev e)) fun ds => vcallp r (fs ++ ds ++ cs) H k
        | none => False
      | _ => False
    | _ => vrd C o e H k
  | _ => vrd C o e H k
def isWr : Op → Bool
  | .alloc _ | .box _ _ | .buildSlice _ _ _ | .store _ _ _ | .makeMap _ _ | .mapEntry _ _ _ | .entryStore _ _ _ _ | .mapUpdate _ _ _ _ | .insert _ _ _ _ => true
  | .call c => match c.callee with
    | .builtin .append => true
    | _ => false
  | _ => false
def vstep (C : Cx) (nid : Nat) (o : Oper) (e : Env) (H : HL) (k : D → HL → Prop) : Prop := bif isWr o.op then vwr C nid o e H k else vsr C o e H fun d => k d H

def gslot (ops : List Oper) (j : Nat) : Option Nat := match ops[j]? with
  | some o => o.dst
  | none => none
def vput (N : Nat) (e : Env) (dst : Option Nat) (d : D) (k : Env → Prop) : Prop := match dst with
  | none => k e
  | some i => bif Nat.ble N i then False else k (upd e i d)

/-- A number, as it is. -/
def fzn (n : Nat) : (Nat → Prop) → Prop := @Nat.rec (fun _ => (Nat → Prop) → Prop) (fun k => k 0) (fun _ ih k => ih fun m => k (m + 1)) n
theorem fzn_eq : ∀ (n : Nat) (k : Nat → Prop), fzn n k = k n
  | 0, _ => rfl
  | n + 1, k => fzn_eq n fun m => k (m + 1)
theorem fzl_eq (l : List D) (k : List D → Prop) : fzl l k = k l := propext (fzl_iff l k)
theorem fzh_eq (l : HL) (k : HL → Prop) : fzh l k = k l := propext (fzh_iff l k)
def vstepN (C : Cx) (o : Oper) (e : Env) (H : HL) (k : D → HL → Prop) : Prop := fzn H.length fun n => vstep C n o e H k
theorem vstepN_eq (C : Cx) (o : Oper) (e : Env) (H : HL) (k : D → HL → Prop) : vstepN C o e H k = vstep C H.length o e H k := fzn_eq _ _

/-- What follows a call that may turn objects, or panic. -/
def vcret (K : VX → St → Prop) (s : St) (kn : D → HL → Option (List D) → Prop) (r : Res) (H' : HL) : Prop := match s with
  | ⟨e0, H0, df0⟩ => match r with
    | .ret d => fz d fun d => fzh H' fun H' => kn d H' df0
    | .pan d => fzh H' fun H' => K (.panic d) ⟨e0, H', df0⟩
theorem vcret_eq (K : VX → St → Prop) (s : St) (kn : D → HL → Option (List D) → Prop) (r : Res) (H' : HL) : vcret K s kn r H' = (match r with
  | .ret d => fz d fun d => fzh H' fun H' => kn d H' s.df
  | .pan d => fzh H' fun H' => K (.panic d) ⟨s.e, H', s.df⟩) := by cases s; rfl
/-- One operation: a reader, a writer, a call, a panic, a defer statement. -/
def vopB (C : Cx) (o : Oper) (K : VX → St → Prop) (s : St) (kn : D → HL → Option (List D) → Prop) : Prop := match s with
  | ⟨e0, H0, df0⟩ => match o.op with
    | .panic x => match ev e0 x with
      | .iface t d => K (.panic (.iface t d)) ⟨e0, H0, df0⟩
      | _ => False
    | .defer c => match c.callee with
      | .value f => match c.args.toList with
        | [] => match df0 with
          | some df => match ev e0 f with
            | .fn g fs cs => kn .top H0 (some (.fn g fs cs :: df))
            | _ => False
          | none => False
        | _ => False
      | _ => False
    | .call c => match c.callee with
      | .value f => match ev e0 f with
        | .fn g fs cs => match C.call g with
          | some r => fzl (fs ++ c.args.toList.map (ev e0) ++ cs) fun ds => fzh H0 fun H => r ds H (vcret K ⟨e0, H, df0⟩ kn)
          | none => vstepN C o e0 H0 fun d H => kn d H df0
        | .yld o' => match C.yld with
          | some (ol, h) => bif Nat.beq o' ol then fzl (c.args.toList.map (ev e0)) fun ds => fzh H0 fun H => h ds H (vcret K ⟨e0, H, df0⟩ kn) else False
          | none => False
        | _ => False
      | _ => vstepN C o e0 H0 fun d H => kn d H df0
    | _ => vstepN C o e0 H0 fun d H => kn d H df0
theorem vopB_eq (C : Cx) (o : Oper) (K : VX → St → Prop) (s : St) (kn : D → HL → Option (List D) → Prop) : vopB C o K s kn = (match o.op with
  | .panic x => match ev s.e x with
    | .iface t d => K (.panic (.iface t d)) s
    | _ => False
  | .defer c => match c.callee with
    | .value f => match c.args.toList with
      | [] => match s.df with
        | some df => match ev s.e f with
          | .fn g fs cs => kn .top s.H (some (.fn g fs cs :: df))
          | _ => False
        | none => False
      | _ => False
    | _ => False
  | .call c => match c.callee with
    | .value f => match ev s.e f with
      | .fn g fs cs => match C.call g with
        | some r => fzl (c.args.toList.map (ev s.e)) fun ds => r (fs ++ ds ++ cs) s.H (vcret K s kn)
        | none => vstep C s.H.length o s.e s.H fun d H => kn d H s.df
      | .yld o' => match C.yld with
        | some (ol, h) => bif Nat.beq o' ol then fzl (c.args.toList.map (ev s.e)) fun ds => h ds s.H (vcret K s kn) else False
        | none => False
      | _ => False
    | _ => vstep C s.H.length o s.e s.H fun d H => kn d H s.df
  | _ => vstep C s.H.length o s.e s.H fun d H => kn d H s.df) := by
  cases s
  simp only [vopB, vstepN_eq, fzl_eq, fzh_eq]
def vopsR (C : Cx) (N : Nat) (o : Oper) (K : VX → St → Prop) (ih : St → Prop) (s : St) : Prop := match s with
  | ⟨e0, H0, df0⟩ => vopB C o K ⟨e0, H0, df0⟩ fun d H df => vput N e0 o.dst d fun e => ih ⟨e, H, df⟩
theorem vopsR_eq (C : Cx) (N : Nat) (o : Oper) (K : VX → St → Prop) (ih : St → Prop) (s : St) : vopsR C N o K ih s = (vopB C o K s fun d H df => vput N s.e o.dst d fun e => ih ⟨e, H, df⟩) := by cases s; rfl
def vopsS (N : Nat) (o : Oper) (ih : St → Prop) (s : St) : Prop := match s with
  | ⟨e0, H0, df0⟩ => vput N e0 o.dst (.tup []) fun e => ih ⟨e, H0, df0⟩
theorem vopsS_eq (N : Nat) (o : Oper) (ih : St → Prop) (s : St) : vopsS N o ih s = (vput N s.e o.dst (.tup []) fun e => ih ⟨e, s.H, s.df⟩) := by cases s; rfl
def vopsB (C : Cx) (N : Nat) (ops : List Oper) (K : VX → St → Prop) (o : Oper) (ih : St → Prop) (s : St) : Prop := match s with
  | ⟨e0, H0, df0⟩ => match o.guard with
      | none => vopsR C N o K ih ⟨e0, H0, df0⟩
      | some (j, want) => match gslot ops j with
        | none => False
        | some g => match e0 g with
          | .tt => bif want then vopsR C N o K ih ⟨e0, H0, df0⟩ else vopsS N o ih ⟨e0, H0, df0⟩
          | .ff => bif want then vopsS N o ih ⟨e0, H0, df0⟩ else vopsR C N o K ih ⟨e0, H0, df0⟩
          | .bool b =>
            (b = true → bif want then vopsR C N o K ih ⟨upd e0 g .tt, H0, df0⟩ else vopsS N o ih ⟨upd e0 g .tt, H0, df0⟩) ∧
            (b = false → bif want then vopsS N o ih ⟨upd e0 g .ff, H0, df0⟩ else vopsR C N o K ih ⟨upd e0 g .ff, H0, df0⟩)
          | .tup _ => vopsS N o ih ⟨e0, H0, df0⟩
          | _ => False
theorem vopsB_eq (C : Cx) (N : Nat) (ops : List Oper) (K : VX → St → Prop) (o : Oper) (ih : St → Prop) (s : St) : vopsB C N ops K o ih s = (match o.guard with
    | none => vopsR C N o K ih s
    | some (j, want) => match gslot ops j with
      | none => False
      | some g => match s.e g with
        | .tt => bif want then vopsR C N o K ih s else vopsS N o ih s
        | .ff => bif want then vopsS N o ih s else vopsR C N o K ih s
        | .bool b =>
          (b = true → bif want then vopsR C N o K ih ⟨upd s.e g .tt, s.H, s.df⟩ else vopsS N o ih ⟨upd s.e g .tt, s.H, s.df⟩) ∧
          (b = false → bif want then vopsS N o ih ⟨upd s.e g .ff, s.H, s.df⟩ else vopsR C N o K ih ⟨upd s.e g .ff, s.H, s.df⟩)
        | .tup _ => vopsS N o ih s
        | _ => False) := by cases s; rfl
def vops (C : Cx) (N : Nat) (ops : List Oper) (K : VX → St → Prop) (l : List Oper) : St → Prop := @List.rec Oper (fun _ => St → Prop) (K .normal) (fun o _ ih => vopsB C N ops K o ih) l
theorem vops_cons (C : Cx) (N : Nat) (ops : List Oper) (K : VX → St → Prop) (o : Oper) (r : List Oper) (s : St) : vops C N ops K (o :: r) s = vopsB C N ops K o (vops C N ops K r) s := rfl

/-- Every reading of the one is one of the other. -/
def Imp (d d' : D) : Prop := ∀ S w v, R S w Mu0 d v → R S w Mu0 d' v
theorem Imp.refl (d : D) : Imp d d := fun _ _ _ h => h
theorem Imp.rsl {s n : Nat} {g g' : Nat → Nat → D} (h : ∀ i j, i < n → j < s → g i j = g' i j) : Imp (.rsl s n g) (.rsl s n g') := fun S w v hr => by
  cases hr with
  | rsl _ _ _ A c val h1 h2 h3 => exact .rsl s n g' A c val h1 h2 fun i j hi hj => by rw [← h i j hi hj]; exact h3 i j hi hj

section
variable {P : Program} {C : Cx} {T : RT} {o : Oper} {a : Act} {w : World} {S : Nat → Prop} {μ : Mu} {H : HL} {e : Env} {r : Option Nat} {N : Nat} {B : Option Nat}

def ResR (S : Nat → Prop) (w : World) (μ : Mu) : Res → Ending → Prop
  | .ret d, .returned v => R S w μ d v
  | .pan d, .panicked ch => ∃ v, ch = [{ v, recovered := false }] ∧ R S w μ d v
  | _, _ => False
def CallPost (S : Nat → Prop) (w : World) (μ : Mu) (H : HL) (K : Res → HL → Prop) : Ending → World → Prop := fun e w' => ∃ S' μ' r H', K r H' ∧ ResR S' w' μ' r e ∧ RelL S' w' μ' H' ∧ Tr S w μ (hget H) S' w' μ' (hget H')
def Enters (P : Program) (f : Nat) : Prop := ∀ args w, (callFunc f args).run P w = .ok (.enter f args) w
structure CSound (P : Program) (f : Nat) (c : CRule) : Prop where
  enters : Enters P f
  calls : ∀ ds H K, c ds H K → ∀ S w μ (vs : List Value), RelL S w μ H → RL S w μ ds vs → Calls P f vs.toArray w (CallPost S w μ H K)
/-- A call of yield: one round. -/
def YSound (P : Program) (T : RT) (ol : Nat) (h : CRule) : Prop :=
  ∀ ds H K, h ds H K → ∀ S w μ (vs : List Value), T S w μ (hget H) → RelL S w μ H → RL S w μ ds vs → ∀ l, μ ol = some (.func (.yield l) #[] #[]) →
    ∃ fn tmps assign body, (Instr.yield l vs.toArray).run P w = .ok (.round l fn tmps assign body) w ∧ ∀ n, RoundIn (FW none) n P l fn tmps assign body w (CallPost S w μ H K)
def RTok (T : RT) : Prop := ∀ S w μ H S' w' μ' H', T S w μ H → Tr S w μ H S' w' μ' H' → T S' w' μ' H'
structure ISound (P : Program) (f : Nat) (i : IRule) : Prop where
  enters : Enters P f
  calls : ∀ ol h T, RTok T → YSound P T ol h → ∀ ds H K, i ol h ds H K → ∀ S w μ (vs : List Value), T S w μ (hget H) → RelL S w μ H → RL S w μ ds vs → Calls P f vs.toArray w (CallPost S w μ H K)
def MdR (S : Nat → Prop) (w : World) (μ : Mu) : Md → FrameMode → Prop
  | .ret, u => u = .returning
  | .pan d, u => ∃ v, u = .panicking [{ v, recovered := false }] ∧ R S w μ d v
structure DSound (P : Program) (f : Nat) (c : DRule) : Prop where
  enters : Enters P f
  calls : ∀ md ds H K, c md ds H K → ∀ S w μ (vs : List Value) u n, RelL S w μ H → RL S w μ ds vs → MdR S w μ md u →
    CallsDIn (FW none) n P f vs.toArray u w fun e u' w' => (∃ v, e = .returned v) ∧ ∃ S' μ' md' H', K md' H' ∧ MdR S' w' μ' md' (settle u') ∧ RelL S' w' μ' H' ∧ Tr S w μ (hget H) S' w' μ' (hget H')
structure CallsOK (P : Program) (C : Cx) (T : RT) : Prop where
  ok : COK P C
  mixed : P.follows .mixedOrders = true
  pure : ∀ f r, C.pure f = some r → PSound P f r
  call : ∀ f c, C.call f = some c → CSound P f c
  iter : ∀ f i, C.iter f = some i → ISound P f i
  dfr : ∀ f d, C.dfr f = some d → DSound P f d
  yld : ∀ ol h, C.yld = some (ol, h) → YSound P T ol h
  step : RTok T

theorem run_call {f : Operand} {xs : Array Operand} {ts : Array Nat} {g : Nat} {vf vc : Array Value} (hop : o.op = .call { callee := .value f, args := xs, argTypes := ts }) (hf : a.eval f = .func (.func g) vf vc)
    (he : ∀ args w, (callFunc g args).run P w = .ok (.enter g args) w) : (execOp a.eval o).run P w = .ok (.enter g (vf ++ xs.map a.eval ++ vc)) w := by
  simp [execOp, hop, resolve, hf, Deferred.ofValue, invoke, he]

theorem args_RL {fs cs : List D} {vf vc : Array Value} {xs : Array Operand} (he : EnvR S w μ e a) (hl1 : fs.length = vf.size) (hl2 : cs.length = vc.size) (hR1 : ∀ (i : Nat) d v, fs[i]? = some d → vf[i]? = some v → R S w μ d v)
    (hR2 : ∀ (i : Nat) d v, cs[i]? = some d → vc[i]? = some v → R S w μ d v) : RL S w μ (fs ++ xs.toList.map (ev e) ++ cs) (vf ++ xs.map a.eval ++ vc).toList := by
  refine ⟨by simp [hl1, hl2], fun i d v h1 h2 => ?_⟩
  simp only [Array.toList_append, Array.toList_map] at h2
  rw [List.getElem?_append] at h1 h2
  simp only [List.length_append, List.length_map, Array.length_toList] at h1 h2
  rw [hl1] at h1
  split at h1
  · rename_i hi
    rw [if_pos hi] at h2
    rw [List.getElem?_append] at h1 h2
    simp only [Array.length_toList] at h2
    rw [hl1] at h1
    split at h1
    · rename_i hi'
      rw [if_pos hi'] at h2
      exact hR1 i d v h1 (by simpa using h2)
    · rename_i hi'
      rw [if_neg hi'] at h2
      simp only [List.getElem?_map] at h1 h2
      cases hx : xs.toList[i - vf.size]? with
      | none => simp [hx] at h1
      | some x =>
        simp only [hx, Option.map_some, Option.some.injEq] at h1 h2
        subst h1; subst h2
        exact he.ev x
  · rename_i hi
    rw [if_neg hi] at h2
    exact hR2 _ d v h1 (by simpa using h2)

theorem sound_pcall {f : Operand} {xs : Array Operand} {ts : Array Nat} {g : Nat} {fs cs : List D} {r : PRule} {k : D → Prop} (hs : PSound P g r) (he : EnvR S w μ e a) (hr : RelL S w μ H)
    (hop : o.op = .call { callee := .value f, args := xs, argTypes := ts }) (hd : ev e f = .fn g fs cs) (h : vcallp r (fs ++ xs.toList.map (ev e) ++ cs) H k) : Does P o a w (PostR S w μ H k) := by
  have hf := he.ev f
  rw [hd] at hf
  generalize hvf : a.eval f = fv at hf
  cases hf with
  | fn _ _ _ vf vc hl1 hl2 hR1 hR2 =>
    have hRL := args_RL (xs := xs) he hl1 hl2 hR1 hR2
    intro r n K Q' hK
    refine ⟨fun _ _ => trivial, ?_⟩
    rw [run_at (fun c e => by rw [hop] at e; cases e), run_call hop hvf hs.enters, Oper.uponIn_enter]
    refine ⟨fun h => (by cases h), callsIn_FW.2 ?_⟩
    unfold vcallp at h
    cases hn : (fs ++ xs.toList.map (ev e) ++ cs).all noRef with
    | true =>
      simp only [hn, cond_true, fz_iff] at h
      have hRL0 : RL S w Mu0 (fs ++ xs.toList.map (ev e) ++ cs) (vf ++ xs.map a.eval ++ vc).toList := ⟨hRL.1, fun i d v h1 h2 => noRef_R (hRL.2 i d v h1 h2) (List.all_eq_true.1 hn d (List.mem_of_getElem? h1))⟩
      have hc := hs.calls _ _ h S w _ (fun b hb => (hr.1.stat b hb).1) hRL0
      rw [Array.toArray_toList] at hc
      refine hc.mono ?_
      rintro _ w' ⟨v, S', d, rfl, hk, hR, hg⟩
      obtain ⟨g1, g2⟩ := hr.1.grow hg.os hg.tape hg.output hg.size hg.block hg.sub hg.new hg.lt
      exact hK v w' ⟨S', μ, d, H, ⟨rfl, hk⟩, hR.of0, ⟨g1, hr.2⟩, g2⟩
    | false =>
      simp only [hn, cond_false] at h
      have sview : ∀ (ds : List D) (vs : List Value) {k : List D → Prop}, RL S w μ ds vs → viewal H ds k → ∃ ds', k ds' ∧ (ds'.all noRef = true → RL (withH S μ (hget H)) w Mu0 ds' vs) := by
        intro ds
        induction ds with
        | nil => exact fun vs k hl h => ⟨[], h, fun _ => ⟨hl.1, fun i d v h1 => by simp at h1⟩⟩
        | cons d ds ih =>
          intro vs k hl h
          match vs, hl with
          | v :: vs, hl =>
            have h : viewa H d (fun d => viewal H ds fun r => k (d :: r)) := h
            obtain ⟨d', h1, h2⟩ := sound_viewa hr.1 (hl.2 0 d v rfl rfl) h
            obtain ⟨ds', h3, h4⟩ := ih vs ⟨by simpa using hl.1, fun i d v a b => hl.2 (i + 1) d v (by simpa using a) (by simpa using b)⟩ h1
            refine ⟨d' :: ds', h3, fun hn => ?_⟩
            simp only [List.all_cons, Bool.and_eq_true] at hn
            obtain ⟨g1, g2⟩ := h4 hn.2
            refine ⟨by simp [g1], fun i x u hx hu => ?_⟩
            cases i with
            | zero => simp at hx hu; subst hx; subst hu; exact h2 hn.1
            | succ i => exact g2 i x u (by simpa using hx) (by simpa using hu)
      obtain ⟨ds', h1, h2⟩ := sview _ _ hRL h
      cases hn' : ds'.all noRef with
      | false => simp [hn'] at h1
      | true =>
        simp only [hn', cond_true, fz_iff] at h1
        have hc := hs.calls _ _ h1 (withH S μ (hget H)) w _ (fun b hb => by
          rcases hb with hb | ⟨o', ob, v, ho', hv, hbv⟩
          · exact (hr.1.stat b hb).1
          · obtain ⟨mv, m1, m2⟩ := hr.1.obs o' ob ho'
            rw [hv] at m1
            injection m1 with m1
            subst m1
            exact m2.blk_lt hbv) (h2 hn')
        rw [Array.toArray_toList] at hc
        refine hc.mono ?_
        rintro _ w' ⟨v, S', d, rfl, hk, hR, hg⟩
        cases hfl : flat d with
        | false => simp [hfl] at hk
        | true =>
          simp only [hfl, cond_true] at hk
          obtain ⟨g1, g2⟩ := hr.1.grow hg.os hg.tape hg.output hg.size hg.block (S' := S) (fun _ h => h) (fun _ h => .inl h) (fun b hb => Nat.lt_of_lt_of_le (hr.1.stat b hb).1 hg.size)
          exact hK v w' ⟨S, μ, d, H, ⟨rfl, hk⟩, (flat_R hR hfl).of0, ⟨g1, hr.2⟩, g2⟩

theorem sound_sr {k : D → Prop} (hC : CallsOK P C T) (he : EnvR S w μ e a) (hr : RelL S w μ H) (h : vsr C o e H k) : Does P o a w (PostR S w μ H k) := by
  unfold vsr at h
  split at h
  · rename_i c hop
    obtain ⟨callee, args, ats⟩ := c
    split at h
    · rename_i f hcal
      simp only at hcal
      subst hcal
      split at h
      · rename_i g fs cs hd
        cases hp : C.pure g with
        | none => simp [hp] at h
        | some r =>
          simp only [hp, fzl_iff] at h
          exact sound_pcall (hC.pure g r hp) he hr hop hd h
      · exact h.elim
    · exact sound_rd hC.ok he hr h
  · exact sound_rd hC.ok he hr h

theorem Does.mono {Q Q' : Value → World → Prop} (h : Does P o a w Q) (hq : ∀ v w', Q v w' → Q' v w') : Does P o a w Q' := fun r n K Q2 hK => h r n K Q2 fun v w' q => hK v w' (hq v w' q)

theorem sound_step {nid : Nat} {k : D → HL → Prop} (hC : CallsOK P C T) (he : EnvR S w μ e a) (hr : RelL S w μ H) (hno : μ nid = none) (hle : nid ≤ H.length) (h : vstep C nid o e H k) : Does P o a w (Post S w μ H k) := by
  unfold vstep at h
  cases hw : isWr o.op with
  | true =>
    rw [hw] at h
    exact sound_wr hC.ok he hr hno hle h
  | false =>
    rw [hw] at h
    refine (sound_sr hC he hr h).mono fun v w' ⟨S', μ', d, H', ⟨e, hk⟩, g1, g2, g3⟩ => ?_
    subst e
    exact ⟨S', μ', d, H', hk, g1, g2, g3⟩

/-- The deferred calls of an activation: closures without arguments, and marks of loops whose rounds have deferred nothing. -/
inductive DfL (B : Option Nat) (S : Nat → Prop) (w : World) (μ : Mu) (H : Hp) : List D → List Deferred → Prop
  | nil : DfL B S w μ H [] []
  | fn {df ds} (f fs cs) (vf vc : Array Value) : R S w μ (.fn f fs cs) (.func (.func f) vf vc) → DfL B S w μ H df ds → DfL B S w μ H (.fn f fs cs :: df) ({ target := .fn (.func f) vc, args := vf } :: ds)
  | mark {df ds} (b D : Nat) : B = some b → b ≤ D → D < w.heap.size → w.heap[D]? = some (.deferred (some [])) → ¬ S D → (∀ o ob v, H o = some ob → μ o = some v → blk v ≠ some D) → (∀ d ∈ ds, d.target ≠ .collected D) → DfL B S w μ H df ds → DfL B S w μ H df ({ target := .collected D, args := #[] } :: ds)
def DfR (B : Option Nat) (S : Nat → Prop) (w : World) (μ : Mu) (H : Hp) : Option (List D) → List Deferred → Prop
  | none, _ => True
  | some df, ds => DfL B S w μ H df ds
theorem DfL.tr {H : Hp} {S' : Nat → Prop} {w' : World} {μ' : Mu} {H' : Hp} {df : List D} {ds : List Deferred} (h : DfL B S w μ H df ds) (hr : Rel S w μ H) (t : Tr S w μ H S' w' μ' H') : DfL B S' w' μ' H' df ds := by
  induction h with
  | nil => exact .nil
  | fn f fs cs vf vc h1 _ ih => exact .fn f fs cs vf vc (h1.tr hr t) ih
  | mark b D h0 h1 h2 h3 h4 h5 h6 _ ih =>
    refine .mark b D h0 h1 (Nat.lt_of_lt_of_le h2 t.size) ((t.block D h2 h5).trans h3) (fun h => ?_) (fun o ob v ho hv hb => ?_) h6 ih
    · rcases t.new D h with h6 | h6
      · exact h4 h6
      · omega
    · rcases t.blks o ob v D ho hv hb with h6 | ⟨o', ob', v', e1, e2, e3⟩
      · omega
      · exact h5 o' ob' v' e1 e2 e3
theorem DfL.marks {H : Hp} {df : List D} {ds : List Deferred} (h : DfL B S w μ H df ds) : ∀ d ∈ ds, ∀ D, d.target = .collected D → D < w.heap.size := by
  induction h with
  | nil => intro d hd; cases hd
  | fn f fs cs vf vc _ _ ih =>
    intro d hd D e
    rcases List.mem_cons.1 hd with rfl | hd
    · cases e
    · exact ih d hd D e
  | mark b D h0 h1 h2 h3 h4 h5 h6 _ ih =>
    intro d hd D' e
    rcases List.mem_cons.1 hd with rfl | hd
    · injection e with e; omega
    · exact ih d hd D' e
theorem DfR.tr {H : Hp} {S' : Nat → Prop} {w' : World} {μ' : Mu} {H' : Hp} {df : Option (List D)} {ds : List Deferred} (h : DfR B S w μ H df ds) (hr : Rel S w μ H) (t : Tr S w μ H S' w' μ' H') : DfR B S' w' μ' H' df ds := by
  cases df with
  | none => trivial
  | some df => exact DfL.tr h hr t

structure RelSt (r : Option Nat) (N : Nat) (B : Option Nat) (S : Nat → Prop) (w : World) (μ : Mu) (s : St) (a : Act) : Prop where
  rel : RelL S w μ s.H
  env : EnvR S w μ s.e a
  size : a.tmps.size = N
  df : DfR B S w μ (hget s.H) s.df a.defers
  round : r = none ∨ s.df = none

def XR (S : Nat → Prop) (w : World) (μ : Mu) : VX → Exit → Prop
  | .normal, .normal => True
  | .exit i, .exit j => i = j
  | .ret, .ret => True
  | .panic d, .panic ch => ∃ v, ch = [{ v, recovered := false }] ∧ R S w μ d v
  | _, _ => False
def PostC (S : Nat → Prop) (w : World) (μ : Mu) (H : Hp) (r : Option Nat) (N : Nat) (B : Option Nat) (K : VX → St → Prop) : Exit → Act → World → Prop := fun x a' w' =>
  ∃ S' μ' s' x', K x' s' ∧ XR S' w' μ' x' x ∧ RelSt r N B S' w' μ' s' a' ∧ Tr S w μ H S' w' μ' (hget s'.H)

theorem PostC.from {H : Hp} {S1 : Nat → Prop} {w1 : World} {μ1 : Mu} {H1 : Hp} {K : VX → St → Prop} (t : Tr S w μ H S1 w1 μ1 H1) {x : Exit} {a' : Act} {w' : World} (h : PostC S1 w1 μ1 H1 r N B K x a' w') : PostC S w μ H r N B K x a' w' :=
  let ⟨S', μ', s', x', h1, h2, h3, h4⟩ := h
  ⟨S', μ', s', x', h1, h2, h3, t.trans h4⟩

theorem EnvR.put {a : Act} (he : EnvR S w μ e a) {i : Nat} (hi : i < a.tmps.size) {d : D} {v : Value} (hd : R S w μ d v) : EnvR S w μ (upd e i d) (a.put (some i) v) := fun j => by
  simp only [upd, Act.put]
  cases hj : Nat.beq j i with
  | true =>
    obtain rfl := Nat.eq_of_beq_eq_true hj
    simp only [cond_true]
    simpa [Array.getD, hi] using hd
  | false =>
    have hne : i ≠ j := fun e => by subst e; rw [Nat.beq_refl] at hj; cases hj
    simp only [cond_false]
    have := he j
    rw [Array.getD_eq_getD_getElem?] at this ⊢
    rwa [Array.getElem?_setIfInBounds_ne hne]

theorem Act.put_size (a : Act) (dst : Option Nat) (v : Value) : (a.put dst v).tmps.size = a.tmps.size := by cases dst <;> simp [Act.put]
theorem Act.put_defers (a : Act) (dst : Option Nat) (v : Value) : (a.put dst v).defers = a.defers := by cases dst <;> rfl

theorem sound_put {a : Act} {dst : Option Nat} {d : D} {v : Value} {k : Env → Prop} (he : EnvR S w μ e a) (hN : a.tmps.size = N) (hd : R S w μ d v) (h : vput N e dst d k) : ∃ e', k e' ∧ EnvR S w μ e' (a.put dst v) := by
  unfold vput at h
  cases dst with
  | none => exact ⟨e, h, he⟩
  | some i =>
    simp only at h
    cases hb : Nat.ble N i with
    | true => simp [hb] at h
    | false =>
      simp only [hb, cond_false] at h
      have : i < a.tmps.size := by
        rcases Nat.lt_or_ge i N with h1 | h1
        · omega
        · rw [Nat.ble_eq_true_of_le h1] at hb; cases hb
      exact ⟨_, h, he.put this hd⟩

theorem R_tt_of {b : Bool} {v : Value} (h : R S w μ (.bool b) v) (hb : b = true) : R S w μ .tt v := by subst hb; cases h; exact .tt
theorem R_ff_of {b : Bool} {v : Value} (h : R S w μ (.bool b) v) (hb : b = false) : R S w μ .ff v := by subst hb; cases h; exact .ff

theorem EnvR.upd {a : Act} (he : EnvR S w μ e a) {i : Nat} {d : D} (hd : R S w μ d (a.tmps.getD i undef)) : EnvR S w μ (upd e i d) a := fun j => by
  simp only [V.upd]
  cases hj : Nat.beq j i with
  | true => obtain rfl := Nat.eq_of_beq_eq_true hj; exact hd
  | false => exact he j

theorem R_undef : R S w μ (.tup []) undef := .tup [] #[] rfl fun i d v h => by simp at h
theorem wanted_no {ops : Array Oper} {j : Nat} {want : Bool} {g : Nat} (hg : o.guard = some (j, want)) (hs : gslot ops.toList j = some g) (hv : ∃ vs, a.tmps.getD g undef = .tuple vs) : Region.wanted o (yielded ops a.tmps) = false := by
  obtain ⟨vs, hv⟩ := hv
  have h1 : ((ops[j]?).bind (·.dst)) = some g := by
    unfold gslot at hs
    simp only [Array.getElem?_toList] at hs
    cases ho : ops[j]? with
    | none => simp [ho] at hs
    | some o' => simpa [ho] using hs
  have h2 : ∀ b, a.tmps[g]? ≠ some (.bool b) := fun b hb => by
    rw [Array.getD_eq_getD_getElem?, hb] at hv
    simp at hv
  have h3 : yielded ops a.tmps j = none := by
    unfold yielded
    rw [h1, Option.bind_some]
    split
    · rename_i b hb; exact absurd hb (h2 b)
    · rfl
  simp [Region.wanted, hg, h3]
theorem wanted_of {ops : Array Oper} {j : Nat} {want : Bool} {g : Nat} (hg : o.guard = some (j, want)) (hs : gslot ops.toList j = some g) {b : Bool} (hv : a.tmps.getD g undef = .bool b) : Region.wanted o (yielded ops a.tmps) = (b == want) := by
  have h1 : ((ops[j]?).bind (·.dst)) = some g := by
    unfold gslot at hs
    simp only [Array.getElem?_toList] at hs
    cases ho : ops[j]? with
    | none => simp [ho] at hs
    | some o' => simpa [ho] using hs
  have h2 : a.tmps[g]? = some (.bool b) := by
    rw [Array.getD_eq_getD_getElem?] at hv
    cases hx : a.tmps[g]? with
    | none => rw [hx] at hv; cases hv
    | some v => rw [hx] at hv; simpa using hv
  simp [Region.wanted, hg, yielded, h1, h2]

/-- One operation, whatever it is. -/
theorem sound_opB (hC : CallsOK P C T) {K : VX → St → Prop} {s : St} {kn : D → HL → Option (List D) → Prop} (hst : RelSt r N B S w μ s a) (hT : T S w μ (hget s.H)) (h : vopB C o K s kn) (n : Nat) {K' : Act → World → Prop}
    (hK : ∀ (S' : Nat → Prop) μ' d H' df' v w' ds', kn d H' df' → R S' w' μ' d v → RelL S' w' μ' H' → Tr S w μ (hget s.H) S' w' μ' (hget H') → DfR B S' w' μ' (hget H') df' ds' → (r = none ∨ df' = none) → K' ({ a with defers := ds' }.put o.dst v) w') :
    o.wpIn (FW r) n P a w K' (PostC S w μ (hget s.H) r N B K) := by
  obtain ⟨hr, he, hN, hdf, hro⟩ := hst
  have step : (vstep C s.H.length o s.e s.H fun d H => kn d H s.df) → o.wpIn (FW r) n P a w K' (PostC S w μ (hget s.H) r N B K) := fun h => by
    refine sound_step hC he hr (hr.2 _ (Nat.le_refl _)) (Nat.le_refl _) h r n K' _ fun v w' ⟨S', μ', d, H', hk, hR, hr', t⟩ => ?_
    exact hK S' μ' d H' s.df v w' a.defers hk hR hr' t (hdf.tr hr.1 t) hro
  have call : ∀ {g : Nat} {vs : List Value} {K0 : Res → HL → Prop}, (execOp a.eval o).run P w = .ok (.enter g vs.toArray) w → (∀ x, o.op ≠ .defer x) → Calls P g vs.toArray w (CallPost S w μ s.H K0) → (∀ res H', K0 res H' → vcret K s kn res H') → o.wpIn (FW r) n P a w K' (PostC S w μ (hget s.H) r N B K) := fun {g vs K0} hrun hnd hcalls hK0 => by
    refine ⟨fun _ _ => trivial, ?_⟩
    rw [run_at hnd, hrun, Oper.uponIn_enter]
    refine ⟨fun h => (by cases h), callsIn_FW.2 (hcalls.mono ?_)⟩
    rintro e' w' ⟨S', μ', res, H', k1, k2, k3, k4⟩
    have k1 := hK0 _ _ k1
    cases res with
    | ret d =>
      cases e' with
      | returned v =>
        simp only [vcret_eq, fz_iff, fzh_iff] at k1
        exact hK S' μ' d H' s.df v w' a.defers k1 k2 k3 k4 (hdf.tr hr.1 k4) hro
      | _ => exact k2.elim
    | pan d =>
      cases e' with
      | panicked ch =>
        simp only [vcret_eq, fzh_iff] at k1
        exact ⟨S', μ', _, .panic d, k1, k2, ⟨k3, fun i => (he i).tr hr.1 k4, hN, hdf.tr hr.1 k4, hro⟩, k4⟩
      | _ => exact k2.elim
  rw [vopB_eq] at h
  split at h
  · rename_i x hop
    split at h
    · rename_i t d hd
      have hx := he.ev x
      rw [hd] at hx
      generalize hv : a.eval x = v at hx
      cases hx with
      | iface _ _ u hu =>
        refine ⟨fun _ _ => trivial, ?_⟩
        rw [run_at (fun c e => by rw [hop] at e; cases e)]
        have hrun : (execOp a.eval o).run P w = .halt (.panic (.iface t u)) w := by
          simp [execOp, hop, hv, Instr.panic, goPanic, Sem.run]
        rw [hrun, Oper.uponIn_panic]
        exact ⟨S, μ, s, _, h, ⟨_, rfl, .iface _ _ _ hu⟩, ⟨hr, he, hN, hdf, hro⟩, .refl ..⟩
    · exact h.elim
  · rename_i c hop
    split at h
    · rename_i f hcal
      split at h
      · rename_i hargs
        split at h
        · rename_i df hsd
          split at h
          · rename_i g fs cs hd
            have hf := he.ev f
            rw [hd] at hf
            generalize hv : a.eval f = fv at hf
            have hf' := hf
            cases hf with
            | fn _ _ _ vf vc hl1 hl2 hR1 hR2 =>
              rcases hro with rfl | hro
              · have hargs' : c.args = #[] := by simpa using hargs
                refine ⟨fun _ _ => trivial, ?_⟩
                have hrun : (o.semAt (FW none).round a.eval).run P w = .ok (.defer { target := .fn (.func g) vc, args := vf }) w := by
                  show (o.semAt none a.eval).run P w = _
                  rw [Oper.semAt_none]
                  simp [execOp, hop, resolve, hcal, hv, Deferred.ofValue, hargs']
                rw [hrun, Oper.uponIn_defer]
                rw [hsd] at hdf
                exact hK S μ _ _ _ undef w _ h (.top _) hr (.refl ..) (.fn g fs cs vf vc hf' hdf) (.inl rfl)
              · rw [hsd] at hro; cases hro
          · exact h.elim
        · exact h.elim
      · exact h.elim
    · exact h.elim
  · rename_i c hop
    obtain ⟨callee, args, ats⟩ := c
    split at h
    · rename_i f hcal
      simp only at hcal
      subst hcal
      split at h
      · rename_i g fs cs hd
        split at h
        · rename_i cr hcr
          rw [fzl_iff] at h
          have hs := hC.call g cr hcr
          have hf := he.ev f
          rw [hd] at hf
          generalize hvf : a.eval f = fv at hf
          cases hf with
          | fn _ _ _ vf vc hl1 hl2 hR1 hR2 =>
            have hRL := args_RL (xs := args) he hl1 hl2 hR1 hR2
            have hrun := run_call (P := P) (w := w) hop hvf hs.enters
            exact call (g := g) (vs := (vf ++ args.map a.eval ++ vc).toList) (by rw [Array.toArray_toList]; exact hrun) (fun c e => by rw [hop] at e; cases e) (hs.calls _ _ _ h S w μ _ hr hRL) (fun _ _ h => h)
        · exact step h
      · rename_i o' hd
        split at h
        · rename_i ol hh hy
          cases hq : Nat.beq o' ol with
          | false => rw [hq] at h; exact h.elim
          | true =>
            obtain rfl := Nat.eq_of_beq_eq_true hq
            rw [hq, cond_true, fzl_iff] at h
            have hf := he.ev f
            rw [hd] at hf
            generalize hvf : a.eval f = fv at hf
            cases hf with
            | yld _ l hl =>
              have hRL : RL S w μ (args.toList.map (ev s.e)) (args.map a.eval).toList := by
                have := args_RL (xs := args) (fs := []) (cs := []) (vf := #[]) (vc := #[]) he rfl rfl (fun i d v h => by simp at h) (fun i d v h => by simp at h)
                simpa using this
              obtain ⟨fn, tmps, assign, body, y1, y2⟩ := hC.yld _ _ hy _ _ _ h S w μ _ hT hr hRL l hl
              rw [Array.toArray_toList] at y1
              refine ⟨fun _ _ => trivial, ?_⟩
              rw [run_at (fun c e => by rw [hop] at e; cases e)]
              have hrun : (execOp a.eval o).run P w = .ok (.round l fn tmps assign body) w := by
                simp [execOp, hop, resolve, hvf, Deferred.ofValue, invoke, y1]
              rw [hrun, Oper.uponIn_round]
              refine ⟨fun h => (by cases h), (show RoundIn (FW none) (n - 1) P l fn tmps assign body w _ from RoundIn.mono (y2 (n - 1)) ?_)⟩
              rintro e' w' ⟨S', μ', res, H', k1, k2, k3, k4⟩
              cases res with
              | ret d =>
                cases e' with
                | returned v =>
                  simp only [vcret_eq, fz_iff, fzh_iff] at k1
                  exact hK S' μ' d H' s.df v w' a.defers k1 k2 k3 k4 (hdf.tr hr.1 k4) hro
                | _ => exact k2.elim
              | pan d =>
                cases e' with
                | panicked ch =>
                  simp only [vcret_eq, fzh_iff] at k1
                  exact ⟨S', μ', _, .panic d, k1, k2, ⟨k3, fun i => (he i).tr hr.1 k4, hN, hdf.tr hr.1 k4, hro⟩, k4⟩
                | _ => exact k2.elim
        · exact h.elim
      · exact h.elim
    · exact step h
  · exact step h

theorem sound_ops (hC : CallsOK P C T) {ops : Array Oper} {K : VX → St → Prop} {n : Nat} : ∀ (l : List Oper) (i : Nat) (s : St) (S : Nat → Prop) (w : World) (μ : Mu) (a : Act), ops.toList.drop i = l → RelSt r N B S w μ s a → T S w μ (hget s.H) →
    vops C N ops.toList K l s → wpOpsIn (FW r) n P ops (PostC S w μ (hget s.H) r N B K) (List.range' i l.length) a w
  | [], i, s, S, w, μ, a, _, hst, _, h => ⟨S, μ, s, .normal, h, trivial, hst, .refl ..⟩
  | o :: rest, i, s, S, w, μ, a, hl, hst, hT, h => by
    have hi : ops[i]? = some o := by
      have : (ops.toList.drop i)[0]? = some o := by rw [hl]; rfl
      simpa using this
    have hl' : ops.toList.drop (i + 1) = rest := by
      have : (ops.toList.drop i).drop 1 = rest := by rw [hl]; rfl
      rwa [List.drop_drop] at this
    have hrange : List.range' i (o :: rest).length = i :: List.range' (i + 1) rest.length := by simp [List.range'_succ]
    rw [hrange, wpOpsIn_cons]
    unfold wpOpIn
    simp only [hi]
    have step : ∀ {s' : St}, s'.H = s.H → s'.df = s.df → EnvR S w μ s'.e a → vopsR C N o K (vops C N ops.toList K rest) s' → Region.wanted o (yielded ops a.tmps) = true →
        if Region.wanted o (yielded ops a.tmps) = true then o.wpIn (FW r) n P a w (wpOpsIn (FW r) n P ops (PostC S w μ (hget s.H) r N B K) (List.range' (i + 1) rest.length)) (PostC S w μ (hget s.H) r N B K) else (∀ f, o.about P w a.eval = some f → (FW r).fn f) ∧ wpOpsIn (FW r) n P ops (PostC S w μ (hget s.H) r N B K) (List.range' (i + 1) rest.length) (a.put o.dst undef) w := fun {s'} e1 e2 he h hw => by
      rw [vopsR_eq] at h
      rw [if_pos hw]
      rw [← e1]
      have hst' : RelSt r N B S w μ s' a := ⟨by rw [e1]; exact hst.rel, he, hst.size, by rw [e1, e2]; exact hst.df, by rw [e2]; exact hst.round⟩
      refine sound_opB hC hst' (by rw [e1]; exact hT) h n fun S' μ' d H' df' v w' ds' hk hR hr' t hdf' hro' => ?_
      have he' : EnvR S' w' μ' s'.e { a with defers := ds' } := fun j => (he j).tr hst'.rel.1 t
      obtain ⟨e', hk', he''⟩ := sound_put he' hst.size hR hk
      refine wpOpsIn_mono (fun x a w hq => PostC.from t hq) (sound_ops hC rest (i + 1) ⟨e', H', df'⟩ S' w' μ' _ hl' ⟨hr', he'', by rw [V.Act.put_size]; exact hst.size, by rw [V.Act.put_defers]; exact hdf', hro'⟩ (hC.step _ _ _ _ _ _ _ _ (by rw [e1]; exact hT) t) hk')
    have skip : ∀ {s' : St}, s'.H = s.H → s'.df = s.df → EnvR S w μ s'.e a → vopsS N o (vops C N ops.toList K rest) s' → Region.wanted o (yielded ops a.tmps) = false →
        if Region.wanted o (yielded ops a.tmps) = true then o.wpIn (FW r) n P a w (wpOpsIn (FW r) n P ops (PostC S w μ (hget s.H) r N B K) (List.range' (i + 1) rest.length)) (PostC S w μ (hget s.H) r N B K) else (∀ f, o.about P w a.eval = some f → (FW r).fn f) ∧ wpOpsIn (FW r) n P ops (PostC S w μ (hget s.H) r N B K) (List.range' (i + 1) rest.length) (a.put o.dst undef) w := fun {s'} e1 e2 he h hw => by
      rw [vopsS_eq] at h
      rw [if_neg (by rw [hw]; exact Bool.false_ne_true)]
      refine ⟨fun _ _ => trivial, ?_⟩
      obtain ⟨e', hk', he'⟩ := sound_put he hst.size R_undef h
      have := sound_ops hC (n := n) rest (i + 1) ⟨e', s'.H, s'.df⟩ S w μ (a.put o.dst undef) hl' ⟨by rw [e1]; exact hst.rel, he', by rw [V.Act.put_size]; exact hst.size, by rw [V.Act.put_defers]; simp only [e1, e2]; exact hst.df, by simp only [e2]; exact hst.round⟩ (by rw [e1]; exact hT) hk'
      simpa only [e1] using this
    rw [vops_cons] at h
    have he := hst.env
    rw [vopsB_eq] at h
    split at h
    · rename_i hg
      exact step rfl rfl he h (by simp [Region.wanted, hg])
    · rename_i j want hg
      split at h
      · exact h.elim
      · rename_i g hs
        have hgv := he g
        split at h
        · rename_i hd
          rw [hd] at hgv
          have hv : a.tmps.getD g undef = .bool true := by generalize a.tmps.getD g undef = v at hgv; cases hgv; rfl
          have hw := wanted_of (o := o) hg hs hv
          cases want
          · exact skip rfl rfl he h (by simpa using hw)
          · exact step rfl rfl he h (by simpa using hw)
        · rename_i hd
          rw [hd] at hgv
          have hv : a.tmps.getD g undef = .bool false := by generalize a.tmps.getD g undef = v at hgv; cases hgv; rfl
          have hw := wanted_of (o := o) hg hs hv
          cases want
          · exact step rfl rfl he h (by simpa using hw)
          · exact skip rfl rfl he h (by simpa using hw)
        · rename_i b hd
          rw [hd] at hgv
          have hv : a.tmps.getD g undef = .bool b := by generalize a.tmps.getD g undef = v at hgv; cases hgv; rfl
          have hw := wanted_of (o := o) hg hs hv
          cases hb : b with
          | true =>
            have he1 := he.upd (R_tt_of hgv hb)
            have h1 := h.1 hb
            rw [hb] at hw
            cases want
            · exact skip (s' := ⟨upd s.e g .tt, s.H, s.df⟩) rfl rfl he1 h1 (by simpa using hw)
            · exact step (s' := ⟨upd s.e g .tt, s.H, s.df⟩) rfl rfl he1 h1 (by simpa using hw)
          | false =>
            have he1 := he.upd (R_ff_of hgv hb)
            have h1 := h.2 hb
            rw [hb] at hw
            cases want
            · exact step (s' := ⟨upd s.e g .ff, s.H, s.df⟩) rfl rfl he1 h1 (by simpa using hw)
            · exact skip (s' := ⟨upd s.e g .ff, s.H, s.df⟩) rfl rfl he1 h1 (by simpa using hw)
        · rename_i cs hd
          rw [hd] at hgv
          have hv : ∃ vs, a.tmps.getD g undef = .tuple vs := by generalize a.tmps.getD g undef = v at hgv; cases hgv; exact ⟨_, rfl⟩
          exact skip rfl rfl he h (wanted_no (o := o) hg hs hv)
        · exact h.elim
end
end Go.V
