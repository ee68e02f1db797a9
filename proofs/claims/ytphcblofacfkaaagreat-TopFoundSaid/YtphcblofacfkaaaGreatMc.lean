/-
  A small logic of our own, part 8: code, loops, functions.
-/
import Derived.Test.YtphcblofacfkaaaGreatMb
set_option linter.unusedVariables false
set_option linter.unusedSimpArgs false
section
namespace Go.V
def fzhB (x : Option Ob) (ih : (HL → Prop) → Prop) (k : HL → Prop) : Prop := match x with
  | none => ih fun r => k (none :: r)
  | some (.row cs) => fzl cs fun cs => ih fun r => k (some (.row cs) :: r)
  | some (.buf e s n g) => ih fun r => k (some (.buf e s n g) :: r)
  | some (.mp m) => ih fun r => k (some (.mp m) :: r)
  | some (.lp l p) => ih fun r => k (some (.lp l p) :: r)
  | some .dead => ih fun r => k (some .dead :: r)
def fzh (l : HL) : (HL → Prop) → Prop := @List.rec (Option Ob) (fun _ => (HL → Prop) → Prop) (fun k => k []) (fun x _ ih => fzhB x ih) l
theorem fzh_iff : ∀ (l : HL) (k : HL → Prop), fzh l k ↔ k l
  | [], k => Iff.rfl
  | none :: r, k => by show fzh r (fun r => k (none :: r)) ↔ _; rw [fzh_iff r]
  | some (.row cs) :: r, k => by show fzl cs (fun cs => fzh r fun r => k (some (.row cs) :: r)) ↔ _; rw [fzl_iff, fzh_iff r]
  | some (.buf e s n g) :: r, k => by show fzh r (fun r => k (some (.buf e s n g) :: r)) ↔ _; rw [fzh_iff r]
  | some (.mp m) :: r, k => by show fzh r (fun r => k (some (.mp m) :: r)) ↔ _; rw [fzh_iff r]
  | some (.lp l p) :: r, k => by show fzh r (fun r => k (some (.lp l p) :: r)) ↔ _; rw [fzh_iff r]
  | some .dead :: r, k => by show fzh r (fun r => k (some .dead :: r)) ↔ _; rw [fzh_iff r]
abbrev RT := (Nat → Prop) → World → Mu → Hp → Prop
theorem uponIn_mono {F : Fence} {n : Nat} {P : Program} {o : Oper} {a : Act} {next next' : Act → World → Prop} {Q Q' : Exit → Act → World → Prop} (hn : ∀ a w, next a w → next' a w) (hq : ∀ x a w, Q x a w → Q' x a w) (r : Result Next) (h : o.uponIn F n P a next Q r) : o.uponIn F n P a next' Q' r := by
  have hout : LetsOut Q → LetsOut Q' := fun ⟨a, w, h⟩ => ⟨a, w, hq _ _ _ h⟩
  cases r with
  | ok x w' =>
    cases x <;> simp only [Oper.uponIn] at h ⊢ <;>
      first
        | exact hn _ _ h
        | exact ⟨h.1, CallsIn.mono h.2 (fun e w'' he => by cases e <;> first | exact hn _ _ he | exact hq _ _ _ he | exact hout he)⟩
        | exact ⟨h.1, RowsIn.mono h.2 (fun _ _ he => hn _ _ he)⟩
        | exact ⟨h.1, RoundIn.mono h.2 (fun e w'' he => by cases e <;> first | exact hn _ _ he | exact hq _ _ _ he | exact hout he)⟩
  | halt x w' => cases x <;> simp only [Oper.uponIn] at h ⊢ <;> first | exact h | exact hq _ _ _ h
theorem wpIn_post {F : Fence} {n : Nat} {P : Program} {o : Oper} {a : Act} {w : World} {next next' : Act → World → Prop} {Q Q' : Exit → Act → World → Prop} (hn : ∀ a w, next a w → next' a w) (hq : ∀ x a w, Q x a w → Q' x a w) (h : o.wpIn F n P a w next Q) : o.wpIn F n P a w next' Q' :=
  ⟨h.1, uponIn_mono hn hq _ h.2⟩
theorem wpOpsIn_mono {F : Fence} {n : Nat} {P : Program} {ops : Array Oper} {Q Q' : Exit → Act → World → Prop} (hq : ∀ x a w, Q x a w → Q' x a w) : ∀ {l : List Nat} {a : Act} {w : World}, wpOpsIn F n P ops Q l a w → wpOpsIn F n P ops Q' l a w
  | [], a, w, h => hq _ _ _ h
  | i :: r, a, w, h => by
    rw [wpOpsIn_cons] at h ⊢
    unfold wpOpIn at h ⊢
    cases ho : ops[i]? with
    | none => simp only [ho] at h ⊢; exact wpOpsIn_mono hq h
    | some o =>
      simp only [ho] at h ⊢
      by_cases hw : Region.wanted o (yielded ops a.tmps) = true
      · rw [if_pos hw] at h ⊢
        exact wpIn_post (fun a w => wpOpsIn_mono hq) hq h
      · rw [if_neg hw] at h ⊢
        exact ⟨h.1, wpOpsIn_mono hq h.2⟩
structure St where
  e : Env
  H : HL
  df : Option (List D)
def vsr (C : Cx) (o : Oper) (e : Env) (H : HL) (k : D → Prop) : Prop := match o.op with
  | .call c => match c.callee with
    | .value f => match ev e f with
      | .fn f fs cs => match C.pure f with
        | some r => fzl (c.args.toList.map (ev e)) fun ds => vcallp r (fs ++ ds ++ cs) H k
        | none => False
      | _ => False
    | _ => vrd C o e H k
  | _ => vrd C o e H k
def isWr : Op → Bool
  | .alloc _ | .box _ _ | .buildSlice _ _ _ | .store _ _ _ | .makeMap _ _ | .makeSlice _ _ _ | .mapEntry _ _ _ | .entryStore _ _ _ _ | .mapUpdate _ _ _ _ | .insert _ _ _ _ => true
  | .convert s t _ => (Nat.beq s 9 || Nat.beq s 36) && Nat.beq t 36
  | .call c => match c.callee with
    | .builtin .append => true
    | _ => false
  | _ => false
def vstep (C : Cx) (nid : Nat) (o : Oper) (e : Env) (H : HL) (k : D → HL → Prop) : Prop := bif isWr o.op then vwr C nid o e H k else vsr C o e H fun d => k d H
def gslot (ops : List Oper) (j : Nat) : Option Nat := match ops[j]? with
  | some o => o.dst
  | none => none
def vput (N : Nat) (e : Env) (dst : Option Nat) (d : D) (k : Env → Prop) : Prop := match dst with
  | none => k e
  | some i => bif Nat.ble N i then False else k (upd e i d)
def fzn (n : Nat) : (Nat → Prop) → Prop := @Nat.rec (fun _ => (Nat → Prop) → Prop) (fun k => k 0) (fun _ ih k => ih fun m => k (m + 1)) n
theorem fzn_eq : ∀ (n : Nat) (k : Nat → Prop), fzn n k = k n
  | 0, _ => rfl
  | n + 1, k => fzn_eq n fun m => k (m + 1)
theorem fzl_eq (l : List D) (k : List D → Prop) : fzl l k = k l := propext (fzl_iff l k)
theorem fzh_eq (l : HL) (k : HL → Prop) : fzh l k = k l := propext (fzh_iff l k)
def fzw (b : Bool) (k : D → HL → Prop) (d : D) (H : HL) : Prop := bif b then fzh H fun H => k d H else k d H
theorem fzw_eq (b : Bool) (k : D → HL → Prop) : fzw b k = k := by
  funext d H
  cases b
  · rfl
  · exact fzh_eq _ _
def vstepN (C : Cx) (o : Oper) (e : Env) (H : HL) (k : D → HL → Prop) : Prop := fzn H.length fun n => vstep C n o e H (fzw (isWr o.op) k)
theorem vstepN_eq (C : Cx) (o : Oper) (e : Env) (H : HL) (k : D → HL → Prop) : vstepN C o e H k = vstep C H.length o e H k := by
  unfold vstepN
  rw [fzn_eq, fzw_eq]
def vcret (K : VX → St → Prop) (s : St) (kn : D → HL → Option (List D) → Prop) (r : Res) (H' : HL) : Prop := match s with
  | ⟨e0, H0, df0⟩ => match r with
    | .ret d => fz d fun d => fzh H' fun H' => kn d H' df0
    | .pan d => fzh H' fun H' => K (.panic d) ⟨e0, H', df0⟩
theorem vcret_eq (K : VX → St → Prop) (s : St) (kn : D → HL → Option (List D) → Prop) (r : Res) (H' : HL) : vcret K s kn r H' = (match r with
  | .ret d => fz d fun d => fzh H' fun H' => kn d H' s.df
  | .pan d => fzh H' fun H' => K (.panic d) ⟨s.e, H', s.df⟩) := by cases s; rfl
def vopB (C : Cx) (o : Oper) (K : VX → St → Prop) (s : St) (kn : D → HL → Option (List D) → Prop) : Prop := match s with
  | ⟨e0, H0, df0⟩ => match o.op with
    | .panic x => match ev e0 x with
      | .iface t d => K (.panic (.iface t d)) ⟨e0, H0, df0⟩
      | _ => False
    | .defer c => match c.callee with
      | .value f => match c.args.toList with
        | [] => match df0 with
          | some df => match ev e0 f with
            | .fn g fs cs => kn .top H0 (some (.fn g fs cs :: df))
            | _ => False
          | none => False
        | _ => False
      | _ => False
    | .call c => match c.callee with
      | .value f => match ev e0 f with
        | .fn g fs cs => match C.call g with
          | some r => fzl (fs ++ c.args.toList.map (ev e0) ++ cs) fun ds => fzh H0 fun H => r ds H (vcret K ⟨e0, H, df0⟩ kn)
          | none => vstepN C o e0 H0 fun d H => kn d H df0
        | .yld o' => match C.yld with
          | some (ol, h) => bif Nat.beq o' ol then fzl (c.args.toList.map (ev e0)) fun ds => fzh H0 fun H => h ds H (vcret K ⟨e0, H, df0⟩ kn) else False
          | none => False
        | _ => False
      | _ => vstepN C o e0 H0 fun d H => kn d H df0
    | _ => vstepN C o e0 H0 fun d H => kn d H df0
theorem vopB_eq (C : Cx) (o : Oper) (K : VX → St → Prop) (s : St) (kn : D → HL → Option (List D) → Prop) : vopB C o K s kn = (match o.op with
  | .panic x => match ev s.e x with
    | .iface t d => K (.panic (.iface t d)) s
    | _ => False
  | .defer c => match c.callee with
    | .value f => match c.args.toList with
      | [] => match s.df with
        | some df => match ev s.e f with
          | .fn g fs cs => kn .top s.H (some (.fn g fs cs :: df))
          | _ => False
        | none => False
      | _ => False
    | _ => False
  | .call c => match c.callee with
    | .value f => match ev s.e f with
      | .fn g fs cs => match C.call g with
        | some r => fzl (c.args.toList.map (ev s.e)) fun ds => r (fs ++ ds ++ cs) s.H (vcret K s kn)
        | none => vstep C s.H.length o s.e s.H fun d H => kn d H s.df
      | .yld o' => match C.yld with
        | some (ol, h) => bif Nat.beq o' ol then fzl (c.args.toList.map (ev s.e)) fun ds => h ds s.H (vcret K s kn) else False
        | none => False
      | _ => False
    | _ => vstep C s.H.length o s.e s.H fun d H => kn d H s.df
  | _ => vstep C s.H.length o s.e s.H fun d H => kn d H s.df) := by
  cases s
  simp only [vopB, vstepN_eq, fzl_eq, fzh_eq]
def vopsR (C : Cx) (N : Nat) (o : Oper) (K : VX → St → Prop) (ih : St → Prop) (s : St) : Prop := match s with
  | ⟨e0, H0, df0⟩ => vopB C o K ⟨e0, H0, df0⟩ fun d H df => vput N e0 o.dst d fun e => ih ⟨e, H, df⟩
theorem vopsR_eq (C : Cx) (N : Nat) (o : Oper) (K : VX → St → Prop) (ih : St → Prop) (s : St) : vopsR C N o K ih s = (vopB C o K s fun d H df => vput N s.e o.dst d fun e => ih ⟨e, H, df⟩) := by cases s; rfl
def vopsS (N : Nat) (o : Oper) (ih : St → Prop) (s : St) : Prop := match s with
  | ⟨e0, H0, df0⟩ => vput N e0 o.dst (.tup []) fun e => ih ⟨e, H0, df0⟩
theorem vopsS_eq (N : Nat) (o : Oper) (ih : St → Prop) (s : St) : vopsS N o ih s = (vput N s.e o.dst (.tup []) fun e => ih ⟨e, s.H, s.df⟩) := by cases s; rfl
def vopsB (C : Cx) (N : Nat) (ops : List Oper) (K : VX → St → Prop) (o : Oper) (ih : St → Prop) (s : St) : Prop := match s with
  | ⟨e0, H0, df0⟩ => match o.guard with
      | none => vopsR C N o K ih ⟨e0, H0, df0⟩
      | some (j, want) => match gslot ops j with
        | none => False
        | some g => match e0 g with
          | .tt => bif want then vopsR C N o K ih ⟨e0, H0, df0⟩ else vopsS N o ih ⟨e0, H0, df0⟩
          | .ff => bif want then vopsS N o ih ⟨e0, H0, df0⟩ else vopsR C N o K ih ⟨e0, H0, df0⟩
          | .bool b =>
            (b = true → bif want then vopsR C N o K ih ⟨upd e0 g .tt, H0, df0⟩ else vopsS N o ih ⟨upd e0 g .tt, H0, df0⟩) ∧
            (b = false → bif want then vopsS N o ih ⟨upd e0 g .ff, H0, df0⟩ else vopsR C N o K ih ⟨upd e0 g .ff, H0, df0⟩)
          | .tup _ => vopsS N o ih ⟨e0, H0, df0⟩
          | _ => False
theorem vopsB_eq (C : Cx) (N : Nat) (ops : List Oper) (K : VX → St → Prop) (o : Oper) (ih : St → Prop) (s : St) : vopsB C N ops K o ih s = (match o.guard with
    | none => vopsR C N o K ih s
    | some (j, want) => match gslot ops j with
      | none => False
      | some g => match s.e g with
        | .tt => bif want then vopsR C N o K ih s else vopsS N o ih s
        | .ff => bif want then vopsS N o ih s else vopsR C N o K ih s
        | .bool b =>
          (b = true → bif want then vopsR C N o K ih ⟨upd s.e g .tt, s.H, s.df⟩ else vopsS N o ih ⟨upd s.e g .tt, s.H, s.df⟩) ∧
          (b = false → bif want then vopsS N o ih ⟨upd s.e g .ff, s.H, s.df⟩ else vopsR C N o K ih ⟨upd s.e g .ff, s.H, s.df⟩)
        | .tup _ => vopsS N o ih s
        | _ => False) := by cases s; rfl
def vops (C : Cx) (N : Nat) (ops : List Oper) (K : VX → St → Prop) (l : List Oper) : St → Prop := @List.rec Oper (fun _ => St → Prop) (K .normal) (fun o _ ih => vopsB C N ops K o ih) l
theorem vops_cons (C : Cx) (N : Nat) (ops : List Oper) (K : VX → St → Prop) (o : Oper) (r : List Oper) (s : St) : vops C N ops K (o :: r) s = vopsB C N ops K o (vops C N ops K r) s := rfl
def Imp (d d' : D) : Prop := ∀ S w v, R S w Mu0 d v → R S w Mu0 d' v
theorem Imp.refl (d : D) : Imp d d := fun _ _ _ h => h
theorem Imp.rsl {s n : Nat} {g g' : Nat → Nat → D} (h : ∀ i j, i < n → j < s → g i j = g' i j) : Imp (.rsl s n g) (.rsl s n g') := fun S w v hr => by
  cases hr with
  | rsl _ _ _ A c val h1 h2 h3 => exact .rsl s n g' A c val h1 h2 fun i j hi hj => by rw [← h i j hi hj]; exact h3 i j hi hj
section
variable {P : Program} {C : Cx} {T : RT} {o : Oper} {a : Act} {w : World} {S : Nat → Prop} {μ : Mu} {H : HL} {e : Env} {r : Option Nat} {N : Nat} {B : Option Nat}
def ResR (S : Nat → Prop) (w : World) (μ : Mu) : Res → Ending → Prop
  | .ret d, .returned v => R S w μ d v
  | .pan d, .panicked ch => ∃ v, ch = [{ v, recovered := false }] ∧ R S w μ d v
  | _, _ => False
def CallPost (S : Nat → Prop) (w : World) (μ : Mu) (H : HL) (K : Res → HL → Prop) : Ending → World → Prop := fun e w' => ∃ S' μ' r H', K r H' ∧ ResR S' w' μ' r e ∧ RelL S' w' μ' H' ∧ Tr S w μ (hget H) S' w' μ' (hget H')
def Enters (P : Program) (f : Nat) : Prop := ∀ args w, (callFunc f args).run P w = .ok (.enter f args) w
structure CSound (P : Program) (f : Nat) (c : CRule) : Prop where
  enters : Enters P f
  calls : ∀ ds H K, c ds H K → ∀ S w μ (vs : List Value), RelL S w μ H → RL S w μ ds vs → Calls P f vs.toArray w (CallPost S w μ H K)
def YSound (P : Program) (T : RT) (ol : Nat) (h : CRule) : Prop :=
  ∀ ds H K, h ds H K → ∀ S w μ (vs : List Value), T S w μ (hget H) → RelL S w μ H → RL S w μ ds vs → ∀ l, μ ol = some (.func (.yield l) #[] #[]) →
    ∃ fn tmps assign body, (Instr.yield l vs.toArray).run P w = .ok (.round l fn tmps assign body) w ∧ ∀ n, RoundIn (FW none) n P l fn tmps assign body w (CallPost S w μ H K)
def RTok (T : RT) : Prop := ∀ S w μ H S' w' μ' H', T S w μ H → Tr S w μ H S' w' μ' H' → T S' w' μ' H'
structure ISound (P : Program) (f : Nat) (i : IRule) : Prop where
  enters : Enters P f
  calls : ∀ ol h T, RTok T → YSound P T ol h → ∀ ds H K, i ol h ds H K → ∀ S w μ (vs : List Value), T S w μ (hget H) → RelL S w μ H → RL S w μ ds vs → Calls P f vs.toArray w (CallPost S w μ H K)
def MdR (S : Nat → Prop) (w : World) (μ : Mu) : Md → FrameMode → Prop
  | .ret, u => u = .returning
  | .pan d, u => ∃ v, u = .panicking [{ v, recovered := false }] ∧ R S w μ d v
structure DSound (P : Program) (f : Nat) (c : DRule) : Prop where
  enters : Enters P f
  calls : ∀ md ds H K, c md ds H K → ∀ S w μ (vs : List Value) u n, RelL S w μ H → RL S w μ ds vs → MdR S w μ md u →
    CallsDIn (FW none) n P f vs.toArray u w fun e u' w' => (∃ v, e = .returned v) ∧ ∃ S' μ' md' H', K md' H' ∧ MdR S' w' μ' md' (settle u') ∧ RelL S' w' μ' H' ∧ Tr S w μ (hget H) S' w' μ' (hget H')
structure CallsOK (P : Program) (C : Cx) (T : RT) : Prop where
  ok : COK P C
  mixed : P.follows .mixedOrders = true
  pure : ∀ f r, C.pure f = some r → PSound P f r
  call : ∀ f c, C.call f = some c → CSound P f c
  iter : ∀ f i, C.iter f = some i → ISound P f i
  dfr : ∀ f d, C.dfr f = some d → DSound P f d
  yld : ∀ ol h, C.yld = some (ol, h) → YSound P T ol h
  step : RTok T
theorem run_call {f : Operand} {xs : Array Operand} {ts : Array Nat} {g : Nat} {vf vc : Array Value} (hop : o.op = .call { callee := .value f, args := xs, argTypes := ts }) (hf : a.eval f = .func (.func g) vf vc)
    (he : ∀ args w, (callFunc g args).run P w = .ok (.enter g args) w) : (execOp a.eval o).run P w = .ok (.enter g (vf ++ xs.map a.eval ++ vc)) w := by
  simp [execOp, hop, resolve, hf, Deferred.ofValue, invoke, he]
theorem args_RL {fs cs : List D} {vf vc : Array Value} {xs : Array Operand} (he : EnvR S w μ e a) (hl1 : fs.length = vf.size) (hl2 : cs.length = vc.size) (hR1 : ∀ (i : Nat) d v, fs[i]? = some d → vf[i]? = some v → R S w μ d v)
    (hR2 : ∀ (i : Nat) d v, cs[i]? = some d → vc[i]? = some v → R S w μ d v) : RL S w μ (fs ++ xs.toList.map (ev e) ++ cs) (vf ++ xs.map a.eval ++ vc).toList := by
  refine ⟨by simp [hl1, hl2], fun i d v h1 h2 => ?_⟩
  simp only [Array.toList_append, Array.toList_map] at h2
  rw [List.getElem?_append] at h1 h2
  simp only [List.length_append, List.length_map, Array.length_toList] at h1 h2
  rw [hl1] at h1
  split at h1
  · rename_i hi
    rw [if_pos hi] at h2
    rw [List.getElem?_append] at h1 h2
    simp only [Array.length_toList] at h2
    rw [hl1] at h1
    split at h1
    · rename_i hi'
      rw [if_pos hi'] at h2
      exact hR1 i d v h1 (by simpa using h2)
    · rename_i hi'
      rw [if_neg hi'] at h2
      simp only [List.getElem?_map] at h1 h2
      cases hx : xs.toList[i - vf.size]? with
      | none => simp [hx] at h1
      | some x =>
        simp only [hx, Option.map_some, Option.some.injEq] at h1 h2
        subst h1; subst h2
        exact he.ev x
  · rename_i hi
    rw [if_neg hi] at h2
    exact hR2 _ d v h1 (by simpa using h2)
theorem sound_pcall {f : Operand} {xs : Array Operand} {ts : Array Nat} {g : Nat} {fs cs : List D} {r : PRule} {k : D → Prop} (hs : PSound P g r) (he : EnvR S w μ e a) (hr : RelL S w μ H)
    (hop : o.op = .call { callee := .value f, args := xs, argTypes := ts }) (hd : ev e f = .fn g fs cs) (h : vcallp r (fs ++ xs.toList.map (ev e) ++ cs) H k) : Does P o a w (PostR S w μ H k) := by
  have hf := he.ev f
  rw [hd] at hf
  generalize hvf : a.eval f = fv at hf
  cases hf with
  | fn _ _ _ vf vc hl1 hl2 hR1 hR2 =>
    have hRL := args_RL (xs := xs) he hl1 hl2 hR1 hR2
    intro r n K Q' hK
    refine ⟨fun _ _ => trivial, ?_⟩
    rw [run_at (fun c e => by rw [hop] at e; cases e), run_call hop hvf hs.enters, Oper.uponIn_enter]
    refine ⟨fun h => (by cases h), callsIn_FW.2 ?_⟩
    unfold vcallp at h
    cases hn : (fs ++ xs.toList.map (ev e) ++ cs).all noRef with
    | true =>
      simp only [hn, cond_true, fz_iff] at h
      have hRL0 : RL S w Mu0 (fs ++ xs.toList.map (ev e) ++ cs) (vf ++ xs.map a.eval ++ vc).toList := ⟨hRL.1, fun i d v h1 h2 => noRef_R (hRL.2 i d v h1 h2) (List.all_eq_true.1 hn d (List.mem_of_getElem? h1))⟩
      have hc := hs.calls _ _ h S w _ (fun b hb => (hr.1.stat b hb).1) hRL0
      rw [Array.toArray_toList] at hc
      refine hc.mono ?_
      rintro _ w' ⟨v, S', d, rfl, hk, hR, hg⟩
      obtain ⟨g1, g2⟩ := hr.1.grow hg.os hg.tape hg.output hg.size hg.block hg.sub hg.new hg.lt
      exact hK v w' ⟨S', μ, d, H, ⟨rfl, hk⟩, hR.of0, ⟨g1, hr.2⟩, g2⟩
    | false =>
      simp only [hn, cond_false] at h
      have sview : ∀ (ds : List D) (vs : List Value) {k : List D → Prop}, RL S w μ ds vs → viewal H ds k → ∃ ds', k ds' ∧ (ds'.all noRef = true → RL (withH S μ (hget H)) w Mu0 ds' vs) := by
        intro ds
        induction ds with
        | nil => exact fun vs k hl h => ⟨[], h, fun _ => ⟨hl.1, fun i d v h1 => by simp at h1⟩⟩
        | cons d ds ih =>
          intro vs k hl h
          match vs, hl with
          | v :: vs, hl =>
            have h : viewa H d (fun d => viewal H ds fun r => k (d :: r)) := h
            obtain ⟨d', h1, h2⟩ := sound_viewa hr.1 (hl.2 0 d v rfl rfl) h
            obtain ⟨ds', h3, h4⟩ := ih vs ⟨by simpa using hl.1, fun i d v a b => hl.2 (i + 1) d v (by simpa using a) (by simpa using b)⟩ h1
            refine ⟨d' :: ds', h3, fun hn => ?_⟩
            simp only [List.all_cons, Bool.and_eq_true] at hn
            obtain ⟨g1, g2⟩ := h4 hn.2
            refine ⟨by simp [g1], fun i x u hx hu => ?_⟩
            cases i with
            | zero => simp at hx hu; subst hx; subst hu; exact h2 hn.1
            | succ i => exact g2 i x u (by simpa using hx) (by simpa using hu)
      obtain ⟨ds', h1, h2⟩ := sview _ _ hRL h
      cases hn' : ds'.all noRef with
      | false => simp [hn'] at h1
      | true =>
        simp only [hn', cond_true, fz_iff] at h1
        have hc := hs.calls _ _ h1 (withH S μ (hget H)) w _ (fun b hb => by
          rcases hb with hb | ⟨o', ob, v, ho', hv, hbv⟩
          · exact (hr.1.stat b hb).1
          · obtain ⟨mv, m1, m2⟩ := hr.1.obs o' ob ho'
            rw [hv] at m1
            injection m1 with m1
            subst m1
            exact m2.blk_lt hbv) (h2 hn')
        rw [Array.toArray_toList] at hc
        refine hc.mono ?_
        rintro _ w' ⟨v, S', d, rfl, hk, hR, hg⟩
        cases hfl : flat d with
        | false => simp [hfl] at hk
        | true =>
          simp only [hfl, cond_true] at hk
          obtain ⟨g1, g2⟩ := hr.1.grow hg.os hg.tape hg.output hg.size hg.block (S' := S) (fun _ h => h) (fun _ h => .inl h) (fun b hb => Nat.lt_of_lt_of_le (hr.1.stat b hb).1 hg.size)
          exact hK v w' ⟨S, μ, d, H, ⟨rfl, hk⟩, (flat_R hR hfl).of0, ⟨g1, hr.2⟩, g2⟩
theorem sound_sr {k : D → Prop} (hC : CallsOK P C T) (he : EnvR S w μ e a) (hr : RelL S w μ H) (h : vsr C o e H k) : Does P o a w (PostR S w μ H k) := by
  unfold vsr at h
  split at h
  · rename_i c hop
    obtain ⟨callee, args, ats⟩ := c
    split at h
    · rename_i f hcal
      simp only at hcal
      subst hcal
      split at h
      · rename_i g fs cs hd
        cases hp : C.pure g with
        | none => simp [hp] at h
        | some r =>
          simp only [hp, fzl_iff] at h
          exact sound_pcall (hC.pure g r hp) he hr hop hd h
      · exact h.elim
    · exact sound_rd hC.ok he hr h
  · exact sound_rd hC.ok he hr h
theorem Does.mono {Q Q' : Value → World → Prop} (h : Does P o a w Q) (hq : ∀ v w', Q v w' → Q' v w') : Does P o a w Q' := fun r n K Q2 hK => h r n K Q2 fun v w' q => hK v w' (hq v w' q)
theorem sound_step {nid : Nat} {k : D → HL → Prop} (hC : CallsOK P C T) (he : EnvR S w μ e a) (hr : RelL S w μ H) (hno : μ nid = none) (hle : nid ≤ H.length) (h : vstep C nid o e H k) : Does P o a w (Post S w μ H k) := by
  unfold vstep at h
  cases hw : isWr o.op with
  | true =>
    rw [hw] at h
    exact sound_wr hC.ok he hr hno hle h
  | false =>
    rw [hw] at h
    refine (sound_sr hC he hr h).mono fun v w' ⟨S', μ', d, H', ⟨e, hk⟩, g1, g2, g3⟩ => ?_
    subst e
    exact ⟨S', μ', d, H', hk, g1, g2, g3⟩
inductive DfL (B : Option Nat) (S : Nat → Prop) (w : World) (μ : Mu) (H : Hp) : List D → List Deferred → Prop
  | nil : DfL B S w μ H [] []
  | fn {df ds} (f fs cs) (vf vc : Array Value) : R S w μ (.fn f fs cs) (.func (.func f) vf vc) → DfL B S w μ H df ds → DfL B S w μ H (.fn f fs cs :: df) ({ target := .fn (.func f) vc, args := vf } :: ds)
  | mark {df ds} (b D : Nat) : B = some b → b ≤ D → D < w.heap.size → w.heap[D]? = some (.deferred (some [])) → ¬ S D → (∀ o ob v, H o = some ob → μ o = some v → blk v ≠ some D) → (∀ d ∈ ds, d.target ≠ .collected D) → DfL B S w μ H df ds → DfL B S w μ H df ({ target := .collected D, args := #[] } :: ds)
def DfR (B : Option Nat) (S : Nat → Prop) (w : World) (μ : Mu) (H : Hp) : Option (List D) → List Deferred → Prop
  | none, _ => True
  | some df, ds => DfL B S w μ H df ds
theorem DfL.tr {H : Hp} {S' : Nat → Prop} {w' : World} {μ' : Mu} {H' : Hp} {df : List D} {ds : List Deferred} (h : DfL B S w μ H df ds) (hr : Rel S w μ H) (t : Tr S w μ H S' w' μ' H') : DfL B S' w' μ' H' df ds := by
  induction h with
  | nil => exact .nil
  | fn f fs cs vf vc h1 _ ih => exact .fn f fs cs vf vc (h1.tr hr t) ih
  | mark b D h0 h1 h2 h3 h4 h5 h6 _ ih =>
    refine .mark b D h0 h1 (Nat.lt_of_lt_of_le h2 t.size) ((t.block D h2 h5).trans h3) (fun h => ?_) (fun o ob v ho hv hb => ?_) h6 ih
    · rcases t.new D h with h6 | h6 | ⟨o', ob', v', e1, e2, e3⟩
      · exact h4 h6
      · omega
      · exact h5 o' ob' v' e1 e2 e3
    · rcases t.blks o ob v D ho hv hb with h6 | ⟨o', ob', v', e1, e2, e3⟩
      · omega
      · exact h5 o' ob' v' e1 e2 e3
theorem DfL.marks {H : Hp} {df : List D} {ds : List Deferred} (h : DfL B S w μ H df ds) : ∀ d ∈ ds, ∀ D, d.target = .collected D → D < w.heap.size := by
  induction h with
  | nil => intro d hd; cases hd
  | fn f fs cs vf vc _ _ ih =>
    intro d hd D e
    rcases List.mem_cons.1 hd with rfl | hd
    · cases e
    · exact ih d hd D e
  | mark b D h0 h1 h2 h3 h4 h5 h6 _ ih =>
    intro d hd D' e
    rcases List.mem_cons.1 hd with rfl | hd
    · injection e with e; omega
    · exact ih d hd D' e
theorem DfR.tr {H : Hp} {S' : Nat → Prop} {w' : World} {μ' : Mu} {H' : Hp} {df : Option (List D)} {ds : List Deferred} (h : DfR B S w μ H df ds) (hr : Rel S w μ H) (t : Tr S w μ H S' w' μ' H') : DfR B S' w' μ' H' df ds := by
  cases df with
  | none => trivial
  | some df => exact DfL.tr h hr t
structure RelSt (r : Option Nat) (N : Nat) (B : Option Nat) (S : Nat → Prop) (w : World) (μ : Mu) (s : St) (a : Act) : Prop where
  rel : RelL S w μ s.H
  env : EnvR S w μ s.e a
  size : a.tmps.size = N
  df : DfR B S w μ (hget s.H) s.df a.defers
  round : r = none ∨ s.df = none
def XR (S : Nat → Prop) (w : World) (μ : Mu) : VX → Exit → Prop
  | .normal, .normal => True
  | .exit i, .exit j => i = j
  | .ret, .ret => True
  | .panic d, .panic ch => ∃ v, ch = [{ v, recovered := false }] ∧ R S w μ d v
  | _, _ => False
def PostC (S : Nat → Prop) (w : World) (μ : Mu) (H : Hp) (r : Option Nat) (N : Nat) (B : Option Nat) (K : VX → St → Prop) : Exit → Act → World → Prop := fun x a' w' =>
  ∃ S' μ' s' x', K x' s' ∧ XR S' w' μ' x' x ∧ RelSt r N B S' w' μ' s' a' ∧ Tr S w μ H S' w' μ' (hget s'.H)
theorem PostC.from {H : Hp} {S1 : Nat → Prop} {w1 : World} {μ1 : Mu} {H1 : Hp} {K : VX → St → Prop} (t : Tr S w μ H S1 w1 μ1 H1) {x : Exit} {a' : Act} {w' : World} (h : PostC S1 w1 μ1 H1 r N B K x a' w') : PostC S w μ H r N B K x a' w' :=
  let ⟨S', μ', s', x', h1, h2, h3, h4⟩ := h
  ⟨S', μ', s', x', h1, h2, h3, t.trans h4⟩
theorem EnvR.put {a : Act} (he : EnvR S w μ e a) {i : Nat} (hi : i < a.tmps.size) {d : D} {v : Value} (hd : R S w μ d v) : EnvR S w μ (upd e i d) (a.put (some i) v) := fun j => by
  simp only [upd, Act.put]
  cases hj : Nat.beq j i with
  | true =>
    obtain rfl := Nat.eq_of_beq_eq_true hj
    simp only [cond_true]
    simpa [Array.getD, hi] using hd
  | false =>
    have hne : i ≠ j := fun e => by subst e; rw [Nat.beq_refl] at hj; cases hj
    simp only [cond_false]
    have := he j
    rw [Array.getD_eq_getD_getElem?] at this ⊢
    rwa [Array.getElem?_setIfInBounds_ne hne]
theorem Act.put_size (a : Act) (dst : Option Nat) (v : Value) : (a.put dst v).tmps.size = a.tmps.size := by cases dst <;> simp [Act.put]
theorem Act.put_defers (a : Act) (dst : Option Nat) (v : Value) : (a.put dst v).defers = a.defers := by cases dst <;> rfl
theorem sound_put {a : Act} {dst : Option Nat} {d : D} {v : Value} {k : Env → Prop} (he : EnvR S w μ e a) (hN : a.tmps.size = N) (hd : R S w μ d v) (h : vput N e dst d k) : ∃ e', k e' ∧ EnvR S w μ e' (a.put dst v) := by
  unfold vput at h
  cases dst with
  | none => exact ⟨e, h, he⟩
  | some i =>
    simp only at h
    cases hb : Nat.ble N i with
    | true => simp [hb] at h
    | false =>
      simp only [hb, cond_false] at h
      have : i < a.tmps.size := by
        rcases Nat.lt_or_ge i N with h1 | h1
        · omega
        · rw [Nat.ble_eq_true_of_le h1] at hb; cases hb
      exact ⟨_, h, he.put this hd⟩
theorem R_tt_of {b : Bool} {v : Value} (h : R S w μ (.bool b) v) (hb : b = true) : R S w μ .tt v := by subst hb; cases h; exact .tt
theorem R_ff_of {b : Bool} {v : Value} (h : R S w μ (.bool b) v) (hb : b = false) : R S w μ .ff v := by subst hb; cases h; exact .ff
theorem EnvR.upd {a : Act} (he : EnvR S w μ e a) {i : Nat} {d : D} (hd : R S w μ d (a.tmps.getD i undef)) : EnvR S w μ (upd e i d) a := fun j => by
  simp only [V.upd]
  cases hj : Nat.beq j i with
  | true => obtain rfl := Nat.eq_of_beq_eq_true hj; exact hd
  | false => exact he j
theorem R_undef : R S w μ (.tup []) undef := .tup [] #[] rfl fun i d v h => by simp at h
theorem wanted_no {ops : Array Oper} {j : Nat} {want : Bool} {g : Nat} (hg : o.guard = some (j, want)) (hs : gslot ops.toList j = some g) (hv : ∃ vs, a.tmps.getD g undef = .tuple vs) : Region.wanted o (yielded ops a.tmps) = false := by
  obtain ⟨vs, hv⟩ := hv
  have h1 : ((ops[j]?).bind (·.dst)) = some g := by
    unfold gslot at hs
    simp only [Array.getElem?_toList] at hs
    cases ho : ops[j]? with
    | none => simp [ho] at hs
    | some o' => simpa [ho] using hs
  have h2 : ∀ b, a.tmps[g]? ≠ some (.bool b) := fun b hb => by
    rw [Array.getD_eq_getD_getElem?, hb] at hv
    simp at hv
  have h3 : yielded ops a.tmps j = none := by
    unfold yielded
    rw [h1, Option.bind_some]
    split
    · rename_i b hb; exact absurd hb (h2 b)
    · rfl
  simp [Region.wanted, hg, h3]
theorem wanted_of {ops : Array Oper} {j : Nat} {want : Bool} {g : Nat} (hg : o.guard = some (j, want)) (hs : gslot ops.toList j = some g) {b : Bool} (hv : a.tmps.getD g undef = .bool b) : Region.wanted o (yielded ops a.tmps) = (b == want) := by
  have h1 : ((ops[j]?).bind (·.dst)) = some g := by
    unfold gslot at hs
    simp only [Array.getElem?_toList] at hs
    cases ho : ops[j]? with
    | none => simp [ho] at hs
    | some o' => simpa [ho] using hs
  have h2 : a.tmps[g]? = some (.bool b) := by
    rw [Array.getD_eq_getD_getElem?] at hv
    cases hx : a.tmps[g]? with
    | none => rw [hx] at hv; cases hv
    | some v => rw [hx] at hv; simpa using hv
  simp [Region.wanted, hg, yielded, h1, h2]
theorem sound_opB (hC : CallsOK P C T) {K : VX → St → Prop} {s : St} {kn : D → HL → Option (List D) → Prop} (hst : RelSt r N B S w μ s a) (hT : T S w μ (hget s.H)) (h : vopB C o K s kn) (n : Nat) {K' : Act → World → Prop}
    (hK : ∀ (S' : Nat → Prop) μ' d H' df' v w' ds', kn d H' df' → R S' w' μ' d v → RelL S' w' μ' H' → Tr S w μ (hget s.H) S' w' μ' (hget H') → DfR B S' w' μ' (hget H') df' ds' → (r = none ∨ df' = none) → K' ({ a with defers := ds' }.put o.dst v) w') :
    o.wpIn (FW r) n P a w K' (PostC S w μ (hget s.H) r N B K) := by
  obtain ⟨hr, he, hN, hdf, hro⟩ := hst
  have step : (vstep C s.H.length o s.e s.H fun d H => kn d H s.df) → o.wpIn (FW r) n P a w K' (PostC S w μ (hget s.H) r N B K) := fun h => by
    refine sound_step hC he hr (hr.2 _ (Nat.le_refl _)) (Nat.le_refl _) h r n K' _ fun v w' ⟨S', μ', d, H', hk, hR, hr', t⟩ => ?_
    exact hK S' μ' d H' s.df v w' a.defers hk hR hr' t (hdf.tr hr.1 t) hro
  have call : ∀ {g : Nat} {vs : List Value} {K0 : Res → HL → Prop}, (execOp a.eval o).run P w = .ok (.enter g vs.toArray) w → (∀ x, o.op ≠ .defer x) → Calls P g vs.toArray w (CallPost S w μ s.H K0) → (∀ res H', K0 res H' → vcret K s kn res H') → o.wpIn (FW r) n P a w K' (PostC S w μ (hget s.H) r N B K) := fun {g vs K0} hrun hnd hcalls hK0 => by
    refine ⟨fun _ _ => trivial, ?_⟩
    rw [run_at hnd, hrun, Oper.uponIn_enter]
    refine ⟨fun h => (by cases h), callsIn_FW.2 (hcalls.mono ?_)⟩
    rintro e' w' ⟨S', μ', res, H', k1, k2, k3, k4⟩
    have k1 := hK0 _ _ k1
    cases res with
    | ret d =>
      cases e' with
      | returned v =>
        simp only [vcret_eq, fz_iff, fzh_iff] at k1
        exact hK S' μ' d H' s.df v w' a.defers k1 k2 k3 k4 (hdf.tr hr.1 k4) hro
      | _ => exact k2.elim
    | pan d =>
      cases e' with
      | panicked ch =>
        simp only [vcret_eq, fzh_iff] at k1
        exact ⟨S', μ', _, .panic d, k1, k2, ⟨k3, fun i => (he i).tr hr.1 k4, hN, hdf.tr hr.1 k4, hro⟩, k4⟩
      | _ => exact k2.elim
  rw [vopB_eq] at h
  split at h
  · rename_i x hop
    split at h
    · rename_i t d hd
      have hx := he.ev x
      rw [hd] at hx
      generalize hv : a.eval x = v at hx
      cases hx with
      | iface _ _ u hu =>
        refine ⟨fun _ _ => trivial, ?_⟩
        rw [run_at (fun c e => by rw [hop] at e; cases e)]
        have hrun : (execOp a.eval o).run P w = .halt (.panic (.iface t u)) w := by
          simp [execOp, hop, hv, Instr.panic, goPanic, Sem.run]
        rw [hrun, Oper.uponIn_panic]
        exact ⟨S, μ, s, _, h, ⟨_, rfl, .iface _ _ _ hu⟩, ⟨hr, he, hN, hdf, hro⟩, .refl ..⟩
    · exact h.elim
  · rename_i c hop
    split at h
    · rename_i f hcal
      split at h
      · rename_i hargs
        split at h
        · rename_i df hsd
          split at h
          · rename_i g fs cs hd
            have hf := he.ev f
            rw [hd] at hf
            generalize hv : a.eval f = fv at hf
            have hf' := hf
            cases hf with
            | fn _ _ _ vf vc hl1 hl2 hR1 hR2 =>
              rcases hro with rfl | hro
              · have hargs' : c.args = #[] := by simpa using hargs
                refine ⟨fun _ _ => trivial, ?_⟩
                have hrun : (o.semAt (FW none).round a.eval).run P w = .ok (.defer { target := .fn (.func g) vc, args := vf }) w := by
                  show (o.semAt none a.eval).run P w = _
                  rw [Oper.semAt_none]
                  simp [execOp, hop, resolve, hcal, hv, Deferred.ofValue, hargs']
                rw [hrun, Oper.uponIn_defer]
                rw [hsd] at hdf
                exact hK S μ _ _ _ undef w _ h (.top _) hr (.refl ..) (.fn g fs cs vf vc hf' hdf) (.inl rfl)
              · rw [hsd] at hro; cases hro
          · exact h.elim
        · exact h.elim
      · exact h.elim
    · exact h.elim
  · rename_i c hop
    obtain ⟨callee, args, ats⟩ := c
    split at h
    · rename_i f hcal
      simp only at hcal
      subst hcal
      split at h
      · rename_i g fs cs hd
        split at h
        · rename_i cr hcr
          rw [fzl_iff] at h
          have hs := hC.call g cr hcr
          have hf := he.ev f
          rw [hd] at hf
          generalize hvf : a.eval f = fv at hf
          cases hf with
          | fn _ _ _ vf vc hl1 hl2 hR1 hR2 =>
            have hRL := args_RL (xs := args) he hl1 hl2 hR1 hR2
            have hrun := run_call (P := P) (w := w) hop hvf hs.enters
            exact call (g := g) (vs := (vf ++ args.map a.eval ++ vc).toList) (by rw [Array.toArray_toList]; exact hrun) (fun c e => by rw [hop] at e; cases e) (hs.calls _ _ _ h S w μ _ hr hRL) (fun _ _ h => h)
        · exact step h
      · rename_i o' hd
        split at h
        · rename_i ol hh hy
          cases hq : Nat.beq o' ol with
          | false => rw [hq] at h; exact h.elim
          | true =>
            obtain rfl := Nat.eq_of_beq_eq_true hq
            rw [hq, cond_true, fzl_iff] at h
            have hf := he.ev f
            rw [hd] at hf
            generalize hvf : a.eval f = fv at hf
            cases hf with
            | yld _ l hl =>
              have hRL : RL S w μ (args.toList.map (ev s.e)) (args.map a.eval).toList := by
                have := args_RL (xs := args) (fs := []) (cs := []) (vf := #[]) (vc := #[]) he rfl rfl (fun i d v h => by simp at h) (fun i d v h => by simp at h)
                simpa using this
              obtain ⟨fn, tmps, assign, body, y1, y2⟩ := hC.yld _ _ hy _ _ _ h S w μ _ hT hr hRL l hl
              rw [Array.toArray_toList] at y1
              refine ⟨fun _ _ => trivial, ?_⟩
              rw [run_at (fun c e => by rw [hop] at e; cases e)]
              have hrun : (execOp a.eval o).run P w = .ok (.round l fn tmps assign body) w := by
                simp [execOp, hop, resolve, hvf, Deferred.ofValue, invoke, y1]
              rw [hrun, Oper.uponIn_round]
              refine ⟨fun h => (by cases h), (show RoundIn (FW none) (n - 1) P l fn tmps assign body w _ from RoundIn.mono (y2 (n - 1)) ?_)⟩
              rintro e' w' ⟨S', μ', res, H', k1, k2, k3, k4⟩
              cases res with
              | ret d =>
                cases e' with
                | returned v =>
                  simp only [vcret_eq, fz_iff, fzh_iff] at k1
                  exact hK S' μ' d H' s.df v w' a.defers k1 k2 k3 k4 (hdf.tr hr.1 k4) hro
                | _ => exact k2.elim
              | pan d =>
                cases e' with
                | panicked ch =>
                  simp only [vcret_eq, fzh_iff] at k1
                  exact ⟨S', μ', _, .panic d, k1, k2, ⟨k3, fun i => (he i).tr hr.1 k4, hN, hdf.tr hr.1 k4, hro⟩, k4⟩
                | _ => exact k2.elim
        · exact h.elim
      · exact h.elim
    · exact step h
  · exact step h
theorem sound_ops (hC : CallsOK P C T) {ops : Array Oper} {K : VX → St → Prop} {n : Nat} : ∀ (l : List Oper) (i : Nat) (s : St) (S : Nat → Prop) (w : World) (μ : Mu) (a : Act), ops.toList.drop i = l → RelSt r N B S w μ s a → T S w μ (hget s.H) →
    vops C N ops.toList K l s → wpOpsIn (FW r) n P ops (PostC S w μ (hget s.H) r N B K) (List.range' i l.length) a w
  | [], i, s, S, w, μ, a, _, hst, _, h => ⟨S, μ, s, .normal, h, trivial, hst, .refl ..⟩
  | o :: rest, i, s, S, w, μ, a, hl, hst, hT, h => by
    have hi : ops[i]? = some o := by
      have : (ops.toList.drop i)[0]? = some o := by rw [hl]; rfl
      simpa using this
    have hl' : ops.toList.drop (i + 1) = rest := by
      have : (ops.toList.drop i).drop 1 = rest := by rw [hl]; rfl
      rwa [List.drop_drop] at this
    have hrange : List.range' i (o :: rest).length = i :: List.range' (i + 1) rest.length := by simp [List.range'_succ]
    rw [hrange, wpOpsIn_cons]
    unfold wpOpIn
    simp only [hi]
    have step : ∀ {s' : St}, s'.H = s.H → s'.df = s.df → EnvR S w μ s'.e a → vopsR C N o K (vops C N ops.toList K rest) s' → Region.wanted o (yielded ops a.tmps) = true →
        if Region.wanted o (yielded ops a.tmps) = true then o.wpIn (FW r) n P a w (wpOpsIn (FW r) n P ops (PostC S w μ (hget s.H) r N B K) (List.range' (i + 1) rest.length)) (PostC S w μ (hget s.H) r N B K) else (∀ f, o.about P w a.eval = some f → (FW r).fn f) ∧ wpOpsIn (FW r) n P ops (PostC S w μ (hget s.H) r N B K) (List.range' (i + 1) rest.length) (a.put o.dst undef) w := fun {s'} e1 e2 he h hw => by
      rw [vopsR_eq] at h
      rw [if_pos hw]
      rw [← e1]
      have hst' : RelSt r N B S w μ s' a := ⟨by rw [e1]; exact hst.rel, he, hst.size, by rw [e1, e2]; exact hst.df, by rw [e2]; exact hst.round⟩
      refine sound_opB hC hst' (by rw [e1]; exact hT) h n fun S' μ' d H' df' v w' ds' hk hR hr' t hdf' hro' => ?_
      have he' : EnvR S' w' μ' s'.e { a with defers := ds' } := fun j => (he j).tr hst'.rel.1 t
      obtain ⟨e', hk', he''⟩ := sound_put he' hst.size hR hk
      refine wpOpsIn_mono (fun x a w hq => PostC.from t hq) (sound_ops hC rest (i + 1) ⟨e', H', df'⟩ S' w' μ' _ hl' ⟨hr', he'', by rw [V.Act.put_size]; exact hst.size, by rw [V.Act.put_defers]; exact hdf', hro'⟩ (hC.step _ _ _ _ _ _ _ _ (by rw [e1]; exact hT) t) hk')
    have skip : ∀ {s' : St}, s'.H = s.H → s'.df = s.df → EnvR S w μ s'.e a → vopsS N o (vops C N ops.toList K rest) s' → Region.wanted o (yielded ops a.tmps) = false →
        if Region.wanted o (yielded ops a.tmps) = true then o.wpIn (FW r) n P a w (wpOpsIn (FW r) n P ops (PostC S w μ (hget s.H) r N B K) (List.range' (i + 1) rest.length)) (PostC S w μ (hget s.H) r N B K) else (∀ f, o.about P w a.eval = some f → (FW r).fn f) ∧ wpOpsIn (FW r) n P ops (PostC S w μ (hget s.H) r N B K) (List.range' (i + 1) rest.length) (a.put o.dst undef) w := fun {s'} e1 e2 he h hw => by
      rw [vopsS_eq] at h
      rw [if_neg (by rw [hw]; exact Bool.false_ne_true)]
      refine ⟨fun _ _ => trivial, ?_⟩
      obtain ⟨e', hk', he'⟩ := sound_put he hst.size R_undef h
      have := sound_ops hC (n := n) rest (i + 1) ⟨e', s'.H, s'.df⟩ S w μ (a.put o.dst undef) hl' ⟨by rw [e1]; exact hst.rel, he', by rw [V.Act.put_size]; exact hst.size, by rw [V.Act.put_defers]; simp only [e1, e2]; exact hst.df, by simp only [e2]; exact hst.round⟩ (by rw [e1]; exact hT) hk'
      simpa only [e1] using this
    rw [vops_cons] at h
    have he := hst.env
    rw [vopsB_eq] at h
    split at h
    · rename_i hg
      exact step rfl rfl he h (by simp [Region.wanted, hg])
    · rename_i j want hg
      split at h
      · exact h.elim
      · rename_i g hs
        have hgv := he g
        split at h
        · rename_i hd
          rw [hd] at hgv
          have hv : a.tmps.getD g undef = .bool true := by generalize a.tmps.getD g undef = v at hgv; cases hgv; rfl
          have hw := wanted_of (o := o) hg hs hv
          cases want
          · exact skip rfl rfl he h (by simpa using hw)
          · exact step rfl rfl he h (by simpa using hw)
        · rename_i hd
          rw [hd] at hgv
          have hv : a.tmps.getD g undef = .bool false := by generalize a.tmps.getD g undef = v at hgv; cases hgv; rfl
          have hw := wanted_of (o := o) hg hs hv
          cases want
          · exact step rfl rfl he h (by simpa using hw)
          · exact skip rfl rfl he h (by simpa using hw)
        · rename_i b hd
          rw [hd] at hgv
          have hv : a.tmps.getD g undef = .bool b := by generalize a.tmps.getD g undef = v at hgv; cases hgv; rfl
          have hw := wanted_of (o := o) hg hs hv
          cases hb : b with
          | true =>
            have he1 := he.upd (R_tt_of hgv hb)
            have h1 := h.1 hb
            rw [hb] at hw
            cases want
            · exact skip (s' := ⟨upd s.e g .tt, s.H, s.df⟩) rfl rfl he1 h1 (by simpa using hw)
            · exact step (s' := ⟨upd s.e g .tt, s.H, s.df⟩) rfl rfl he1 h1 (by simpa using hw)
          | false =>
            have he1 := he.upd (R_ff_of hgv hb)
            have h1 := h.2 hb
            rw [hb] at hw
            cases want
            · exact step (s' := ⟨upd s.e g .ff, s.H, s.df⟩) rfl rfl he1 h1 (by simpa using hw)
            · exact skip (s' := ⟨upd s.e g .ff, s.H, s.df⟩) rfl rfl he1 h1 (by simpa using hw)
        · rename_i cs hd
          rw [hd] at hgv
          have hv : ∃ vs, a.tmps.getD g undef = .tuple vs := by generalize a.tmps.getD g undef = v at hgv; cases hgv; exact ⟨_, rfl⟩
          exact skip rfl rfl he h (wanted_no (o := o) hg hs hv)
        · exact h.elim
end
end Go.V
end
section
namespace Go.V
section det
variable {α β : Type}
theorem Det.of_iff {F : (α → Prop) → Prop} {x : α} (h : ∀ k, F k ↔ k x) : Det F := fun k hk => ⟨x, (h k).1 hk, fun k' hk' => (h k').2 hk'⟩
theorem Det.fls : Det (fun _ : α → Prop => False) := fun _ h => h.elim
theorem Det.ret (x : α) : Det (fun k : α → Prop => k x) := .of_iff fun _ => Iff.rfl
theorem Det.and {F : (α → Prop) → Prop} (p : Prop) (h : Det F) : Det (fun k => p ∧ F k) := fun k ⟨hp, hk⟩ => let ⟨x, h1, h2⟩ := h k hk; ⟨x, h1, fun k' h' => ⟨hp, h2 k' h'⟩⟩
theorem Det.iff {F : (α → Prop) → Prop} (b : Bool) (h : Det F) : Det (fun k => bif b then F k else False) := by
  cases b
  · exact Det.fls
  · exact h
theorem Det.bind {F : (α → Prop) → Prop} {G : α → (β → Prop) → Prop} (h : Det F) (g : ∀ x, Det (G x)) : Det (fun k => F fun x => G x k) := fun k hk => by
  obtain ⟨x, h1, h2⟩ := h _ hk
  obtain ⟨y, h3, h4⟩ := g x k h1
  exact ⟨y, h3, fun k' hk' => h2 _ (h4 k' hk')⟩
theorem Det.map {F : (α → Prop) → Prop} (h : Det F) (f : α → β) : Det (fun k : β → Prop => F fun x => k (f x)) := h.bind (G := fun x k => k (f x)) fun x => .ret _
theorem Det.fz (d : D) : Det (V.fz d) := .of_iff (fz_iff d)
theorem Det.fzl (d : List D) : Det (V.fzl d) := .of_iff (fzl_iff d)
theorem Det.fzp (d : List (Nat × D)) : Det (V.fzp d) := .of_iff (fzp_iff d)
theorem Det.fits (q : IntKind) (n : Int) : Det (V.fits q n) := by
  unfold V.fits
  cases q <;> first | exact .ret _ | exact (Det.ret _).and _
theorem Det.vfill {place : Nat → Option (Nat × Nat)} : ∀ (ps : List (Nat × D)) (cs : List D), Det fun K => vfill place K cs ps
  | [], cs => .ret _
  | (i, d) :: r, cs => by
    simp only [V.vfill_cons, V.vfillB]
    cases place i with
    | none => exact .fls
    | some os => exact (Det.vfill r _).iff _
theorem Det.vbuild (T : Ty) (z : List D) (ps : List (Nat × D)) : Det (V.vbuild T z ps) := by
  unfold V.vbuild
  cases T <;> first | exact Det.fls | exact Det.vfill _ _
theorem Det.vfrom (T : Ty) (n : Nat) (g : Nat → D) : Det (V.vfrom T n g) := by
  unfold V.vfrom
  cases aggSize T with
  | some c => exact ((Det.fzl _).map D.agg).iff _
  | none => exact (Det.fz _).iff _
theorem Det.vload (T : Ty) (d : D) (H : HL) : Det (V.vload T d H) := by
  unfold V.vload
  cases d <;> first | exact Det.fls | exact Det.vfrom _ _ _ | skip
  case ptr o off =>
    simp only
    cases hget H o with
    | none => exact .fls
    | some ob => cases ob with
      | row cs => exact .vfrom _ _ _
      | buf _ _ _ _ => exact .fls
      | mp _ => exact .fls
      | lp _ _ => exact .fls
      | dead => exact .fls
  case optr o n s i j =>
    simp only
    cases hget H o with
    | none => exact .fls
    | some ob => cases ob with
      | row cs => exact .fls
      | mp _ => exact .fls
      | lp _ _ => exact .fls
      | dead => exact .fls
      | buf _ _ _ _ => exact ((Det.vfrom _ _ _).iff _).and _
theorem Det.vfield (T : Ty) (d : D) (f : Nat) : Det (V.vfield T d f) := by
  unfold V.vfield
  cases T <;> first | exact Det.fls | skip
  simp only
  rename_i sz fs
  cases fs[f]? with
  | none => exact .fls
  | some x => cases d <;> first | exact Det.fls | exact .ret _ | exact (Det.ret _).iff _
theorem Det.vidx (T : Ty) (d i : D) (H : HL) : Det (V.vidx T d i H) := by
  unfold V.vidx
  cases i <;> first | exact Det.fls | skip
  cases T <;> first | exact Det.fls | skip
  · cases d <;> first | exact Det.fls | skip
    · exact ((Det.ret _).iff _).and _
    · exact (Det.ret _).and _
    · exact (Det.ret _).and _
  · cases d <;> first | exact Det.fls | skip
    · exact ((Det.ret _).iff _).and _
    · simp only
      rename_i o n
      cases hget H o with
      | none => exact .fls
      | some ob => cases ob with
        | row _ => exact .fls
        | mp _ => exact .fls
        | lp _ _ => exact .fls
        | dead => exact .fls
        | buf _ _ _ _ => exact ((Det.ret _).iff _).and _
    · exact ((Det.ret _).iff _).and _
theorem Det.vindex (C : Cx) (T : Ty) (d i : D) : Det (V.vindex C T d i) := by
  unfold V.vindex
  cases i <;> first | exact Det.fls | skip
  cases T <;> first | exact Det.fls | skip
  · cases d <;> first | exact Det.fls | exact (Det.ret _).and _
  · simp only
    split
    · exact ((Det.ret _).and _).iff _
    · exact ((Det.ret _).and _).iff _
    · exact ((Det.fz _).and _).iff _
    · exact (((Det.fzl _).map D.agg).and _).iff _
    · exact .fls
theorem Det.vslice (T : Ty) (d : D) (lo hi : Option D) : Det (V.vslice T d lo hi) := by
  unfold V.vslice
  split
  · split
    · exact ((Det.ret _).iff _).and _
    · exact .fls
  · split
    · exact (Det.ret _).iff _
    · exact (Det.ret _).and _
    · exact ((Det.ret _).iff _).and _
    · exact .fls
  · exact .fls
theorem Det.vbin (op : BinOp) (x y : D) : Det (V.vbin op x y) := by
  cases op <;> unfold V.vbin <;> simp only
  case eql => cases deq x y <;> first | exact .fls | exact .ret _
  case neq => cases deq x y <;> first | exact .fls | exact .ret _
  all_goals
    cases x <;> first | exact Det.fls | skip
    cases y <;> first | exact Det.fls | skip
    simp only
    first
      | exact ((Det.fits _ _).and _).iff _
      | exact ((Det.ret _).and _).iff _
      | exact (Det.fits _ _).iff _
      | exact (Det.ret _).iff _
      | exact (Det.fits _ _).and _
      | exact (Det.ret _).and _
      | exact Det.fls.iff _
theorem Det.veqop (C : Cx) (t : Nat) (op : BinOp) (x y : D) : Det (V.veqop C t op x y) := by
  unfold V.veqop
  split
  · split
    · split <;> first | exact .ret _ | exact .fls
    · split <;> first | exact .ret _ | exact .fls
    · exact .fls
  · exact .fls
theorem Det.vbo (C : Cx) (t : Nat) (op : BinOp) (x y : D) : Det (V.vbo C t op x y) := by
  unfold V.vbo
  split
  · exact .veqop _ _ _ _ _
  · exact .veqop _ _ _ _ _
  · exact (Det.vbin _ _ _).iff _
theorem Det.vboN (C : Cx) (t : Nat) (op : BinOp) (y : Operand) (x d : D) : Det (V.vboN C t op y x d) := by
  unfold V.vboN
  split
  · refine Det.iff _ ?_
    split <;> first | exact .ret _ | exact .fls
  · exact .vbo _ _ _ _ _
theorem Det.vconv (C : Cx) (s t : Ty) (d : D) (H : HL) : Det (V.vconv C s t d H) := by
  unfold V.vconv
  split
  · split
    · exact .fits _ _
    · exact .fls
  · split
    · exact .ret _
    · exact .fls
  · split
    · split
      · exact (Det.ret _).and _
      · split
        · exact (Det.ret _).and _
        · exact .fls
      · exact .ret _
      · exact .fls
    · exact .fls
  · exact .fls
theorem Det.vmap (T : Ty) (m : D) (H : HL) {γ : Type} {G : Nat → Mp → (γ → Prop) → Prop} (h : ∀ o M, Det (G o M)) : Det fun k => V.vmap T m H fun o M => G o M k := by
  unfold V.vmap
  cases T <;> simp only <;> try exact Det.fls
  cases m <;> simp only <;> try exact Det.fls
  rename_i o
  cases hget H o with
  | none => exact .fls
  | some ob => cases ob <;> simp only <;> first | exact Det.fls | exact (h _ _).iff _
theorem Det.rngL {γ : Type} {F : (γ → Prop) → Prop} (h : Det F) : ∀ cs, Det fun k => V.rngL cs (F k)
  | [] => h
  | d :: r => (Det.rngL h r).and _
theorem Det.vkey (ks : KS) (d : D) {γ : Type} {G : Value → (γ → Prop) → Prop} (h : ∀ v, Det (G v)) : Det fun k => V.vkey ks d fun v => G v k := by
  unfold V.vkey
  cases ks <;> cases d <;> simp only <;> first
    | exact Det.fls
    | exact (h _).and _
    | exact ((h _).and _).iff _
    | exact (Det.rngL (h _) _).iff _
theorem Det.velem (ek : EK) (d : D) {γ : Type} {G : (Nat → Int) → (γ → Prop) → Prop} (h : ∀ v, Det (G v)) : Det fun k => V.velem ek d fun v => G v k := by
  unfold V.velem
  cases ek <;> cases d <;> simp only <;> first
    | exact Det.fls
    | exact h _
    | exact (h _).iff _
theorem Det.fza (d : D) : Det (V.fza d) := .of_iff (fza_iff d)
theorem Det.vlookup (T : Ty) (m key : D) (ok : Bool) (H : HL) : Det (V.vlookup T m key ok H) := by
  unfold V.vlookup
  exact .vmap _ _ _ fun o M => .vkey _ _ fun v => by cases ok <;> exact .ret _
theorem Det.vbuiltin (C : Cx) (b : Builtin) (ts : List Nat) (ty : Nat) (ds : List D) (H : HL) : Det (V.vbuiltin C b ts ty ds H) := by
  unfold V.vbuiltin
  split
  · split
    · split
      · split
        · exact .ret _
        · split
          · exact (Det.ret _).and _
          · exact .fls
        · exact .ret _
        · exact .ret _
        · exact .fls
      · split
        · exact .ret _
        · exact .fls
      · exact .vmap _ _ _ fun _ _ => .ret _
      · exact .fls
    · exact .fls
  · exact (Det.ret _).iff _
  · exact (Det.ret _).iff _
  · exact (Det.ret _).iff _
  · exact (Det.ret _).iff _
  · exact (Det.ret _).iff _
  · exact .fls
theorem Det.vpart (C : Cx) (T : Ty) (d : D) (f : Nat) : Det (V.vpart C T d f) := by
  unfold V.vpart
  cases T <;> (try simp only) <;> (try exact .fls)
  rename_i sz fs
  cases d <;> (try simp only) <;> (try exact .fls)
  rename_i cs
  cases fs[f]? with
  | none => exact .fls
  | some x =>
    simp only
    cases C.ty x.2.1 <;> simp only [Ty.one, cond_true, cond_false] <;> first
      | exact .fls
      | exact (Det.fzl _).map D.agg
      | (cases cs[x.1]? with
         | none => exact .fls
         | some d => exact .fz _)
theorem Det.vrd (C : Cx) (o : Oper) (e : Env) (H : HL) : Det (V.vrd C o e H) := by
  unfold V.vrd
  cases o.op <;> (try simp only) <;> (try exact Det.fls)
  case move x => exact .fz _
  case assign x => exact .fz _
  case pick c a b => cases ev e c <;> first | exact Det.fls | exact .fz _
  case build t ps => cases C.zero t with
    | none => exact .fls
    | some z => exact (Det.fzp _).bind fun ps => (Det.vbuild _ _ _).bind (G := fun cs (k : D → Prop) => V.fzl cs fun cs => k (D.agg cs)) fun cs => (Det.fzl _).map D.agg
  case load t x => exact .vload _ _ _
  case nilCheck x => cases ev e x <;> first | exact Det.fls | exact .ret _
  case binOp op t x y yt => exact .vboN _ _ _ _ _ _
  case index t x i => exact .vindex _ _ _ _
  case slice t x lo hi mx =>
    cases mx <;> first | exact Det.fls | exact .vslice _ _ _ _
  case unOp op t x => cases op <;> cases ev e x <;> first | exact Det.fls | exact .ret _ | exact .fits _ _
  case convert s t x => exact .vconv _ _ _ _ _
  case makeFunc f fs cs => cases f <;> first | exact Det.fls | exact (Det.fzl _).bind fun fs => (Det.fzl _).map _
  case fieldAddr t x f => exact .vfield _ _ _
  case field t x f => exact .vpart _ _ _ _
  case indexAddr t x i => exact .vidx _ _ _ _
  case makeInterface t x => exact ((Det.fz _).map _).iff _
  case typeAssert x xt t ok =>
    cases ok <;> simp only
    · refine Det.iff _ ?_
      cases ev e x <;> simp only <;> first | exact Det.fls | exact (Det.fz _).iff _
    · refine Det.iff _ ?_
      cases ev e x <;> simp only <;> first | exact Det.fls | exact ((Det.fz _).map fun d => D.tup [d, D.tt]).iff _
  case lookup t x i ok => exact (Det.vlookup _ _ _ _ _).bind fun d => .fza d
  case extract x i =>
    cases ev e x <;> simp only <;> try exact Det.fls
    rename_i l
    cases l[i]? with
    | none => exact .fls
    | some d => exact .fz _
  case call c =>
    cases c.callee <;> simp only <;> try exact Det.fls
    exact (Det.fzl _).bind fun ds => .vbuiltin _ _ _ _ _ _
theorem Det.view (H : HL) (d : D) : Det (V.view H d) := by
  unfold V.view
  cases d <;> simp only <;> try exact .fz _
  case own o n =>
    cases hget H o with
    | none => exact .fls
    | some ob => cases ob with
      | row _ => exact .fls
      | mp _ => exact .fls
      | lp _ _ => exact .fls
      | dead => exact .fls
      | buf _ _ _ _ => exact (Det.ret _).and _
  case ptr o off =>
    cases hget H o with
    | none => exact .fls
    | some ob => cases ob with
      | row _ => exact .ret _
      | buf _ _ _ _ => exact .fls
      | mp _ => exact .fls
      | lp _ _ => exact .fls
      | dead => exact .fls
  case osl o off n s =>
    cases hget H o with
    | none => exact .fls
    | some ob => cases ob with
      | row _ => exact (Det.ret _).iff _
      | buf _ _ _ _ => exact .fls
      | mp _ => exact .fls
      | lp _ _ => exact .fls
      | dead => exact .fls
theorem Det.viewl (H : HL) : ∀ ds, Det (V.viewl H ds)
  | [] => .ret _
  | d :: r => (Det.view H d).bind fun d => (Det.viewl H r).map _
theorem Det.viewa (H : HL) (d : D) : Det (V.viewa H d) := by
  unfold V.viewa
  cases d <;> simp only <;> try exact .view H _
  case agg cs => exact (Det.viewl H cs).map _
  case fn f fs cs => exact (Det.viewl H fs).bind fun fs => (Det.viewl H cs).map _
theorem Det.viewal (H : HL) : ∀ ds, Det (V.viewal H ds)
  | [] => .ret _
  | d :: r => (Det.viewa H d).bind fun d => (Det.viewal H r).map _
theorem Det.vcallp {r : PRule} (hr : ∀ ds, Det (r ds)) (ds : List D) (H : HL) : Det (V.vcallp r ds H) := by
  unfold V.vcallp
  cases ds.all noRef with
  | true => exact (hr ds).bind fun d => .fz d
  | false => exact (Det.viewal H ds).bind fun ds => ((hr ds).bind fun d => (Det.fz d).bind fun d => (Det.ret d).iff _).iff _
theorem Det.vsr {P : Program} {C : Cx} {T : RT} (hC : CallsOK P C T) (o : Oper) (e : Env) (H : HL) : Det (V.vsr C o e H) := by
  unfold V.vsr
  split
  · split
    · split
      · rename_i g fs cs hd
        cases hp : C.pure g with
        | none => exact .fls
        | some r => exact (Det.fzl _).bind fun ds => .vcallp (hC.pure g r hp).det _ _
      · exact .fls
    · exact .vrd _ _ _ _
  · exact .vrd _ _ _ _
def Det2 (F : (D → HL → Prop) → Prop) : Prop := ∀ k, F k → ∃ d H, k d H ∧ ∀ k', k' d H → F k'
theorem Det.vstore (T : Ty) (d x : D) (H : HL) : Det (V.vstore T d x H) := by
  unfold V.vstore
  refine Det.iff _ ?_
  cases d <;> simp only <;> try exact Det.fls
  · rename_i o off
    cases hget H o with
    | none => exact .fls
    | some ob => cases ob with
      | row cs => exact (Det.ret _).iff _
      | buf _ _ _ _ => exact .fls
      | mp _ => exact .fls
      | lp _ _ => exact .fls
      | dead => exact .fls
  · rename_i o n s i j
    cases hget H o with
    | none => exact .fls
    | some ob => cases ob with
      | row cs => exact .fls
      | mp _ => exact .fls
      | lp _ _ => exact .fls
      | dead => exact .fls
      | buf _ _ _ _ => exact ((Det.ret _).and _).iff _
theorem Det2.fls : Det2 fun _ => False := fun _ h => h.elim
theorem Det2.vsrc {es : Nat} {H : HL} {x : D} {K : Nat → (Nat → Nat → D) → Prop} (h : V.vsrc es H x K) : ∃ m gx, K m gx ∧ ∀ K' : Nat → (Nat → Nat → D) → Prop, K' m gx → V.vsrc es H x K' := by
  cases x <;> first | exact h.elim | skip
  · rename_i s' m g
    simp only [V.vsrc] at h ⊢
    cases hs : Nat.beq s' es with
    | false => rw [hs] at h; exact h.elim
    | true => rw [hs] at h; exact ⟨m, g, h.2, fun K' hK => ⟨h.1, hK⟩⟩
  · rename_i o m
    simp only [V.vsrc] at h ⊢
    cases ho : hget H o with
    | none => rw [ho] at h; exact h.elim
    | some ob => cases ob with
      | row _ => rw [ho] at h; exact h.elim
      | mp _ => rw [ho] at h; exact h.elim
      | lp _ _ => rw [ho] at h; exact h.elim
      | dead => rw [ho] at h; exact h.elim
      | buf e' s' m' g =>
        rw [ho] at h
        simp only at h ⊢
        cases hs : Nat.beq s' es with
        | false => rw [hs] at h; exact h.elim
        | true => rw [hs] at h; exact ⟨m, g, h.2, fun K' hK => ⟨h.1, hK⟩⟩
theorem Det2.vappend (T : Ty) (nid : Nat) (s x : D) (H : HL) : Det2 (V.vappend T nid s x H) := by
  intro k h
  cases T <;> first | exact h.elim | skip
  rename_i el es eb
  obtain ⟨m, gx, h2, h1⟩ := Det2.vsrc h
  cases s <;> first | exact h2.elim | skip
  · rename_i o n
    simp only at h2
    cases ho : hget H o with
    | none => rw [ho] at h2; exact h2.elim
    | some ob => cases ob with
      | row _ => rw [ho] at h2; exact h2.elim
      | mp _ => rw [ho] at h2; exact h2.elim
      | lp _ _ => rw [ho] at h2; exact h2.elim
      | dead => rw [ho] at h2; exact h2.elim
      | buf e s0 n0 g =>
        rw [ho] at h2
        simp only at h2
        cases hq : (Nat.beq e el && Nat.beq s0 es && Nat.blt 0 eb && ownNe x o) with
        | false => rw [hq] at h2; exact h2.elim
        | true =>
          rw [hq] at h2
          exact ⟨_, _, h2.2, fun k' hk' => h1 _ (by simp only; rw [ho]; simp only; rw [hq]; exact ⟨h2.1, hk'⟩)⟩
  · simp only at h2
    cases hq : Nat.blt 0 eb with
    | false => rw [hq] at h2; exact h2.elim
    | true =>
      rw [hq] at h2
      exact ⟨_, _, h2.2, fun k' hk' => h1 _ (by simp only; rw [hq]; exact ⟨h2.1, hk'⟩)⟩
theorem Det2.vappendS (C : Cx) (T : Ty) (s x : D) (H : HL) : Det2 (V.vappendS C T s x H) := by
  intro k h
  unfold V.vappendS at h ⊢
  cases ha : appS C T s x H with
  | none => rw [ha] at h; exact h.elim
  | some y =>
    rw [ha] at h
    exact ⟨_, _, h.2, fun k' hk' => ⟨h.1, hk'⟩⟩
theorem Det2.vwr (C : Cx) (nid : Nat) (o : Oper) (e : Env) (H : HL) : Det2 (V.vwr C nid o e H) := by
  have of : ∀ {F : (D × HL → Prop) → Prop}, Det F → ∀ k : D → HL → Prop, F (fun p => k p.1 p.2) → ∃ d H, k d H ∧ ∀ k' : D → HL → Prop, k' d H → F (fun p => k' p.1 p.2) := fun h k hk => by
    obtain ⟨⟨d, H⟩, h1, h2⟩ := h _ hk
    exact ⟨d, H, h1, fun k' h' => h2 _ h'⟩
  intro k
  unfold V.vwr
  cases o.op <;> (try simp only) <;> (try exact fun h => h.elim)
  case alloc t =>
    cases C.zero t with
    | none => exact fun h => h.elim
    | some cs => exact fun h => ⟨_, _, h, fun k' h' => h'⟩
  case box t x => exact of (F := fun k => V.fz (ev e x) fun d => bif (cellsD d).all one then k (.ptr nid 0, hnew H nid (.row (cellsD d))) else False) ((Det.fz _).bind fun d => (Det.ret _).iff _) k
  case buildSlice t len ps =>
    cases C.ty t <;> simp only <;> try exact fun h => h.elim
    rename_i el es eb
    have lit : ∀ (H1 : HL) (l : List (Nat × D)), Det fun k : D × HL → Prop => V.vfill (fun i => some (i * es, es)) (fun cs => V.fzl cs fun cs =>
        bif cs.all okb && Nat.beq cs.length (len * es) then k (.own nid len, hnew H1 nid (.buf el es len fun i j => cs.getD (i * es + j) .top)) else False) (List.replicate (len * es) .top) l := fun H1 l =>
      (Det.vfill (place := fun i => some (i * es, es)) l (List.replicate (len * es) .top)).bind (G := fun cs (k : D × HL → Prop) => V.fzl cs fun cs => bif cs.all okb && Nat.beq cs.length (len * es) then k (D.own nid len, hnew H1 nid (.buf el es len fun i j => cs.getD (i * es + j) D.top)) else False)
        fun cs => (Det.fzl _).bind fun cs => (Det.ret _).iff _
    exact of (F := fun k => bif Nat.ble (len * es) 16777216 && Nat.ble len 16777216 then V.fzp (evs e ps) fun ps => bif ps.any ownP then V.vnest nid el es len H ps (fun d H => k (d, H)) else V.vfill (fun i => some (i * es, es)) (fun cs => V.fzl cs fun cs =>
        bif cs.all okb && Nat.beq cs.length (len * es) then k (.own nid len, hnew H nid (.buf el es len fun i j => cs.getD (i * es + j) .top)) else False) (List.replicate (len * es) .top) ps else False)
      (Det.iff _ ((Det.fzp (evs e ps)).bind (G := fun ps (k : D × HL → Prop) => bif ps.any ownP then V.vnest nid el es len H ps (fun d H => k (d, H)) else V.vfill (fun i => some (i * es, es)) (fun cs => V.fzl cs fun cs =>
        bif cs.all okb && Nat.beq cs.length (len * es) then k (.own nid len, hnew H nid (.buf el es len fun i j => cs.getD (i * es + j) .top)) else False) (List.replicate (len * es) .top) ps) fun ps => by
          cases ps.any ownP with
          | false => exact lit H ps
          | true =>
            intro k hk
            simp only [cond_true] at hk ⊢
            unfold V.vnest at hk ⊢
            cases hn : nestP H ps with
            | none => rw [hn] at hk; exact hk.elim
            | some x =>
              rw [hn] at hk
              obtain ⟨y, h1, h2⟩ := ((Det.fzp x.2).bind fun ps' => lit (deadH H x.1) ps') k hk
              exact ⟨y, h1, fun k' hk' => h2 k' hk'⟩)) k
  case makeSlice t l c =>
    cases C.ty t <;> simp only <;> try exact fun h => h.elim
    split
    · cases C.zero _ with
      | none => exact fun h => h.elim
      | some z =>
        simp only
        cases (z.all okb && Nat.beq z.length _) with
        | false => exact fun h => h.elim
        | true => exact fun h => ⟨_, _, h.2, fun k' h' => ⟨h.1, h'⟩⟩
    · exact fun h => h.elim
  case makeMap t r =>
    cases r <;> simp only <;> try exact fun h => h.elim
    unfold V.vmakeMap
    cases C.ty t <;> simp only <;> first | exact fun h => h.elim | exact fun h => ⟨_, _, h, fun k' h' => h'⟩
  case mapEntry t m x => exact of (F := fun k => V.vmapEntry (C.ty t) (ev e m) (ev e x) H fun d H => k (d, H)) (.vmap _ _ _ fun o M => .vkey _ _ fun v => .ret _) k
  case entryStore t m x y => exact of (F := fun k => V.ventryStore (C.ty t) (ev e m) (ev e x) (ev e y) H fun d H => k (d, H)) (.vmap _ _ _ fun o M => by
    cases ev e x <;> simp only <;> first | exact Det.fls | exact (Det.velem _ _ fun g => (Det.ret _).and _).iff _) k
  case mapUpdate t m x y => exact of (F := fun k => V.vmapUpdate (C.ty t) (ev e m) (ev e x) (ev e y) H fun d H => k (d, H)) (.vmap _ _ _ fun o M => .vkey _ _ fun v => .velem _ _ fun g => .ret _) k
  case insert t m x y => exact of (F := fun k => V.vmapUpdate (C.ty t) (ev e m) (ev e x) (ev e y) H fun d H => k (d, H)) (.vmap _ _ _ fun o M => .vkey _ _ fun v => .velem _ _ fun g => .ret _) k
  case store t x y => exact of (F := fun k => V.fz (ev e y) fun d => V.vstore (C.ty t) (ev e x) d H fun H => k (.top, H)) ((Det.fz _).bind fun d => (Det.vstore _ _ _ _).map _) k
  case convert s t x =>
    intro h
    cases hst : Nat.beq s t with
    | true =>
      simp only [hst, cond_true] at h ⊢
      unfold V.vsame at h ⊢
      cases hb : ownB C (C.ty t) (ev e x) H with
      | none => rw [hb] at h; exact h.elim
      | some y => rw [hb] at h; exact ⟨_, _, h.2, fun k' hk' => ⟨h.1, hk'⟩⟩
    | false =>
    simp only [hst, cond_false] at h ⊢
    unfold V.vbytes at h ⊢
    cases hb : bytesOf C (C.ty s) (C.ty t) (ev e x) with
    | none => rw [hb] at h; exact h.elim
    | some y => rw [hb] at h; exact ⟨_, _, h.2, fun k' hk' => ⟨h.1, hk'⟩⟩
  case call c =>
    intro h
    split at h
    · split at h
      · rename_i s x t t' hargs hats
        cases hq : Nat.beq t t' with
        | false =>
          rw [hq] at h
          simp only [cond_false] at h ⊢
          cases hS : C.ty t' <;> rw [hS] at h <;> first | exact h.elim | skip
          obtain ⟨d, H', h1, h2⟩ := Det2.vappendS _ _ _ _ _ _ h
          exact ⟨d, H', h1, fun k' hk' => h2 k' hk'⟩
        | true =>
          rw [hq] at h
          obtain ⟨d, H', h1, h2⟩ := Det2.vappend _ _ _ _ _ _ h
          exact ⟨d, H', h1, fun k' hk' => h2 k' hk'⟩
      · exact h.elim
    · exact h.elim
end det
end Go.V
end
section
namespace Go.V
section
variable {H H' : HL}
theorem vload_congr (h : hget H = hget H') (T : Ty) (d : D) (k : D → Prop) : vload T d H k = vload T d H' k := by cases d <;> simp only [vload, h]
theorem vidx_congr (h : hget H = hget H') (T : Ty) (d i : D) (k : D → Prop) : vidx T d i H k = vidx T d i H' k := by
  cases i <;> simp only [vidx]
  cases T <;> simp only
  cases d <;> simp only [h]
theorem vconv_congr (h : hget H = hget H') (C : Cx) (s t : Ty) (d : D) (k : D → Prop) : vconv C s t d H k = vconv C s t d H' k := by
  unfold vconv
  rw [h]
theorem vmap_congr (h : hget H = hget H') (T : Ty) (m : D) (k : Nat → Mp → Prop) : vmap T m H k = vmap T m H' k := by
  unfold vmap
  rw [h]
theorem vlookup_congr (h : hget H = hget H') (T : Ty) (m x : D) (ok : Bool) (k : D → Prop) : vlookup T m x ok H k = vlookup T m x ok H' k := by
  unfold vlookup
  rw [vmap_congr h]
theorem vbuiltin_congr (h : hget H = hget H') (C : Cx) (b : Builtin) (ts : List Nat) (ty : Nat) (ds : List D) (k : D → Prop) : vbuiltin C b ts ty ds H k = vbuiltin C b ts ty ds H' k := by
  have e : ∀ T d (K : Nat → Mp → Prop), vmap T d H K = vmap T d H' K := fun T d K => vmap_congr h T d K
  unfold vbuiltin
  simp only [h, e]
theorem vrd_congr (h : hget H = hget H') (C : Cx) (o : Oper) (e : Env) (k : D → Prop) : vrd C o e H k = vrd C o e H' k := by
  have e1 : ∀ T d (K : D → Prop), vload T d H K = vload T d H' K := fun T d K => vload_congr h T d K
  have e2 : ∀ T d i (K : D → Prop), vidx T d i H K = vidx T d i H' K := fun T d i K => vidx_congr h T d i K
  have e3 : ∀ s t d (K : D → Prop), vconv C s t d H K = vconv C s t d H' K := fun s t d K => vconv_congr h C s t d K
  have e4 : ∀ T m x ok (K : D → Prop), vlookup T m x ok H K = vlookup T m x ok H' K := fun T m x ok K => vlookup_congr h T m x ok K
  have e5 : ∀ b ts ty ds (K : D → Prop), vbuiltin C b ts ty ds H K = vbuiltin C b ts ty ds H' K := fun b ts ty ds K => vbuiltin_congr h C b ts ty ds K
  unfold vrd
  simp only [e1, e2, e3, e4, e5]
theorem hide_congr (h : hget H = hget H') (d : D) : hide H d = hide H' d := by
  unfold hide
  rw [h]
theorem view_congr (h : hget H = hget H') (d : D) (k : D → Prop) : view H d k = view H' d k := by
  have e : hide H = hide H' := funext fun d => hide_congr h d
  unfold view
  rw [h, e]
theorem viewl_congr (h : hget H = hget H') : ∀ (l : List D) (k : List D → Prop), viewl H l k = viewl H' l k
  | [], k => rfl
  | d :: r, k => by
    show view H d (fun d => viewl H r fun r => k (d :: r)) = view H' d (fun d => viewl H' r fun r => k (d :: r))
    rw [view_congr h]
    congr 1
    funext d
    exact viewl_congr h r _
theorem viewa_congr (h : hget H = hget H') (d : D) (k : D → Prop) : viewa H d k = viewa H' d k := by
  have e : ∀ l (K : List D → Prop), viewl H l K = viewl H' l K := fun l K => viewl_congr h l K
  cases d <;> simp only [viewa, e] <;> exact view_congr h _ _
theorem viewal_congr (h : hget H = hget H') : ∀ (l : List D) (k : List D → Prop), viewal H l k = viewal H' l k
  | [], k => rfl
  | d :: r, k => by
    show viewa H d (fun d => viewal H r fun r => k (d :: r)) = viewa H' d (fun d => viewal H' r fun r => k (d :: r))
    rw [viewa_congr h]
    congr 1
    funext d
    exact viewal_congr h r _
theorem vsr_congr (h : hget H = hget H') (C : Cx) (o : Oper) (e : Env) (k : D → Prop) : vsr C o e H k = vsr C o e H' k := by
  have e1 : ∀ (K : D → Prop), vrd C o e H K = vrd C o e H' K := fun K => vrd_congr h C o e K
  have e2 : ∀ l (K : List D → Prop), viewal H l K = viewal H' l K := fun l K => viewal_congr h l K
  have e3 : ∀ r ds (K : D → Prop), vcallp r ds H K = vcallp r ds H' K := fun r ds K => by unfold vcallp; rw [e2]
  unfold vsr
  simp only [e1, e3]
def pad (q : Nat) (H : HL) : HL := H ++ List.replicate q none
theorem pad_get (q : Nat) (H : HL) : hget (pad q H) = hget H := by
  funext o
  unfold hget pad
  simp only [List.getD_eq_getElem?_getD, List.getElem?_append]
  split
  · rfl
  · rename_i h
    rw [List.getElem?_eq_none (l := H) (by omega)]
    simp only [List.getElem?_replicate]
    split <;> rfl
theorem pad_len (q : Nat) (H : HL) : (pad q H).length = H.length + q := by simp [pad]
theorem pad_set {q : Nat} {H : HL} {o : Nat} (h : o < H.length) (x : Option Ob) : (pad q H).set o x = pad q (H.set o x) := by
  unfold pad
  rw [List.set_append, if_pos h]
theorem pad_new {q : Nat} {H : HL} {o : Nat} (h : o < H.length) (x : Ob) : hnew (pad q H) o x = pad q (hnew H o x) := by
  unfold hnew
  have h1 : Nat.blt o H.length = true := (blt_iff _ _).2 h
  have h2 : Nat.blt o (pad q H).length = true := (blt_iff _ _).2 (by rw [pad_len]; omega)
  rw [h1, h2, cond_true, cond_true, pad_set h]
theorem vstore_pad {T : Ty} {d x : D} {q : Nat} {k k' : HL → Prop} (hk : ∀ H', k H' → k' (pad q H')) (h : vstore T d x H k) : vstore T d x (pad q H) k' := by
  unfold vstore at h ⊢
  rw [pad_get]
  cases hq : ((cellsD x).all one && Nat.beq (cellsD x).length (tsz T) && T.known) with
  | false => rw [hq] at h; exact h.elim
  | true =>
    rw [hq] at h
    simp only [cond_true] at h ⊢
    cases d <;> simp only at h ⊢
    · rename_i o off
      cases ho : hget H o with
      | none => rw [ho] at h; exact h.elim
      | some ob =>
        rw [ho] at h
        cases ob <;> simp only at h ⊢
        rename_i cs
        cases hb : Nat.ble (off + (cellsD x).length) cs.length with
        | false => rw [hb] at h; exact h.elim
        | true =>
          rw [hb] at h
          simp only [cond_true] at h ⊢
          rw [pad_set (lt_of_hget ho)]
          exact hk _ h
    · rename_i o n s i j
      cases ho : hget H o with
      | none => rw [ho] at h; exact h.elim
      | some ob =>
        rw [ho] at h
        cases ob <;> simp only at h ⊢
        rename_i e size m g
        cases hb : (Nat.beq s size && Nat.ble (j + (cellsD x).length) s && (cellsD x).all okb) with
        | false => rw [hb] at h; exact h.elim
        | true =>
          rw [hb] at h
          simp only [cond_true] at h ⊢
          rw [pad_set (lt_of_hget ho)]
          exact ⟨h.1, hk _ h.2⟩
theorem vmap_pad {T : Ty} {m : D} {q : Nat} {k k' : Nat → Mp → Prop} (hk : ∀ o M, o < H.length → k o M → k' o M) (h : vmap T m H k) : vmap T m (pad q H) k' := by
  unfold vmap at h ⊢
  rw [pad_get]
  cases T <;> simp only at h ⊢
  cases m <;> simp only at h ⊢
  rename_i o
  cases ho : hget H o with
  | none => rw [ho] at h; exact h.elim
  | some ob =>
    rw [ho] at h
    cases ob <;> simp only at h ⊢
    rename_i ks ek _ _ M
    cases hq : (ksEq M.ks ks && ekEq M.ek ek) with
    | false => rw [hq] at h; exact h.elim
    | true => rw [hq] at h; exact hk _ _ (lt_of_hget ho) h
theorem vkey_mono {ks : KS} {d : D} {k k' : Value → Prop} (hk : ∀ v, k v → k' v) (h : vkey ks d k) : vkey ks d k' := by
  unfold vkey at h ⊢
  cases ks <;> cases d <;> simp only at h ⊢
  · exact ⟨h.1, hk _ h.2⟩
  · rename_i q _ n
    cases hq : (keq _ _ && keq q .i64) with
    | false => rw [hq] at h; exact h.elim
    | true => rw [hq] at h; exact ⟨h.1, hk _ h.2⟩
  · rename_i m cs
    cases hq : (cs.all isI64 && Nat.beq cs.length m) with
    | false => rw [hq] at h; exact h.elim
    | true =>
      rw [hq] at h
      simp only [cond_true, rngL_iff] at h ⊢
      exact ⟨h.1, hk _ h.2⟩
theorem velem_mono {ek : EK} {d : D} {k k' : (Nat → Int) → Prop} (hk : ∀ v, k v → k' v) (h : velem ek d k) : velem ek d k' := by
  unfold velem at h ⊢
  cases ek <;> cases d <;> simp only at h ⊢ <;> try exact hk _ h
  rename_i m cs
  cases hq : (cs.all isI64 && Nat.beq cs.length m) with
  | false => rw [hq] at h; exact h.elim
  | true => rw [hq] at h; exact hk _ h
theorem vsrc_congr (h : hget H = hget H') (es : Nat) (x : D) (k : Nat → (Nat → Nat → D) → Prop) : vsrc es H x k = vsrc es H' x k := by
  unfold vsrc
  rw [h]
theorem vsrc_mono {es : Nat} {x : D} {k k' : Nat → (Nat → Nat → D) → Prop} (hk : ∀ m g, k m g → k' m g) (h : vsrc es H x k) : vsrc es H x k' := by
  obtain ⟨m, gx, h1, h2⟩ := Det2.vsrc h
  exact h2 _ (hk _ _ h1)
theorem vappend_pad {T : Ty} {nid : Nat} {s x : D} {q : Nat} {k k' : D → HL → Prop} (hn : nid < H.length) (hk : ∀ d H', k d H' → k' d (pad q H')) (h : vappend T nid s x H k) : vappend T nid s x (pad q H) k' := by
  unfold vappend at h ⊢
  cases T <;> simp only at h ⊢
  rename_i el es eb
  rw [vsrc_congr (pad_get q H)]
  refine vsrc_mono (fun m gx h2 => ?_) h
  clear h
  have h := h2
  clear h2
  cases s <;> simp only at h ⊢
  · rename_i o n
    rw [pad_get]
    cases ho : hget H o with
    | none => rw [ho] at h; exact h.elim
    | some ob =>
      rw [ho] at h
      cases ob <;> simp only at h ⊢
      rename_i e s0 n0 g
      cases hq : (Nat.beq e el && Nat.beq s0 es && Nat.blt 0 eb && ownNe x o) with
      | false => rw [hq] at h; exact h.elim
      | true =>
        rw [hq] at h
        simp only [cond_true] at h ⊢
        rw [pad_set (lt_of_hget ho)]
        exact ⟨h.1, hk _ _ h.2⟩
  · cases hq : Nat.blt 0 eb with
    | false => rw [hq] at h; exact h.elim
    | true =>
      rw [hq] at h
      simp only [cond_true] at h ⊢
      rw [pad_new hn]
      exact ⟨h.1, hk _ _ h.2⟩
theorem vsame_pad {C : Cx} {T : Ty} {x : D} {q : Nat} {k k' : D → HL → Prop} (hk : ∀ d H', k d H' → k' d (pad q H')) (h : vsame C T x H k) : vsame C T x (pad q H) k' := by
  have e : ownB C T x (pad q H) = ownB C T x H := by unfold ownB; simp only [pad_get]
  unfold vsame at h ⊢
  rw [e]
  cases ha : ownB C T x H with
  | none => rw [ha] at h; exact h.elim
  | some y =>
    rw [ha] at h
    have hlt : y.1.1 < H.length := by
      unfold ownB at ha
      split at ha
      · split at ha
        · split at ha
          · rename_i ho
            cases ha
            exact lt_of_hget ho
          · cases ha
        · cases ha
      · cases ha
    exact ⟨h.1, by have := hk _ _ h.2; rw [← pad_set hlt] at this; exact this⟩
theorem vappendS_pad {C : Cx} {T : Ty} {s x : D} {q : Nat} {k k' : D → HL → Prop} (hk : ∀ d H', k d H' → k' d (pad q H')) (h : vappendS C T s x H k) : vappendS C T s x (pad q H) k' := by
  have e : appS C T s x (pad q H) = appS C T s x H := by unfold appS; simp only [pad_get]
  unfold vappendS at h ⊢
  rw [e]
  cases ha : appS C T s x H with
  | none => rw [ha] at h; exact h.elim
  | some y =>
    rw [ha] at h
    have hlt : y.1.1 < H.length := by
      unfold appS at ha
      split at ha
      · split at ha
        · split at ha
          · rename_i ho
            cases hq : Nat.beq _ _ with
            | false => rw [hq] at ha; cases ha
            | true =>
              rw [hq] at ha
              simp only [cond_true, Option.some.injEq] at ha
              subst ha
              exact lt_of_hget ho
          · cases ha
        · cases ha
      · cases ha
    exact ⟨h.1, by have := hk _ _ h.2; rw [← pad_set hlt] at this; exact this⟩
theorem nestD_congr {H H' : HL} (h : hget H = hget H') (d : D) : nestD H d = nestD H' d := by
  unfold nestD
  rw [h]
theorem nestP_congr {H H' : HL} (h : hget H = hget H') : ∀ ps, nestP H ps = nestP H' ps
  | [] => rfl
  | p :: r => by unfold nestP; rw [nestD_congr h, nestP_congr h r]
theorem pad_dead {q : Nat} {H : HL} : ∀ {ids : List Nat}, (∀ o, o ∈ ids → o < H.length) → deadH (pad q H) ids = pad q (deadH H ids)
  | [], _ => rfl
  | o :: r, h => by
    unfold deadH
    rw [pad_dead fun i hi => h i (by simp [hi]), pad_set (by rw [deadH_len]; exact h o (by simp))]
theorem vnest_pad {nid el es len q : Nat} {H : HL} {ps : List (Nat × D)} {k k' : D → HL → Prop} (hn : nid < H.length) (hk : ∀ d H', k d H' → k' d (pad q H')) (h : vnest nid el es len H ps k) : vnest nid el es len (pad q H) ps k' := by
  unfold vnest at h ⊢
  rw [nestP_congr (pad_get q H) ps]
  cases hp : nestP H ps with
  | none => rw [hp] at h; exact h.elim
  | some x =>
    rw [hp] at h
    simp only [fzp_iff] at h ⊢
    have hlt : ∀ o, o ∈ x.1 → o < H.length := fun o ho => by
      obtain ⟨_, _, _, _, h⟩ := (nestP_spec hp).2.2 o ho
      exact lt_of_hget h
    obtain ⟨cs, h1, h2⟩ := Det.vfill (place := fun i => some (i * es, es)) x.2 (List.replicate (len * es) .top) _ h
    refine h2 _ ?_
    rw [fzl_iff] at h1 ⊢
    cases hq : (cs.all okb && Nat.beq cs.length (len * es)) with
    | false => rw [hq] at h1; exact h1.elim
    | true =>
      rw [hq] at h1
      simp only [cond_true] at h1 ⊢
      rw [pad_dead hlt, pad_new (by rw [deadH_len]; exact hn)]
      exact hk _ _ h1
theorem vwr_pad {C : Cx} {nid : Nat} {o : Oper} {e : Env} {q : Nat} {k k' : D → HL → Prop} (hn : nid < H.length) (hk : ∀ d H', k d H' → k' d (pad q H')) (h : vwr C nid o e H k) : vwr C nid o e (pad q H) k' := by
  unfold vwr at h ⊢
  cases hop : o.op <;> simp only [hop] at h ⊢
  case alloc t =>
    cases hz : C.zero t with
    | none => rw [hz] at h; exact h.elim
    | some cs => rw [hz] at h; simp only at h ⊢; rw [pad_new hn]; exact hk _ _ h
  case box t x =>
    rw [fz_iff] at h ⊢
    cases h1 : (cellsD (ev e x)).all one with
    | false => rw [h1] at h; exact h.elim
    | true => rw [h1] at h; simp only [cond_true] at h ⊢; rw [pad_new hn]; exact hk _ _ h
  case buildSlice t len ps =>
    cases hT : C.ty t <;> rw [hT] at h <;> simp only at h ⊢
    rename_i el es eb
    cases hq0 : (Nat.ble (len * es) 16777216 && Nat.ble len 16777216) with
    | false => rw [hq0] at h; exact h.elim
    | true =>
      rw [hq0] at h
      simp only [cond_true, fzp_iff] at h ⊢
      cases hown : (evs e ps).any ownP with
      | true => rw [hown] at h; exact vnest_pad hn hk h
      | false =>
      rw [hown] at h
      simp only [cond_false] at h ⊢
      obtain ⟨cs, h1, h2⟩ := Det.vfill (place := fun i => some (i * es, es)) (evs e ps) (List.replicate (len * es) .top) _ h
      refine h2 _ ?_
      rw [fzl_iff] at h1 ⊢
      cases hq : (cs.all okb && Nat.beq cs.length (len * es)) with
      | false => rw [hq] at h1; exact h1.elim
      | true => rw [hq] at h1; simp only [cond_true] at h1 ⊢; rw [pad_new hn]; exact hk _ _ h1
  case store t x y =>
    rw [fz_iff] at h ⊢
    exact vstore_pad (fun H' h => hk _ _ h) h
  case makeSlice t l c =>
    cases hT : C.ty t <;> rw [hT] at h <;> simp only at h ⊢
    split at h
    · rename_i q1 n q2 m hl hc
      cases hz : C.zero _ with
      | none => rw [hz] at h; exact h.elim
      | some z =>
        rw [hz] at h
        simp only at h ⊢
        cases hq : (z.all okb && Nat.beq z.length _) with
        | false => rw [hq] at h; exact h.elim
        | true =>
          rw [hq] at h
          simp only [cond_true] at h ⊢
          rw [pad_new hn]
          exact ⟨h.1, hk _ _ h.2⟩
    · exact h.elim
  case makeMap t r =>
    cases r <;> simp only at h ⊢
    unfold vmakeMap at h ⊢
    cases hT : C.ty t <;> rw [hT] at h <;> simp only at h ⊢
    rw [pad_new hn]
    exact hk _ _ h
  case mapEntry t m x => exact vmap_pad (fun o M ho h => vkey_mono (fun v h => by rw [pad_set ho]; exact hk _ _ h) h) h
  case entryStore t m x y =>
    refine vmap_pad (fun o M ho h => ?_) h
    cases hs : ev e x <;> rw [hs] at h <;> simp only at h ⊢
    cases hq : Nat.beq _ o with
    | false => rw [hq] at h; exact h.elim
    | true =>
      rw [hq] at h
      simp only [cond_true] at h ⊢
      exact velem_mono (fun g h => by rw [pad_set ho]; exact ⟨h.1, hk _ _ h.2⟩) h
  case mapUpdate t m x y => exact vmap_pad (fun o M ho h => vkey_mono (fun v h => velem_mono (fun g h => by rw [pad_set ho]; exact hk _ _ h) h) h) h
  case insert t m x y => exact vmap_pad (fun o M ho h => vkey_mono (fun v h => velem_mono (fun g h => by rw [pad_set ho]; exact hk _ _ h) h) h) h
  case convert s t x =>
    cases hst : Nat.beq s t with
    | true =>
      simp only [hst, cond_true] at h ⊢
      exact vsame_pad hk h
    | false =>
    simp only [hst, cond_false] at h ⊢
    unfold vbytes at h ⊢
    cases hb : bytesOf C (C.ty s) (C.ty t) (ev e x) with
    | none => rw [hb] at h; exact h.elim
    | some y => rw [hb] at h; simp only at h ⊢; rw [pad_new hn]; exact ⟨h.1, hk _ _ h.2⟩
  case call c =>
    split at h
    · split at h
      · rename_i s x t t' hargs hats
        cases hq : Nat.beq t t' with
        | false =>
          rw [hq] at h
          simp only [cond_false] at h
          cases hS : C.ty t' <;> rw [hS] at h <;> first | exact h.elim | skip
          have := vappendS_pad hk h
          simp only [*, cond_false]
        | true =>
          rw [hq] at h
          simp only [cond_true] at h
          have := vappend_pad hn hk h
          simp only [*, cond_true]
      · exact h.elim
    · exact h.elim
end
end Go.V
end
