/-
  A small logic of our own, part 10: regions that draw their order: one walk in the order of the text, with the footprints of all operations; what the walk has found.
-/
import Derived.Test.YtbkehkiflfhpfaaVr
set_option linter.unusedVariables false
set_option linter.unusedSimpArgs false
namespace Go.V

def memB (i : Nat) : List Nat → Bool
  | [] => false
  | j :: r => bif Nat.beq i j then true else memB i r
theorem memB_iff (i : Nat) : ∀ l, memB i l = true ↔ i ∈ l
  | [] => by simp [memB]
  | j :: r => by
    simp only [memB, List.mem_cons]
    cases h : Nat.beq i j with
    | true => obtain rfl := Nat.eq_of_beq_eq_true h; simp
    | false =>
      have : i ≠ j := fun e => by subst e; rw [Nat.beq_refl] at h; cases h
      simp [this, memB_iff i r]

def resE (l : List Nat) (e : Env) : Env := fun j => bif memB j l then e j else .top
def resH (fp : List Nat) : Nat → HL → HL
  | _, [] => []
  | i, x :: r => (bif memB i fp then x else none) :: resH fp (i + 1) r
def mergeH (ws : List Nat) : Nat → HL → HL → HL
  | _, [], _ => []
  | _, _ :: _, [] => []
  | i, x :: r, y :: s => (bif memB i ws then y else x) :: mergeH ws (i + 1) r s
def keysOK (l : List Nat) : Nat → HL → Bool
  | _, [] => true
  | i, none :: r => keysOK l (i + 1) r
  | i, some _ :: r => memB i l && keysOK l (i + 1) r
def lenEq : HL → HL → Bool
  | [], [] => true
  | _ :: r, _ :: s => lenEq r s
  | _, _ => false
def allSome (H : HL) : List Nat → Bool
  | [] => true
  | i :: r => (match hget H i with | some _ => true | none => false) && allSome H r

theorem resH_get (fp : List Nat) : ∀ (H : HL) (i o : Nat), (resH fp i H).getD o none = bif memB (i + o) fp then H.getD o none else none
  | [], i, o => by simp [resH]
  | x :: r, i, 0 => by simp [resH]
  | x :: r, i, o + 1 => by
    have := resH_get fp r (i + 1) o
    simp only [resH, List.getD_cons_succ]
    rw [this, show i + 1 + o = i + (o + 1) by omega]
theorem resH_len (fp : List Nat) : ∀ (H : HL) (i : Nat), (resH fp i H).length = H.length
  | [], i => rfl
  | x :: r, i => by simp [resH, resH_len fp r]
theorem lenEq_len : ∀ {H H' : HL}, lenEq H H' = true → H'.length = H.length
  | [], [], _ => rfl
  | x :: r, y :: s, h => by simp [lenEq_len (H := r) (H' := s) (by simpa [lenEq] using h)]
  | [], _ :: _, h => by simp [lenEq] at h
  | _ :: _, [], h => by simp [lenEq] at h
theorem mergeH_get (ws : List Nat) : ∀ (H H' : HL) (i o : Nat), H'.length = H.length → (mergeH ws i H H').getD o none = bif memB (i + o) ws then H'.getD o none else H.getD o none
  | [], [], i, o, _ => by simp [mergeH]
  | x :: r, y :: s, i, 0, _ => by
    simp only [mergeH, List.getD_cons_zero, Nat.add_zero]
  | x :: r, y :: s, i, o + 1, h => by
    have := mergeH_get ws r s (i + 1) o (by simpa using h)
    simp only [mergeH, List.getD_cons_succ]
    rw [this, show i + 1 + o = i + (o + 1) by omega]
  | [], _ :: _, _, _, h => by simp at h
  | _ :: _, [], _, _, h => by simp at h
theorem mergeH_len (ws : List Nat) : ∀ (H H' : HL) (i : Nat), H'.length = H.length → (mergeH ws i H H').length = H.length
  | [], [], i, _ => rfl
  | x :: r, y :: s, i, h => by simp [mergeH, mergeH_len ws r s (i + 1) (by simpa using h)]
  | [], _ :: _, _, h => by simp at h
  | _ :: _, [], _, h => by simp at h
theorem keysOK_spec {l : List Nat} : ∀ {H : HL} {i : Nat}, keysOK l i H = true → ∀ o, H.getD o none ≠ none → i + o ∈ l
  | [], i, _, o, h => by simp at h
  | none :: r, i, hk, 0, h => by simp at h
  | some _ :: r, i, hk, 0, h => by
    simp only [keysOK, Bool.and_eq_true] at hk
    exact (memB_iff _ _).1 hk.1
  | none :: r, i, hk, o + 1, h => by
    have := keysOK_spec (H := r) (i := i + 1) (by simpa [keysOK] using hk) o (by simpa using h)
    rwa [show i + (o + 1) = i + 1 + o by omega]
  | some _ :: r, i, hk, o + 1, h => by
    simp only [keysOK, Bool.and_eq_true] at hk
    have := keysOK_spec (H := r) (i := i + 1) hk.2 o (by simpa using h)
    rwa [show i + (o + 1) = i + 1 + o by omega]
theorem allSome_spec {H : HL} : ∀ {l : List Nat}, allSome H l = true → ∀ o ∈ l, hget H o ≠ none
  | i :: r, h, o, ho => by
    simp only [allSome, Bool.and_eq_true] at h
    rcases List.mem_cons.1 ho with rfl | ho
    · intro e; rw [e] at h; simp at h
    · exact allSome_spec h.2 o ho
/-- The heap behind a call: what the call looks at, and what is new, is as the call leaves it. -/
def mergeC (fp : List Nat) : Nat → HL → HL → HL
  | _, [], s => s
  | _, _ :: _, [] => []
  | i, x :: r, y :: s => (bif memB i fp then y else x) :: mergeC fp (i + 1) r s
theorem mergeC_get (fp : List Nat) : ∀ (H H' : HL) (i o : Nat), H.length ≤ H'.length → (mergeC fp i H H').getD o none = if o < H.length then (bif memB (i + o) fp then H'.getD o none else H.getD o none) else H'.getD o none
  | [], s, i, o, _ => by simp [mergeC]
  | x :: r, y :: s, i, 0, _ => by simp [mergeC]
  | x :: r, y :: s, i, o + 1, h => by
    have := mergeC_get fp r s (i + 1) o (by simpa using h)
    simp only [mergeC, List.getD_cons_succ, List.length_cons]
    rw [this, show i + 1 + o = i + (o + 1) by omega]
    by_cases ho : o < r.length
    · rw [if_pos ho, if_pos (by omega)]
    · rw [if_neg ho, if_neg (by omega)]
  | _ :: _, [], _, _, h => by simp at h
theorem mergeC_len (fp : List Nat) : ∀ (H H' : HL) (i : Nat), H.length ≤ H'.length → (mergeC fp i H H').length = H'.length
  | [], s, i, _ => by simp [mergeC]
  | x :: r, y :: s, i, h => by simp [mergeC, mergeC_len fp r s (i + 1) (by simpa using h)]
  | _ :: _, [], _, h => by simp at h

/-- The objects that a value names. -/
def idl : Nat → D → List Nat
  | 0, _ => []
  | f + 1, d => match d with
    | .ptr o _ => [o]
    | .own o _ => [o]
    | .optr o _ _ _ _ => [o]
    | .map o => [o]
    | .yld o => [o]
    | .stamp o _ => [o]
    | .agg l => l.flatMap (idl f)
    | .tup l => l.flatMap (idl f)
    | .fn _ a b => a.flatMap (idl f) ++ b.flatMap (idl f)
    | .iface _ d => idl f d
    | _ => []
def obl : Option Ob → List Nat
  | some (.row cs) => cs.flatMap (idl 3)
  | _ => []
def foot (o : Oper) (e : Env) (H : HL) : List Nat := match o.op with
  | .load _ x => idl 1 (ev e x)
  | .store _ x _ => idl 1 (ev e x)
  | .indexAddr _ x _ => idl 1 (ev e x)
  | .convert _ _ x => idl 1 (ev e x)
  | .slice _ x _ _ _ => idl 1 (ev e x)
  | .lookup _ x _ _ => idl 1 (ev e x)
  | .mapEntry _ x _ => idl 1 (ev e x)
  | .entryStore _ x _ _ => idl 1 (ev e x)
  | .mapUpdate _ x _ _ => idl 1 (ev e x)
  | .insert _ x _ _ => idl 1 (ev e x)
  | .call c => match c.callee with
    | .value f => let l := (f :: c.args.toList).flatMap fun x => idl 3 (ev e x); let l2 := l.flatMap fun o => obl (hget H o); l ++ l2 ++ l2.flatMap fun o => obl (hget H o)
    | _ => c.args.toList.flatMap fun x => idl 3 (ev e x)
  | _ => []
def fznl (l : List Nat) : (List Nat → Prop) → Prop := @List.rec Nat (fun _ => (List Nat → Prop) → Prop) (fun k => k []) (fun n _ ih k => ih fun r => k (n :: r)) l
theorem fznl_iff : ∀ (l : List Nat) (k : List Nat → Prop), fznl l k ↔ k l
  | [], k => Iff.rfl
  | d :: r, k => by show fznl r (fun r => k (d :: r)) ↔ _; rw [fznl_iff]

/-- Does operation j surely come ahead of i? -/
def reach : Nat → List Oper → Nat → Nat → Bool
  | 0, _, _, _ => false
  | f + 1, ops, j, i => match ops[i]? with
    | some o => o.after.toList.any (fun e => Region.binds .any e && Nat.beq e.on j) || o.after.toList.any (fun e => Region.binds .any e && reach f ops j e.on)
    | none => false
def disj : List Nat → List Nat → Bool
  | [], _ => true
  | i :: r, l => (bif memB i l then false else true) && disj r l
theorem disj_spec : ∀ {l l' : List Nat}, disj l l' = true → ∀ o ∈ l, o ∉ l'
  | i :: r, l', h, o, ho => by
    simp only [disj, Bool.and_eq_true] at h
    rcases List.mem_cons.1 ho with rfl | ho
    · intro hm; rw [(memB_iff _ _).2 hm] at h; simp at h
    · exact disj_spec h.2 o ho
/-- What was walked: an operation's number, what it looks at, what it writes. -/
abbrev Hist := List (Nat × List Nat × List Nat)
def Pair (ops : List Oper) (j : Nat) (fj wj : List Nat) (k : Nat) (fp ws : List Nat) : Prop :=
  reach 5 ops j k = true ∨ ((∀ o, o ∈ wj → o ∉ fp ∧ o ∉ ws) ∧ ∀ o, o ∈ fj → o ∉ ws)
def indep (ops : List Oper) (k : Nat) (fp ws : List Nat) : Hist → Bool
  | [] => true
  | x :: r => ((disj x.2.2 fp && disj x.2.2 ws && disj x.2.1 ws) || reach 5 ops x.1 k) && indep ops k fp ws r
theorem indep_spec {ops : List Oper} {k : Nat} {fp ws : List Nat} : ∀ {h : Hist}, indep ops k fp ws h = true → ∀ x ∈ h, Pair ops x.1 x.2.1 x.2.2 k fp ws
  | [], _, x, hx => by cases hx
  | y :: r, h, x, hx => by
    simp only [indep, Bool.and_eq_true, Bool.or_eq_true] at h
    rcases List.mem_cons.1 hx with rfl | hx
    · rcases h.1 with ⟨⟨h1, h2⟩, h3⟩ | h1
      · exact .inr ⟨fun o ho => ⟨disj_spec h1 o ho, disj_spec h2 o ho⟩, fun o ho => disj_spec h3 o ho⟩
      · exact .inl h1
    · exact indep_spec h.2 x hx

/-- A call that may turn objects, or panic. -/
def lateC (C : Cx) (o : Oper) (e : Env) : Option (CRule × List D) := match o.op with
  | .call c => match c.callee with
    | .value f => match ev e f with
      | .fn g fs cs => match C.call g with
        | some r => some (r, fs ++ c.args.toList.map (ev e) ++ cs)
        | none => none
      | _ => none
    | _ => none
  | _ => none
def nilB : List Nat → Bool
  | [] => true
  | _ => false
/-- The temporaries that no operation of the region writes. -/
def panE (ops : List Oper) (e : Env) : Env := fun j => bif ops.any (fun o => match o.dst with | some d => Nat.beq d j | none => false) then .top else e j
abbrev Ih := Nat → Hist → St → Prop
def vdrun (C : Cx) (N : Nat) (oa : Array Oper) (ops : List Oper) (nid i : Nat) (hist : Hist) (o : Oper) (s : St) (K : Hist → St → Prop) : Prop := match s with
  | ⟨e0, H0, df0⟩ =>
    fznl (foot o e0 H0) fun fp => bif isWr o.op then
      vwr C nid o (resE (o.looksAt oa) e0) (resH fp 0 H0) fun d HR =>
        bif lenEq H0 HR && keysOK (nid :: fp) 0 HR && allSome H0 fp && indep ops i fp (nid :: fp) hist then
          vput N e0 o.dst d fun e => fzh (mergeH (nid :: fp) 0 H0 HR) fun H => K ((i, fp, nid :: fp) :: hist) ⟨e, H, df0⟩
        else False
    else vsr C o (resE (o.looksAt oa) e0) (resH fp 0 H0) fun d =>
      bif indep ops i fp [] hist then vput N e0 o.dst d fun e => K ((i, fp, []) :: hist) ⟨e, H0, df0⟩ else False
theorem vdrun_eq (C : Cx) (N : Nat) (oa : Array Oper) (ops : List Oper) (nid i : Nat) (hist : Hist) (o : Oper) (s : St) (K : Hist → St → Prop) : vdrun C N oa ops nid i hist o s K = (fznl (foot o s.e s.H) fun fp => bif isWr o.op then
    vwr C nid o (resE (o.looksAt oa) s.e) (resH fp 0 s.H) fun d HR =>
      bif lenEq s.H HR && keysOK (nid :: fp) 0 HR && allSome s.H fp && indep ops i fp (nid :: fp) hist then
        vput N s.e o.dst d fun e => fzh (mergeH (nid :: fp) 0 s.H HR) fun H => K ((i, fp, nid :: fp) :: hist) ⟨e, H, s.df⟩
      else False
  else vsr C o (resE (o.looksAt oa) s.e) (resH fp 0 s.H) fun d =>
    bif indep ops i fp [] hist then vput N s.e o.dst d fun e => K ((i, fp, []) :: hist) ⟨e, s.H, s.df⟩ else False) := by cases s; rfl
def vdskip (N : Nat) (i : Nat) (hist : Hist) (o : Oper) (s : St) (K : Hist → St → Prop) : Prop := match s with
  | ⟨e0, H0, df0⟩ => vput N e0 o.dst (.tup []) fun e => K ((i, [], []) :: hist) ⟨e, H0, df0⟩
theorem vdskip_eq (N : Nat) (i : Nat) (hist : Hist) (o : Oper) (s : St) (K : Hist → St → Prop) : vdskip N i hist o s K = (vput N s.e o.dst (.tup []) fun e => K ((i, [], []) :: hist) ⟨e, s.H, s.df⟩) := by cases s; rfl
def vdcallB (N : Nat) (ops : List Oper) (E0 : Env) (K : VX → St → Prop) (i : Nat) (o : Oper) (ih : Hist → St → Prop) (hist : Hist) (s : St) (fp : List Nat) (r : Res) (H' : HL) : Prop := match s with
  | ⟨e0, H0, df0⟩ =>
    fzh H' fun H' => bif Nat.ble H0.length H'.length && keysOK fp 0 (H'.take H0.length) then (match r with
      | .ret d => fz d fun d => vput N e0 o.dst d fun e => fzh (mergeC fp 0 H0 H') fun H2 => ih ((i, fp, fp) :: hist) ⟨e, H2, df0⟩
      | .pan d => bif hist.all (fun x => nilB x.2.2 || reach 5 ops x.1 i) then fzh (mergeC fp 0 H0 H') fun H2 => K (.panic d) ⟨panE ops E0, H2, df0⟩ else False) else False
theorem vdcallB_eq (N : Nat) (ops : List Oper) (E0 : Env) (K : VX → St → Prop) (i : Nat) (o : Oper) (ih : Hist → St → Prop) (hist : Hist) (s : St) (fp : List Nat) (r : Res) (H' : HL) : vdcallB N ops E0 K i o ih hist s fp r H' = (fzh H' fun H' => bif Nat.ble s.H.length H'.length && keysOK fp 0 (H'.take s.H.length) then (match r with
    | .ret d => fz d fun d => vput N s.e o.dst d fun e => fzh (mergeC fp 0 s.H H') fun H2 => ih ((i, fp, fp) :: hist) ⟨e, H2, s.df⟩
    | .pan d => bif hist.all (fun x => nilB x.2.2 || reach 5 ops x.1 i) then fzh (mergeC fp 0 s.H H') fun H2 => K (.panic d) ⟨panE ops E0, H2, s.df⟩ else False) else False) := by cases s; rfl
def histLt (n : Nat) (hist : Hist) : Bool := hist.all fun x => x.2.1.all (fun o => Nat.blt o n) && x.2.2.all fun o => Nat.blt o n
def vdcall (C : Cx) (N : Nat) (oa : Array Oper) (ops : List Oper) (E0 : Env) (K : VX → St → Prop) (i : Nat) (o : Oper) (rest : List (Nat × Oper)) (ih : Hist → St → Prop) (hist : Hist) (s : St) : Prop := match s with
  | ⟨e0, H0, df0⟩ =>
    bif rest.all (fun x => reach 5 ops i x.1) then
      fznl (foot o e0 H0) fun fp => bif allSome H0 fp && indep ops i fp fp hist && histLt H0.length hist then (match lateC C o (resE (o.looksAt oa) e0) with
        | some (r, ds) => fzl ds fun ds => fzh (resH fp 0 H0) fun H => r ds H (vdcallB N ops E0 K i o ih hist ⟨e0, H0, df0⟩ fp)
        | none => False) else False
    else False
theorem vdcall_eq (C : Cx) (N : Nat) (oa : Array Oper) (ops : List Oper) (E0 : Env) (K : VX → St → Prop) (i : Nat) (o : Oper) (rest : List (Nat × Oper)) (ih : Hist → St → Prop) (hist : Hist) (s : St) : vdcall C N oa ops E0 K i o rest ih hist s = (bif rest.all (fun x => reach 5 ops i x.1) then
    fznl (foot o s.e s.H) fun fp => bif allSome s.H fp && indep ops i fp fp hist && histLt s.H.length hist then (match lateC C o (resE (o.looksAt oa) s.e) with
      | some (r, ds) => fzl ds fun ds => r ds (resH fp 0 s.H) (vdcallB N ops E0 K i o ih hist s fp)
      | none => False) else False
  else False) := by
  cases s
  simp only [vdcall, fzh_eq]
def more (o : Oper) (c : Nat) : Nat := bif isWr o.op then c + 1 else c
def vdone (C : Cx) (N : Nat) (oa : Array Oper) (ops : List Oper) (E0 : Env) (K : VX → St → Prop) (x : Nat × Oper) (rest : List (Nat × Oper)) (ih : Ih) (c : Nat) (hist : Hist) (s : St) : Prop := match s with
  | ⟨e0, H0, df0⟩ => match lateC C x.2 e0 with
    | some _ => vdcall C N oa ops E0 K x.1 x.2 rest (fun h ⟨e0, H0, df0⟩ => ih c h ⟨e0, H0, df0⟩) hist ⟨e0, H0, df0⟩
    | none => vdrun C N oa ops c x.1 hist x.2 ⟨e0, H0, df0⟩ fun h ⟨e0, H0, df0⟩ => ih (more x.2 c) h ⟨e0, H0, df0⟩
theorem vdone_eq (C : Cx) (N : Nat) (oa : Array Oper) (ops : List Oper) (E0 : Env) (K : VX → St → Prop) (x : Nat × Oper) (rest : List (Nat × Oper)) (ih : Ih) (c : Nat) (hist : Hist) (s : St) : vdone C N oa ops E0 K x rest ih c hist s = (match lateC C x.2 s.e with
  | some _ => vdcall C N oa ops E0 K x.1 x.2 rest (fun h s => ih c h s) hist s
  | none => vdrun C N oa ops c x.1 hist x.2 s fun h s => ih (more x.2 c) h s) := by cases s; rfl
def vdrB (C : Cx) (N : Nat) (oa : Array Oper) (ops : List Oper) (E0 : Env) (K : VX → St → Prop) (x : Nat × Oper) (rest : List (Nat × Oper)) (ih : Ih) (c : Nat) (hist : Hist) (s : St) : Prop := match s with
  | ⟨e0, H0, df0⟩ => match x.2.guard with
      | none => vdone C N oa ops E0 K x rest ih c hist ⟨e0, H0, df0⟩
      | some (j, want) => match gslot ops j with
        | none => False
        | some g => match e0 g with
          | .tt => bif want then vdone C N oa ops E0 K x rest ih c hist ⟨e0, H0, df0⟩ else vdskip N x.1 hist x.2 ⟨e0, H0, df0⟩ fun h ⟨e0, H0, df0⟩ => ih (more x.2 c) h ⟨e0, H0, df0⟩
          | .ff => bif want then vdskip N x.1 hist x.2 ⟨e0, H0, df0⟩ fun h ⟨e0, H0, df0⟩ => ih (more x.2 c) h ⟨e0, H0, df0⟩ else vdone C N oa ops E0 K x rest ih c hist ⟨e0, H0, df0⟩
          | .bool b =>
            (b = true → bif want then vdone C N oa ops E0 K x rest ih c hist ⟨upd e0 g .tt, H0, df0⟩ else vdskip N x.1 hist x.2 ⟨upd e0 g .tt, H0, df0⟩ fun h ⟨e0, H0, df0⟩ => ih (more x.2 c) h ⟨e0, H0, df0⟩) ∧
            (b = false → bif want then vdskip N x.1 hist x.2 ⟨upd e0 g .ff, H0, df0⟩ fun h ⟨e0, H0, df0⟩ => ih (more x.2 c) h ⟨e0, H0, df0⟩ else vdone C N oa ops E0 K x rest ih c hist ⟨upd e0 g .ff, H0, df0⟩)
          | .tup _ => vdskip N x.1 hist x.2 ⟨e0, H0, df0⟩ fun h ⟨e0, H0, df0⟩ => ih (more x.2 c) h ⟨e0, H0, df0⟩
          | _ => False
theorem vdrB_eq (C : Cx) (N : Nat) (oa : Array Oper) (ops : List Oper) (E0 : Env) (K : VX → St → Prop) (x : Nat × Oper) (rest : List (Nat × Oper)) (ih : Ih) (c : Nat) (hist : Hist) (s : St) : vdrB C N oa ops E0 K x rest ih c hist s = (match x.2.guard with
    | none => vdone C N oa ops E0 K x rest ih c hist s
    | some (j, want) => match gslot ops j with
      | none => False
      | some g => match s.e g with
        | .tt => bif want then vdone C N oa ops E0 K x rest ih c hist s else vdskip N x.1 hist x.2 s fun h s => ih (more x.2 c) h s
        | .ff => bif want then vdskip N x.1 hist x.2 s fun h s => ih (more x.2 c) h s else vdone C N oa ops E0 K x rest ih c hist s
        | .bool b =>
          (b = true → bif want then vdone C N oa ops E0 K x rest ih c hist ⟨upd s.e g .tt, s.H, s.df⟩ else vdskip N x.1 hist x.2 ⟨upd s.e g .tt, s.H, s.df⟩ fun h s => ih (more x.2 c) h s) ∧
          (b = false → bif want then vdskip N x.1 hist x.2 ⟨upd s.e g .ff, s.H, s.df⟩ fun h s => ih (more x.2 c) h s else vdone C N oa ops E0 K x rest ih c hist ⟨upd s.e g .ff, s.H, s.df⟩)
        | .tup _ => vdskip N x.1 hist x.2 s fun h s => ih (more x.2 c) h s
        | _ => False) := by cases s; rfl
def vdr (C : Cx) (N : Nat) (oa : Array Oper) (ops : List Oper) (E0 : Env) (K : VX → St → Prop) (l : List (Nat × Oper)) : Ih := @List.rec (Nat × Oper) (fun _ => Ih) (fun _ _ s => K .normal s) (fun x rest ih => vdrB C N oa ops E0 K x rest ih) l
theorem vdr_cons (C : Cx) (N : Nat) (oa : Array Oper) (ops : List Oper) (E0 : Env) (K : VX → St → Prop) (x : Nat × Oper) (rest : List (Nat × Oper)) (c : Nat) (hist : Hist) (s : St) :
    vdr C N oa ops E0 K (x :: rest) c hist s = vdrB C N oa ops E0 K x rest (vdr C N oa ops E0 K rest) c hist s := rfl

structure Rec where
  e : Env
  H : HL
  e1 : Env
  ex : Bool
  cl : Bool
  d : D
  fp : List Nat
  ws : List Nat
  HR : HL
  e2 : Env
  H2 : HL

structure RecOK (C : Cx) (N : Nat) (oa : Array Oper) (nid : Nat) (o : Oper) (r : Rec) : Prop where
  ref : ∀ j S w μ v, R S w μ (r.e j) v → R S w μ (r.e1 j) v
  guard : ∀ (a : Act), (∀ j, j ∈ o.looksAt oa → ∃ S w μ, R S w μ (r.e j) (a.tmps.getD j undef)) → Region.wanted o (yielded oa a.tmps) = r.ex
  upd : ∀ j, r.e2 j = if o.dst = some j then r.d else r.e1 j
  dst : ∀ j, o.dst = some j → j < N
  run : (r.cl = false ∧ r.ex = false ∧ r.d = .tup [] ∧ r.ws = [] ∧ r.H2 = r.H) ∨
    (r.cl = false ∧ r.ex = true ∧ isWr o.op = false ∧ (∀ k : D → Prop, k r.d → vsr C o (resE (o.looksAt oa) r.e1) (resH r.fp 0 r.H) k) ∧ r.ws = [] ∧ r.H2 = r.H) ∨
    (r.cl = false ∧ r.ex = true ∧ isWr o.op = true ∧ (∀ k : D → HL → Prop, k r.d r.HR → vwr C nid o (resE (o.looksAt oa) r.e1) (resH r.fp 0 r.H) k) ∧ r.ws = nid :: r.fp ∧ r.HR.length = r.H.length ∧
      (∀ o, hget r.HR o ≠ none → o ∈ r.ws) ∧ (∀ o ∈ r.fp, hget r.H o ≠ none) ∧ r.H2 = mergeH r.ws 0 r.H r.HR) ∨
    (r.cl = true ∧ r.H.length ≤ r.H2.length ∧ ∀ o, o ∉ r.ws → hget r.H2 o = hget r.H o)

/-- How many writers come ahead. -/
def rank : List (Nat × Oper) → Nat → Nat
  | _, 0 => 0
  | [], _ + 1 => 0
  | x :: l, m + 1 => more x.2 (rank l m)

/-- What the walk has found, up to an operation. -/
structure Wk (C : Cx) (N : Nat) (oa : Array Oper) (lo : List (Nat × Oper)) (B : Nat) (m : Nat) (st : Nat → St) (T : Nat → Rec) (hist : Hist) : Prop where
  chain : ∀ p, p < m → (T p).e = (st p).e ∧ (T p).H = (st p).H ∧ (T p).e2 = (st (p + 1)).e ∧ (T p).H2 = (st (p + 1)).H ∧ (st (p + 1)).df = (st p).df
  ok : ∀ p i o, p < m → lo[p]? = some (i, o) → RecOK C N oa (B + rank lo p) o (T p)
  pair : ∀ p q i k o o', p < q → q < m → lo[p]? = some (i, o) → lo[q]? = some (k, o') → Pair oa.toList i (T p).fp (T p).ws k (T q).fp (T q).ws
  hist : ∀ p i o, p < m → lo[p]? = some (i, o) → ∃ ws, (i, (T p).fp, ws) ∈ hist ∧ ((T p).cl = false → ws = (T p).ws)
  late : ∀ p q i k o o', p < m → p < q → (T p).cl = true → lo[p]? = some (i, o) → lo[q]? = some (k, o') → reach 5 oa.toList i k = true

section
variable {P : Program} {C : Cx} {RTT : RT} {N : Nat} {oa : Array Oper} {ops : List Oper} {o : Oper}

theorem vput_spec {e : Env} {dst : Option Nat} {d : D} {k : Env → Prop} (h : vput N e dst d k) : ∃ e', k e' ∧ (∀ j, e' j = if dst = some j then d else e j) ∧ ∀ j, dst = some j → j < N := by
  unfold vput at h
  cases dst with
  | none => exact ⟨e, h, fun j => by simp, fun j h => by cases h⟩
  | some i =>
    simp only at h
    cases hb : Nat.ble N i with
    | true => simp [hb] at h
    | false =>
      simp only [hb, cond_false] at h
      refine ⟨_, h, fun j => ?_, fun j hj => ?_⟩
      · simp only [V.upd, Option.some.injEq]
        cases hj : Nat.beq j i with
        | true => obtain rfl := Nat.eq_of_beq_eq_true hj; simp
        | false =>
          have : i ≠ j := fun e => by subst e; rw [Nat.beq_refl] at hj; cases hj
          simp [this]
      · injection hj with hj
        subst hj
        rcases Nat.lt_or_ge i N with h1 | h1
        · exact h1
        · rw [Nat.ble_eq_true_of_le h1] at hb; cases hb

/-- A record that was made at this state. -/
def RecAt (C : Cx) (N : Nat) (oa : Array Oper) (ops : List Oper) (nid i : Nat) (o : Oper) (hist : Hist) (e : Env) (H : HL) (r : Rec) : Prop :=
  r.e = e ∧ r.H = H ∧ r.cl = false ∧ RecOK C N oa nid o r ∧ ∀ x ∈ hist, Pair ops x.1 x.2.1 x.2.2 i r.fp r.ws

theorem vdrun_spec (hC : CallsOK P C RTT) {nid i : Nat} {hist : Hist} {e : Env} {s : St} {K : Hist → St → Prop} (href : ∀ j S w μ v, R S w μ (e j) v → R S w μ (s.e j) v)
    (hg : ∀ (a : Act), (∀ j, j ∈ o.looksAt oa → ∃ S w μ, R S w μ (e j) (a.tmps.getD j undef)) → Region.wanted o (yielded oa a.tmps) = true) (h : vdrun C N oa ops nid i hist o s K) :
    ∃ r : Rec, RecAt C N oa ops nid i o hist e s.H r ∧ K ((i, r.fp, r.ws) :: hist) ⟨r.e2, r.H2, s.df⟩ := by
  rw [vdrun_eq] at h
  rw [fznl_iff] at h
  generalize foot o s.e s.H = fp at h
  cases hw : isWr o.op with
  | true =>
    simp only [hw, cond_true] at h
    obtain ⟨d, HR, h1, h2⟩ := Det2.vwr C nid o _ _ _ h
    cases hq : (lenEq s.H HR && keysOK (nid :: fp) 0 HR && allSome s.H fp && indep ops i fp (nid :: fp) hist) with
    | false => simp [hq] at h1
    | true =>
      simp only [hq, cond_true] at h1
      simp only [Bool.and_eq_true] at hq
      obtain ⟨e2, k1, k2, k3⟩ := vput_spec h1
      rw [fzh_iff] at k1
      exact ⟨⟨e, s.H, s.e, true, false, d, fp, nid :: fp, HR, e2, mergeH (nid :: fp) 0 s.H HR⟩, ⟨rfl, rfl, rfl, ⟨href, hg, k2, k3, .inr (.inr (.inl ⟨rfl, rfl, hw, h2, rfl, lenEq_len hq.1.1.1, fun o ho => by
        have := keysOK_spec hq.1.1.2 o ho; rwa [Nat.zero_add] at this, allSome_spec hq.1.2, rfl⟩))⟩, indep_spec hq.2⟩, k1⟩
  | false =>
    simp only [hw, cond_false] at h
    obtain ⟨d, h1, h2⟩ := Det.vsr hC o _ _ _ h
    cases hq : indep ops i fp [] hist with
    | false => simp [hq] at h1
    | true =>
      simp only [hq, cond_true] at h1
      obtain ⟨e2, k1, k2, k3⟩ := vput_spec h1
      exact ⟨⟨e, s.H, s.e, true, false, d, fp, [], s.H, e2, s.H⟩, ⟨rfl, rfl, rfl, ⟨href, hg, k2, k3, .inr (.inl ⟨rfl, rfl, hw, h2, rfl, rfl⟩)⟩, indep_spec hq⟩, k1⟩

theorem vdskip_spec {nid i : Nat} {hist : Hist} {e : Env} {s : St} {K : Hist → St → Prop} (href : ∀ j S w μ v, R S w μ (e j) v → R S w μ (s.e j) v)
    (hg : ∀ (a : Act), (∀ j, j ∈ o.looksAt oa → ∃ S w μ, R S w μ (e j) (a.tmps.getD j undef)) → Region.wanted o (yielded oa a.tmps) = false) (h : vdskip N i hist o s K) :
    ∃ r : Rec, RecAt C N oa ops nid i o hist e s.H r ∧ K ((i, r.fp, r.ws) :: hist) ⟨r.e2, r.H2, s.df⟩ := by
  rw [vdskip_eq] at h
  obtain ⟨e2, k1, k2, k3⟩ := vput_spec h
  exact ⟨⟨e, s.H, s.e, false, false, .tup [], [], [], s.H, e2, s.H⟩, ⟨rfl, rfl, rfl, ⟨href, hg, k2, k3, .inl ⟨rfl, rfl, rfl, rfl, rfl⟩⟩, fun x _ => .inr ⟨fun o _ => ⟨List.not_mem_nil, List.not_mem_nil⟩, fun o _ => List.not_mem_nil⟩⟩, k1⟩

theorem looksAt_guard {j : Nat} {want : Bool} {g : Nat} (hg : o.guard = some (j, want)) (hs : gslot oa.toList j = some g) : g ∈ o.looksAt oa := by
  have h1 : ((oa[j]?).bind (·.dst)) = some g := by
    unfold gslot at hs
    simp only [Array.getElem?_toList] at hs
    cases ho : oa[j]? with
    | none => simp [ho] at hs
    | some o' => simpa [ho] using hs
  simp [Oper.looksAt, hg, h1]

/-- One operation in the walk: a record, or a call whose turn it is. -/
theorem vdr_step (hC : CallsOK P C RTT) {E0 : Env} {K : VX → St → Prop} {i : Nat} {rest : List (Nat × Oper)} {ih : Ih} {c : Nat} {hist : Hist} {s : St} (h : vdrB C N oa oa.toList E0 K (i, o) rest ih c hist s) :
    (∃ r : Rec, RecAt C N oa oa.toList c i o hist s.e s.H r ∧ ih (more o c) ((i, r.fp, r.ws) :: hist) ⟨r.e2, r.H2, s.df⟩) ∨
    (∃ e1, (∀ j S w μ v, R S w μ (s.e j) v → R S w μ (e1 j) v) ∧ (∀ (a : Act), (∀ j, j ∈ o.looksAt oa → ∃ S w μ, R S w μ (s.e j) (a.tmps.getD j undef)) → Region.wanted o (yielded oa a.tmps) = true) ∧
      isWr o.op = false ∧ vdcall C N oa oa.toList E0 K i o rest (fun h s => ih c h s) hist ⟨e1, s.H, s.df⟩) := by
  have same : ∀ j (S : Nat → Prop) w μ v, R S w μ (s.e j) v → R S w μ (s.e j) v := fun _ _ _ _ _ h => h
  have one : ∀ {e1 : Env}, (∀ j (S : Nat → Prop) w μ v, R S w μ (s.e j) v → R S w μ (e1 j) v) → (∀ (a : Act), (∀ j, j ∈ o.looksAt oa → ∃ S w μ, R S w μ (s.e j) (a.tmps.getD j undef)) → Region.wanted o (yielded oa a.tmps) = true) →
      vdone C N oa oa.toList E0 K (i, o) rest ih c hist ⟨e1, s.H, s.df⟩ → (∃ r : Rec, RecAt C N oa oa.toList c i o hist s.e s.H r ∧ ih (more o c) ((i, r.fp, r.ws) :: hist) ⟨r.e2, r.H2, s.df⟩) ∨
    (∃ e1, (∀ j S w μ v, R S w μ (s.e j) v → R S w μ (e1 j) v) ∧ (∀ (a : Act), (∀ j, j ∈ o.looksAt oa → ∃ S w μ, R S w μ (s.e j) (a.tmps.getD j undef)) → Region.wanted o (yielded oa a.tmps) = true) ∧
      isWr o.op = false ∧ vdcall C N oa oa.toList E0 K i o rest (fun h s => ih c h s) hist ⟨e1, s.H, s.df⟩) := fun {e1} href hg h => by
    rw [vdone_eq] at h
    cases hl : lateC C o e1 with
    | none =>
      simp only [hl] at h
      exact .inl (vdrun_spec (e := s.e) (s := ⟨e1, s.H, s.df⟩) hC href hg h)
    | some x =>
      simp only [hl] at h
      refine .inr ⟨e1, href, hg, ?_, h⟩
      unfold lateC at hl
      cases hop : o.op <;> rw [hop] at hl <;> simp only [reduceCtorEq] at hl <;> try rfl
      rename_i cc
      unfold isWr
      simp only
      split at hl
      · rename_i f hcal; rw [hcal]
      · cases hl
  rw [vdrB_eq] at h
  cases hg : o.guard with
  | none =>
    simp only [hg] at h
    exact one same (fun a _ => by simp [Region.wanted, hg]) h
  | some jw =>
    obtain ⟨j, want⟩ := jw
    simp only [hg] at h
    cases hs : gslot oa.toList j with
    | none => simp [hs] at h
    | some g =>
      simp only [hs] at h
      have hmem := looksAt_guard hg hs
      have wtt : s.e g = .tt ∨ s.e g = .bool true → ∀ (a : Act), (∀ j, j ∈ o.looksAt oa → ∃ S w μ, R S w μ (s.e j) (a.tmps.getD j undef)) → Region.wanted o (yielded oa a.tmps) = want := fun hd a ha => by
        obtain ⟨S, w, μ, hR⟩ := ha g hmem
        have hv : a.tmps.getD g undef = .bool true := by
          generalize a.tmps.getD g undef = v at hR
          rcases hd with hd | hd <;> rw [hd] at hR <;> cases hR <;> rfl
        rw [wanted_of (o := o) hg hs hv]; cases want <;> rfl
      have wff : s.e g = .ff ∨ s.e g = .bool false → ∀ (a : Act), (∀ j, j ∈ o.looksAt oa → ∃ S w μ, R S w μ (s.e j) (a.tmps.getD j undef)) → Region.wanted o (yielded oa a.tmps) = !want := fun hd a ha => by
        obtain ⟨S, w, μ, hR⟩ := ha g hmem
        have hv : a.tmps.getD g undef = .bool false := by
          generalize a.tmps.getD g undef = v at hR
          rcases hd with hd | hd <;> rw [hd] at hR <;> cases hR <;> rfl
        rw [wanted_of (o := o) hg hs hv]; cases want <;> rfl
      split at h
      · rename_i hd
        cases want
        · exact .inl (vdskip_spec same (wtt (.inl hd)) h)
        · exact one same (wtt (.inl hd)) h
      · rename_i hd
        cases want
        · exact one same (wff (.inl hd)) h
        · exact .inl (vdskip_spec same (wff (.inl hd)) h)
      · rename_i b hd
        have ref : ∀ d, (∀ (S : Nat → Prop) w μ v, R S w μ (.bool b) v → R S w μ d v) → ∀ j (S : Nat → Prop) w μ v, R S w μ (s.e j) v → R S w μ (V.upd s.e g d j) v := fun d hR j S w μ v h0 => by
          simp only [V.upd]
          cases hj : Nat.beq j g with
          | true => rw [Nat.eq_of_beq_eq_true hj, hd] at h0; exact hR S w μ v h0
          | false => exact h0
        cases b with
        | true =>
          have h1 := h.1 rfl
          have href := ref .tt fun S w μ v h => by cases h; exact .tt
          cases want
          · exact .inl (vdskip_spec (s := ⟨V.upd s.e g .tt, s.H, s.df⟩) href (wtt (.inr hd)) h1)
          · exact one href (wtt (.inr hd)) h1
        | false =>
          have h1 := h.2 rfl
          have href := ref .ff fun S w μ v h => by cases h; exact .ff
          cases want
          · exact one href (wff (.inr hd)) h1
          · exact .inl (vdskip_spec (s := ⟨V.upd s.e g .ff, s.H, s.df⟩) href (wff (.inr hd)) h1)
      · rename_i cs hd
        exact .inl (vdskip_spec same (fun a ha => by
          obtain ⟨S, w, μ, hR⟩ := ha g hmem
          refine wanted_no (o := o) hg hs ?_
          generalize a.tmps.getD g undef = v at hR
          rw [hd] at hR
          cases hR
          exact ⟨_, rfl⟩) h)
      · exact h.elim

theorem more_radd (o : Oper) (c r : Nat) : more o (c + r) = c + more o r := by
  unfold more
  cases isWr o.op <;> simp <;> omega
theorem more_add (o : Oper) (c r : Nat) : more o c + r = c + more o r := by
  unfold more
  cases isWr o.op <;> simp <;> omega
theorem rank_succ : ∀ (lo : List (Nat × Oper)) (p i : Nat) (o : Oper), lo[p]? = some (i, o) → rank lo (p + 1) = more o (rank lo p)
  | [], p, i, o, h => by simp at h
  | x :: l, 0, i, o, h => by
    simp only [List.getElem?_cons_zero, Option.some.injEq] at h
    subst h
    cases l <;> rfl
  | x :: l, p + 1, i, o, h => by
    have := rank_succ l p i o (by simpa using h)
    simp only [rank]
    rw [this]
    unfold more
    cases isWr x.2.op <;> cases isWr o.op <;> rfl

/-- Where the walk stands: at the end, or at a call whose turn it is. -/
def Kont (C : Cx) (N : Nat) (oa : Array Oper) (E0 : Env) (K : VX → St → Prop) (lo : List (Nat × Oper)) (B : Nat) (m : Nat) (st : Nat → St) (hist : Hist) : Prop :=
  (m = lo.length ∧ K .normal (st m)) ∨ ∃ i o rest e1, lo.drop m = (i, o) :: rest ∧ (∀ j S w μ v, R S w μ ((st m).e j) v → R S w μ (e1 j) v) ∧
    (∀ (a : Act), (∀ j, j ∈ o.looksAt oa → ∃ S w μ, R S w μ ((st m).e j) (a.tmps.getD j undef)) → Region.wanted o (yielded oa a.tmps) = true) ∧
    isWr o.op = false ∧ vdcall C N oa oa.toList E0 K i o rest (fun h s => vdr C N oa oa.toList E0 K rest (B + rank lo m) h s) hist ⟨e1, (st m).H, (st m).df⟩

theorem getElem?_of_drop {α : Type} {l : List α} {p : Nat} {x : α} {r : List α} (h : l.drop p = x :: r) : l[p]? = some x ∧ l.drop (p + 1) = r := by
  constructor
  · have : (l.drop p)[0]? = some x := by rw [h]; rfl
    simpa using this
  · have : (l.drop p).drop 1 = r := by rw [h]; rfl
    rwa [List.drop_drop] at this

/-- One record more. -/
theorem Wk.push {lo : List (Nat × Oper)} {B p : Nat} {st : Nat → St} {T : Nat → Rec} {hist : Hist} (hW : Wk C N oa lo B p st T hist) {i : Nat} {o : Oper} (hlo : lo[p]? = some (i, o)) {r : Rec} (he : r.e = (st p).e) (hH : r.H = (st p).H) (hok : RecOK C N oa (B + rank lo p) o r)
    (hpair : ∀ x ∈ hist, Pair oa.toList x.1 x.2.1 x.2.2 i r.fp r.ws) (ws : List Nat) (hws : r.cl = false → ws = r.ws) (hlate : r.cl = true → ∀ q k o', p < q → lo[q]? = some (k, o') → reach 5 oa.toList i k = true) :
    Wk C N oa lo B (p + 1) (fun k => if k = p + 1 then ⟨r.e2, r.H2, (st p).df⟩ else st k) (fun k => if k = p then r else T k) ((i, r.fp, ws) :: hist) := by
  have hT : ∀ k, k < p → (if k = p then r else T k) = T k := fun k hk => by rw [if_neg (by omega)]
  have hS : ∀ k, k ≤ p → (if k = p + 1 then (⟨r.e2, r.H2, (st p).df⟩ : St) else st k) = st k := fun k hk => by rw [if_neg (by omega)]
  refine ⟨fun q hq => ?_, fun q k o' hq h => ?_, fun q q' k k' o1 o2 hlt hq h1 h2 => ?_, fun q k o' hq h => ?_, fun q q' k k' o1 o2 hq hlt hcl h1 h2 => ?_⟩
  · rcases Nat.lt_succ_iff_lt_or_eq.1 hq with h | rfl
    · have := hW.chain q h
      rw [hT q h, hS q (by omega), hS (q + 1) (by omega)]
      exact this
    · rw [if_pos rfl, hS q (Nat.le_refl _), if_pos rfl]
      exact ⟨he, hH, rfl, rfl, rfl⟩
  · rcases Nat.lt_succ_iff_lt_or_eq.1 hq with h1 | rfl
    · rw [hT q h1]; exact hW.ok q k o' h1 h
    · rw [hlo] at h
      simp only [Option.some.injEq, Prod.mk.injEq] at h
      obtain ⟨rfl, rfl⟩ := h
      simp only [if_true]
      exact hok
  · rcases Nat.lt_succ_iff_lt_or_eq.1 hq with h | rfl
    · rw [hT q (by omega), hT q' h]; exact hW.pair q q' k k' o1 o2 hlt h h1 h2
    · rw [hT q hlt]
      simp only [if_true]
      rw [hlo] at h2
      simp only [Option.some.injEq, Prod.mk.injEq] at h2
      obtain ⟨rfl, rfl⟩ := h2
      obtain ⟨ws', hm, hc⟩ := hW.hist q k o1 hlt h1
      cases hcl : (T q).cl with
      | true => exact .inl (hW.late q q' k _ o1 _ hlt hlt hcl h1 hlo)
      | false =>
        have := hpair _ hm
        rw [hc hcl] at this
        exact this
  · rcases Nat.lt_succ_iff_lt_or_eq.1 hq with h1 | rfl
    · rw [hT q h1]
      obtain ⟨ws', hm, hc⟩ := hW.hist q k o' h1 h
      exact ⟨ws', List.mem_cons_of_mem _ hm, hc⟩
    · rw [hlo] at h
      simp only [Option.some.injEq, Prod.mk.injEq] at h
      obtain ⟨rfl, rfl⟩ := h
      simp only [if_true]
      exact ⟨ws, List.mem_cons_self, hws⟩
  · rcases Nat.lt_succ_iff_lt_or_eq.1 hq with h | rfl
    · rw [hT q h] at hcl; exact hW.late q q' k k' o1 o2 h hlt hcl h1 h2
    · simp only [if_true] at hcl
      rw [hlo] at h1
      simp only [Option.some.injEq, Prod.mk.injEq] at h1
      obtain ⟨rfl, rfl⟩ := h1
      exact hlate hcl q' k' o2 hlt h2

/-- On to the next call, or to the end. -/
theorem vdr_seg (hC : CallsOK P C RTT) {E0 : Env} {K : VX → St → Prop} {lo : List (Nat × Oper)} {B : Nat} : ∀ (l : List (Nat × Oper)) (p : Nat) (st : Nat → St) (T : Nat → Rec) (hist : Hist), lo.drop p = l → p ≤ lo.length → Wk C N oa lo B p st T hist →
    vdr C N oa oa.toList E0 K l (B + rank lo p) hist (st p) → ∃ m st' T' hist', p ≤ m ∧ (∀ q, q ≤ p → st' q = st q) ∧ (∀ q, q < p → T' q = T q) ∧ Wk C N oa lo B m st' T' hist' ∧ (∀ q, p ≤ q → q < m → (T' q).cl = false) ∧ m ≤ lo.length ∧ Kont C N oa E0 K lo B m st' hist'
  | [], p, st, T, hist, hl, hp, hW, h => by
    have : lo.length ≤ p := by
      have := congrArg List.length hl
      simp at this
      omega
    exact ⟨p, st, T, hist, Nat.le_refl _, fun _ _ => rfl, fun _ _ => rfl, hW, fun q h1 h2 => absurd h1 (by omega), hp, .inl ⟨by omega, h⟩⟩
  | (i, o) :: rest, p, st, T, hist, hl, hp, hW, h => by
    rw [vdr_cons] at h
    obtain ⟨hlo, hdrop⟩ := getElem?_of_drop hl
    have hplt : p < lo.length := (List.getElem?_eq_some_iff.1 hlo).1
    rcases vdr_step hC h with ⟨r, ⟨h1, h2, h3, h4, h5⟩, h6⟩ | ⟨e1, h1, h2, h3, h4⟩
    · have hW' := hW.push hlo h1 h2 h4 h5 r.ws (fun _ => rfl) (fun hc => by rw [h3] at hc; cases hc)
      have hst : (fun k => if k = p + 1 then (⟨r.e2, r.H2, (st p).df⟩ : St) else st k) (p + 1) = ⟨r.e2, r.H2, (st p).df⟩ := by simp
      obtain ⟨m, st', T', hist', g1, g2, g3, g4, g5, g6, g7⟩ := vdr_seg hC rest (p + 1) _ _ _ hdrop (by omega) hW' (by rw [if_pos rfl, rank_succ lo p i o hlo, ← more_radd]; exact h6)
      refine ⟨m, st', T', hist', by omega, fun q hq => ?_, fun q hq => ?_, g4, fun q h1 h2 => ?_, g6, g7⟩
      · rw [g2 q (by omega), if_neg (by omega)]
      · rw [g3 q (by omega), if_neg (by omega)]
      · rcases Nat.eq_or_lt_of_le h1 with rfl | h1
        · rw [g3 _ (by omega), if_pos rfl]; exact h3
        · exact g5 q (by omega) h2
    · exact ⟨p, st, T, hist, Nat.le_refl _, fun _ _ => rfl, fun _ _ => rfl, hW, fun q h1 h2 => absurd h1 (by omega), hp, .inr ⟨i, o, rest, e1, hl, h1, h2, h3, h4⟩⟩
end
end Go.V
