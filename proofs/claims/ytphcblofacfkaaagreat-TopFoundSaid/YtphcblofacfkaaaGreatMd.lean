/-
  A small logic of our own, part 10: regions that draw their order: one walk in the order of the text, with the footprints of all operations; what the walk has found.
-/
import Derived.Test.YtphcblofacfkaaaGreatMc
set_option linter.unusedVariables false
set_option linter.unusedSimpArgs false
section
namespace Go.V
def KOK (b : Bool) : Prop := b = true
theorem kok {b : Bool} (h : b = true) : KOK b := h
def KEq {α : Type} (a b : α) : Prop := a = b
theorem keq_mk {α : Type} {a b : α} (h : a = b) : KEq a b := h
def gate (b : Bool) (X : Prop) : Prop := KOK b ∧ X
theorem gate_eq (b : Bool) (X : Prop) : gate b X = (bif b then X else False) := by cases b <;> simp [gate, KOK]
def memB (i : Nat) : List Nat → Bool
  | [] => false
  | j :: r => bif Nat.beq i j then true else memB i r
theorem memB_iff (i : Nat) : ∀ l, memB i l = true ↔ i ∈ l
  | [] => by simp [memB]
  | j :: r => by
    simp only [memB, List.mem_cons]
    cases h : Nat.beq i j with
    | true => obtain rfl := Nat.eq_of_beq_eq_true h; simp
    | false =>
      have : i ≠ j := fun e => by subst e; rw [Nat.beq_refl] at h; cases h
      simp [this, memB_iff i r]
def resE (l : List Nat) (e : Env) : Env := fun j => bif memB j l then e j else .top
def resH (fp : List Nat) : Nat → HL → HL
  | _, [] => []
  | i, x :: r => (bif memB i fp then x else none) :: resH fp (i + 1) r
def mergeH (ws : List Nat) : Nat → HL → HL → HL
  | _, [], _ => []
  | _, _ :: _, [] => []
  | i, x :: r, y :: s => (bif memB i ws then y else x) :: mergeH ws (i + 1) r s
def keysOK (l : List Nat) : Nat → HL → Bool
  | _, [] => true
  | i, none :: r => keysOK l (i + 1) r
  | i, some _ :: r => memB i l && keysOK l (i + 1) r
def lenEq : HL → HL → Bool
  | [], [] => true
  | _ :: r, _ :: s => lenEq r s
  | _, _ => false
def allSome (H : HL) : List Nat → Bool
  | [] => true
  | i :: r => (match hget H i with | some _ => true | none => false) && allSome H r
theorem resH_get (fp : List Nat) : ∀ (H : HL) (i o : Nat), (resH fp i H).getD o none = bif memB (i + o) fp then H.getD o none else none
  | [], i, o => by simp [resH]
  | x :: r, i, 0 => by simp [resH]
  | x :: r, i, o + 1 => by
    have := resH_get fp r (i + 1) o
    simp only [resH, List.getD_cons_succ]
    rw [this, show i + 1 + o = i + (o + 1) by omega]
theorem resH_len (fp : List Nat) : ∀ (H : HL) (i : Nat), (resH fp i H).length = H.length
  | [], i => rfl
  | x :: r, i => by simp [resH, resH_len fp r]
theorem lenEq_len : ∀ {H H' : HL}, lenEq H H' = true → H'.length = H.length
  | [], [], _ => rfl
  | x :: r, y :: s, h => by simp [lenEq_len (H := r) (H' := s) (by simpa [lenEq] using h)]
  | [], _ :: _, h => by simp [lenEq] at h
  | _ :: _, [], h => by simp [lenEq] at h
theorem mergeH_get (ws : List Nat) : ∀ (H H' : HL) (i o : Nat), H'.length = H.length → (mergeH ws i H H').getD o none = bif memB (i + o) ws then H'.getD o none else H.getD o none
  | [], [], i, o, _ => by simp [mergeH]
  | x :: r, y :: s, i, 0, _ => by
    simp only [mergeH, List.getD_cons_zero, Nat.add_zero]
  | x :: r, y :: s, i, o + 1, h => by
    have := mergeH_get ws r s (i + 1) o (by simpa using h)
    simp only [mergeH, List.getD_cons_succ]
    rw [this, show i + 1 + o = i + (o + 1) by omega]
  | [], _ :: _, _, _, h => by simp at h
  | _ :: _, [], _, _, h => by simp at h
theorem mergeH_len (ws : List Nat) : ∀ (H H' : HL) (i : Nat), H'.length = H.length → (mergeH ws i H H').length = H.length
  | [], [], i, _ => rfl
  | x :: r, y :: s, i, h => by simp [mergeH, mergeH_len ws r s (i + 1) (by simpa using h)]
  | [], _ :: _, _, h => by simp at h
  | _ :: _, [], _, h => by simp at h
theorem keysOK_spec {l : List Nat} : ∀ {H : HL} {i : Nat}, keysOK l i H = true → ∀ o, H.getD o none ≠ none → i + o ∈ l
  | [], i, _, o, h => by simp at h
  | none :: r, i, hk, 0, h => by simp at h
  | some _ :: r, i, hk, 0, h => by
    simp only [keysOK, Bool.and_eq_true] at hk
    exact (memB_iff _ _).1 hk.1
  | none :: r, i, hk, o + 1, h => by
    have := keysOK_spec (H := r) (i := i + 1) (by simpa [keysOK] using hk) o (by simpa using h)
    rwa [show i + (o + 1) = i + 1 + o by omega]
  | some _ :: r, i, hk, o + 1, h => by
    simp only [keysOK, Bool.and_eq_true] at hk
    have := keysOK_spec (H := r) (i := i + 1) hk.2 o (by simpa using h)
    rwa [show i + (o + 1) = i + 1 + o by omega]
theorem allSome_spec {H : HL} : ∀ {l : List Nat}, allSome H l = true → ∀ o ∈ l, hget H o ≠ none
  | i :: r, h, o, ho => by
    simp only [allSome, Bool.and_eq_true] at h
    rcases List.mem_cons.1 ho with rfl | ho
    · intro e; rw [e] at h; simp at h
    · exact allSome_spec h.2 o ho
def mergeC (fp : List Nat) : Nat → HL → HL → HL
  | _, [], s => s
  | _, _ :: _, [] => []
  | i, x :: r, y :: s => (bif memB i fp then y else x) :: mergeC fp (i + 1) r s
theorem mergeC_get (fp : List Nat) : ∀ (H H' : HL) (i o : Nat), H.length ≤ H'.length → (mergeC fp i H H').getD o none = if o < H.length then (bif memB (i + o) fp then H'.getD o none else H.getD o none) else H'.getD o none
  | [], s, i, o, _ => by simp [mergeC]
  | x :: r, y :: s, i, 0, _ => by simp [mergeC]
  | x :: r, y :: s, i, o + 1, h => by
    have := mergeC_get fp r s (i + 1) o (by simpa using h)
    simp only [mergeC, List.getD_cons_succ, List.length_cons]
    rw [this, show i + 1 + o = i + (o + 1) by omega]
    by_cases ho : o < r.length
    · rw [if_pos ho, if_pos (by omega)]
    · rw [if_neg ho, if_neg (by omega)]
  | _ :: _, [], _, _, h => by simp at h
theorem mergeC_len (fp : List Nat) : ∀ (H H' : HL) (i : Nat), H.length ≤ H'.length → (mergeC fp i H H').length = H'.length
  | [], s, i, _ => by simp [mergeC]
  | x :: r, y :: s, i, h => by simp [mergeC, mergeC_len fp r s (i + 1) (by simpa using h)]
  | _ :: _, [], _, h => by simp at h
def idl : Nat → D → List Nat
  | 0, _ => []
  | f + 1, d => match d with
    | .ptr o _ => [o]
    | .own o _ => [o]
    | .optr o _ _ _ _ => [o]
    | .osl o _ _ _ => [o]
    | .map o => [o]
    | .yld o => [o]
    | .stamp o _ => [o]
    | .agg l => l.flatMap (idl f)
    | .tup l => l.flatMap (idl f)
    | .fn _ a b => a.flatMap (idl f) ++ b.flatMap (idl f)
    | .iface _ d => idl f d
    | _ => []
def obl : Option Ob → List Nat
  | some (.row cs) => cs.flatMap (idl 3)
  | _ => []
def foot (o : Oper) (e : Env) (H : HL) : List Nat := match o.op with
  | .load _ x => idl 1 (ev e x)
  | .store _ x _ => idl 1 (ev e x)
  | .indexAddr _ x _ => idl 1 (ev e x)
  | .convert _ _ x => idl 1 (ev e x)
  | .slice _ x _ _ _ => idl 1 (ev e x)
  | .lookup _ x _ _ => idl 1 (ev e x)
  | .mapEntry _ x _ => idl 1 (ev e x)
  | .entryStore _ x _ _ => idl 1 (ev e x)
  | .mapUpdate _ x _ _ => idl 1 (ev e x)
  | .insert _ x _ _ => idl 1 (ev e x)
  | .call c => match c.callee with
    | .value f => let l := (f :: c.args.toList).flatMap fun x => idl 3 (ev e x); let l2 := l.flatMap fun o => obl (hget H o); l ++ l2 ++ l2.flatMap fun o => obl (hget H o)
    | _ => c.args.toList.flatMap fun x => idl 3 (ev e x)
  | _ => []
def fznl (l : List Nat) : (List Nat → Prop) → Prop := @List.rec Nat (fun _ => (List Nat → Prop) → Prop) (fun k => k []) (fun n _ ih k => ih fun r => k (n :: r)) l
theorem fznl_iff : ∀ (l : List Nat) (k : List Nat → Prop), fznl l k ↔ k l
  | [], k => Iff.rfl
  | d :: r, k => by show fznl r (fun r => k (d :: r)) ↔ _; rw [fznl_iff]
def reach : Nat → List Oper → Nat → Nat → Bool
  | 0, _, _, _ => false
  | f + 1, ops, j, i => match ops[i]? with
    | some o => o.after.toList.any (fun e => Region.binds .any e && Nat.beq e.on j) || o.after.toList.any (fun e => Region.binds .any e && reach f ops j e.on)
    | none => false
def disj : List Nat → List Nat → Bool
  | [], _ => true
  | i :: r, l => (bif memB i l then false else true) && disj r l
theorem disj_spec : ∀ {l l' : List Nat}, disj l l' = true → ∀ o ∈ l, o ∉ l'
  | i :: r, l', h, o, ho => by
    simp only [disj, Bool.and_eq_true] at h
    rcases List.mem_cons.1 ho with rfl | ho
    · intro hm; rw [(memB_iff _ _).2 hm] at h; simp at h
    · exact disj_spec h.2 o ho
abbrev Hist := List (Nat × List Nat × List Nat)
def Pair (ops : List Oper) (j : Nat) (fj wj : List Nat) (k : Nat) (fp ws : List Nat) : Prop :=
  reach 5 ops j k = true ∨ ((∀ o, o ∈ wj → o ∉ fp ∧ o ∉ ws) ∧ ∀ o, o ∈ fj → o ∉ ws)
def indep (ops : List Oper) (k : Nat) (fp ws : List Nat) : Hist → Bool
  | [] => true
  | x :: r => ((disj x.2.2 fp && disj x.2.2 ws && disj x.2.1 ws) || reach 5 ops x.1 k) && indep ops k fp ws r
theorem indep_spec {ops : List Oper} {k : Nat} {fp ws : List Nat} : ∀ {h : Hist}, indep ops k fp ws h = true → ∀ x ∈ h, Pair ops x.1 x.2.1 x.2.2 k fp ws
  | [], _, x, hx => by cases hx
  | y :: r, h, x, hx => by
    simp only [indep, Bool.and_eq_true, Bool.or_eq_true] at h
    rcases List.mem_cons.1 hx with rfl | hx
    · rcases h.1 with ⟨⟨h1, h2⟩, h3⟩ | h1
      · exact .inr ⟨fun o ho => ⟨disj_spec h1 o ho, disj_spec h2 o ho⟩, fun o ho => disj_spec h3 o ho⟩
      · exact .inl h1
    · exact indep_spec h.2 x hx
def lateC (C : Cx) (o : Oper) (e : Env) : Option (CRule × List D) := match o.op with
  | .call c => match c.callee with
    | .value f => match ev e f with
      | .fn g fs cs => match C.call g with
        | some r => some (r, fs ++ c.args.toList.map (ev e) ++ cs)
        | none => none
      | _ => none
    | _ => none
  | _ => none
def nilB : List Nat → Bool
  | [] => true
  | _ => false
def panE (ops : List Oper) (e : Env) : Env := fun j => bif ops.any (fun o => match o.dst with | some d => Nat.beq d j | none => false) then .top else e j
abbrev Ih := Nat → Hist → St → Prop
def ptrsEq : List D → List D → Bool
  | [], [] => true
  | .ptr a b :: r, .ptr c d :: s => (Nat.beq a c && Nat.beq b d) && ptrsEq r s
  | _, _ => false
theorem ptrsEq_eq : ∀ {l l' : List D}, ptrsEq l l' = true → l = l'
  | [], [], _ => rfl
  | .ptr a b :: r, .ptr c d :: s, h => by
    simp only [ptrsEq, Bool.and_eq_true] at h
    rw [Nat.eq_of_beq_eq_true h.1.1, Nat.eq_of_beq_eq_true h.1.2, ptrsEq_eq h.2]
  | [], _ :: _, h => by simp [ptrsEq] at h
  | d :: _, [], h => by cases d <;> simp [ptrsEq] at h
  | d :: r, d' :: s, h => by
    cases d <;> cases d' <;> simp only [ptrsEq] at h <;> first | (cases h; done) | skip
    rename_i a b c d
    simp only [Bool.and_eq_true] at h
    rw [Nat.eq_of_beq_eq_true h.1.1, Nat.eq_of_beq_eq_true h.1.2, ptrsEq_eq h.2]
def fnOb (x y : Option Ob) : Bool := match x, y with
  | some (.row [.fn f [] cs]), some (.row [.fn g [] cs']) => Nat.beq f g && ptrsEq cs cs'
  | _, _ => false
theorem fnOb_eq {x y : Option Ob} (h : fnOb x y = true) : x = y := by
  unfold fnOb at h
  split at h
  · simp only [Bool.and_eq_true] at h
    rw [Nat.eq_of_beq_eq_true h.1, ptrsEq_eq h.2]
  · cases h
def wsC (H : HL) : List Nat → List Nat
  | [] => []
  | o :: r => bif fnOb (hget H o) (hget H o) then wsC H r else o :: wsC H r
theorem wsC_sub {H : HL} : ∀ {l : List Nat} {o : Nat}, o ∈ wsC H l → o ∈ l
  | x :: r, o, h => by
    unfold wsC at h
    cases hb : fnOb (hget H x) (hget H x) with
    | true => rw [hb, cond_true] at h; exact List.mem_cons_of_mem _ (wsC_sub h)
    | false =>
      rw [hb, cond_false] at h
      rcases List.mem_cons.1 h with rfl | h
      · exact List.mem_cons_self ..
      · exact List.mem_cons_of_mem _ (wsC_sub h)
def keptC (ws : List Nat) (H H' : HL) (fp : List Nat) : Bool := fp.all fun o => memB o ws || fnOb (hget H o) (hget H' o)
theorem keptC_spec {ws : List Nat} {H H' : HL} {fp : List Nat} (h : keptC ws H H' fp = true) : ∀ o, o ∈ fp → o ∉ ws → hget H' o = hget H o := fun o ho hn => by
  have := List.all_eq_true.1 h o ho
  simp only [Bool.or_eq_true] at this
  rcases this with h1 | h1
  · exact absurd ((memB_iff _ _).1 h1) hn
  · exact (fnOb_eq h1).symm
def vdrun (C : Cx) (N : Nat) (oa : Array Oper) (ops : List Oper) (nid i : Nat) (hist : Hist) (o : Oper) (s : St) (K : Hist → St → Prop) : Prop := match s with
  | ⟨e0, H0, df0⟩ =>
    fznl (foot o e0 H0) fun fp => bif isWr o.op then
      vwr C nid o (resE (o.looksAt oa) e0) (resH fp 0 H0) fun d HR => fzh HR fun HR =>
        gate (lenEq H0 HR && keysOK (nid :: fp) 0 HR && allSome H0 fp && indep ops i fp (nid :: fp) hist) (
          vput N e0 o.dst d fun e => fzh (mergeH (nid :: fp) 0 H0 HR) fun H => K ((i, fp, nid :: fp) :: hist) ⟨e, H, df0⟩)
    else vsr C o (resE (o.looksAt oa) e0) (resH fp 0 H0) fun d =>
      gate (indep ops i fp [] hist) (vput N e0 o.dst d fun e => K ((i, fp, []) :: hist) ⟨e, H0, df0⟩)
theorem vdrun_eq (C : Cx) (N : Nat) (oa : Array Oper) (ops : List Oper) (nid i : Nat) (hist : Hist) (o : Oper) (s : St) (K : Hist → St → Prop) : vdrun C N oa ops nid i hist o s K = (fznl (foot o s.e s.H) fun fp => bif isWr o.op then
    vwr C nid o (resE (o.looksAt oa) s.e) (resH fp 0 s.H) fun d HR =>
      bif lenEq s.H HR && keysOK (nid :: fp) 0 HR && allSome s.H fp && indep ops i fp (nid :: fp) hist then
        vput N s.e o.dst d fun e => fzh (mergeH (nid :: fp) 0 s.H HR) fun H => K ((i, fp, nid :: fp) :: hist) ⟨e, H, s.df⟩
      else False
  else vsr C o (resE (o.looksAt oa) s.e) (resH fp 0 s.H) fun d =>
    bif indep ops i fp [] hist then vput N s.e o.dst d fun e => K ((i, fp, []) :: hist) ⟨e, s.H, s.df⟩ else False) := by cases s; simp only [vdrun, gate_eq, fzh_eq]
def vdskip (N : Nat) (i : Nat) (hist : Hist) (o : Oper) (s : St) (K : Hist → St → Prop) : Prop := match s with
  | ⟨e0, H0, df0⟩ => vput N e0 o.dst (.tup []) fun e => K ((i, [], []) :: hist) ⟨e, H0, df0⟩
theorem vdskip_eq (N : Nat) (i : Nat) (hist : Hist) (o : Oper) (s : St) (K : Hist → St → Prop) : vdskip N i hist o s K = (vput N s.e o.dst (.tup []) fun e => K ((i, [], []) :: hist) ⟨e, s.H, s.df⟩) := by cases s; rfl
def vdcallB (N : Nat) (ops : List Oper) (E0 : Env) (K : VX → St → Prop) (i : Nat) (o : Oper) (ih : Hist → St → Prop) (hist : Hist) (s : St) (fp : List Nat) (r : Res) (H' : HL) : Prop := match s with
  | ⟨e0, H0, df0⟩ =>
    fzh H' fun H' => bif (Nat.ble H0.length H'.length && keysOK fp 0 (H'.take H0.length)) && keptC (wsC H0 fp) H0 H' fp then (match r with
      | .ret d => fz d fun d => vput N e0 o.dst d fun e => fzh (mergeC fp 0 H0 H') fun H2 => ih ((i, fp, fp) :: hist) ⟨e, H2, df0⟩
      | .pan d => bif hist.all (fun x => nilB x.2.2 || reach 5 ops x.1 i) then fzh (mergeC fp 0 H0 H') fun H2 => K (.panic d) ⟨panE ops E0, H2, df0⟩ else False) else False
theorem vdcallB_eq (N : Nat) (ops : List Oper) (E0 : Env) (K : VX → St → Prop) (i : Nat) (o : Oper) (ih : Hist → St → Prop) (hist : Hist) (s : St) (fp : List Nat) (r : Res) (H' : HL) : vdcallB N ops E0 K i o ih hist s fp r H' = (fzh H' fun H' => bif (Nat.ble s.H.length H'.length && keysOK fp 0 (H'.take s.H.length)) && keptC (wsC s.H fp) s.H H' fp then (match r with
    | .ret d => fz d fun d => vput N s.e o.dst d fun e => fzh (mergeC fp 0 s.H H') fun H2 => ih ((i, fp, fp) :: hist) ⟨e, H2, s.df⟩
    | .pan d => bif hist.all (fun x => nilB x.2.2 || reach 5 ops x.1 i) then fzh (mergeC fp 0 s.H H') fun H2 => K (.panic d) ⟨panE ops E0, H2, s.df⟩ else False) else False) := by cases s; rfl
def histLt (n : Nat) (hist : Hist) : Bool := hist.all fun x => x.2.1.all (fun o => Nat.blt o n) && x.2.2.all fun o => Nat.blt o n
def vdcall (C : Cx) (N : Nat) (oa : Array Oper) (ops : List Oper) (E0 : Env) (K : VX → St → Prop) (i : Nat) (o : Oper) (rest : List (Nat × Oper)) (ih : Hist → St → Prop) (hist : Hist) (s : St) : Prop := match s with
  | ⟨e0, H0, df0⟩ =>
    gate (rest.all (fun x => reach 5 ops i x.1)) (
      fznl (foot o e0 H0) fun fp => gate (allSome H0 fp && indep ops i fp (wsC H0 fp) hist && histLt H0.length hist) (match lateC C o (resE (o.looksAt oa) e0) with
        | some (r, ds) => fzl ds fun ds => fzh (resH fp 0 H0) fun H => r ds H (vdcallB N ops E0 K i o ih hist ⟨e0, H0, df0⟩ fp)
        | none => False))
theorem vdcall_eq (C : Cx) (N : Nat) (oa : Array Oper) (ops : List Oper) (E0 : Env) (K : VX → St → Prop) (i : Nat) (o : Oper) (rest : List (Nat × Oper)) (ih : Hist → St → Prop) (hist : Hist) (s : St) : vdcall C N oa ops E0 K i o rest ih hist s = (bif rest.all (fun x => reach 5 ops i x.1) then
    fznl (foot o s.e s.H) fun fp => bif allSome s.H fp && indep ops i fp (wsC s.H fp) hist && histLt s.H.length hist then (match lateC C o (resE (o.looksAt oa) s.e) with
      | some (r, ds) => fzl ds fun ds => r ds (resH fp 0 s.H) (vdcallB N ops E0 K i o ih hist s fp)
      | none => False) else False
  else False) := by
  cases s
  simp only [vdcall, fzh_eq, gate_eq]
def more (o : Oper) (c : Nat) : Nat := bif isWr o.op then c + 1 else c
def vdone (C : Cx) (N : Nat) (oa : Array Oper) (ops : List Oper) (E0 : Env) (K : VX → St → Prop) (x : Nat × Oper) (rest : List (Nat × Oper)) (ih : Ih) (c : Nat) (hist : Hist) (s : St) : Prop := match s with
  | ⟨e0, H0, df0⟩ => match lateC C x.2 e0 with
    | some _ => vdcall C N oa ops E0 K x.1 x.2 rest (fun h ⟨e0, H0, df0⟩ => ih c h ⟨e0, H0, df0⟩) hist ⟨e0, H0, df0⟩
    | none => vdrun C N oa ops c x.1 hist x.2 ⟨e0, H0, df0⟩ fun h ⟨e0, H0, df0⟩ => ih (more x.2 c) h ⟨e0, H0, df0⟩
theorem vdone_eq (C : Cx) (N : Nat) (oa : Array Oper) (ops : List Oper) (E0 : Env) (K : VX → St → Prop) (x : Nat × Oper) (rest : List (Nat × Oper)) (ih : Ih) (c : Nat) (hist : Hist) (s : St) : vdone C N oa ops E0 K x rest ih c hist s = (match lateC C x.2 s.e with
  | some _ => vdcall C N oa ops E0 K x.1 x.2 rest (fun h s => ih c h s) hist s
  | none => vdrun C N oa ops c x.1 hist x.2 s fun h s => ih (more x.2 c) h s) := by cases s; rfl
def vdrB (C : Cx) (N : Nat) (oa : Array Oper) (ops : List Oper) (E0 : Env) (K : VX → St → Prop) (x : Nat × Oper) (rest : List (Nat × Oper)) (ih : Ih) (c : Nat) (hist : Hist) (s : St) : Prop := match s with
  | ⟨e0, H0, df0⟩ => match x.2.guard with
      | none => vdone C N oa ops E0 K x rest ih c hist ⟨e0, H0, df0⟩
      | some (j, want) => match gslot ops j with
        | none => False
        | some g => match e0 g with
          | .tt => bif want then vdone C N oa ops E0 K x rest ih c hist ⟨e0, H0, df0⟩ else vdskip N x.1 hist x.2 ⟨e0, H0, df0⟩ fun h ⟨e0, H0, df0⟩ => ih (more x.2 c) h ⟨e0, H0, df0⟩
          | .ff => bif want then vdskip N x.1 hist x.2 ⟨e0, H0, df0⟩ fun h ⟨e0, H0, df0⟩ => ih (more x.2 c) h ⟨e0, H0, df0⟩ else vdone C N oa ops E0 K x rest ih c hist ⟨e0, H0, df0⟩
          | .bool b =>
            (b = true → bif want then vdone C N oa ops E0 K x rest ih c hist ⟨upd e0 g .tt, H0, df0⟩ else vdskip N x.1 hist x.2 ⟨upd e0 g .tt, H0, df0⟩ fun h ⟨e0, H0, df0⟩ => ih (more x.2 c) h ⟨e0, H0, df0⟩) ∧
            (b = false → bif want then vdskip N x.1 hist x.2 ⟨upd e0 g .ff, H0, df0⟩ fun h ⟨e0, H0, df0⟩ => ih (more x.2 c) h ⟨e0, H0, df0⟩ else vdone C N oa ops E0 K x rest ih c hist ⟨upd e0 g .ff, H0, df0⟩)
          | .tup _ => vdskip N x.1 hist x.2 ⟨e0, H0, df0⟩ fun h ⟨e0, H0, df0⟩ => ih (more x.2 c) h ⟨e0, H0, df0⟩
          | _ => False
theorem vdrB_eq (C : Cx) (N : Nat) (oa : Array Oper) (ops : List Oper) (E0 : Env) (K : VX → St → Prop) (x : Nat × Oper) (rest : List (Nat × Oper)) (ih : Ih) (c : Nat) (hist : Hist) (s : St) : vdrB C N oa ops E0 K x rest ih c hist s = (match x.2.guard with
    | none => vdone C N oa ops E0 K x rest ih c hist s
    | some (j, want) => match gslot ops j with
      | none => False
      | some g => match s.e g with
        | .tt => bif want then vdone C N oa ops E0 K x rest ih c hist s else vdskip N x.1 hist x.2 s fun h s => ih (more x.2 c) h s
        | .ff => bif want then vdskip N x.1 hist x.2 s fun h s => ih (more x.2 c) h s else vdone C N oa ops E0 K x rest ih c hist s
        | .bool b =>
          (b = true → bif want then vdone C N oa ops E0 K x rest ih c hist ⟨upd s.e g .tt, s.H, s.df⟩ else vdskip N x.1 hist x.2 ⟨upd s.e g .tt, s.H, s.df⟩ fun h s => ih (more x.2 c) h s) ∧
          (b = false → bif want then vdskip N x.1 hist x.2 ⟨upd s.e g .ff, s.H, s.df⟩ fun h s => ih (more x.2 c) h s else vdone C N oa ops E0 K x rest ih c hist ⟨upd s.e g .ff, s.H, s.df⟩)
        | .tup _ => vdskip N x.1 hist x.2 s fun h s => ih (more x.2 c) h s
        | _ => False) := by cases s; rfl
def vdr (C : Cx) (N : Nat) (oa : Array Oper) (ops : List Oper) (E0 : Env) (K : VX → St → Prop) (l : List (Nat × Oper)) : Ih := @List.rec (Nat × Oper) (fun _ => Ih) (fun _ _ s => K .normal s) (fun x rest ih => vdrB C N oa ops E0 K x rest ih) l
theorem vdr_cons (C : Cx) (N : Nat) (oa : Array Oper) (ops : List Oper) (E0 : Env) (K : VX → St → Prop) (x : Nat × Oper) (rest : List (Nat × Oper)) (c : Nat) (hist : Hist) (s : St) :
    vdr C N oa ops E0 K (x :: rest) c hist s = vdrB C N oa ops E0 K x rest (vdr C N oa ops E0 K rest) c hist s := rfl
structure Rec where
  e : Env
  H : HL
  e1 : Env
  ex : Bool
  cl : Bool
  d : D
  fp : List Nat
  ws : List Nat
  HR : HL
  e2 : Env
  H2 : HL
structure RecOK (C : Cx) (N : Nat) (oa : Array Oper) (nid : Nat) (o : Oper) (r : Rec) : Prop where
  ref : ∀ j S w μ v, R S w μ (r.e j) v → R S w μ (r.e1 j) v
  guard : ∀ (a : Act), (∀ j, j ∈ o.looksAt oa → ∃ S w μ, R S w μ (r.e j) (a.tmps.getD j undef)) → Region.wanted o (yielded oa a.tmps) = r.ex
  upd : ∀ j, r.e2 j = if o.dst = some j then r.d else r.e1 j
  dst : ∀ j, o.dst = some j → j < N
  run : (r.cl = false ∧ r.ex = false ∧ r.d = .tup [] ∧ r.ws = [] ∧ r.H2 = r.H) ∨
    (r.cl = false ∧ r.ex = true ∧ isWr o.op = false ∧ (∀ k : D → Prop, k r.d → vsr C o (resE (o.looksAt oa) r.e1) (resH r.fp 0 r.H) k) ∧ r.ws = [] ∧ r.H2 = r.H) ∨
    (r.cl = false ∧ r.ex = true ∧ isWr o.op = true ∧ (∀ k : D → HL → Prop, k r.d r.HR → vwr C nid o (resE (o.looksAt oa) r.e1) (resH r.fp 0 r.H) k) ∧ r.ws = nid :: r.fp ∧ r.HR.length = r.H.length ∧
      (∀ o, hget r.HR o ≠ none → o ∈ r.ws) ∧ (∀ o ∈ r.fp, hget r.H o ≠ none) ∧ r.H2 = mergeH r.ws 0 r.H r.HR) ∨
    (r.cl = true ∧ r.H.length ≤ r.H2.length ∧ ∀ o, o ∉ r.ws → hget r.H2 o = hget r.H o)
def rank : List (Nat × Oper) → Nat → Nat
  | _, 0 => 0
  | [], _ + 1 => 0
  | x :: l, m + 1 => more x.2 (rank l m)
structure Wk (C : Cx) (N : Nat) (oa : Array Oper) (lo : List (Nat × Oper)) (B : Nat) (m : Nat) (st : Nat → St) (T : Nat → Rec) (hist : Hist) : Prop where
  chain : ∀ p, p < m → (T p).e = (st p).e ∧ (T p).H = (st p).H ∧ (T p).e2 = (st (p + 1)).e ∧ (T p).H2 = (st (p + 1)).H ∧ (st (p + 1)).df = (st p).df
  ok : ∀ p i o, p < m → lo[p]? = some (i, o) → RecOK C N oa (B + rank lo p) o (T p)
  pair : ∀ p q i k o o', p < q → q < m → lo[p]? = some (i, o) → lo[q]? = some (k, o') → Pair oa.toList i (T p).fp (T p).ws k (T q).fp (T q).ws
  hist : ∀ p i o, p < m → lo[p]? = some (i, o) → ∃ ws, (i, (T p).fp, ws) ∈ hist ∧ ((T p).cl = false → ws = (T p).ws)
  late : ∀ p q i k o o', p < m → p < q → (T p).cl = true → lo[p]? = some (i, o) → lo[q]? = some (k, o') → reach 5 oa.toList i k = true
section
variable {P : Program} {C : Cx} {RTT : RT} {N : Nat} {oa : Array Oper} {ops : List Oper} {o : Oper}
theorem vput_spec {e : Env} {dst : Option Nat} {d : D} {k : Env → Prop} (h : vput N e dst d k) : ∃ e', k e' ∧ (∀ j, e' j = if dst = some j then d else e j) ∧ ∀ j, dst = some j → j < N := by
  unfold vput at h
  cases dst with
  | none => exact ⟨e, h, fun j => by simp, fun j h => by cases h⟩
  | some i =>
    simp only at h
    cases hb : Nat.ble N i with
    | true => simp [hb] at h
    | false =>
      simp only [hb, cond_false] at h
      refine ⟨_, h, fun j => ?_, fun j hj => ?_⟩
      · simp only [V.upd, Option.some.injEq]
        cases hj : Nat.beq j i with
        | true => obtain rfl := Nat.eq_of_beq_eq_true hj; simp
        | false =>
          have : i ≠ j := fun e => by subst e; rw [Nat.beq_refl] at hj; cases hj
          simp [this]
      · injection hj with hj
        subst hj
        rcases Nat.lt_or_ge i N with h1 | h1
        · exact h1
        · rw [Nat.ble_eq_true_of_le h1] at hb; cases hb
def RecAt (C : Cx) (N : Nat) (oa : Array Oper) (ops : List Oper) (nid i : Nat) (o : Oper) (hist : Hist) (e : Env) (H : HL) (r : Rec) : Prop :=
  r.e = e ∧ r.H = H ∧ r.cl = false ∧ RecOK C N oa nid o r ∧ ∀ x ∈ hist, Pair ops x.1 x.2.1 x.2.2 i r.fp r.ws
theorem vdrun_spec (hC : CallsOK P C RTT) {nid i : Nat} {hist : Hist} {e : Env} {s : St} {K : Hist → St → Prop} (href : ∀ j S w μ v, R S w μ (e j) v → R S w μ (s.e j) v)
    (hg : ∀ (a : Act), (∀ j, j ∈ o.looksAt oa → ∃ S w μ, R S w μ (e j) (a.tmps.getD j undef)) → Region.wanted o (yielded oa a.tmps) = true) (h : vdrun C N oa ops nid i hist o s K) :
    ∃ r : Rec, RecAt C N oa ops nid i o hist e s.H r ∧ K ((i, r.fp, r.ws) :: hist) ⟨r.e2, r.H2, s.df⟩ := by
  rw [vdrun_eq] at h
  rw [fznl_iff] at h
  generalize foot o s.e s.H = fp at h
  cases hw : isWr o.op with
  | true =>
    simp only [hw, cond_true] at h
    obtain ⟨d, HR, h1, h2⟩ := Det2.vwr C nid o _ _ _ h
    cases hq : (lenEq s.H HR && keysOK (nid :: fp) 0 HR && allSome s.H fp && indep ops i fp (nid :: fp) hist) with
    | false => simp [hq] at h1
    | true =>
      simp only [hq, cond_true] at h1
      simp only [Bool.and_eq_true] at hq
      obtain ⟨e2, k1, k2, k3⟩ := vput_spec h1
      rw [fzh_iff] at k1
      exact ⟨⟨e, s.H, s.e, true, false, d, fp, nid :: fp, HR, e2, mergeH (nid :: fp) 0 s.H HR⟩, ⟨rfl, rfl, rfl, ⟨href, hg, k2, k3, .inr (.inr (.inl ⟨rfl, rfl, hw, h2, rfl, lenEq_len hq.1.1.1, fun o ho => by
        have := keysOK_spec hq.1.1.2 o ho; rwa [Nat.zero_add] at this, allSome_spec hq.1.2, rfl⟩))⟩, indep_spec hq.2⟩, k1⟩
  | false =>
    simp only [hw, cond_false] at h
    obtain ⟨d, h1, h2⟩ := Det.vsr hC o _ _ _ h
    cases hq : indep ops i fp [] hist with
    | false => simp [hq] at h1
    | true =>
      simp only [hq, cond_true] at h1
      obtain ⟨e2, k1, k2, k3⟩ := vput_spec h1
      exact ⟨⟨e, s.H, s.e, true, false, d, fp, [], s.H, e2, s.H⟩, ⟨rfl, rfl, rfl, ⟨href, hg, k2, k3, .inr (.inl ⟨rfl, rfl, hw, h2, rfl, rfl⟩)⟩, indep_spec hq⟩, k1⟩
theorem vdskip_spec {nid i : Nat} {hist : Hist} {e : Env} {s : St} {K : Hist → St → Prop} (href : ∀ j S w μ v, R S w μ (e j) v → R S w μ (s.e j) v)
    (hg : ∀ (a : Act), (∀ j, j ∈ o.looksAt oa → ∃ S w μ, R S w μ (e j) (a.tmps.getD j undef)) → Region.wanted o (yielded oa a.tmps) = false) (h : vdskip N i hist o s K) :
    ∃ r : Rec, RecAt C N oa ops nid i o hist e s.H r ∧ K ((i, r.fp, r.ws) :: hist) ⟨r.e2, r.H2, s.df⟩ := by
  rw [vdskip_eq] at h
  obtain ⟨e2, k1, k2, k3⟩ := vput_spec h
  exact ⟨⟨e, s.H, s.e, false, false, .tup [], [], [], s.H, e2, s.H⟩, ⟨rfl, rfl, rfl, ⟨href, hg, k2, k3, .inl ⟨rfl, rfl, rfl, rfl, rfl⟩⟩, fun x _ => .inr ⟨fun o _ => ⟨List.not_mem_nil, List.not_mem_nil⟩, fun o _ => List.not_mem_nil⟩⟩, k1⟩
theorem looksAt_guard {j : Nat} {want : Bool} {g : Nat} (hg : o.guard = some (j, want)) (hs : gslot oa.toList j = some g) : g ∈ o.looksAt oa := by
  have h1 : ((oa[j]?).bind (·.dst)) = some g := by
    unfold gslot at hs
    simp only [Array.getElem?_toList] at hs
    cases ho : oa[j]? with
    | none => simp [ho] at hs
    | some o' => simpa [ho] using hs
  simp [Oper.looksAt, hg, h1]
theorem vdr_step (hC : CallsOK P C RTT) {E0 : Env} {K : VX → St → Prop} {i : Nat} {rest : List (Nat × Oper)} {ih : Ih} {c : Nat} {hist : Hist} {s : St} (h : vdrB C N oa oa.toList E0 K (i, o) rest ih c hist s) :
    (∃ r : Rec, RecAt C N oa oa.toList c i o hist s.e s.H r ∧ ih (more o c) ((i, r.fp, r.ws) :: hist) ⟨r.e2, r.H2, s.df⟩) ∨
    (∃ e1, (∀ j S w μ v, R S w μ (s.e j) v → R S w μ (e1 j) v) ∧ (∀ (a : Act), (∀ j, j ∈ o.looksAt oa → ∃ S w μ, R S w μ (s.e j) (a.tmps.getD j undef)) → Region.wanted o (yielded oa a.tmps) = true) ∧
      isWr o.op = false ∧ vdcall C N oa oa.toList E0 K i o rest (fun h s => ih c h s) hist ⟨e1, s.H, s.df⟩) := by
  have same : ∀ j (S : Nat → Prop) w μ v, R S w μ (s.e j) v → R S w μ (s.e j) v := fun _ _ _ _ _ h => h
  have one : ∀ {e1 : Env}, (∀ j (S : Nat → Prop) w μ v, R S w μ (s.e j) v → R S w μ (e1 j) v) → (∀ (a : Act), (∀ j, j ∈ o.looksAt oa → ∃ S w μ, R S w μ (s.e j) (a.tmps.getD j undef)) → Region.wanted o (yielded oa a.tmps) = true) →
      vdone C N oa oa.toList E0 K (i, o) rest ih c hist ⟨e1, s.H, s.df⟩ → (∃ r : Rec, RecAt C N oa oa.toList c i o hist s.e s.H r ∧ ih (more o c) ((i, r.fp, r.ws) :: hist) ⟨r.e2, r.H2, s.df⟩) ∨
    (∃ e1, (∀ j S w μ v, R S w μ (s.e j) v → R S w μ (e1 j) v) ∧ (∀ (a : Act), (∀ j, j ∈ o.looksAt oa → ∃ S w μ, R S w μ (s.e j) (a.tmps.getD j undef)) → Region.wanted o (yielded oa a.tmps) = true) ∧
      isWr o.op = false ∧ vdcall C N oa oa.toList E0 K i o rest (fun h s => ih c h s) hist ⟨e1, s.H, s.df⟩) := fun {e1} href hg h => by
    rw [vdone_eq] at h
    cases hl : lateC C o e1 with
    | none =>
      simp only [hl] at h
      exact .inl (vdrun_spec (e := s.e) (s := ⟨e1, s.H, s.df⟩) hC href hg h)
    | some x =>
      simp only [hl] at h
      refine .inr ⟨e1, href, hg, ?_, h⟩
      unfold lateC at hl
      cases hop : o.op <;> rw [hop] at hl <;> simp only [reduceCtorEq] at hl <;> try rfl
      rename_i cc
      unfold isWr
      simp only
      split at hl
      · rename_i f hcal; rw [hcal]
      · cases hl
  rw [vdrB_eq] at h
  cases hg : o.guard with
  | none =>
    simp only [hg] at h
    exact one same (fun a _ => by simp [Region.wanted, hg]) h
  | some jw =>
    obtain ⟨j, want⟩ := jw
    simp only [hg] at h
    cases hs : gslot oa.toList j with
    | none => simp [hs] at h
    | some g =>
      simp only [hs] at h
      have hmem := looksAt_guard hg hs
      have wtt : s.e g = .tt ∨ s.e g = .bool true → ∀ (a : Act), (∀ j, j ∈ o.looksAt oa → ∃ S w μ, R S w μ (s.e j) (a.tmps.getD j undef)) → Region.wanted o (yielded oa a.tmps) = want := fun hd a ha => by
        obtain ⟨S, w, μ, hR⟩ := ha g hmem
        have hv : a.tmps.getD g undef = .bool true := by
          generalize a.tmps.getD g undef = v at hR
          rcases hd with hd | hd <;> rw [hd] at hR <;> cases hR <;> rfl
        rw [wanted_of (o := o) hg hs hv]; cases want <;> rfl
      have wff : s.e g = .ff ∨ s.e g = .bool false → ∀ (a : Act), (∀ j, j ∈ o.looksAt oa → ∃ S w μ, R S w μ (s.e j) (a.tmps.getD j undef)) → Region.wanted o (yielded oa a.tmps) = !want := fun hd a ha => by
        obtain ⟨S, w, μ, hR⟩ := ha g hmem
        have hv : a.tmps.getD g undef = .bool false := by
          generalize a.tmps.getD g undef = v at hR
          rcases hd with hd | hd <;> rw [hd] at hR <;> cases hR <;> rfl
        rw [wanted_of (o := o) hg hs hv]; cases want <;> rfl
      split at h
      · rename_i hd
        cases want
        · exact .inl (vdskip_spec same (wtt (.inl hd)) h)
        · exact one same (wtt (.inl hd)) h
      · rename_i hd
        cases want
        · exact one same (wff (.inl hd)) h
        · exact .inl (vdskip_spec same (wff (.inl hd)) h)
      · rename_i b hd
        have ref : ∀ d, (∀ (S : Nat → Prop) w μ v, R S w μ (.bool b) v → R S w μ d v) → ∀ j (S : Nat → Prop) w μ v, R S w μ (s.e j) v → R S w μ (V.upd s.e g d j) v := fun d hR j S w μ v h0 => by
          simp only [V.upd]
          cases hj : Nat.beq j g with
          | true => rw [Nat.eq_of_beq_eq_true hj, hd] at h0; exact hR S w μ v h0
          | false => exact h0
        cases b with
        | true =>
          have h1 := h.1 rfl
          have href := ref .tt fun S w μ v h => by cases h; exact .tt
          cases want
          · exact .inl (vdskip_spec (s := ⟨V.upd s.e g .tt, s.H, s.df⟩) href (wtt (.inr hd)) h1)
          · exact one href (wtt (.inr hd)) h1
        | false =>
          have h1 := h.2 rfl
          have href := ref .ff fun S w μ v h => by cases h; exact .ff
          cases want
          · exact one href (wff (.inr hd)) h1
          · exact .inl (vdskip_spec (s := ⟨V.upd s.e g .ff, s.H, s.df⟩) href (wff (.inr hd)) h1)
      · rename_i cs hd
        exact .inl (vdskip_spec same (fun a ha => by
          obtain ⟨S, w, μ, hR⟩ := ha g hmem
          refine wanted_no (o := o) hg hs ?_
          generalize a.tmps.getD g undef = v at hR
          rw [hd] at hR
          cases hR
          exact ⟨_, rfl⟩) h)
      · exact h.elim
theorem more_radd (o : Oper) (c r : Nat) : more o (c + r) = c + more o r := by
  unfold more
  cases isWr o.op <;> simp <;> omega
theorem rank_succ : ∀ (lo : List (Nat × Oper)) (p i : Nat) (o : Oper), lo[p]? = some (i, o) → rank lo (p + 1) = more o (rank lo p)
  | [], p, i, o, h => by simp at h
  | x :: l, 0, i, o, h => by
    simp only [List.getElem?_cons_zero, Option.some.injEq] at h
    subst h
    cases l <;> rfl
  | x :: l, p + 1, i, o, h => by
    have := rank_succ l p i o (by simpa using h)
    simp only [rank]
    rw [this]
    unfold more
    cases isWr x.2.op <;> cases isWr o.op <;> rfl
def Kont (C : Cx) (N : Nat) (oa : Array Oper) (E0 : Env) (K : VX → St → Prop) (lo : List (Nat × Oper)) (B : Nat) (m : Nat) (st : Nat → St) (hist : Hist) : Prop :=
  (m = lo.length ∧ K .normal (st m)) ∨ ∃ i o rest e1, lo.drop m = (i, o) :: rest ∧ (∀ j S w μ v, R S w μ ((st m).e j) v → R S w μ (e1 j) v) ∧
    (∀ (a : Act), (∀ j, j ∈ o.looksAt oa → ∃ S w μ, R S w μ ((st m).e j) (a.tmps.getD j undef)) → Region.wanted o (yielded oa a.tmps) = true) ∧
    isWr o.op = false ∧ vdcall C N oa oa.toList E0 K i o rest (fun h s => vdr C N oa oa.toList E0 K rest (B + rank lo m) h s) hist ⟨e1, (st m).H, (st m).df⟩
theorem getElem?_of_drop {α : Type} {l : List α} {p : Nat} {x : α} {r : List α} (h : l.drop p = x :: r) : l[p]? = some x ∧ l.drop (p + 1) = r := by
  constructor
  · have : (l.drop p)[0]? = some x := by rw [h]; rfl
    simpa using this
  · have : (l.drop p).drop 1 = r := by rw [h]; rfl
    rwa [List.drop_drop] at this
theorem Wk.push {lo : List (Nat × Oper)} {B p : Nat} {st : Nat → St} {T : Nat → Rec} {hist : Hist} (hW : Wk C N oa lo B p st T hist) {i : Nat} {o : Oper} (hlo : lo[p]? = some (i, o)) {r : Rec} (he : r.e = (st p).e) (hH : r.H = (st p).H) (hok : RecOK C N oa (B + rank lo p) o r)
    (hpair : ∀ x ∈ hist, Pair oa.toList x.1 x.2.1 x.2.2 i r.fp r.ws) (ws : List Nat) (hws : r.cl = false → ws = r.ws) (hlate : r.cl = true → ∀ q k o', p < q → lo[q]? = some (k, o') → reach 5 oa.toList i k = true) :
    Wk C N oa lo B (p + 1) (fun k => if k = p + 1 then ⟨r.e2, r.H2, (st p).df⟩ else st k) (fun k => if k = p then r else T k) ((i, r.fp, ws) :: hist) := by
  have hT : ∀ k, k < p → (if k = p then r else T k) = T k := fun k hk => by rw [if_neg (by omega)]
  have hS : ∀ k, k ≤ p → (if k = p + 1 then (⟨r.e2, r.H2, (st p).df⟩ : St) else st k) = st k := fun k hk => by rw [if_neg (by omega)]
  refine ⟨fun q hq => ?_, fun q k o' hq h => ?_, fun q q' k k' o1 o2 hlt hq h1 h2 => ?_, fun q k o' hq h => ?_, fun q q' k k' o1 o2 hq hlt hcl h1 h2 => ?_⟩
  · rcases Nat.lt_succ_iff_lt_or_eq.1 hq with h | rfl
    · have := hW.chain q h
      rw [hT q h, hS q (by omega), hS (q + 1) (by omega)]
      exact this
    · rw [if_pos rfl, hS q (Nat.le_refl _), if_pos rfl]
      exact ⟨he, hH, rfl, rfl, rfl⟩
  · rcases Nat.lt_succ_iff_lt_or_eq.1 hq with h1 | rfl
    · rw [hT q h1]; exact hW.ok q k o' h1 h
    · rw [hlo] at h
      simp only [Option.some.injEq, Prod.mk.injEq] at h
      obtain ⟨rfl, rfl⟩ := h
      simp only [if_true]
      exact hok
  · rcases Nat.lt_succ_iff_lt_or_eq.1 hq with h | rfl
    · rw [hT q (by omega), hT q' h]; exact hW.pair q q' k k' o1 o2 hlt h h1 h2
    · rw [hT q hlt]
      simp only [if_true]
      rw [hlo] at h2
      simp only [Option.some.injEq, Prod.mk.injEq] at h2
      obtain ⟨rfl, rfl⟩ := h2
      obtain ⟨ws', hm, hc⟩ := hW.hist q k o1 hlt h1
      cases hcl : (T q).cl with
      | true => exact .inl (hW.late q q' k _ o1 _ hlt hlt hcl h1 hlo)
      | false =>
        have := hpair _ hm
        rw [hc hcl] at this
        exact this
  · rcases Nat.lt_succ_iff_lt_or_eq.1 hq with h1 | rfl
    · rw [hT q h1]
      obtain ⟨ws', hm, hc⟩ := hW.hist q k o' h1 h
      exact ⟨ws', List.mem_cons_of_mem _ hm, hc⟩
    · rw [hlo] at h
      simp only [Option.some.injEq, Prod.mk.injEq] at h
      obtain ⟨rfl, rfl⟩ := h
      simp only [if_true]
      exact ⟨ws, List.mem_cons_self, hws⟩
  · rcases Nat.lt_succ_iff_lt_or_eq.1 hq with h | rfl
    · rw [hT q h] at hcl; exact hW.late q q' k k' o1 o2 h hlt hcl h1 h2
    · simp only [if_true] at hcl
      rw [hlo] at h1
      simp only [Option.some.injEq, Prod.mk.injEq] at h1
      obtain ⟨rfl, rfl⟩ := h1
      exact hlate hcl q' k' o2 hlt h2
theorem vdr_seg (hC : CallsOK P C RTT) {E0 : Env} {K : VX → St → Prop} {lo : List (Nat × Oper)} {B : Nat} : ∀ (l : List (Nat × Oper)) (p : Nat) (st : Nat → St) (T : Nat → Rec) (hist : Hist), lo.drop p = l → p ≤ lo.length → Wk C N oa lo B p st T hist →
    vdr C N oa oa.toList E0 K l (B + rank lo p) hist (st p) → ∃ m st' T' hist', p ≤ m ∧ (∀ q, q ≤ p → st' q = st q) ∧ (∀ q, q < p → T' q = T q) ∧ Wk C N oa lo B m st' T' hist' ∧ (∀ q, p ≤ q → q < m → (T' q).cl = false) ∧ m ≤ lo.length ∧ Kont C N oa E0 K lo B m st' hist'
  | [], p, st, T, hist, hl, hp, hW, h => by
    have : lo.length ≤ p := by
      have := congrArg List.length hl
      simp at this
      omega
    exact ⟨p, st, T, hist, Nat.le_refl _, fun _ _ => rfl, fun _ _ => rfl, hW, fun q h1 h2 => absurd h1 (by omega), hp, .inl ⟨by omega, h⟩⟩
  | (i, o) :: rest, p, st, T, hist, hl, hp, hW, h => by
    rw [vdr_cons] at h
    obtain ⟨hlo, hdrop⟩ := getElem?_of_drop hl
    have hplt : p < lo.length := (List.getElem?_eq_some_iff.1 hlo).1
    rcases vdr_step hC h with ⟨r, ⟨h1, h2, h3, h4, h5⟩, h6⟩ | ⟨e1, h1, h2, h3, h4⟩
    · have hW' := hW.push hlo h1 h2 h4 h5 r.ws (fun _ => rfl) (fun hc => by rw [h3] at hc; cases hc)
      have hst : (fun k => if k = p + 1 then (⟨r.e2, r.H2, (st p).df⟩ : St) else st k) (p + 1) = ⟨r.e2, r.H2, (st p).df⟩ := by simp
      obtain ⟨m, st', T', hist', g1, g2, g3, g4, g5, g6, g7⟩ := vdr_seg hC rest (p + 1) _ _ _ hdrop (by omega) hW' (by rw [if_pos rfl, rank_succ lo p i o hlo, ← more_radd]; exact h6)
      refine ⟨m, st', T', hist', by omega, fun q hq => ?_, fun q hq => ?_, g4, fun q h1 h2 => ?_, g6, g7⟩
      · rw [g2 q (by omega), if_neg (by omega)]
      · rw [g3 q (by omega), if_neg (by omega)]
      · rcases Nat.eq_or_lt_of_le h1 with rfl | h1
        · rw [g3 _ (by omega), if_pos rfl]; exact h3
        · exact g5 q (by omega) h2
    · exact ⟨p, st, T, hist, Nat.le_refl _, fun _ _ => rfl, fun _ _ => rfl, hW, fun q h1 h2 => absurd h1 (by omega), hp, .inr ⟨i, o, rest, e1, hl, h1, h2, h3, h4⟩⟩
end
end Go.V
end
section
namespace Go.V
section
variable {P : Program} {C : Cx} {RTT : RT} {N : Nat} {oa : Array Oper} {o : Oper} {S S' : Nat → Prop} {w w' : World} {μ μ' : Mu} {r : Option Nat} {B0 : Option Nat}
theorem RelL.sub {HX HR : HL} (h : RelL S w μ HX) (hl : HR.length = HX.length) (hs : ∀ o ob, hget HR o = some ob → hget HX o = some ob) : RelL S w μ HR :=
  ⟨⟨fun o ob ho => h.1.obs o ob (hs o ob ho), fun o o' ob ob' v v' b h1 h2 => h.1.sep o o' ob ob' v v' b (hs _ _ h1) (hs _ _ h2), fun b hb => ⟨(h.1.stat b hb).1, fun o ob v ho => (h.1.stat b hb).2 o ob v (hs _ _ ho)⟩⟩, fun o ho => h.2 o (by omega)⟩
theorem frame {HX HR HR' HX' : HL} {ws : List Nat} (hr : RelL S w μ HX) (hl : HR.length = HX.length) (hl' : HR'.length = HX'.length) (hs : ∀ o ob, hget HR o = some ob → hget HX o = some ob ∧ o ∈ ws)
    (hws : ∀ o, o ∈ ws → hget HX o ≠ none → hget HR o ≠ none) (hk : ∀ o, hget HR' o ≠ none → o ∈ ws) (h1 : ∀ o, o ∈ ws → hget HX' o = hget HR' o) (h2 : ∀ o, o ∉ ws → hget HX' o = hget HX o)
    (g : RelL S' w' μ' HR') (t : Tr S w μ (hget HR) S' w' μ' (hget HR')) : RelL S' w' μ' HX' ∧ Tr S w μ (hget HX) S' w' μ' (hget HX') := by
  have hr0 : RelL S w μ HR := hr.sub hl fun o ob ho => (hs o ob ho).1
  have hst := hr0.1.static t
  have none_of : ∀ o, o ∉ ws → hget HR o = none := fun o ho => by
    cases hx : hget HR o with
    | none => rfl
    | some ob => exact absurd (hs o ob hx).2 ho
  have outμ : ∀ o ob, o ∉ ws → hget HX o = some ob → ∃ mv, μ o = some mv ∧ μ' o = some mv ∧ ObR S w μ mv ob := fun o ob ho hx => by
    obtain ⟨mv, m1, m2⟩ := hr.1.obs o ob hx
    exact ⟨mv, m1, (t.off o mv (none_of o ho) m1).2, m2⟩
  have hsep : ∀ o ob mv o2 ob2 v2 b, o ∉ ws → hget HX o = some ob → μ o = some mv → blk mv = some b → hget HR o2 = some ob2 → μ o2 = some v2 → blk v2 ≠ some b := fun o ob mv o2 ob2 v2 b ho hx hm hb h3 h4 h5 => by
    obtain ⟨g1, g2⟩ := hs o2 ob2 h3
    exact hr.1.sep o o2 ob ob2 mv v2 b hx g1 (fun e => ho (e ▸ g2)) hm h4 hb h5
  have mixed : ∀ o1 o2 ob1 ob2 v1 v2 b, o1 ∈ ws → o2 ∉ ws → hget HR' o1 = some ob1 → hget HX o2 = some ob2 → μ' o1 = some v1 → μ' o2 = some v2 → blk v1 = some b → blk v2 ≠ some b := fun o1 o2 ob1 ob2 v1 v2 b ho1 ho2 x1 x2 m1 m2 hb hb2 => by
    obtain ⟨mv, n1, n2, n3⟩ := outμ o2 ob2 ho2 x2
    rw [n2] at m2
    injection m2 with m2
    subst m2
    rcases t.blks o1 ob1 v1 b x1 m1 hb with hge | ⟨o3, ob3, v3, e1, e2, e3⟩
    · exact absurd (n3.blk_lt hb2) (by omega)
    · exact hsep o2 ob2 _ o3 ob3 v3 b ho2 x2 n1 hb2 e1 e2 e3
  refine ⟨⟨⟨fun o ob ho => ?_, fun o1 o2 ob1 ob2 v1 v2 b x1 x2 hne m1 m2 hb => ?_, fun b hb => ⟨(g.1.stat b hb).1, fun o ob v ho hv hbv => ?_⟩⟩, fun o ho => g.2 o (by omega)⟩,
    ⟨t.os, t.tape, t.output, t.size, fun b hb hno => t.block b hb fun o ob v h3 => hno o ob v (hs o ob h3).1, t.sub, fun b hb => (t.new b hb).imp_right fun h => h.imp_right fun ⟨o, ob, v, e1, e2, e3⟩ => ⟨o, ob, v, (hs o ob e1).1, e2, e3⟩, t.mu, fun o ob v b ho hv hbv => ?_, fun o v h3 h4 => ?_, fun o h3 => ?_⟩⟩
  · by_cases hw : o ∈ ws
    · rw [h1 o hw] at ho
      exact g.1.obs o ob ho
    · rw [h2 o hw] at ho
      obtain ⟨mv, n1, n2, n3⟩ := outμ o ob hw ho
      exact ⟨mv, n2, n3.keep t.sub hst t.mu fun b hb => t.block b (n3.blk_lt hb) fun o2 ob2 v2 h3 h4 => hsep o ob mv o2 ob2 v2 b hw ho n1 hb h3 h4⟩
  · by_cases w1 : o1 ∈ ws
    · rw [h1 o1 w1] at x1
      by_cases w2 : o2 ∈ ws
      · rw [h1 o2 w2] at x2
        exact g.1.sep o1 o2 ob1 ob2 v1 v2 b x1 x2 hne m1 m2 hb
      · rw [h2 o2 w2] at x2
        exact mixed o1 o2 ob1 ob2 v1 v2 b w1 w2 x1 x2 m1 m2 hb
    · rw [h2 o1 w1] at x1
      by_cases w2 : o2 ∈ ws
      · rw [h1 o2 w2] at x2
        intro hb2
        exact mixed o2 o1 ob2 ob1 v2 v1 b w2 w1 x2 x1 m2 m1 hb2 hb
      · rw [h2 o2 w2] at x2
        obtain ⟨mv1, n1, n2, _⟩ := outμ o1 ob1 w1 x1
        obtain ⟨mv2, n3, n4, _⟩ := outμ o2 ob2 w2 x2
        rw [n2] at m1; injection m1 with m1; subst m1
        rw [n4] at m2; injection m2 with m2; subst m2
        exact hr.1.sep o1 o2 ob1 ob2 _ _ b x1 x2 hne n1 n3 hb
  · by_cases hw : o ∈ ws
    · rw [h1 o hw] at ho
      exact (g.1.stat b hb).2 o ob v ho hv hbv
    · rw [h2 o hw] at ho
      obtain ⟨mv, n1, n2, n3⟩ := outμ o ob hw ho
      rw [n2] at hv; injection hv with hv; subst hv
      rcases t.new b hb with h3 | h3 | ⟨o3, ob3, v3, e1, e2, e3⟩
      · exact (hr.1.stat b h3).2 o ob _ ho n1 hbv
      · exact absurd (n3.blk_lt hbv) (by omega)
      · exact hsep o ob _ o3 ob3 v3 b hw ho n1 hbv e1 e2 e3
  · by_cases hw : o ∈ ws
    · rw [h1 o hw] at ho
      rcases t.blks o ob v b ho hv hbv with hge | ⟨o3, ob3, v3, e1, e2, e3⟩
      · exact .inl hge
      · exact .inr ⟨o3, ob3, v3, (hs _ _ e1).1, e2, e3⟩
    · rw [h2 o hw] at ho
      obtain ⟨mv, n1, n2, n3⟩ := outμ o ob hw ho
      rw [n2] at hv; injection hv with hv; subst hv
      exact .inr ⟨o, ob, _, ho, n1, hbv⟩
  · have hn : hget HR o = none := by
      cases hx : hget HR o with
      | none => rfl
      | some ob => rw [(hs o ob hx).1] at h3; cases h3
    obtain ⟨g1, g2⟩ := t.off o v hn h4
    refine ⟨?_, g2⟩
    by_cases hw : o ∈ ws
    · rw [h1 o hw]; exact g1
    · rw [h2 o hw]; exact h3
  · rcases t.dom o h3 with h4 | ⟨h4, h5⟩
    · exact .inl (by rw [h1 o (hk o h4)]; exact h4)
    · by_cases hx : hget HX o = none
      · exact .inr ⟨h4, hx⟩
      · have hw : o ∉ ws := fun hw => hws o hw hx h5
        exact .inl (by rw [h2 o hw]; exact hx)
def dstNe (x y : Oper) : Bool := match x.dst, y.dst with
  | some a, some b => !Nat.beq a b
  | _, _ => true
def loOf (oa : Array Oper) (idx : List Nat) : List (Nat × Oper) := idx.filterMap fun i => (oa.toList[i]?).map fun o => (i, o)
theorem loOf_get {idx : List Nat} {p i : Nat} {o : Oper} (h : (loOf oa idx)[p]? = some (i, o)) : oa[i]? = some o := by
  have hm := List.mem_of_getElem? h
  unfold loOf at hm
  rw [List.mem_filterMap] at hm
  obtain ⟨j, _, hj⟩ := hm
  cases hx : oa.toList[j]? with
  | none => simp [hx] at hj
  | some x =>
    simp only [hx, Option.map_some, Option.some.injEq, Prod.mk.injEq] at hj
    obtain ⟨rfl, rfl⟩ := hj
    simpa using hx
def tmpP (oa : Array Oper) : List (Nat × Oper) → List (Nat × Oper) → Bool
  | _, [] => true
  | pre, x :: r => x.2.after.toList.all (fun e => !Region.binds .any e || pre.any fun y => Nat.beq y.1 e.on) &&
      (pre.all fun y => !Nat.beq y.1 x.1 && dstNe y.2 x.2 && (y.2.apart oa x.2 || reach 5 oa.toList y.1 x.1)) && tmpP oa (x :: pre) r
def tmpOK (oa : Array Oper) (lo : List (Nat × Oper)) : Bool := tmpP oa [] lo && (List.range oa.toList.length).all fun i => lo.any fun x => Nat.beq x.1 i
def TP (oa : Array Oper) (x y : Nat × Oper) : Prop := x.1 ≠ y.1 ∧ (∀ d, x.2.dst = some d → y.2.dst ≠ some d) ∧ (x.2.apart oa y.2 = true ∨ reach 5 oa.toList x.1 y.1 = true)
theorem tmpP_spec : ∀ {l pre : List (Nat × Oper)}, tmpP oa pre l = true → ∀ (q : Nat) y, l[q]? = some y → (∀ e ∈ y.2.after, Region.binds .any e = true → (∃ x ∈ pre, x.1 = e.on) ∨ ∃ p x, p < q ∧ l[p]? = some x ∧ x.1 = e.on) ∧
    (∀ x ∈ pre, TP oa x y) ∧ ∀ (p : Nat) x, p < q → l[p]? = some x → TP oa x y
  | [], pre, _, q, y, hy => by simp at hy
  | z :: r, pre, h, q, y, hy => by
    simp only [tmpP, Bool.and_eq_true] at h
    obtain ⟨⟨h1, h2⟩, h3⟩ := h
    have hd : ∀ x ∈ pre, TP oa x z := fun x hx => by
      have := List.all_eq_true.1 h2 x hx
      simp only [Bool.and_eq_true, Bool.or_eq_true, Bool.not_eq_true'] at this
      refine ⟨fun e => ?_, fun d hd hd' => ?_, this.2⟩
      · rw [e, Nat.beq_refl] at this; cases this.1.1
      · have h4 := this.1.2
        simp [dstNe, hd, hd'] at h4
    cases q with
    | zero =>
      simp only [List.getElem?_cons_zero, Option.some.injEq] at hy
      subst hy
      refine ⟨fun e he hb => ?_, hd, fun p x hp => absurd hp (by omega)⟩
      have := List.all_eq_true.1 h1 e (by simpa using he)
      simp only [hb, Bool.not_true, Bool.false_or, List.any_eq_true] at this
      obtain ⟨x, hx, e1⟩ := this
      exact .inl ⟨x, hx, Nat.eq_of_beq_eq_true e1⟩
    | succ q =>
      obtain ⟨g1, g2, g3⟩ := tmpP_spec h3 q y (by simpa using hy)
      refine ⟨fun e he hb => ?_, fun x hx => g2 x (List.mem_cons_of_mem _ hx), fun p x hp hx => ?_⟩
      · rcases g1 e he hb with ⟨x, hx, e1⟩ | ⟨p, x, hp, hx, e1⟩
        · rcases List.mem_cons.1 hx with rfl | hx
          · exact .inr ⟨0, x, by omega, rfl, e1⟩
          · exact .inl ⟨x, hx, e1⟩
        · exact .inr ⟨p + 1, x, by omega, by simpa using hx, e1⟩
      · cases p with
        | zero =>
          simp only [List.getElem?_cons_zero, Option.some.injEq] at hx
          subst hx
          exact g2 _ List.mem_cons_self
        | succ p => exact g3 p x (by omega) (by simpa using hx)
section
variable {lo : List (Nat × Oper)}
theorem tmpOK_edge (h : tmpOK oa lo = true) {q k : Nat} {y : Oper} (hy : lo[q]? = some (k, y)) : ∀ e ∈ y.after, Region.binds .any e = true → ∃ (p : Nat) (x : Nat × Oper), p < q ∧ lo[p]? = some x ∧ x.1 = e.on := fun e he hb => by
  simp only [tmpOK, Bool.and_eq_true] at h
  rcases (tmpP_spec h.1 q _ hy).1 e he hb with ⟨x, hx, _⟩ | h
  · cases hx
  · exact h
theorem tmpOK_pair (h : tmpOK oa lo = true) {p q : Nat} {x y : Nat × Oper} (hx : lo[p]? = some x) (hy : lo[q]? = some y) (hpq : p < q) : TP oa x y := by
  simp only [tmpOK, Bool.and_eq_true] at h
  exact (tmpP_spec h.1 q _ hy).2.2 p x hpq hx
theorem tmpOK_all (h : tmpOK oa lo = true) {i : Nat} (hi : i < oa.size) : ∃ (p : Nat) (x : Nat × Oper), lo[p]? = some x ∧ x.1 = i := by
  simp only [tmpOK, Bool.and_eq_true] at h
  have := List.all_eq_true.1 h.2 i (by simpa using hi)
  simp only [List.any_eq_true] at this
  obtain ⟨x, hx, e⟩ := this
  obtain ⟨p, hp, rfl⟩ := List.getElem_of_mem hx
  exact ⟨p, _, by simp [hp], Nat.eq_of_beq_eq_true e⟩
theorem tmpOK_inj (h : tmpOK oa lo = true) {p q : Nat} {x y : Nat × Oper} (hx : lo[p]? = some x) (hy : lo[q]? = some y) (e : x.1 = y.1) : p = q := by
  rcases Nat.lt_trichotomy p q with h1 | h1 | h1
  · exact absurd e (tmpOK_pair h hx hy h1).1
  · exact h1
  · exact absurd e.symm (tmpOK_pair h hy hx h1).1
theorem reach_closed {X : Nat → Prop} (hX : ∀ i y, X i → oa[i]? = some y → ∀ e ∈ y.after, Region.binds .any e = true → X e.on) : ∀ (f j k : Nat), reach f oa.toList j k = true → (∀ y, oa[k]? = some y → ∀ e ∈ y.after, Region.binds .any e = true → X e.on) → X j
  | 0, j, k, h, _ => by simp [reach] at h
  | f + 1, j, k, h, hk => by
    simp only [reach, Array.getElem?_toList] at h
    cases hy : oa[k]? with
    | none => simp [hy] at h
    | some y =>
      simp only [hy, Bool.or_eq_true, List.any_eq_true] at h
      rcases h with ⟨e, he, hb⟩ | ⟨e, he, hb⟩
      · simp only [Bool.and_eq_true] at hb
        have := hk y hy e (by simpa using he) hb.1
        rwa [Nat.eq_of_beq_eq_true hb.2] at this
      · simp only [Bool.and_eq_true] at hb
        exact reach_closed hX f j e.on hb.2 fun z hz => hX e.on z (hk y hy e (by simpa using he) hb.1) hz
theorem last_or_none (p : Nat → Prop) (k : Nat) : (∀ i, i < k → ¬ p i) ∨ ∃ i, i < k ∧ p i ∧ ∀ i', i < i' → i' < k → ¬ p i' := by
  classical
  induction k with
  | zero => exact .inl fun i hi => absurd hi (by omega)
  | succ k ih =>
    by_cases hk : p k
    · exact .inr ⟨k, by omega, hk, fun i' h1 h2 => absurd h1 (by omega)⟩
    · rcases ih with h | ⟨i, h1, h2, h3⟩
      · exact .inl fun i hi => by
          rcases Nat.lt_succ_iff_lt_or_eq.1 hi with h1 | rfl
          · exact h i h1
          · exact hk
      · exact .inr ⟨i, by omega, h2, fun i' g1 g2 => by
          rcases Nat.lt_succ_iff_lt_or_eq.1 g2 with h4 | rfl
          · exact h3 i' g1 h4
          · exact hk⟩
theorem rank_lt : ∀ (l : List (Nat × Oper)) (i k : Nat) (x : Nat × Oper), l[i]? = some x → isWr x.2.op = true → i < k → rank l i < rank l k
  | [], i, k, o, h, _, _ => by simp at h
  | x :: l, 0, 0, o, h, _, hk => absurd hk (by omega)
  | x :: l, 0, k + 1, o, h, hw, hk => by
    simp only [List.getElem?_cons_zero, Option.some.injEq] at h
    subst h
    simp [rank, more, hw]
  | x :: l, i + 1, 0, o, h, _, hk => absurd hk (by omega)
  | x :: l, i + 1, k + 1, o, h, hw, hk => by
    have := rank_lt l i k o (by simpa using h) hw (by omega)
    simp only [rank, more]
    cases isWr x.2.op <;> simp <;> omega
structure Inv (N : Nat) (B0 : Option Nat) (oa : Array Oper) (lo : List (Nat × Oper)) (B m : Nat) (st : Nat → St) (T : Nat → Rec) (S0 : Nat → Prop) (w0 : World) (μ0 : Mu) (X : Nat → Prop) (S : Nat → Prop) (μ : Mu) (HX : HL) (a : Act) (w : World) : Prop where
  rel : RelL S w μ HX
  len : HX.length = (st m).H.length
  tmps : a.tmps.size = N
  df : DfR B0 S w μ (hget HX) (st 0).df a.defers
  tr : Tr S0 w0 μ0 (hget (st 0).H) S w μ (hget HX)
  e1 : ∀ j, (∀ p y, X p → lo[p]? = some y → y.2.dst ≠ some j) → R S w μ ((st 0).e j) (a.tmps.getD j undef)
  e2 : ∀ p y j, X p → lo[p]? = some y → y.2.dst = some j → R S w μ (T p).d (a.tmps.getD j undef)
  h1 : ∀ o, (∀ p, X p → o ∉ (T p).ws) → hget HX o = hget (st 0).H o
  h2 : ∀ o p, X p → o ∈ (T p).ws → (∀ p', X p' → p < p' → o ∉ (T p').ws) → hget HX o = hget (st (p + 1)).H o
  mm : ∀ p y, ¬ X p → lo[p]? = some y → isWr y.2.op = true → μ (B + rank lo p) = none
  sub : ∀ p, X p → p < m
  done : ∀ p, p < m → (T p).cl = true → X p
variable {B m : Nat} {st : Nat → St} {T : Nat → Rec} {hist : Hist}
theorem lexE (hW : Wk C N oa lo B m st T hist) (hok : tmpOK oa lo = true) (hmlo : m ≤ lo.length) : ∀ q, q ≤ m → ∀ j,
    ((∀ p y, p < q → lo[p]? = some y → y.2.dst ≠ some j) → ∀ (S : Nat → Prop) w μ v, R S w μ ((st 0).e j) v → R S w μ ((st q).e j) v) ∧
    (∀ p y, p < q → lo[p]? = some y → y.2.dst = some j → ∀ (S : Nat → Prop) w μ v, R S w μ (T p).d v → R S w μ ((st q).e j) v) := by
  intro q
  induction q with
  | zero => exact fun _ j => ⟨fun _ S w μ v h => h, fun i y hi => absurd hi (by omega)⟩
  | succ q ih =>
    intro hq j
    obtain ⟨ih1, ih2⟩ := ih (by omega) j
    obtain ⟨⟨i, y⟩, hy⟩ : ∃ y, lo[q]? = some y := ⟨lo[q], by simp [show q < lo.length by omega]⟩
    obtain ⟨w1, w2, w3, w4, w5⟩ := hW.chain q (by omega)
    have hok' := hW.ok q i y (by omega) hy
    have hu := hok'.upd j
    rw [w3] at hu
    have href : y.dst ≠ some j → ∀ (S : Nat → Prop) w μ v, R S w μ ((st q).e j) v → R S w μ ((st (q + 1)).e j) v := fun hne S w μ v h => by
      rw [hu, if_neg hne]
      exact hok'.ref j S w μ v (by rw [w1]; exact h)
    refine ⟨fun hno S w μ v h => href (hno q _ (by omega) hy) S w μ v (ih1 (fun i z hi hz => hno i z (by omega) hz) S w μ v h), fun p z hp hz hd S w μ v h => ?_⟩
    rcases Nat.lt_succ_iff_lt_or_eq.1 hp with h1 | rfl
    · exact href ((tmpOK_pair hok hz hy h1).2.1 j hd) S w μ v (ih2 p z h1 hz hd S w μ v h)
    · rw [hy] at hz
      injection hz with hz
      subst hz
      rw [hu, if_pos hd]
      exact h
theorem lexStep (hW : Wk C N oa lo B m st T hist) (hmlo : m ≤ lo.length) {q : Nat} (hq : q < m) : (st q).H.length ≤ (st (q + 1)).H.length ∧ ∀ o, o ∉ (T q).ws → hget (st (q + 1)).H o = hget (st q).H o := by
  obtain ⟨⟨i, y⟩, hy⟩ : ∃ y, lo[q]? = some y := ⟨lo[q], by simp [show q < lo.length by omega]⟩
  obtain ⟨w1, w2, w3, w4, w5⟩ := hW.chain q hq
  have hok' := hW.ok q i y hq hy
  rcases hok'.run with ⟨_, _, _, _, h⟩ | ⟨_, _, _, _, _, h⟩ | ⟨_, _, _, _, _, hl, _, _, h⟩ | ⟨_, hl, h⟩
  · rw [w4, w2] at h; rw [h]; exact ⟨Nat.le_refl _, fun _ _ => rfl⟩
  · rw [w4, w2] at h; rw [h]; exact ⟨Nat.le_refl _, fun _ _ => rfl⟩
  · rw [w4, w2] at h
    rw [w2] at hl
    rw [h]
    refine ⟨Nat.le_of_eq (mergeH_len _ _ _ _ hl).symm, fun o ho => ?_⟩
    unfold hget
    rw [mergeH_get _ _ _ _ _ hl]
    cases hb : memB (0 + o) (T q).ws with
    | false => rfl
    | true => exact absurd ((memB_iff _ _).1 hb) (by rwa [Nat.zero_add])
  · rw [w4, w2] at hl
    rw [w4, w2] at h
    exact ⟨hl, h⟩
theorem lexH (hW : Wk C N oa lo B m st T hist) (hmlo : m ≤ lo.length) {i : Nat} : ∀ q, i ≤ q → q ≤ m → ∀ o, (∀ i', i ≤ i' → i' < q → o ∉ (T i').ws) → hget (st q).H o = hget (st i).H o := by
  intro q
  induction q with
  | zero => intro h _ o _; rw [show i = 0 by omega]
  | succ q ih =>
    intro h hq o ho
    rcases Nat.lt_or_ge i (q + 1) with h1 | h1
    · rw [(lexStep hW hmlo (by omega)).2 o (ho q (by omega) (by omega))]
      exact ih (by omega) (by omega) o fun i' a b => ho i' a (by omega)
    · obtain rfl : i = q + 1 := by omega
      rfl
theorem lexLen (hW : Wk C N oa lo B m st T hist) (hmlo : m ≤ lo.length) {i : Nat} : ∀ q, i ≤ q → q ≤ m → (st i).H.length ≤ (st q).H.length := by
  intro q
  induction q with
  | zero => exact fun h _ => by rw [show i = 0 by omega]; exact Nat.le_refl _
  | succ q ih =>
    intro h hq
    rcases Nat.lt_or_ge i (q + 1) with h1 | h1
    · exact Nat.le_trans (ih (by omega) (by omega)) (lexStep hW hmlo (by omega)).1
    · rw [show i = q + 1 by omega]; exact Nat.le_refl _
theorem lexDf (hW : Wk C N oa lo B m st T hist) : ∀ q, q ≤ m → (st q).df = (st 0).df := by
  intro q
  induction q with
  | zero => exact fun _ => rfl
  | succ q ih => exact fun hq => (hW.chain q (by omega)).2.2.2.2.trans (ih (by omega))
variable {X : Nat → Prop} {S0 : Nat → Prop} {w0 : World} {μ0 : Mu} {HX : HL} {a : Act}
theorem Inv.env (h : Inv N B0 oa lo B m st T S0 w0 μ0 X S μ HX a w) (hW : Wk C N oa lo B m st T hist) (hok : tmpOK oa lo = true) (hmlo : m ≤ lo.length) {k : Nat} (hk : k ≤ m)
    {j : Nat} (hj : ∀ p y, lo[p]? = some y → y.2.dst = some j → (p < k → X p) ∧ (k ≤ p → ¬ X p)) : R S w μ ((st k).e j) (a.tmps.getD j undef) := by
  classical
  obtain ⟨l1, l2⟩ := lexE hW hok hmlo k hk j
  by_cases he : ∃ p y, p < k ∧ lo[p]? = some y ∧ y.2.dst = some j
  · obtain ⟨i, y, hi, hy, hd⟩ := he
    exact l2 i y hi hy hd _ _ _ _ (h.e2 i y j ((hj i y hy hd).1 hi) hy hd)
  · refine l1 (fun i y hi hy hd => he ⟨i, y, hi, hy, hd⟩) _ _ _ _ (h.e1 j fun i y hX hy hd => ?_)
    rcases Nat.lt_or_ge i k with hi | hi
    · exact he ⟨i, y, hi, hy, hd⟩
    · exact (hj i y hy hd).2 hi hX
theorem Inv.heap (h : Inv N B0 oa lo B m st T S0 w0 μ0 X S μ HX a w) (hW : Wk C N oa lo B m st T hist) (hmlo : m ≤ lo.length) {k : Nat} (hk : k ≤ m)
    {o : Nat} (ho : ∀ i, i < m → o ∈ (T i).ws → (i < k → X i) ∧ (k ≤ i → ¬ X i)) : hget HX o = hget (st k).H o := by
  rcases last_or_none (fun i => o ∈ (T i).ws) k with hn | ⟨i, h1, h2, h3⟩
  · rw [lexH hW hmlo k (Nat.zero_le _) hk o fun i' _ hi => hn i' hi]
    refine h.h1 o fun i hXi hw => ?_
    rcases Nat.lt_or_ge i k with hi | hi
    · exact hn i hi hw
    · exact (ho i (h.sub i hXi) hw).2 hi hXi
  · rw [lexH hW hmlo k (i := i + 1) (by omega) hk o fun i' a b => h3 i' (by omega) b]
    refine h.h2 o i ((ho i (by omega) h2).1 h1) h2 fun i' hXi' hlt hw => ?_
    rcases Nat.lt_or_ge i' k with hi | hi
    · exact h3 i' hlt hi hw
    · exact (ho i' (h.sub i' hXi') hw).2 hi hXi'
def cntF : Nat → Array Bool → Nat
  | 0, _ => 0
  | m + 1, l => cntF m l + (if l.getD m false = true then 0 else 1)
theorem cntF_le (l : Array Bool) (i : Nat) : ∀ m, cntF m (l.setIfInBounds i true) ≤ cntF m l
  | 0 => Nat.le_refl _
  | m + 1 => by
    have := cntF_le l i m
    simp only [cntF]
    by_cases h : l.getD m false = true
    · rw [if_pos h, if_pos (getD_set_true h)]; omega
    · rw [if_neg h]; split <;> omega
theorem cntF_lt (l : Array Bool) (i : Nat) (hi : l.getD i false ≠ true) (his : i < l.size) : ∀ m, i < m → cntF m (l.setIfInBounds i true) < cntF m l
  | 0, h => absurd h (by omega)
  | m + 1, h => by
    simp only [cntF]
    rcases Nat.lt_succ_iff_lt_or_eq.1 h with h1 | rfl
    · have := cntF_lt l i hi his m h1
      by_cases h2 : l.getD m false = true
      · rw [if_pos h2, if_pos (getD_set_true h2)]; omega
      · rw [if_neg h2]; split <;> omega
    · have := cntF_le l i i
      have h2 : (l.setIfInBounds i true).getD i false = true := by simp [his]
      rw [if_neg hi, if_pos h2]
      omega
theorem cntF_zero (l : Array Bool) : ∀ m, cntF m l = 0 → ∀ i, i < m → l.getD i false = true
  | 0, _, i, h => absurd h (by omega)
  | m + 1, h, i, hi => by
    simp only [cntF] at h
    rcases Nat.lt_succ_iff_lt_or_eq.1 hi with h1 | rfl
    · exact cntF_zero l m (by omega) i h1
    · by_cases h2 : l.getD i false = true
      · exact h2
      · rw [if_neg h2] at h; omega
theorem set_getD {l : Array Bool} {i j : Nat} (hi : i < l.size) : (l.setIfInBounds i true).getD j false = true ↔ l.getD j false = true ∨ j = i := by
  by_cases h : j = i
  · subst h; simp [hi]
  · rw [getD_set_ne false (fun e => h e.symm)]; simp [h]
abbrev Xof (l : Array Bool) (i : Nat) : Prop := l.getD i false = true
def Xp (lo : List (Nat × Oper)) (l : Array Bool) (p : Nat) : Prop := ∃ x, lo[p]? = some x ∧ Xof l x.1
theorem Xp_set (hok : tmpOK oa lo = true) {l : Array Bool} {k p : Nat} {y : Oper} (hy : lo[p]? = some (k, y)) (hk : k < l.size) {q : Nat} : Xp lo (l.setIfInBounds k true) q ↔ Xp lo l q ∨ q = p := by
  constructor
  · rintro ⟨x, hx, h⟩
    rcases (set_getD hk).1 h with h | h
    · exact .inl ⟨x, hx, h⟩
    · exact .inr (tmpOK_inj hok hx hy h)
  · rintro (⟨x, hx, h⟩ | rfl)
    · exact ⟨x, hx, (set_getD hk).2 (.inl h)⟩
    · exact ⟨_, hy, (set_getD hk).2 (.inr rfl)⟩
structure Turn (oa : Array Oper) (lo : List (Nat × Oper)) (m : Nat) (st : Nat → St) (T : Nat → Rec) (X : Nat → Prop) (S : Nat → Prop) (μ : Mu) (HX : HL) (a : Act) (w : World) (p k : Nat) (y : Oper) : Prop where
  before : ∀ q x, lo[q]? = some x → reach 5 oa.toList x.1 k = true → X q
  after : ∀ q x, lo[q]? = some x → reach 5 oa.toList k x.1 = true → ¬ X q
  looks : ∀ j, j ∈ y.looksAt oa → R S w μ ((st p).e j) (a.tmps.getD j undef)
theorem turn_of (hW : Wk C N oa lo B m st T hist) (hok : tmpOK oa lo = true) (hloa : ∀ (p i : Nat) o, lo[p]? = some (i, o) → oa[i]? = some o) (hmlo : m ≤ lo.length) {listed : Array Bool} (hcl : ∀ i y, Xof listed i → oa[i]? = some y → ∀ e ∈ y.after, Region.binds .any e = true → Xof listed e.on)
    (h : Inv N B0 oa lo B m st T S0 w0 μ0 (Xp lo listed) S μ HX a w) {p k : Nat} {y : Oper} (hp : p ≤ m) (hy : lo[p]? = some (k, y)) (hnk : ¬ Xof listed k) (hpre : ∀ e ∈ y.after, Region.binds .any e = true → Xof listed e.on) :
    Turn oa lo m st T (Xp lo listed) S μ HX a w p k y := by
  have hoy := hloa p k y hy
  have hbefore : ∀ j, reach 5 oa.toList j k = true → Xof listed j := fun j hr => reach_closed hcl 5 j k hr fun z hz e he hb => by
    rw [hoy] at hz; injection hz with hz; subst hz; exact hpre e he hb
  have hafter : ∀ i, reach 5 oa.toList k i = true → ¬ Xof listed i := fun i hr hi => hnk (reach_closed hcl 5 k i hr fun z hz => hcl i z hi hz)
  have b1 : ∀ q x, lo[q]? = some x → reach 5 oa.toList x.1 k = true → Xp lo listed q := fun q x hx hr => ⟨x, hx, hbefore _ hr⟩
  have a1 : ∀ q x, lo[q]? = some x → reach 5 oa.toList k x.1 = true → ¬ Xp lo listed q := fun q x hx hr ⟨x', hx', hX⟩ => by
    rw [hx] at hx'; injection hx' with hx'; subst hx'; exact hafter _ hr hX
  refine ⟨b1, a1, fun j hj => h.env hW hok hmlo hp fun q z hz hd => ⟨fun hq => ?_, fun hq hX => ?_⟩⟩
  · rcases (tmpOK_pair hok hz hy hq).2.2 with h1 | h1
    · exact absurd hj ((Oper.apart_spec h1).1 j hd)
    · exact b1 q z hz h1
  · rcases Nat.lt_or_ge p q with h1 | h1
    · rcases (tmpOK_pair hok hy hz h1).2.2 with h2 | h2
      · exact absurd hj ((Oper.apart_spec h2).2.2 j hd)
      · exact a1 q z hz h2 hX
    · obtain rfl : q = p := by omega
      obtain ⟨x', hx', hX'⟩ := hX
      rw [hy] at hx'; injection hx' with hx'; subst hx'
      exact hnk hX'
theorem drawn_step (hC : CallsOK P C RTT) (hok : tmpOK oa lo = true) (hloa : ∀ (p i : Nat) o, lo[p]? = some (i, o) → oa[i]? = some o) (hW : Wk C N oa lo B m st T hist) (hmlo : m ≤ lo.length) (hB : ∀ p, p < lo.length → B + rank lo p < (st 0).H.length ∨ ∀ y, lo[p]? = some y → isWr y.2.op = false) {Q : Exit → Act → World → Prop}
    {listed : Array Bool} (hs : listed.size = oa.size) (hcl : ∀ i y, Xof listed i → oa[i]? = some y → ∀ e ∈ y.after, Region.binds .any e = true → Xof listed e.on) (h : Inv N B0 oa lo B m st T S0 w0 μ0 (Xp lo listed) S μ HX a w)
    {p k : Nat} {y : Oper} (hp : p < m) (hy : lo[p]? = some (k, y)) (hnk : ¬ Xof listed k) (hpre : ∀ e ∈ y.after, Region.binds .any e = true → Xof listed e.on) {n : Nat} {K : Act → World → Prop}
    (hK : ∀ (S' : Nat → Prop) μ' HX' a' w', Inv N B0 oa lo B m st T S0 w0 μ0 (Xp lo (listed.setIfInBounds k true)) S' μ' HX' a' w' → Tr S w μ (hget HX) S' w' μ' (hget HX') → K a' w') : wpOpIn (FW r) n P oa Q k K a w := by
  have hoy := hloa p k y hy
  have hks : k < oa.size := (Array.getElem?_eq_some_iff.1 hoy).1
  have hkl : k < listed.size := by omega
  have hnp : ¬ Xp lo listed p := fun ⟨x, hx, hX⟩ => by rw [hy] at hx; injection hx with hx; subst hx; exact hnk hX
  obtain ⟨hbefore, hafter, hlooks0⟩ := turn_of hW hok hloa hmlo hcl h (Nat.le_of_lt hp) hy hnk hpre
  obtain ⟨w1, w2, w3, w4, w5⟩ := hW.chain p hp
  have hrec := hW.ok p k y hp hy
  have hlt : ∀ q, q < m → ∃ x, lo[q]? = some x := fun q hq => ⟨lo[q], by simp [show q < lo.length by omega]⟩
  have hpair : ∀ q q', q < q' → q' < m → ∀ x x', lo[q]? = some x → lo[q']? = some x' → Pair oa.toList x.1 (T q).fp (T q).ws x'.1 (T q').fp (T q').ws := fun q q' h1 h2 x x' hx hx' => hW.pair q q' x.1 x'.1 x.2 x'.2 h1 h2 hx hx'
  have hlooks : ∀ j, j ∈ y.looksAt oa → R S w μ ((T p).e j) (a.tmps.getD j undef) := fun j hj => by rw [w1]; exact hlooks0 j hj
  have hwant := hrec.guard a fun j hj => ⟨S, w, μ, hlooks j hj⟩
  have henv : EnvR S w μ (resE (y.looksAt oa) (T p).e1) a := fun j => by
    unfold resE
    cases hm : memB j (y.looksAt oa) with
    | true => exact hrec.ref j S w μ _ (hlooks j ((memB_iff _ _).1 hm))
    | false => exact .top _
  -- what stays, once operation k is done
  have done : ∀ (S' : Nat → Prop) w' μ' HX' v, (T p).cl = false → RelL S' w' μ' HX' → Tr S w μ (hget HX) S' w' μ' (hget HX') → HX'.length = HX.length → R S' w' μ' (T p).d v → (∀ o, o ∉ (T p).ws → hget HX' o = hget HX o) →
      (∀ o, o ∈ (T p).ws → hget HX' o = hget (st (p + 1)).H o) → (∀ q z, ¬ Xp lo listed q → q ≠ p → lo[q]? = some z → isWr z.2.op = true → hget HX' (B + rank lo q) = none) →
      Inv N B0 oa lo B m st T S0 w0 μ0 (Xp lo (listed.setIfInBounds k true)) S' μ' HX' (a.put y.dst v) w' := fun S' w' μ' HX' v hcf g t hl hv hout hin hm => by
    have hsz : (a.put y.dst v).tmps.size = N := by rw [V.Act.put_size]; exact h.tmps
    have hput : ∀ j, (a.put y.dst v).tmps.getD j undef = if y.dst = some j then v else a.tmps.getD j undef := fun j => by
      cases hd : y.dst with
      | none => simp [Act.put]
      | some d =>
        have hdN := hrec.dst d hd
        by_cases hj : d = j
        · subst hj; simp [Act.put, h.tmps, hdN]
        · have : ¬ (some d = some j) := fun e => hj (by injection e)
          rw [if_neg this]
          simp only [Act.put, Array.getD_eq_getD_getElem?]
          rw [Array.getElem?_setIfInBounds_ne hj]
    refine ⟨g, hl.trans h.len, hsz, by rw [V.Act.put_defers]; exact h.df.tr h.rel.1 t, h.tr.trans t, fun j hj => ?_, fun q z j hq hz hd => ?_, fun o ho => ?_, fun o q hq hw hlast => ?_, fun q z hq hz hwz => ?_, fun q hq => ?_, fun q hq hc => ?_⟩
    · rw [hput, if_neg (hj p _ ((Xp_set hok hy hkl).2 (.inr rfl)) hy)]
      exact (h.e1 j fun i z hi hz => hj i z ((Xp_set hok hy hkl).2 (.inl hi)) hz).tr h.rel.1 t
    · rw [hput]
      rcases (Xp_set hok hy hkl).1 hq with hq | rfl
      · have hne : q ≠ p := fun e => hnp (e ▸ hq)
        have hyd : y.dst ≠ some j := fun e => by
          rcases Nat.lt_or_ge q p with h1 | h1
          · exact (tmpOK_pair hok hz hy h1).2.1 j hd e
          · exact (tmpOK_pair hok hy hz (by omega)).2.1 j e hd
        rw [if_neg hyd]
        exact (h.e2 q z j hq hz hd).tr h.rel.1 t
      · rw [hy] at hz; injection hz with hz; subst hz
        rw [if_pos hd]
        exact hv
    · rw [hout o (ho p ((Xp_set hok hy hkl).2 (.inr rfl)))]
      exact h.h1 o fun i hi => ho i ((Xp_set hok hy hkl).2 (.inl hi))
    · rcases (Xp_set hok hy hkl).1 hq with hq' | rfl
      · by_cases hok2 : o ∈ (T p).ws
        · have hpq : p < q := by
            rcases Nat.lt_or_ge q p with h1 | h1
            · exact absurd hok2 (hlast p ((Xp_set hok hy hkl).2 (.inr rfl)) h1)
            · have : q ≠ p := fun e => hnp (e ▸ hq')
              omega
          obtain ⟨z, hz⟩ := hlt q (h.sub q hq')
          rcases hpair p q hpq (h.sub q hq') _ _ hy hz with h1 | h1
          · exact absurd hq' (hafter q z hz h1)
          · exact absurd hw (h1.1 o hok2).2
        · rw [hout o hok2]
          exact h.h2 o q hq' hw fun i' hi2 hlt => hlast i' ((Xp_set hok hy hkl).2 (.inl hi2)) hlt
      · exact hin o hw
    · have hni : ¬ Xp lo listed q := fun e => hq ((Xp_set hok hy hkl).2 (.inl e))
      have hne : q ≠ p := fun e => hq ((Xp_set hok hy hkl).2 (.inr e))
      cases hx : μ' (B + rank lo q) with
      | none => rfl
      | some mv =>
        rcases t.dom (B + rank lo q) (by rw [hx]; exact fun e => by cases e) with h1 | ⟨h1, _⟩
        · exact absurd (hm q z hni hne hz hwz) h1
        · exact absurd (h.mm q z hni hz hwz) h1
    · rcases (Xp_set hok hy hkl).1 hq with hq | rfl
      · exact h.sub q hq
      · exact hp
    · exact (Xp_set hok hy hkl).2 (.inl (h.done q hq hc))
  -- the part of the heap that the operation looks at
  have hfp : ∀ o, o ∈ (T p).fp → hget HX o = hget (st p).H o := fun o ho => by
    refine h.heap hW hmlo (Nat.le_of_lt hp) fun q hq hw => ⟨fun hqp => ?_, fun hpq hX => ?_⟩
    · obtain ⟨z, hz⟩ := hlt q hq
      rcases hpair q p hqp hp _ _ hz hy with h1 | h1
      · exact hbefore q z hz h1
      · exact absurd ho (h1.1 o hw).1
    · obtain ⟨z, hz⟩ := hlt q hq
      rcases Nat.lt_or_ge p q with h1 | h1
      · rcases hpair p q h1 hq _ _ hy hz with h2 | h2
        · exact hafter q z hz h2 hX
        · exact absurd hw (h2.2 o ho)
      · exact hnp (by rwa [show p = q by omega])
  have hlenp : (st p).H.length ≤ HX.length := by rw [h.len]; exact lexLen hW hmlo m (Nat.le_of_lt hp) (Nat.le_refl _)
  obtain ⟨qq, hqq⟩ : ∃ qq, (st p).H.length + qq = HX.length := ⟨HX.length - (st p).H.length, by omega⟩
  have hres : ∀ o, hget (resH (T p).fp 0 (T p).H) o = if o ∈ (T p).fp then hget HX o else none := fun o => by
    have := resH_get (T p).fp (T p).H 0 o
    rw [Nat.zero_add] at this
    unfold hget at hfp ⊢
    rw [this]
    by_cases hm : o ∈ (T p).fp
    · rw [(memB_iff _ _).2 hm, if_pos hm, cond_true, w2, hfp o hm]
    · have : memB o (T p).fp = false := by
        cases hb : memB o (T p).fp with
        | false => rfl
        | true => exact absurd ((memB_iff _ _).1 hb) hm
      rw [this, if_neg hm]; rfl
  have hsub : ∀ o ob, hget (pad qq (resH (T p).fp 0 (T p).H)) o = some ob → hget HX o = some ob ∧ o ∈ (T p).fp := fun o ob ho => by
    rw [pad_get, hres] at ho
    split at ho
    · rename_i hm; exact ⟨ho, hm⟩
    · cases ho
  have hlR : (pad qq (resH (T p).fp 0 (T p).H)).length = HX.length := by rw [pad_len, resH_len, w2, hqq]
  have hrR : RelL S w μ (pad qq (resH (T p).fp 0 (T p).H)) := h.rel.sub hlR fun o ob ho => (hsub o ob ho).1
  have hmem0 : ∀ q z, ¬ Xp lo listed q → lo[q]? = some z → isWr z.2.op = true → hget HX (B + rank lo q) = none := fun q z hq hz hwz => by
    cases hx : hget HX (B + rank lo q) with
    | none => rfl
    | some ob =>
      obtain ⟨mv, m1, _⟩ := h.rel.1.obs _ _ hx
      rw [h.mm q z hq hz hwz] at m1; cases m1
  unfold wpOpIn
  simp only [hoy]
  rcases hrec.run with ⟨rc, r1, r2, r3, r4⟩ | ⟨rc, r1, r2, r3, r4, r5⟩ | ⟨rc, r1, r2, r3, r4, r5, r6, r7, r8⟩ | ⟨rc, _⟩
  · rw [hwant, r1]
    simp only [Bool.false_eq_true, if_false]
    refine ⟨fun _ _ => trivial, hK _ _ _ _ _ (done S w μ HX undef rc h.rel (.refl ..) rfl (by rw [r2]; exact R_undef) (fun o _ => rfl) (fun o ho => ?_) fun i z hi _ hz hwz => hmem0 i z hi hz hwz) (.refl ..)⟩
    rw [r3] at ho; cases ho
  · rw [hwant, r1]
    simp only [if_true]
    have hs := sound_sr (P := P) (k := fun d => d = (T p).d) hC henv hrR (by rw [vsr_congr (pad_get _ _)]; exact r3 (fun d => d = (T p).d) rfl)
    refine hs r n K Q fun v w' ⟨S', μ', d, H', ⟨e1, e2⟩, g1, g2, g3⟩ => ?_
    subst e1; subst e2
    obtain ⟨f1, f2⟩ := frame (ws := (T p).fp) (HX' := HX) h.rel hlR hlR hsub (fun o ho hx => by rw [pad_get, hres, if_pos ho]; exact hx) (fun o ho => by
      cases hx : hget (pad qq (resH (T p).fp 0 (T p).H)) o with
      | none => exact absurd hx ho
      | some ob => exact (hsub o ob hx).2) (fun o ho => by rw [pad_get, hres, if_pos ho]) (fun o _ => rfl) g2 g3
    refine hK _ _ _ _ _ (done S' w' μ' HX v rc f1 f2 rfl g1 (fun o _ => rfl) (fun o ho => ?_) fun i z hi _ hz hwz => hmem0 i z hi hz hwz) f2
    rw [r4] at ho; cases ho
  · rw [hwant, r1]
    simp only [if_true]
    have hno : μ (B + rank lo p) = none := h.mm p _ hnp hy r2
    have hBp : B + rank lo p < (st p).H.length := by
      rcases hB p (by omega) with h1 | h1
      · exact Nat.lt_of_lt_of_le h1 (lexLen hW hmlo p (Nat.zero_le _) (Nat.le_of_lt hp))
      · rw [h1 _ hy] at r2; cases r2
    have hs := sound_step (P := P) (nid := B + rank lo p) (k := fun d H => d = (T p).d ∧ H = pad qq (T p).HR) hC henv hrR hno (by rw [hlR]; omega) (by
      unfold vstep
      rw [r2, cond_true]
      exact vwr_pad (k := fun d H => d = (T p).d ∧ H = (T p).HR) (by rw [resH_len, w2]; exact hBp) (fun d H' ⟨e1, e2⟩ => ⟨e1, by rw [e2]⟩) (r3 _ ⟨rfl, rfl⟩))
    refine hs r n K Q fun v w' ⟨S', μ', d, H', ⟨e1, e2⟩, g1, g2, g3⟩ => ?_
    subst e1; subst e2
    have hlen' : (pad qq (T p).HR).length = HX.length := by rw [pad_len, r5, w2, hqq]
    let HX' := mergeH (T p).ws 0 HX (pad qq (T p).HR)
    have hget' : ∀ o, hget HX' o = if o ∈ (T p).ws then hget (T p).HR o else hget HX o := fun o => by
      have := mergeH_get (T p).ws HX (pad qq (T p).HR) 0 o hlen'
      rw [Nat.zero_add] at this
      rw [← pad_get qq (T p).HR]
      unfold hget
      rw [this]
      by_cases hm : o ∈ (T p).ws
      · rw [(memB_iff _ _).2 hm, if_pos hm]; rfl
      · have : memB o (T p).ws = false := by
          cases hb : memB o (T p).ws with
          | false => rfl
          | true => exact absurd ((memB_iff _ _).1 hb) hm
        rw [this, if_neg hm]; rfl
    obtain ⟨f1, f2⟩ := frame (ws := (T p).ws) (HX' := HX') h.rel hlR (by rw [hlen', mergeH_len _ _ _ _ hlen']) (fun o ob ho => ⟨(hsub o ob ho).1, by rw [r4]; exact List.mem_cons_of_mem _ (hsub o ob ho).2⟩) (fun o ho hx => by
      rw [r4] at ho
      rcases List.mem_cons.1 ho with rfl | ho
      · exact absurd (hmem0 p _ hnp hy r2) hx
      · rw [pad_get, hres, if_pos ho]; exact hx) (fun o ho => r6 o (by rwa [pad_get] at ho)) (fun o ho => by rw [hget', if_pos ho, pad_get]) (fun o ho => by rw [hget', if_neg ho]) g2 g3
    refine hK _ _ _ _ _ (done S' w' μ' HX' v rc f1 f2 (mergeH_len _ _ _ _ hlen') g1 (fun o ho => by rw [hget', if_neg ho]) (fun o ho => ?_) fun i z hi hne hz hwz => ?_) f2
    · rw [hget', if_pos ho, ← w4, r8]
      have hl2 : (T p).HR.length = (T p).H.length := r5
      have := mergeH_get (T p).ws (T p).H (T p).HR 0 o hl2
      rw [Nat.zero_add, (memB_iff _ _).2 ho] at this
      unfold hget
      rw [this]; rfl
    · rw [hget']
      split
      · rename_i hm
        rw [r4] at hm
        have h0 := hmem0 i z hi hz hwz
        rcases List.mem_cons.1 hm with he | hm
        · exfalso
          have : rank lo i = rank lo p := by omega
          rcases Nat.lt_or_ge i p with h1 | h1
          · have := rank_lt lo i p z hz hwz h1; omega
          · have := rank_lt lo p i _ hy r2 (by omega); omega
        · exfalso
          have := r7 _ hm
          rw [w2, ← hfp _ hm] at this
          exact this h0
      · exact hmem0 i z hi hz hwz
  · exact absurd (h.done p hp rc) hnp
theorem panE_R {ops : List Oper} {e : Env} {j : Nat} : (panE ops e j = e j ∧ ∀ o ∈ ops, o.dst ≠ some j) ∨ panE ops e j = .top := by
  unfold panE
  cases h : ops.any (fun o => match o.dst with | some d => Nat.beq d j | none => false) with
  | true => exact .inr rfl
  | false =>
    refine .inl ⟨rfl, fun o ho hd => ?_⟩
    have := List.any_eq_false.1 h o ho
    simp [hd] at this
theorem nilB_eq {l : List Nat} (h : nilB l = true) : l = [] := by cases l <;> first | rfl | cases h
theorem drawn_call (hC : CallsOK P C RTT) (hok : tmpOK oa lo = true) (hloa : ∀ (p i : Nat) o, lo[p]? = some (i, o) → oa[i]? = some o) (hW : Wk C N oa lo B m st T hist) (hmlo : m ≤ lo.length) (hB : B + rank lo lo.length ≤ (st 0).H.length)
    {listed : Array Bool} (hs : listed.size = oa.size) (hcl : ∀ i y, Xof listed i → oa[i]? = some y → ∀ e ∈ y.after, Region.binds .any e = true → Xof listed e.on) (h : Inv N B0 oa lo B m st T S0 w0 μ0 (Xp lo listed) S μ HX a w)
    (hro : r = none ∨ (st 0).df = none) {K : VX → St → Prop} {i : Nat} {y : Oper} {rest : List (Nat × Oper)} {e1 : Env} {ih : Hist → St → Prop} (hlo : lo.drop m = (i, y) :: rest) (href : ∀ j S w μ v, R S w μ ((st m).e j) v → R S w μ (e1 j) v)
    (hguard : ∀ (a : Act), (∀ j, j ∈ y.looksAt oa → ∃ S w μ, R S w μ ((st m).e j) (a.tmps.getD j undef)) → Region.wanted y (yielded oa a.tmps) = true) (hwr : isWr y.op = false) (hv : vdcall C N oa oa.toList (st 0).e K i y rest ih hist ⟨e1, (st m).H, (st m).df⟩)
    (hnk : ¬ Xof listed i) (hpre : ∀ e ∈ y.after, Region.binds .any e = true → Xof listed e.on) {n : Nat} {K' : Act → World → Prop}
    (hK : ∀ (S' : Nat → Prop) μ' HX' a' w' st' T' hist', (∀ q, q ≤ m → st' q = st q) → Wk C N oa lo B (m + 1) st' T' hist' → ih hist' (st' (m + 1)) → Inv N B0 oa lo B (m + 1) st' T' S0 w0 μ0 (Xp lo (listed.setIfInBounds i true)) S' μ' HX' a' w' → K' a' w') :
    y.wpIn (FW r) n P a w K' (PostC S0 w0 μ0 (hget (st 0).H) r N B0 K) := by
  obtain ⟨hy, hdrop⟩ := getElem?_of_drop hlo
  have hmlt : m < lo.length := (List.getElem?_eq_some_iff.1 hy).1
  have hoy := hloa m i y hy
  have hks : i < oa.size := (Array.getElem?_eq_some_iff.1 hoy).1
  have hkl : i < listed.size := by omega
  have hnp : ¬ Xp lo listed m := fun hx => absurd (h.sub m hx) (by omega)
  obtain ⟨hbefore, hafter, hlooks⟩ := turn_of hW hok hloa hmlo hcl h (Nat.le_refl _) hy hnk hpre
  have hlt : ∀ q, q < m → ∃ x, lo[q]? = some x := fun q hq => ⟨lo[q], by simp [show q < lo.length by omega]⟩
  rw [vdcall_eq] at hv
  cases hra : rest.all (fun x => reach 5 oa.toList i x.1) with
  | false => rw [hra] at hv; exact hv.elim
  | true =>
    rw [hra, cond_true, fznl_iff] at hv
    simp only at hv
    generalize foot y e1 (st m).H = fp at hv
    cases hq : (allSome (st m).H fp && indep oa.toList i fp (wsC (st m).H fp) hist && histLt (st m).H.length hist) with
    | false => rw [hq] at hv; exact hv.elim
    | true =>
      rw [hq, cond_true] at hv
      simp only [Bool.and_eq_true] at hq
      obtain ⟨⟨hq1, hq2⟩, hq3⟩ := hq
      have hpairs := indep_spec hq2
      have hlts : ∀ x ∈ hist, (∀ o ∈ x.2.1, o < (st m).H.length) ∧ ∀ o ∈ x.2.2, o < (st m).H.length := fun x hx => by
        have := List.all_eq_true.1 hq3 x hx
        simp only [Bool.and_eq_true, List.all_eq_true, blt_iff] at this
        exact this
      have henv : EnvR S w μ (resE (y.looksAt oa) e1) a := fun j => by
        unfold resE
        cases hm : memB j (y.looksAt oa) with
        | true => exact href j S w μ _ (hlooks j ((memB_iff _ _).1 hm))
        | false => exact .top _
      have hL : (st m).H.length = HX.length := h.len.symm
      have hpairq : ∀ q, q < m → ∀ x, lo[q]? = some x → reach 5 oa.toList x.1 i = true ∨ ((∀ o, o ∈ (T q).ws → o ∉ fp) ∧ ∀ o, o ∈ (T q).fp → o ∉ wsC (st m).H fp) := fun q hq x hx => by
        obtain ⟨ws, hm, hc⟩ := hW.hist q x.1 x.2 hq hx
        cases hcl : (T q).cl with
        | true => exact .inl (hW.late q m x.1 i x.2 y hq hq hcl hx hy)
        | false =>
          rcases hpairs _ hm with h1 | h1
          · exact .inl h1
          · rw [hc hcl] at h1
            exact .inr ⟨fun o ho => (h1.1 o ho).1, h1.2⟩
      have hfp : ∀ o, o ∈ fp → hget HX o = hget (st m).H o := fun o ho => by
        refine h.heap hW hmlo (Nat.le_refl _) fun q hq hw => ⟨fun _ => ?_, fun h1 => absurd hq (by omega)⟩
        obtain ⟨z, hz⟩ := hlt q hq
        rcases hpairq q hq z hz with h1 | h1
        · exact hbefore q z hz h1
        · exact absurd ho (h1.1 o hw)
      have hres : ∀ o, hget (resH fp 0 (st m).H) o = if o ∈ fp then hget HX o else none := fun o => by
        have := resH_get fp (st m).H 0 o
        rw [Nat.zero_add] at this
        unfold hget at hfp ⊢
        rw [this]
        by_cases hm : o ∈ fp
        · rw [(memB_iff _ _).2 hm, if_pos hm, cond_true, hfp o hm]
        · have : memB o fp = false := by
            cases hb : memB o fp with
            | false => rfl
            | true => exact absurd ((memB_iff _ _).1 hb) hm
          rw [this, if_neg hm]; rfl
      have hsub : ∀ o ob, hget (resH fp 0 (st m).H) o = some ob → hget HX o = some ob ∧ o ∈ fp := fun o ob ho => by
        rw [hres] at ho
        split at ho
        · rename_i hm; exact ⟨ho, hm⟩
        · cases ho
      have hlR : (resH fp 0 (st m).H).length = HX.length := by rw [resH_len, hL]
      have hrR : RelL S w μ (resH fp 0 (st m).H) := h.rel.sub hlR fun o ob ho => (hsub o ob ho).1
      have hfpl : ∀ o ∈ fp, o < HX.length := fun o ho => by
        have h1 := allSome_spec hq1 o ho
        cases hx : hget (st m).H o with
        | none => exact absurd hx h1
        | some ob => rw [← hL]; exact lt_of_hget hx
      -- behind the call
      have behind : ∀ (S' : Nat → Prop) w' μ' H', HX.length ≤ H'.length → keysOK fp 0 (H'.take HX.length) = true → RelL S' w' μ' H' → Tr S w μ (hget (resH fp 0 (st m).H)) S' w' μ' (hget H') →
          RelL S' w' μ' (mergeC fp 0 HX H') ∧ Tr S w μ (hget HX) S' w' μ' (hget (mergeC fp 0 HX H')) ∧ (∀ o, hget (mergeC fp 0 HX H') o = if o ∈ fp ∨ HX.length ≤ o then hget H' o else hget HX o) ∧
          (∀ o, o < HX.length → hget H' o ≠ none → o ∈ fp) := fun S' w' μ' H' hle hk g2 g3 => by
        have hmg : ∀ o, hget (mergeC fp 0 HX H') o = if o ∈ fp ∨ HX.length ≤ o then hget H' o else hget HX o := fun o => by
          have := mergeC_get fp HX H' 0 o hle
          rw [Nat.zero_add] at this
          unfold hget
          rw [this]
          by_cases ho : o < HX.length
          · rw [if_pos ho]
            by_cases hm : o ∈ fp
            · rw [(memB_iff _ _).2 hm, if_pos (.inl hm)]; rfl
            · have : memB o fp = false := by
                cases hb : memB o fp with
                | false => rfl
                | true => exact absurd ((memB_iff _ _).1 hb) hm
              rw [this, if_neg (fun hc => hc.elim hm fun h => absurd ho (by omega))]; rfl
          · rw [if_neg ho, if_pos (.inr (by omega))]
        have hkeys : ∀ o, o < HX.length → hget H' o ≠ none → o ∈ fp := fun o ho hne => by
          have := keysOK_spec hk o (by
            unfold hget at hne
            rw [List.getD_eq_getElem?_getD] at hne ⊢
            rwa [List.getElem?_take_of_lt ho])
          rwa [Nat.zero_add] at this
        obtain ⟨f1, f2⟩ := frame (ws := fp ++ List.range' HX.length (H'.length - HX.length)) (HX' := mergeC fp 0 HX H') h.rel hlR (by rw [mergeC_len _ _ _ _ hle]) (fun o ob ho => ⟨(hsub o ob ho).1, List.mem_append_left _ (hsub o ob ho).2⟩) (fun o ho hx => by
          rcases List.mem_append.1 ho with ho | ho
          · rw [hres, if_pos ho]; exact hx
          · rw [List.mem_range'_1] at ho
            exact absurd (by simp [hget, List.getElem?_eq_none (show HX.length ≤ o by omega)]) hx) (fun o ho => by
          rcases Nat.lt_or_ge o HX.length with h1 | h1
          · exact List.mem_append_left _ (hkeys o h1 ho)
          · refine List.mem_append_right _ (List.mem_range'_1.2 ⟨h1, ?_⟩)
            cases hx : hget H' o with
            | none => exact absurd hx ho
            | some ob => have := lt_of_hget hx; omega) (fun o ho => by
          rw [hmg, if_pos]
          rcases List.mem_append.1 ho with ho | ho
          · exact .inl ho
          · exact .inr (List.mem_range'_1.1 ho).1) (fun o ho => by
          rw [hmg]
          split
          · rename_i hc
            rcases hc with hc | hc
            · exact absurd (List.mem_append_left _ hc) ho
            · have : ¬ (o < H'.length) := fun hlt => ho (List.mem_append_right _ (List.mem_range'_1.2 ⟨hc, by omega⟩))
              simp [hget, List.getElem?_eq_none (show H'.length ≤ o by omega), List.getElem?_eq_none (show HX.length ≤ o by omega)]
          · rfl) g2 g3
        exact ⟨f1, f2, hmg, hkeys⟩
      cases hlc : lateC C y (resE (y.looksAt oa) e1) with
      | none => rw [hlc] at hv; exact hv.elim
      | some crds =>
        obtain ⟨cr, ds⟩ := crds
        rw [hlc] at hv
        simp only [fzl_iff] at hv
        unfold lateC at hlc
        cases hop : y.op <;> rw [hop] at hlc <;> simp only [reduceCtorEq] at hlc
        rename_i c
        obtain ⟨callee, args, ats⟩ := c
        split at hlc
        · rename_i f hcal
          simp only at hcal
          subst hcal
          split at hlc
          · rename_i g fs cs hd
            split at hlc
            · rename_i cr' hcr
              simp only [Option.some.injEq, Prod.mk.injEq] at hlc
              obtain ⟨rfl, rfl⟩ := hlc
              have hsd := hC.call g _ hcr
              have hf := henv.ev f
              rw [hd] at hf
              generalize hvf : a.eval f = fv at hf
              cases hf with
              | fn _ _ _ vf vc hl1 hl2 hR1 hR2 =>
                have hRL := args_RL (xs := args) henv hl1 hl2 hR1 hR2
                have hrun := run_call (P := P) (w := w) hop hvf hsd.enters
                refine ⟨fun _ _ => trivial, ?_⟩
                rw [run_at (fun c e => by rw [hop] at e; cases e), hrun, Oper.uponIn_enter]
                have hcalls := hsd.calls _ _ _ hv S w μ _ hrR hRL
                rw [Array.toArray_toList] at hcalls
                refine ⟨fun h => (by cases h), callsIn_FW.2 (hcalls.mono ?_)⟩
                rintro e' w' ⟨S', μ', res, H', k1, k2, k3, k4⟩
                rw [vdcallB_eq] at k1
                rw [fzh_iff] at k1
                simp only at k1
                cases hq2 : ((Nat.ble (st m).H.length H'.length && keysOK fp 0 (H'.take (st m).H.length)) && keptC (wsC (st m).H fp) (st m).H H' fp) with
                | false => rw [hq2] at k1; exact k1.elim
                | true =>
                  rw [hq2, cond_true] at k1
                  simp only [Bool.and_eq_true] at hq2
                  obtain ⟨hq2, hkept⟩ := hq2
                  have hkept := keptC_spec hkept
                  have hle : HX.length ≤ H'.length := by rw [← hL]; exact Nat.le_of_ble_eq_true hq2.1
                  obtain ⟨f1, f2, hmg, hkeys⟩ := behind S' w' μ' H' hle (by rw [← hL]; exact hq2.2) k3 k4
                  have hmg2 : ∀ o, hget (mergeC fp 0 (st m).H H') o = if o ∈ fp ∨ HX.length ≤ o then hget H' o else hget (st m).H o := fun o => by
                    have hle' : (st m).H.length ≤ H'.length := by rw [hL]; exact hle
                    have := mergeC_get fp (st m).H H' 0 o hle'
                    rw [Nat.zero_add] at this
                    unfold hget
                    rw [this, hL]
                    by_cases ho : o < HX.length
                    · rw [if_pos ho]
                      by_cases hm : o ∈ fp
                      · rw [(memB_iff _ _).2 hm, if_pos (.inl hm)]; rfl
                      · have : memB o fp = false := by
                          cases hb : memB o fp with
                          | false => rfl
                          | true => exact absurd ((memB_iff _ _).1 hb) hm
                        rw [this, if_neg (fun hc => hc.elim hm fun h => absurd ho (by omega))]; rfl
                    · rw [if_neg ho, if_pos (.inr (by omega))]
                  cases res with
                  | pan d =>
                    simp only at k1
                    cases e' with
                    | panicked ch =>
                      cases hq3 : hist.all (fun x => nilB x.2.2 || reach 5 oa.toList x.1 i) with
                      | false => rw [hq3] at k1; exact k1.elim
                      | true =>
                        rw [hq3, cond_true, fzh_iff] at k1
                        have hall : ∀ o, hget (mergeC fp 0 HX H') o = hget (mergeC fp 0 (st m).H H') o := fun o => by
                          rw [hmg, hmg2]
                          split
                          · rfl
                          · refine h.heap hW hmlo (Nat.le_refl _) fun q hq hw => ⟨fun _ => ?_, fun h1 => absurd hq (by omega)⟩
                            obtain ⟨z, hz⟩ := hlt q hq
                            obtain ⟨ws, hm, hc⟩ := hW.hist q z.1 z.2 hq hz
                            cases hcl : (T q).cl with
                            | true => exact h.done q hq hcl
                            | false =>
                              have := List.all_eq_true.1 hq3 _ hm
                              simp only [Bool.or_eq_true] at this
                              rcases this with h1 | h1
                              · rw [hc hcl] at h1
                                rw [nilB_eq h1] at hw; cases hw
                              · exact hbefore q z hz h1
                        have hlen : (mergeC fp 0 (st m).H H').length = (mergeC fp 0 HX H').length := by
                          rw [mergeC_len _ _ _ _ hle, mergeC_len _ _ _ _ (by rw [hL]; exact hle)]
                        have hgeq : hget (mergeC fp 0 HX H') = hget (mergeC fp 0 (st m).H H') := funext hall
                        refine ⟨S', μ', _, .panic d, k1, k2, ⟨f1.sub hlen fun o ob ho => by rw [hall]; exact ho, fun j => ?_, h.tmps, ?_, ?_⟩, ?_⟩
                        · rcases panE_R (ops := oa.toList) (e := (st 0).e) (j := j) with ⟨e1, e2⟩ | e1
                          · show R S' w' μ' (panE oa.toList (st 0).e j) _
                            rw [e1]
                            refine (h.e1 j fun q z hq hz hd => ?_).tr h.rel.1 f2
                            have := hloa q z.1 z.2 hz
                            exact e2 z.2 (by simpa using Array.mem_of_getElem? this) hd
                          · show R S' w' μ' (panE oa.toList (st 0).e j) _
                            rw [e1]; exact .top _
                        · simp only
                          rw [lexDf hW m (Nat.le_refl _), ← hgeq]
                          exact h.df.tr h.rel.1 f2
                        · simp only
                          rw [lexDf hW m (Nat.le_refl _)]
                          exact hro
                        · simp only
                          rw [← hgeq]
                          exact h.tr.trans f2
                    | _ => exact k2.elim
                  | ret d =>
                    simp only [fz_iff] at k1
                    cases e' with
                    | returned v =>
                      obtain ⟨e2, k5, k6, k7⟩ := vput_spec k1
                      rw [fzh_iff] at k5
                      have hH2 : (st m).H.length ≤ (mergeC fp 0 (st m).H H').length := by rw [mergeC_len _ _ _ _ (by rw [hL]; exact hle), hL]; exact hle
                      let rc : Rec := ⟨(st m).e, (st m).H, e1, true, true, d, fp, wsC (st m).H fp ++ List.range' HX.length (H'.length - HX.length), [], e2, mergeC fp 0 (st m).H H'⟩
                      have hmemws : ∀ o, o ∈ rc.ws ↔ (o ∈ wsC (st m).H fp ∨ (HX.length ≤ o ∧ o < H'.length)) := fun o => by
                        simp only [rc, List.mem_append, List.mem_range'_1]
                        constructor
                        · rintro (h1 | h1)
                          · exact .inl h1
                          · exact .inr (by omega)
                        · rintro (h1 | h1)
                          · exact .inl h1
                          · exact .inr (by omega)
                      have hrc : RecOK C N oa (B + rank lo m) y rc := ⟨href, hguard, k6, k7, .inr (.inr (.inr ⟨rfl, hH2, fun o ho => by
                          have h1 : ¬ (o ∈ wsC (st m).H fp ∨ (HX.length ≤ o ∧ o < H'.length)) := fun hc => ho ((hmemws o).2 hc)
                          show hget (mergeC fp 0 (st m).H H') o = hget (st m).H o
                          rw [hmg2]
                          split
                          · rename_i hc
                            rcases hc with hc | hc
                            · exact hkept o hc fun hw => h1 (.inl hw)
                            · have : ¬ (o < H'.length) := fun hlt => h1 (.inr ⟨hc, hlt⟩)
                              simp [hget, List.getElem?_eq_none (show H'.length ≤ o by omega), List.getElem?_eq_none (show (st m).H.length ≤ o by omega)]
                          · rfl⟩))⟩
                      have hW' := hW.push hy (r := rc) rfl rfl hrc (fun x hx => by
                        rcases hpairs x hx with h1 | h1
                        · exact .inl h1
                        · refine .inr ⟨fun o ho => ⟨(h1.1 o ho).1, fun hc => ?_⟩, fun o ho hc => ?_⟩
                          · rcases (hmemws o).1 hc with hc | hc
                            · exact (h1.1 o ho).2 hc
                            · have := (hlts x hx).2 o ho; omega
                          · rcases (hmemws o).1 hc with hc | hc
                            · exact h1.2 o ho hc
                            · have := (hlts x hx).1 o ho; omega) fp (fun hc => by cases hc) (fun _ q k o' hq hq' => by
                        have : (k, o') ∈ rest := by
                          have h1 : (lo.drop (m + 1))[q - (m + 1)]? = some (k, o') := by
                            rw [List.getElem?_drop, show m + 1 + (q - (m + 1)) = q by omega]; exact hq'
                          rw [hdrop] at h1
                          exact List.mem_of_getElem? h1
                        exact List.all_eq_true.1 hra _ this)
                      refine hK S' μ' (mergeC fp 0 HX H') _ w' _ _ _ (fun q hq => by rw [if_neg (by omega)]) hW' (by rw [if_pos rfl]; exact k5) ?_
                      have hS : ∀ q, q ≤ m → (if q = m + 1 then (⟨rc.e2, rc.H2, (st m).df⟩ : St) else st q) = st q := fun q hq => by rw [if_neg (by omega)]
                      have hT : ∀ q, q ≠ m → (if q = m then rc else T q) = T q := fun q hq => by rw [if_neg hq]
                      have hput : ∀ j, (a.put y.dst v).tmps.getD j undef = if y.dst = some j then v else a.tmps.getD j undef := fun j => by
                        cases hd : y.dst with
                        | none => simp [Act.put]
                        | some d =>
                          have hdN := k7 d hd
                          by_cases hj : d = j
                          · subst hj; simp [Act.put, h.tmps, hdN]
                          · have : ¬ (some d = some j) := fun e => hj (by injection e)
                            rw [if_neg this]
                            simp only [Act.put, Array.getD_eq_getD_getElem?]
                            rw [Array.getElem?_setIfInBounds_ne hj]
                      refine ⟨f1, ?_, by rw [V.Act.put_size]; exact h.tmps, ?_, ?_, fun j hj => ?_, fun q z j hq hz hd => ?_, fun o ho => ?_, fun o q hq hw hlast => ?_, fun q z hq hz hwz => ?_, fun q hq => ?_, fun q hq hc => ?_⟩
                      · rw [if_pos rfl, mergeC_len _ _ _ _ hle]
                        exact (mergeC_len _ _ _ _ (by rw [hL]; exact hle)).symm
                      · rw [V.Act.put_defers, hS 0 (Nat.zero_le _)]
                        exact h.df.tr h.rel.1 f2
                      · rw [hS 0 (Nat.zero_le _)]
                        exact h.tr.trans f2
                      · rw [hput, if_neg (hj m _ ((Xp_set hok hy hkl).2 (.inr rfl)) hy), hS 0 (Nat.zero_le _)]
                        exact (h.e1 j fun q z hq hz => hj q z ((Xp_set hok hy hkl).2 (.inl hq)) hz).tr h.rel.1 f2
                      · rw [hput]
                        rcases (Xp_set hok hy hkl).1 hq with hq | rfl
                        · have hqm := h.sub q hq
                          have hyd : y.dst ≠ some j := fun e => (tmpOK_pair hok hz hy hqm).2.1 j hd e
                          rw [if_neg hyd, hT q (by omega)]
                          exact (h.e2 q z j hq hz hd).tr h.rel.1 f2
                        · rw [hy] at hz; injection hz with hz; subst hz
                          rw [if_pos hd, if_pos rfl]
                          exact k2
                      · have hom : o ∉ rc.ws := by
                          have := ho m ((Xp_set hok hy hkl).2 (.inr rfl))
                          rwa [if_pos rfl] at this
                        rw [hS 0 (Nat.zero_le _), ← h.h1 o fun q hq => by
                          have := ho q ((Xp_set hok hy hkl).2 (.inl hq))
                          rwa [hT q (by have := h.sub q hq; omega)] at this, hmg]
                        split
                        · rename_i hc
                          rcases hc with hc | hc
                          · rw [hkept o hc fun hw => hom ((hmemws o).2 (.inl hw)), hfp o hc]
                          · have : ¬ (o < H'.length) := fun hlt => hom ((hmemws o).2 (.inr ⟨hc, hlt⟩))
                            simp [hget, List.getElem?_eq_none (show H'.length ≤ o by omega), List.getElem?_eq_none (show HX.length ≤ o by omega)]
                        · rfl
                      · rcases (Xp_set hok hy hkl).1 hq with hq' | rfl
                        · have hqm := h.sub q hq'
                          have hom : o ∉ rc.ws := by
                            have := hlast m ((Xp_set hok hy hkl).2 (.inr rfl)) hqm
                            rwa [if_pos rfl] at this
                          rw [hT q (by omega)] at hw
                          rw [hS (q + 1) (by omega), ← h.h2 o q hq' hw fun q' hq2 hlt' => by
                            have := hlast q' ((Xp_set hok hy hkl).2 (.inl hq2)) hlt'
                            rwa [hT q' (by have := h.sub q' hq2; omega)] at this, hmg]
                          split
                          · rename_i hc
                            rcases hc with hc | hc
                            · rw [hkept o hc fun hw => hom ((hmemws o).2 (.inl hw)), hfp o hc]
                            · have : ¬ (o < H'.length) := fun hlt => hom ((hmemws o).2 (.inr ⟨hc, hlt⟩))
                              simp [hget, List.getElem?_eq_none (show H'.length ≤ o by omega), List.getElem?_eq_none (show HX.length ≤ o by omega)]
                          · rfl
                        · rw [if_pos rfl] at hw
                          rw [if_pos rfl]
                          show hget (mergeC fp 0 HX H') o = hget (mergeC fp 0 (st q).H H') o
                          have hc := (hmemws o).1 hw
                          rw [hmg, hmg2, if_pos (hc.elim (fun h => .inl (wsC_sub h)) fun h => .inr h.1), if_pos (hc.elim (fun h => .inl (wsC_sub h)) fun h => .inr h.1)]
                      · have hni : ¬ Xp lo listed q := fun e => hq ((Xp_set hok hy hkl).2 (.inl e))
                        have hql : q < lo.length := (List.getElem?_eq_some_iff.1 hz).1
                        cases hx : μ' (B + rank lo q) with
                        | none => rfl
                        | some mv =>
                          have hnone := h.mm q z hni hz hwz
                          have hlt1 : B + rank lo q < HX.length := by
                            have h1 := rank_lt lo q lo.length z hz hwz hql
                            have h2 := lexLen hW hmlo m (Nat.zero_le _) (Nat.le_refl _)
                            rw [h.len]; omega
                          rcases k4.dom (B + rank lo q) (by rw [hx]; exact fun e => by cases e) with h1 | ⟨h1, _⟩
                          · have h2 := hkeys _ hlt1 h1
                            have h3 := hfpl _ h2
                            have h4 := allSome_spec hq1 _ h2
                            rw [← hfp _ h2] at h4
                            cases hx2 : hget HX (B + rank lo q) with
                            | none => exact absurd hx2 h4
                            | some ob =>
                              obtain ⟨mv2, m1, _⟩ := h.rel.1.obs _ _ hx2
                              rw [hnone] at m1; cases m1
                          · exact absurd hnone h1
                      · rcases (Xp_set hok hy hkl).1 hq with hq | rfl
                        · have := h.sub q hq; omega
                        · omega
                      · rcases Nat.lt_succ_iff_lt_or_eq.1 hq with h1 | rfl
                        · rw [hT q (by omega)] at hc
                          exact (Xp_set hok hy hkl).2 (.inl (h.done q h1 hc))
                        · exact (Xp_set hok hy hkl).2 (.inr rfl)
                    | _ => exact k2.elim
            · cases hlc
          · cases hlc
        · cases hlc
end
end
end Go.V
end
