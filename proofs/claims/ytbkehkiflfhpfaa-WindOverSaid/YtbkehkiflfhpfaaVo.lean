/-
  A small logic of our own, part 14: the contracts that are there so far; tactics.
-/
import Derived.Test.YtbkehkiflfhpfaaVn
set_option linter.unusedVariables false
set_option linter.unusedSimpArgs false
namespace Go.V

abbrev Lib := List (Nat × PRule)
def libGet : Lib → Nat → Option PRule
  | [], _ => none
  | (f, r) :: l, g => bif Nat.beq f g then some r else libGet l g
def LibOK (P : Program) (l : Lib) : Prop := ∀ f r, libGet l f = some r → PSound P f r
theorem LibOK.nil (P : Program) : LibOK P [] := fun f r h => by cases h
theorem LibOK.cons {P : Program} {l : Lib} {f : Nat} {r : PRule} (h : PSound P f r) (hl : LibOK P l) : LibOK P ((f, r) :: l) := fun g s hg => by
  simp only [libGet] at hg
  cases hb : Nat.beq f g with
  | true =>
    rw [hb, cond_true, Option.some.injEq] at hg
    subst hg
    rw [← Nat.eq_of_beq_eq_true hb]
    exact h
  | false =>
    rw [hb, cond_false] at hg
    exact hl g s hg
def asGet {α : Type} : List (Nat × α) → Nat → Option α
  | [], _ => none
  | (f, r) :: l, g => bif Nat.beq f g then some r else asGet l g
theorem asGet_cons {α : Type} {Q : Nat → α → Prop} {l : List (Nat × α)} {f : Nat} {r : α} (h : Q f r) (hl : ∀ g s, asGet l g = some s → Q g s) : ∀ g s, asGet ((f, r) :: l) g = some s → Q g s := fun g s hg => by
  simp only [asGet] at hg
  cases hb : Nat.beq f g with
  | true =>
    rw [hb, cond_true, Option.some.injEq] at hg
    subst hg
    rw [← Nat.eq_of_beq_eq_true hb]
    exact h
  | false =>
    rw [hb, cond_false] at hg
    exact hl g s hg
/-- What is known of functions: those that only read; those that turn objects, or panic; those that are ranged over; those that are deferred. -/
structure Libs where
  p : Lib
  c : List (Nat × CRule)
  i : List (Nat × IRule)
  d : List (Nat × DRule)
structure LibsOK (P : Program) (L : Libs) : Prop where
  p : LibOK P L.p
  c : ∀ f r, asGet L.c f = some r → CSound P f r
  i : ∀ f r, asGet L.i f = some r → ISound P f r
  d : ∀ f r, asGet L.d f = some r → DSound P f r
def cxA (tab : Tab) (L : Libs) : Cx := ⟨tabTy tab, tabZero tab, libGet L.p, tabEq tab, asGet L.c, asGet L.i, asGet L.d, none⟩
def cxOf (tab : Tab) (l : Lib) : Cx := cxA tab ⟨l, [], [], []⟩
abbrev TT : RT := fun _ _ _ _ => True
theorem callsOK_A {P : Program} {tab : Tab} {L : Libs} (ht : tabB P 0 tab = true) (hm : P.follows .mixedOrders = true) (hl : LibsOK P L) : CallsOK P (cxA tab L) TT :=
  ⟨cok_of ht rfl rfl rfl, hm, hl.p, hl.c, hl.i, hl.d, fun ol h e => (by cases e), fun _ _ _ _ _ _ _ _ _ _ => trivial⟩
theorem LibsOK.of {P : Program} {l : Lib} (hl : LibOK P l) : LibsOK P ⟨l, [], [], []⟩ := ⟨hl, fun f r h => (by cases h), fun f r h => (by cases h), fun f r h => (by cases h)⟩
theorem callsOK_of {P : Program} {tab : Tab} {l : Lib} (ht : tabB P 0 tab = true) (hm : P.follows .mixedOrders = true) (hl : LibOK P l) : CallsOK P (cxOf tab l) TT := callsOK_A ht hm (.of hl)

def toI : D → Int
  | .int _ n => n
  | _ => 0
def toS : D → ByteArray
  | .str s => s
  | _ => ⟨#[]⟩
/-- Cells that are numbers. -/
def imD (a : Nat → Nat → Int) (i j : Nat) : D := .int .i64 (a i j)
def im (g : Nat → Nat → D) (i j : Nat) : Int := toI (g i j)
def IM (n s : Nat) (g : Nat → Nat → D) : Prop := ∀ i j, i < n → j < s → g i j = imD (im g) i j
theorem IM_imD (n s : Nat) (a : Nat → Nat → Int) : IM n s (imD a) := fun _ _ _ _ => rfl
theorem im_imD (a : Nat → Nat → Int) : im (imD a) = a := rfl
/-- Elements whose first cell is a string, and whose others are numbers. -/
def smD (nm : Nat → ByteArray) (a : Nat → Nat → Int) (i j : Nat) : D := match j with
  | 0 => .str (nm i)
  | j + 1 => .int .i64 (a i j)
def imS (g : Nat → Nat → D) (i j : Nat) : Int := toI (g i (j + 1))
def nmOf (g : Nat → Nat → D) (i : Nat) : ByteArray := toS (g i 0)
def SM (n s : Nat) (g : Nat → Nat → D) : Prop := ∀ i j, i < n → j < s → g i j = smD (nmOf g) (imS g) i j
theorem SM_smD (n s : Nat) (nm : Nat → ByteArray) (a : Nat → Nat → Int) : SM n s (smD nm a) := fun i j _ _ => by cases j <;> rfl

/-- A rule: what is asked, and what is returned. -/
def mk (f : List D → Option (Prop × D)) : PRule := fun ds k => match f ds with
  | some (p, d) => p ∧ k d
  | none => False
theorem mk_det (f : List D → Option (Prop × D)) (ds : List D) : Det (mk f ds) := fun k h => by
  unfold mk at h ⊢
  cases hf : f ds with
  | none => rw [hf] at h; exact h.elim
  | some x => rw [hf] at h; exact ⟨x.2, h.2, fun k' h' => ⟨h.1, h'⟩⟩
theorem psound_mk {P : Program} {C : Cx} {f : Nat} {fn : Func} {code : Code} {g : List D → Option (Prop × D)} (hf : P.funcs[f]? = some fn) (hname : (fn.name == "runtime.NumGoroutine") = false) (hb : fn.body = some code) (hC : CallsOK P C TT)
    (h : ∀ ds p d, g ds = some (p, d) → ds.length ≤ fn.ntmps ∧ (p → ∀ k : D → Prop, k d → ∃ ds', impAL noGh ds ds' (vfun C fn code k ds'))) : PSound P f (mk g) :=
  psound_of hf hname hb hC (mk_det g) fun ds k hk => by
    unfold mk at hk
    cases hg : g ds with
    | none => rw [hg] at hk; exact hk.elim
    | some x =>
      obtain ⟨p, d⟩ := x
      rw [hg] at hk
      obtain ⟨h1, h2⟩ := h ds p d hg
      exact ⟨h1, h2 hk.1 k hk.2⟩

/-- A result that is told. -/
theorem fin_of {d d0 : D} {k : D → Prop} (h : k d0) (hi : impA noGh d d0 True) : imp1 d k := ⟨d0, h, fun S w v hR => (impA_sound (fun o ho => by cases ho) hi hR).1⟩

end Go.V
