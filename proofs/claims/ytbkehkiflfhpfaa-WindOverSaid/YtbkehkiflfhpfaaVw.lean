/-
  A small logic of our own, part 15: functions that turn objects: rules in words of their own.
-/
import Derived.Test.YtbkehkiflfhpfaaVo
set_option linter.unusedVariables false
set_option linter.unusedSimpArgs false
namespace Go.V

/-- What a function's body is. -/
def codeOf (fn : Func) : Code := fn.body.getD .skip
def inl (C : Cx) (fn : Func) : CRule := inlC C fn (codeOf fn)
theorem csound_in {P : Program} {C : Cx} {f : Nat} {fn : Func} (hf : P.funcs[f]? = some fn) (hname : (fn.name == "runtime.NumGoroutine") = false) (hb : fn.body = some (codeOf fn)) (hC : CallsOK P C TT) : CSound P f (inl C fn) := csound_of hf hname hb hC
/-- A call leaves with a result and a heap of our choice: as many objects as there were, told as we like. -/
def tidyK (H : HL) (K : Res → HL → Prop) (r : Res) (H' : HL) : Prop := match r with
  | .pan d => K (.pan d) H'
  | .ret d => ∃ (d' : D) (H2 : HL), (idsOK H.length [(0, d')] H2 none = true ∧ lenB H2 H = true) ∧ impA noGh d d' (impH noGh H' H2 (K (.ret d') H2))
def tidy (c : CRule) : CRule := fun ds H K => c ds H (tidyK H K)
theorem tidy_ok {P : Program} {f : Nat} {c : CRule} (h : CSound P f c) : CSound P f (tidy c) := by
  refine ⟨h.enters, fun ds H K hk S w μ vs hr hRL => Calls.mono (h.calls ds H _ hk S w μ vs hr hRL) fun e w' hp => ?_⟩
  obtain ⟨S', μ', r, H', k1, k2, k3, k4⟩ := hp
  cases r with
  | pan d => exact ⟨S', μ', .pan d, H', k1, k2, k3, k4⟩
  | ret d =>
    obtain ⟨d', H2, ⟨hids, hlen⟩, himp⟩ := k1
    cases e with
    | returned v =>
      have k2' : R S' w' μ' d v := k2
      have hst : RelSt none 1 none S' w' μ' ⟨upd (fun _ => .top) 0 d, H', none⟩ { tmps := #[v], defers := [] } := ⟨k3, fun i => by
        cases i with
        | zero => exact k2'
        | succ i => exact .top _, rfl, trivial, .inl rfl⟩
      obtain ⟨μ2, g1, g2, g3⟩ := cut_state (s := ⟨upd (fun _ => .top) 0 d, H', none⟩) (sl := [(0, d')]) (Hg := H2) (H0 := H) (gs := noGh) hst k4 hr.2 (lenB_len hlen) (fun o ho => by cases ho) hids himp
      exact ⟨S', μ2, .ret d', H2, g3, g1.env 0, g1.rel, g2⟩
    | _ => exact k2.elim
theorem csound_mono {P : Program} {f : Nat} {c c' : CRule} (h : CSound P f c) (hi : ∀ ds H K, c' ds H K → c ds H K) : CSound P f c' :=
  ⟨h.enters, fun ds H K hk S w μ vs hr hRL => h.calls ds H K (hi ds H K hk) S w μ vs hr hRL⟩
/-- The rule of a function that turns objects. -/
theorem csound_mk {P : Program} {C : Cx} {f : Nat} {fn : Func} {c : CRule} (hf : P.funcs[f]? = some fn) (hname : (fn.name == "runtime.NumGoroutine") = false) (hb : fn.body = some (codeOf fn)) (hC : CallsOK P C TT) (hi : ∀ ds H K, c ds H K → tidy (inl C fn) ds H K) : CSound P f c :=
  csound_mono (tidy_ok (csound_in hf hname hb hC)) hi
end Go.V
