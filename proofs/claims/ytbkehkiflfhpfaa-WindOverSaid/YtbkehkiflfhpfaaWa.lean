/-
  Contracts of the wind: numbers.
-/
import Derived.Test.YtbkehkiflfhpfaaVw
set_option linter.unusedVariables false
set_option linter.unusedSimpArgs false
set_option maxRecDepth 100000
namespace Go.Proofs.Ytbkehkiflfhpfaa
open Go.V

theorem mixed : Go.Proofs.Try.prog.follows .mixedOrders = true := by kernel_rfl
theorem ctx {l : Lib} (h : LibOK Go.Proofs.Try.prog l) : CallsOK Go.Proofs.Try.prog (cxOf tab l) TT := callsOK_of tab_ok mixed h
theorem ctxA {L : Libs} (h : LibsOK Go.Proofs.Try.prog L) : CallsOK Go.Proofs.Try.prog (cxA tab L) TT := callsOK_A tab_ok mixed h

def out (n lo hi : Int) : Bool := decide (n < lo) || decide (hi < n)
def rOut : List D → Option (Prop × D) := fun ds => match ds with
  | [.int .i64 a, .int .i64 b, .int .i64 c] => some (True, .bool (out a b c))
  | _ => none
theorem out_ok : PSound Go.Proofs.Try.prog 59 (mk rOut) := by
  refine psound_mk Try.func59 (by kernel_rfl) rfl (ctx (.nil _)) ?_
  (intro ds p d h; unfold rOut at h; split at h <;> first | (cases h; done) | skip; cases h; refine ⟨Nat.le_of_ble_eq_true rfl, fun hp k hk => ?_⟩)
  rename_i a b c
  refine ⟨[.int .i64 a, .int .i64 b, .int .i64 c], ?_⟩
  repeat' (first | with_reducible rfl | ((conv => whnf); first | exact trivial | refine And.intro ?_ ?_ | intro _ | (with_reducible refine (?_ : _ = true); (conv => lhs; whnf); done) | exact rfl))
  all_goals (refine fin_of hk ?_; clear hk; repeat' (first | with_reducible rfl | ((conv => whnf); first | exact trivial | refine And.intro ?_ ?_ | intro _ | (with_reducible refine (?_ : _ = true); (conv => lhs; whnf); done) | exact rfl)))
  all_goals (simp_all [out] <;> omega)
def lib1 : Lib := (59, mk rOut) :: []
theorem lib1_ok : LibOK Go.Proofs.Try.prog lib1 := .cons out_ok (.nil _)

def r1 (f : Int → Bool) : List D → Option (Prop × D) := fun ds => match ds with
  | [.int .i64 a] => some (True, .bool (f a))
  | _ => none
theorem never_ok : PSound Go.Proofs.Try.prog 67 (mk (r1 fun n => out n 0 100000)) := by
  refine psound_mk Try.func67 (by kernel_rfl) rfl (ctx lib1_ok) ?_
  (intro ds p d h; unfold r1 at h; split at h <;> first | (cases h; done) | skip; cases h; refine ⟨Nat.le_of_ble_eq_true rfl, fun hp k hk => ?_⟩)
  rename_i a
  refine ⟨[.int .i64 a], ?_⟩
  repeat' (first | with_reducible rfl | ((conv => whnf); first | exact trivial | refine And.intro ?_ ?_ | intro _ | (with_reducible refine (?_ : _ = true); (conv => lhs; whnf); done) | exact rfl))
  all_goals (refine fin_of hk ?_; clear hk; repeat' (first | with_reducible rfl | ((conv => whnf); first | exact trivial | refine And.intro ?_ ?_ | intro _ | (with_reducible refine (?_ : _ = true); (conv => lhs; whnf); done) | exact rfl)))
theorem nowhere_ok : PSound Go.Proofs.Try.prog 66 (mk (r1 fun n => out n 0 99999999)) := by
  refine psound_mk Try.func66 (by kernel_rfl) rfl (ctx lib1_ok) ?_
  (intro ds p d h; unfold r1 at h; split at h <;> first | (cases h; done) | skip; cases h; refine ⟨Nat.le_of_ble_eq_true rfl, fun hp k hk => ?_⟩)
  rename_i a
  refine ⟨[.int .i64 a], ?_⟩
  repeat' (first | with_reducible rfl | ((conv => whnf); first | exact trivial | refine And.intro ?_ ?_ | intro _ | (with_reducible refine (?_ : _ = true); (conv => lhs; whnf); done) | exact rfl))
  all_goals (refine fin_of hk ?_; clear hk; repeat' (first | with_reducible rfl | ((conv => whnf); first | exact trivial | refine And.intro ?_ ?_ | intro _ | (with_reducible refine (?_ : _ = true); (conv => lhs; whnf); done) | exact rfl)))

def isin (n lo hi : Int) : Bool := decide (lo ≤ n) && decide (n ≤ hi)
def rIn : List D → Option (Prop × D) := fun ds => match ds with
  | [.int .i64 a, .int .i64 b, .int .i64 c] => some (True, .bool (isin a b c))
  | _ => none
theorem in_ok : PSound Go.Proofs.Try.prog 62 (mk rIn) := by
  refine psound_mk Try.func62 (by kernel_rfl) rfl (ctx (.nil _)) ?_
  (intro ds p d h; unfold rIn at h; split at h <;> first | (cases h; done) | skip; cases h; refine ⟨Nat.le_of_ble_eq_true rfl, fun hp k hk => ?_⟩)
  rename_i a b c
  refine ⟨[.int .i64 a, .int .i64 b, .int .i64 c], ?_⟩
  repeat' (first | with_reducible rfl | ((conv => whnf); first | exact trivial | refine And.intro ?_ ?_ | intro _ | (with_reducible refine (?_ : _ = true); (conv => lhs; whnf); done) | exact rfl))
  all_goals (refine fin_of hk ?_; clear hk; repeat' (first | with_reducible rfl | ((conv => whnf); first | exact trivial | refine And.intro ?_ ?_ | intro _ | (with_reducible refine (?_ : _ = true); (conv => lhs; whnf); done) | exact rfl)))
  all_goals (simp_all [isin] <;> omega)
def lib2 : Lib := (62, mk rIn) :: lib1
theorem lib2_ok : LibOK Go.Proofs.Try.prog lib2 := .cons in_ok lib1_ok
theorem height_ok : PSound Go.Proofs.Try.prog 69 (mk (r1 fun n => isin n 0 99999999)) := by
  refine psound_mk Try.func69 (by kernel_rfl) rfl (ctx lib2_ok) ?_
  (intro ds p d h; unfold r1 at h; split at h <;> first | (cases h; done) | skip; cases h; refine ⟨Nat.le_of_ble_eq_true rfl, fun hp k hk => ?_⟩)
  rename_i a
  refine ⟨[.int .i64 a], ?_⟩
  repeat' (first | with_reducible rfl | ((conv => whnf); first | exact trivial | refine And.intro ?_ ?_ | intro _ | (with_reducible refine (?_ : _ = true); (conv => lhs; whnf); done) | exact rfl))
  all_goals (refine fin_of hk ?_; clear hk; repeat' (first | with_reducible rfl | ((conv => whnf); first | exact trivial | refine And.intro ?_ ?_ | intro _ | (with_reducible refine (?_ : _ = true); (conv => lhs; whnf); done) | exact rfl)))
theorem tick_ok : PSound Go.Proofs.Try.prog 70 (mk (r1 fun n => isin n 0 100000)) := by
  refine psound_mk Try.func70 (by kernel_rfl) rfl (ctx lib2_ok) ?_
  (intro ds p d h; unfold r1 at h; split at h <;> first | (cases h; done) | skip; cases h; refine ⟨Nat.le_of_ble_eq_true rfl, fun hp k hk => ?_⟩)
  rename_i a
  refine ⟨[.int .i64 a], ?_⟩
  repeat' (first | with_reducible rfl | ((conv => whnf); first | exact trivial | refine And.intro ?_ ?_ | intro _ | (with_reducible refine (?_ : _ = true); (conv => lhs; whnf); done) | exact rfl))
  all_goals (refine fin_of hk ?_; clear hk; repeat' (first | with_reducible rfl | ((conv => whnf); first | exact trivial | refine And.intro ?_ ?_ | intro _ | (with_reducible refine (?_ : _ = true); (conv => lhs; whnf); done) | exact rfl)))
theorem wind_ok : PSound Go.Proofs.Try.prog 99 (mk (r1 fun n => isin n (-20000) 20000)) := by
  refine psound_mk Try.func99 (by kernel_rfl) rfl (ctx lib2_ok) ?_
  (intro ds p d h; unfold r1 at h; split at h <;> first | (cases h; done) | skip; cases h; refine ⟨Nat.le_of_ble_eq_true rfl, fun hp k hk => ?_⟩)
  rename_i a
  refine ⟨[.int .i64 a], ?_⟩
  repeat' (first | with_reducible rfl | ((conv => whnf); first | exact trivial | refine And.intro ?_ ?_ | intro _ | (with_reducible refine (?_ : _ = true); (conv => lhs; whnf); done) | exact rfl))
  all_goals (refine fin_of hk ?_; clear hk; repeat' (first | with_reducible rfl | ((conv => whnf); first | exact trivial | refine And.intro ?_ ?_ | intro _ | (with_reducible refine (?_ : _ = true); (conv => lhs; whnf); done) | exact rfl)))
def lib3 : Lib := (67, mk (r1 fun n => out n 0 100000)) :: (66, mk (r1 fun n => out n 0 99999999)) :: (69, mk (r1 fun n => isin n 0 99999999)) :: (70, mk (r1 fun n => isin n 0 100000)) ::
  (99, mk (r1 fun n => isin n (-20000) 20000)) :: lib2
theorem lib3_ok : LibOK Go.Proofs.Try.prog lib3 := .cons never_ok (.cons nowhere_ok (.cons height_ok (.cons tick_ok (.cons wind_ok lib2_ok))))

/-- A span. -/
def r11 (f : Int → Int → Bool) : List D → Option (Prop × D) := fun ds => match ds with
  | [.agg [.int .i64 a, .int .i64 b]] => some (True, .bool (f a b))
  | _ => none
def winds (a b : Int) : Bool := isin a (-20000) 20000 && isin b (-20000) 20000 && decide (a ≤ b)
theorem winds_ok : PSound Go.Proofs.Try.prog 96 (mk (r11 winds)) := by
  refine psound_mk Try.func96 (by kernel_rfl) rfl (ctx lib3_ok) ?_
  (intro ds p d h; unfold r11 at h; split at h <;> first | (cases h; done) | skip; cases h; refine ⟨Nat.le_of_ble_eq_true rfl, fun hp k hk => ?_⟩)
  rename_i a b
  refine ⟨[.agg [.int .i64 a, .int .i64 b]], ?_⟩
  repeat' (first | with_reducible rfl | ((conv => whnf); first | exact trivial | refine And.intro ?_ ?_ | intro _ | (with_reducible refine (?_ : _ = true); (conv => lhs; whnf); done) | exact rfl))
  all_goals (refine fin_of hk ?_; clear hk; repeat' (first | with_reducible rfl | ((conv => whnf); first | exact trivial | refine And.intro ?_ ?_ | intro _ | (with_reducible refine (?_ : _ = true); (conv => lhs; whnf); done) | exact rfl)))
  all_goals simp_all [winds]
theorem none_ok : PSound Go.Proofs.Try.prog 85 (mk (r11 fun a b => decide (b < a))) := by
  refine psound_mk Try.func85 (by kernel_rfl) rfl (ctx lib3_ok) ?_
  (intro ds p d h; unfold r11 at h; split at h <;> first | (cases h; done) | skip; cases h; refine ⟨Nat.le_of_ble_eq_true rfl, fun hp k hk => ?_⟩)
  rename_i a b
  refine ⟨[.agg [.int .i64 a, .int .i64 b]], ?_⟩
  repeat' (first | with_reducible rfl | ((conv => whnf); first | exact trivial | refine And.intro ?_ ?_ | intro _ | (with_reducible refine (?_ : _ = true); (conv => lhs; whnf); done) | exact rfl))
  all_goals (refine fin_of hk ?_; clear hk; repeat' (first | with_reducible rfl | ((conv => whnf); first | exact trivial | refine And.intro ?_ ?_ | intro _ | (with_reducible refine (?_ : _ = true); (conv => lhs; whnf); done) | exact rfl)))
def rWithin : List D → Option (Prop × D) := fun ds => match ds with
  | [.agg [.int .i64 a, .int .i64 b], .agg [.int .i64 c, .int .i64 d]] => some (True, .bool (decide (c ≤ a) && decide (b ≤ d)))
  | _ => none
theorem within_ok : PSound Go.Proofs.Try.prog 97 (mk rWithin) := by
  refine psound_mk Try.func97 (by kernel_rfl) rfl (ctx lib3_ok) ?_
  (intro ds p d h; unfold rWithin at h; split at h <;> first | (cases h; done) | skip; cases h; refine ⟨Nat.le_of_ble_eq_true rfl, fun hp k hk => ?_⟩)
  rename_i a b c d
  refine ⟨[.agg [.int .i64 a, .int .i64 b], .agg [.int .i64 c, .int .i64 d]], ?_⟩
  repeat' (first | with_reducible rfl | ((conv => whnf); first | exact trivial | refine And.intro ?_ ?_ | intro _ | (with_reducible refine (?_ : _ = true); (conv => lhs; whnf); done) | exact rfl))
  all_goals (refine fin_of hk ?_; clear hk; repeat' (first | with_reducible rfl | ((conv => whnf); first | exact trivial | refine And.intro ?_ ?_ | intro _ | (with_reducible refine (?_ : _ = true); (conv => lhs; whnf); done) | exact rfl)))
  all_goals (simp_all <;> omega)
def rAll : List D → Option (Prop × D) := fun ds => match ds with
  | [] => some (True, .agg [.int .i64 (-20000), .int .i64 20000])
  | _ => none
theorem all_ok : PSound Go.Proofs.Try.prog 110 (mk rAll) := by
  refine psound_mk Try.func110 (by kernel_rfl) rfl (ctx lib3_ok) ?_
  (intro ds p d h; unfold rAll at h; split at h <;> first | (cases h; done) | skip; cases h; refine ⟨Nat.le_of_ble_eq_true rfl, fun hp k hk => ?_⟩)
  refine ⟨[], ?_⟩
  repeat' (first | with_reducible rfl | ((conv => whnf); first | exact trivial | refine And.intro ?_ ?_ | intro _ | (with_reducible refine (?_ : _ = true); (conv => lhs; whnf); done) | exact rfl))
  all_goals (refine fin_of hk ?_; clear hk; repeat' (first | with_reducible rfl | ((conv => whnf); first | exact trivial | refine And.intro ?_ ?_ | intro _ | (with_reducible refine (?_ : _ = true); (conv => lhs; whnf); done) | exact rfl)))
def rCommon : List D → Option (Prop × D) := fun ds => match ds with
  | [.agg [.int .i64 a, .int .i64 b], .agg [.int .i64 c, .int .i64 d]] => some (True, .agg [.int .i64 (max a c), .int .i64 (min b d)])
  | _ => none
theorem common_ok : PSound Go.Proofs.Try.prog 111 (mk rCommon) := by
  refine psound_mk Try.func111 (by kernel_rfl) rfl (ctx lib3_ok) ?_
  (intro ds p d h; unfold rCommon at h; split at h <;> first | (cases h; done) | skip; cases h; refine ⟨Nat.le_of_ble_eq_true rfl, fun hp k hk => ?_⟩)
  rename_i a b c d
  refine ⟨[.agg [.int .i64 a, .int .i64 b], .agg [.int .i64 c, .int .i64 d]], ?_⟩
  repeat' (first | with_reducible rfl | ((conv => whnf); first | exact trivial | refine And.intro ?_ ?_ | intro _ | (with_reducible refine (?_ : _ = true); (conv => lhs; whnf); done) | exact rfl))
  all_goals (refine fin_of hk ?_; clear hk; repeat' (first | with_reducible rfl | ((conv => whnf); first | exact trivial | refine And.intro ?_ ?_ | intro _ | (with_reducible refine (?_ : _ = true); (conv => lhs; whnf); done) | exact rfl)))
end Go.Proofs.Ytbkehkiflfhpfaa
