/-
  The law RecoverKnown is proved: the examples of the document. No condition.
-/
import Derived.Test.YtlndpknjlmcibaaMs
import Derived.Test.YtlndpknjlmcibaaMu
section
set_option linter.unusedVariables false
set_option linter.unusedSimpArgs false
set_option maxRecDepth 100000
set_option maxHeartbeats 4000000
namespace Go.Proofs.Ytlndpknjlmcibaa
open Go.V
def kAT : RTask := { exR with fuel := 150 }
def kAd0 : Nat → Bool := fun _ => false
def kAd1 : Nat → Bool := fun j => kAd0 j || decide ((j : Int) = 0)
def kAd2 : Nat → Bool := fun j => kAd1 j || decide ((j : Int) = 1)
def kAd3 : Nat → Bool := fun j => kAd2 j || decide ((j : Int) = 3)
def kAd4 : Nat → Bool := fun j => kAd3 j || decide ((j : Int) = (-1))
def kAd5 : Nat → Bool := fun j => kAd4 j || decide ((j : Int) = 2)
def kAd6 : Nat → Bool := fun j => kAd5 j || decide ((j : Int) = (-1))
theorem kAB0 : bestS kAT ⟨-1, 0, 0, kAd0⟩ = 0 := by decide +kernel
theorem kAB1 : bestS kAT ⟨0, 35, 0, kAd1⟩ = 1 := by decide +kernel
theorem kAB2 : bestS kAT ⟨1, 55, 0, kAd2⟩ = 3 := by decide +kernel
theorem kAB3 : bestS kAT ⟨3, 75, 0, kAd3⟩ = -1 := by decide +kernel
theorem kAB4 : bestS kAT ⟨-1, 132, 0, kAd4⟩ = 2 := by decide +kernel
theorem kAB5 : bestS kAT ⟨2, 187, 132, kAd5⟩ = -1 := by decide +kernel
theorem kAB6 : bestS kAT ⟨-1, 252, 0, kAd6⟩ = -1 := by decide +kernel
theorem kAF0 : visF kAT (-1) 0 0 = 25 := by decide +kernel
theorem kAU0 : visU kAT (-1) 0 0 = 35 := by decide +kernel
theorem kAR0 : tripS kAT (-1) 0 0 25 = 0 := by decide +kernel
theorem kAF1 : visF kAT 0 35 1 = 45 := by decide +kernel
theorem kAU1 : visU kAT 0 35 1 = 55 := by decide +kernel
theorem kAR1 : tripS kAT 0 0 1 45 = 0 := by decide +kernel
theorem kAF2 : visF kAT 1 55 3 = 65 := by decide +kernel
theorem kAU2 : visU kAT 1 55 3 = 75 := by decide +kernel
theorem kAR2 : tripS kAT 1 0 3 65 = 0 := by decide +kernel
theorem kAF3 : visF kAT 3 75 (-1) = 112 := by decide +kernel
theorem kAU3 : visU kAT 3 75 (-1) = 132 := by decide +kernel
theorem kAF4 : visF kAT (-1) 132 2 = 177 := by decide +kernel
theorem kAU4 : visU kAT (-1) 132 2 = 187 := by decide +kernel
theorem kAR4 : tripS kAT (-1) 0 2 177 = 132 := by decide +kernel
theorem kAF5 : visF kAT 2 187 (-1) = 232 := by decide +kernel
theorem kAU5 : visU kAT 2 187 (-1) = 252 := by decide +kernel
theorem kAS0 : simS kAT 0 = ⟨-1, 0, 0, kAd0⟩ := rfl
theorem kAS1 : simS kAT 1 = ⟨0, 35, 0, kAd1⟩ := by
  show stepS kAT (simS kAT 0) = _
  rw [kAS0]
  unfold stepS
  rw [kAB0]
  unfold goS
  rw [kAF0, kAU0, kAR0]
  rfl
theorem kAS2 : simS kAT 2 = ⟨1, 55, 0, kAd2⟩ := by
  show stepS kAT (simS kAT 1) = _
  rw [kAS1]
  unfold stepS
  rw [kAB1]
  unfold goS
  rw [kAF1, kAU1, kAR1]
  rfl
theorem kAS3 : simS kAT 3 = ⟨3, 75, 0, kAd3⟩ := by
  show stepS kAT (simS kAT 2) = _
  rw [kAS2]
  unfold stepS
  rw [kAB2]
  unfold goS
  rw [kAF2, kAU2, kAR2]
  rfl
theorem kAS4 : simS kAT 4 = ⟨-1, 132, 0, kAd4⟩ := by
  show stepS kAT (simS kAT 3) = _
  rw [kAS3]
  unfold stepS
  rw [kAB3]
  unfold goS
  rw [kAU3]
  rfl
theorem kAS5 : simS kAT 5 = ⟨2, 187, 132, kAd5⟩ := by
  show stepS kAT (simS kAT 4) = _
  rw [kAS4]
  unfold stepS
  rw [kAB4]
  unfold goS
  rw [kAF4, kAU4, kAR4]
  rfl
theorem kAS6 : simS kAT 6 = ⟨-1, 252, 0, kAd6⟩ := by
  show stepS kAT (simS kAT 5) = _
  rw [kAS5]
  unfold stepS
  rw [kAB5]
  unfold goS
  rw [kAU5]
  rfl
theorem kAP0 : stopAt kAT 0 = false := by
  unfold stopAt stopB
  rw [kAS0, kAB0]
  rfl
theorem kAP1 : stopAt kAT 1 = false := by
  unfold stopAt stopB
  rw [kAS1, kAB1]
  rfl
theorem kAP2 : stopAt kAT 2 = false := by
  unfold stopAt stopB
  rw [kAS2, kAB2]
  rfl
theorem kAP3 : stopAt kAT 3 = false := by
  unfold stopAt stopB
  rw [kAS3, kAB3]
  rfl
theorem kAP4 : stopAt kAT 4 = false := by
  unfold stopAt stopB
  rw [kAS4, kAB4]
  rfl
theorem kAP5 : stopAt kAT 5 = false := by
  unfold stopAt stopB
  rw [kAS5, kAB5]
  rfl
theorem kAP6 : stopAt kAT 6 = true := by
  unfold stopAt stopB
  rw [kAS6, kAB6]
  rfl
theorem kAC : cellsL kAT = [0, 1, 2, 4, 5] := by decide +kernel
theorem kAK : checkR kAT = (0, 0, 0) := by decide +kernel
theorem kAM : cellsM kAT = 5 := by unfold cellsM; rw [kAC]; rfl
theorem kAN : nVis kAT = 6 := by
  unfold nVis
  rw [kAM]
  simp only [firstFrom, kAP0, kAP1, kAP2, kAP3, kAP4, kAP5, kAP6, if_true, if_false, Bool.false_eq_true]
  rfl
def kAA : Nat → Nat → Int := tabI [[0, 25, 35], [1, 45, 55], [3, 65, 75], [-1, 112, 132], [2, 177, 187], [-1, 232, 252]]
def kAL : Nat → Nat → Int := tabI [[4, 1]]
theorem kAV : ∀ i, i < 6 → ∀ j, j < 3 → visN kAT i j = kAA i j := fun i hi j hj => by
  have hi' : i = 0 ∨ i = 1 ∨ i = 2 ∨ i = 3 ∨ i = 4 ∨ i = 5 := by omega
  have hj' : j = 0 ∨ j = 1 ∨ j = 2 := by omega
  rcases hi' with rfl | rfl | rfl | rfl | rfl | rfl <;> rcases hj' with rfl | rfl | rfl <;> simp only [visN, kAS0, kAB0, kAF0, kAU0, kAS1, kAB1, kAF1, kAU1, kAS2, kAB2, kAF2, kAU2, kAS3, kAB3, kAF3, kAU3, kAS4, kAB4, kAF4, kAU4, kAS5, kAB5, kAF5, kAU5] <;> rfl
theorem kAE : (endS kAT).done = kAd6 := by unfold endS; rw [kAN, kAS6]
theorem kAG : leftsL kAT = [4] := by
  unfold leftsL
  rw [kAE, kAM]
  decide +kernel
theorem kAW : ∀ i, i < 1 → ∀ j, j < 2 → leftM kAT (leftsL kAT) i j = kAL i j := fun i hi j hj => by
  have hi' : i = 0 := by omega
  have hj' : j = 0 ∨ j = 1 := by omega
  rw [kAG]
  rcases hi' with rfl <;> rcases hj' with rfl | rfl <;> decide +kernel
theorem kAvn : visitsN kAT = 6 := by unfold visitsN; rw [kAK, kAN]; rfl
theorem kAln : leftsN kAT = 1 := by unfold leftsN; rw [kAK, kAG]; rfl
def kBT : RTask := { exR with fuel := 99 }
def kBd0 : Nat → Bool := fun _ => false
def kBd1 : Nat → Bool := fun j => kBd0 j || decide ((j : Int) = 0)
def kBd2 : Nat → Bool := fun j => kBd1 j || decide ((j : Int) = 1)
def kBd3 : Nat → Bool := fun j => kBd2 j || decide ((j : Int) = (-1))
def kBd4 : Nat → Bool := fun j => kBd3 j || decide ((j : Int) = 3)
def kBd5 : Nat → Bool := fun j => kBd4 j || decide ((j : Int) = (-1))
theorem kBB0 : bestS kBT ⟨-1, 0, 0, kBd0⟩ = 0 := by decide +kernel
theorem kBB1 : bestS kBT ⟨0, 35, 0, kBd1⟩ = 1 := by decide +kernel
theorem kBB2 : bestS kBT ⟨1, 55, 0, kBd2⟩ = -1 := by decide +kernel
theorem kBB3 : bestS kBT ⟨-1, 110, 0, kBd3⟩ = 3 := by decide +kernel
theorem kBB4 : bestS kBT ⟨3, 157, 110, kBd4⟩ = -1 := by decide +kernel
theorem kBB5 : bestS kBT ⟨-1, 214, 0, kBd5⟩ = -1 := by decide +kernel
theorem kBF0 : visF kBT (-1) 0 0 = 25 := by decide +kernel
theorem kBU0 : visU kBT (-1) 0 0 = 35 := by decide +kernel
theorem kBR0 : tripS kBT (-1) 0 0 25 = 0 := by decide +kernel
theorem kBF1 : visF kBT 0 35 1 = 45 := by decide +kernel
theorem kBU1 : visU kBT 0 35 1 = 55 := by decide +kernel
theorem kBR1 : tripS kBT 0 0 1 45 = 0 := by decide +kernel
theorem kBF2 : visF kBT 1 55 (-1) = 90 := by decide +kernel
theorem kBU2 : visU kBT 1 55 (-1) = 110 := by decide +kernel
theorem kBF3 : visF kBT (-1) 110 3 = 147 := by decide +kernel
theorem kBU3 : visU kBT (-1) 110 3 = 157 := by decide +kernel
theorem kBR3 : tripS kBT (-1) 0 3 147 = 110 := by decide +kernel
theorem kBF4 : visF kBT 3 157 (-1) = 194 := by decide +kernel
theorem kBU4 : visU kBT 3 157 (-1) = 214 := by decide +kernel
theorem kBS0 : simS kBT 0 = ⟨-1, 0, 0, kBd0⟩ := rfl
theorem kBS1 : simS kBT 1 = ⟨0, 35, 0, kBd1⟩ := by
  show stepS kBT (simS kBT 0) = _
  rw [kBS0]
  unfold stepS
  rw [kBB0]
  unfold goS
  rw [kBF0, kBU0, kBR0]
  rfl
theorem kBS2 : simS kBT 2 = ⟨1, 55, 0, kBd2⟩ := by
  show stepS kBT (simS kBT 1) = _
  rw [kBS1]
  unfold stepS
  rw [kBB1]
  unfold goS
  rw [kBF1, kBU1, kBR1]
  rfl
theorem kBS3 : simS kBT 3 = ⟨-1, 110, 0, kBd3⟩ := by
  show stepS kBT (simS kBT 2) = _
  rw [kBS2]
  unfold stepS
  rw [kBB2]
  unfold goS
  rw [kBU2]
  rfl
theorem kBS4 : simS kBT 4 = ⟨3, 157, 110, kBd4⟩ := by
  show stepS kBT (simS kBT 3) = _
  rw [kBS3]
  unfold stepS
  rw [kBB3]
  unfold goS
  rw [kBF3, kBU3, kBR3]
  rfl
theorem kBS5 : simS kBT 5 = ⟨-1, 214, 0, kBd5⟩ := by
  show stepS kBT (simS kBT 4) = _
  rw [kBS4]
  unfold stepS
  rw [kBB4]
  unfold goS
  rw [kBU4]
  rfl
theorem kBP0 : stopAt kBT 0 = false := by
  unfold stopAt stopB
  rw [kBS0, kBB0]
  rfl
theorem kBP1 : stopAt kBT 1 = false := by
  unfold stopAt stopB
  rw [kBS1, kBB1]
  rfl
theorem kBP2 : stopAt kBT 2 = false := by
  unfold stopAt stopB
  rw [kBS2, kBB2]
  rfl
theorem kBP3 : stopAt kBT 3 = false := by
  unfold stopAt stopB
  rw [kBS3, kBB3]
  rfl
theorem kBP4 : stopAt kBT 4 = false := by
  unfold stopAt stopB
  rw [kBS4, kBB4]
  rfl
theorem kBP5 : stopAt kBT 5 = true := by
  unfold stopAt stopB
  rw [kBS5, kBB5]
  rfl
theorem kBC : cellsL kBT = [0, 1, 2, 4, 5] := by decide +kernel
theorem kBK : checkR kBT = (0, 0, 0) := by decide +kernel
theorem kBM : cellsM kBT = 5 := by unfold cellsM; rw [kBC]; rfl
theorem kBN : nVis kBT = 5 := by
  unfold nVis
  rw [kBM]
  simp only [firstFrom, kBP0, kBP1, kBP2, kBP3, kBP4, kBP5, if_true, if_false, Bool.false_eq_true]
  rfl
def kBA : Nat → Nat → Int := tabI [[0, 25, 35], [1, 45, 55], [-1, 90, 110], [3, 147, 157], [-1, 194, 214]]
def kBL : Nat → Nat → Int := tabI [[2, 2], [4, 1]]
theorem kBV : ∀ i, i < 5 → ∀ j, j < 3 → visN kBT i j = kBA i j := fun i hi j hj => by
  have hi' : i = 0 ∨ i = 1 ∨ i = 2 ∨ i = 3 ∨ i = 4 := by omega
  have hj' : j = 0 ∨ j = 1 ∨ j = 2 := by omega
  rcases hi' with rfl | rfl | rfl | rfl | rfl <;> rcases hj' with rfl | rfl | rfl <;> simp only [visN, kBS0, kBB0, kBF0, kBU0, kBS1, kBB1, kBF1, kBU1, kBS2, kBB2, kBF2, kBU2, kBS3, kBB3, kBF3, kBU3, kBS4, kBB4, kBF4, kBU4] <;> rfl
theorem kBE : (endS kBT).done = kBd5 := by unfold endS; rw [kBN, kBS5]
theorem kBG : leftsL kBT = [2, 4] := by
  unfold leftsL
  rw [kBE, kBM]
  decide +kernel
theorem kBW : ∀ i, i < 2 → ∀ j, j < 2 → leftM kBT (leftsL kBT) i j = kBL i j := fun i hi j hj => by
  have hi' : i = 0 ∨ i = 1 := by omega
  have hj' : j = 0 ∨ j = 1 := by omega
  rw [kBG]
  rcases hi' with rfl | rfl <;> rcases hj' with rfl | rfl <;> decide +kernel
theorem kBvn : visitsN kBT = 5 := by unfold visitsN; rw [kBK, kBN]; rfl
theorem kBln : leftsN kBT = 2 := by unfold leftsN; rw [kBK, kBG]; rfl
end Go.Proofs.Ytlndpknjlmcibaa
end
section
set_option linter.unusedVariables false
set_option linter.unusedSimpArgs false
set_option maxRecDepth 100000
set_option maxHeartbeats 4000000
namespace Go.Proofs.Ytlndpknjlmcibaa
open Go.V
noncomputable def lr60 : Lib := (10, mk rFound) :: lr42
theorem lr60_ok : LibOK Go.Proofs.Try.prog lr60 := .cons found_ok lr42_ok
theorem exOwn : OwnPlan exR 5 (imD planA) 1 (imD planB) := ⟨ex_vn.symm, fun i j hi hj => congrArg (V.D.int .i64) (exV i hi j hj).symm, ex_ln.symm, fun i j hi hj => congrArg (V.D.int .i64) (exW i hi j hj).symm⟩
theorem exAt {c : Int} {k : Nat} (h : firstFrom (atB planA c) 0 5 = (k : Int)) : visAt exR c = (k : Int) := by
  unfold visAt
  rw [ex_vn, ← h]
  have e : ∀ i, i < 5 → atB (visN exR) c i = atB planA c i := fun i hi => by unfold atB; rw [exV i hi 0 (by omega)]
  simp only [firstFrom, e 0 (by omega), e 1 (by omega), e 2 (by omega), e 3 (by omega), e 4 (by omega)]
theorem exFd1 : foundT exR 1200 300 = (55, 0) := by
  have h : cellT exR 1200 300 = (1, 0) := by decide +kernel
  unfold foundT
  rw [exR_check, h, exAt (k := 1) (by decide +kernel)]
  show (visN exR 1 2, (0 : Int)) = _
  rw [exV 1 (by omega) 2 (by omega)]
  decide +kernel
theorem exFd2 : (foundT exR 2550 1550).2 = 9 := by
  have h : cellT exR 2550 1550 = (4, 0) := by decide +kernel
  have z : firstFrom (atB planA 4) 0 5 = -1 := by decide +kernel
  have e : ∀ i, i < 5 → atB (visN exR) 4 i = atB planA 4 i := fun i hi => by unfold atB; rw [exV i hi 0 (by omega)]
  have q : visAt exR 4 = -1 := by
    unfold visAt
    rw [ex_vn, ← z]
    simp only [firstFrom, e 0 (by omega), e 1 (by omega), e 2 (by omega), e 3 (by omega), e 4 (by omega)]
  unfold foundT
  rw [exR_check, h, q]
  rfl
theorem rtE : rtOf (.agg [.int .i64 exR.xl, .int .i64 exR.xh, .int .i64 exR.yl, .int .i64 exR.yh, .int .i64 exR.size, .rsl 5 exR.nf (imD exR.fx), .rsl 6 exR.no (smD exR.nm exR.oa), .int .i64 exR.bx, .int .i64 exR.bz, .int .i64 exR.start, .int .i64 exR.speed, .int .i64 exR.fuel, .int .i64 exR.look, .int .i64 exR.turn]) = exR := rfl
theorem rtA : rtOf (.agg [.int .i64 exR.xl, .int .i64 exR.xh, .int .i64 exR.yl, .int .i64 exR.yh, .int .i64 exR.size, .rsl 5 exR.nf (imD exR.fx), .rsl 6 exR.no (smD exR.nm exR.oa), .int .i64 exR.bx, .int .i64 exR.bz, .int .i64 exR.start, .int .i64 exR.speed, .int .i64 150, .int .i64 exR.look, .int .i64 exR.turn]) = kAT := rfl
theorem rtB : rtOf (.agg [.int .i64 exR.xl, .int .i64 exR.xh, .int .i64 exR.yl, .int .i64 exR.yh, .int .i64 exR.size, .rsl 5 exR.nf (imD exR.fx), .rsl 6 exR.no (smD exR.nm exR.oa), .int .i64 exR.bx, .int .i64 exR.bz, .int .i64 exR.start, .int .i64 exR.speed, .int .i64 99, .int .i64 exR.look, .int .i64 exR.turn]) = kBT := rfl
theorem exCells : sameB 5 (cellsN exR) 5 (cellM exR (cellsL exR)) (im fun i j => ([.int .i64 0, .int .i64 999, .int .i64 0, .int .i64 999, .int .i64 0, .int .i64 1000, .int .i64 1999, .int .i64 0, .int .i64 999, .int .i64 0, .int .i64 2000, .int .i64 2999, .int .i64 0, .int .i64 999, .int .i64 100, .int .i64 1000, .int .i64 1999, .int .i64 1000, .int .i64 1999, .int .i64 0, .int .i64 2000, .int .i64 2999, .int .i64 1000, .int .i64 1999, .int .i64 (-1)] : List V.D).getD (i * 5 + j) .top) = true :=
  sameB_iff.mpr ⟨by decide +kernel, fun i _ h j g => by
    have n5 : cellsN exR = 5 := by decide +kernel
    rw [n5] at h
    have h' : i = 0 ∨ i = 1 ∨ i = 2 ∨ i = 3 ∨ i = 4 := by omega
    have g' : j = 0 ∨ j = 1 ∨ j = 2 ∨ j = 3 ∨ j = 4 := by omega
    rcases h' with rfl | rfl | rfl | rfl | rfl <;> rcases g' with rfl | rfl | rfl | rfl | rfl <;> decide +kernel⟩
theorem kA_fits : kAT.fits := exR_fits
theorem kB_fits : kBT.fits := exR_fits
attribute [local irreducible] exR checkR visitsN leftsN visN leftM leftsL cellT landT planA planB winA sameB foundT flightT cellsL cellM
theorem nd {p : Prop} {i : Decidable p} (h : p) (z : (!@decide p i) = true) : False := by
  rw [decide_eq_true h] at z
  cases z
theorem nb {b : Bool} (h : b = true) (z : (!b) = true) : False := by
  rw [h] at z
  cases z
theorem nf {p : Prop} {i : Decidable p} (h : p) (z : @decide p i = false) : False := by
  rw [decide_eq_true h] at z
  cases z
theorem nz {b : Bool} (h : b = true) (z : b = false) : False := by
  rw [h] at z
  cases z
theorem lawRKnown_ok : PSound Go.Proofs.Try.prog 3 (mk (rConst .tt)) := by
  refine psound_mk Try.func3 (by kernel_rfl) rfl (ctx lr60_ok) ?_
  (intro ds p d h; unfold rConst at h; split at h <;> first | (cases h; done) | skip; cases h; refine ⟨Nat.le_of_ble_eq_true rfl, fun hp k hk => ?_⟩)
  refine ⟨[], ?_⟩
  repeat' (first | ((with_reducible refine kok ?_); kernel_rfl) | ((with_reducible refine keq_mk ?_); kernel_rfl) | with_reducible rfl | ((conv => whnf); first | (with_reducible exact trivial) | ((with_reducible refine and_ff ?_ ?_); · exact rfl) | ((with_reducible refine and_tt ?_ ?_); · exact rfl) | (with_reducible refine And.intro ?_ ?_) | intro _ | (with_reducible refine fin2 hk ?_) | ((with_reducible refine eq_leaf ?_); exact rfl) | exact trivial))
  all_goals (try simp only [rtE, rtA, rtB] at *)
  all_goals try (first
    | exact exR_fits _ (by assumption)
    | exact ex_vn.symm
    | exact ex_ln.symm
    | exact congrArg (V.D.int .i64) (exV _ (by assumption) _ (by assumption)).symm
    | exact congrArg (V.D.int .i64) (exW _ (by assumption) _ (by assumption)).symm
    | ((with_reducible refine (?_ : _ ≤ (1099511627776 : Nat))); decide +kernel))
  all_goals try (rename_i z; ((with_reducible refine absurd z (?_ : ¬ ((!decide ((cellT _ _ _).2 = 0)) = true))); decide +kernel))
  all_goals try (rename_i z; ((with_reducible refine absurd z (?_ : ¬ ((!decide ((cellT _ _ _).1 = _)) = true))); decide +kernel))
  all_goals try (rename_i z; ((with_reducible refine absurd z (?_ : ¬ ((!decide ((flightT _ _ _ _ _).2 = 0)) = true))); decide +kernel))
  all_goals try (rename_i z; ((with_reducible refine absurd z (?_ : ¬ ((!decide ((flightT _ _ _ _ _).1 = _)) = true))); decide +kernel))
  all_goals try (rename_i z; exact (nd (by rw [exR_check]) z).elim)
  all_goals try (rename_i z; exact (nd (by rw [exFd1]) z).elim)
  all_goals try (rename_i z; exact (nd (by rw [exFd2]) z).elim)
  · rename_i i j h g
    have h' : i = 0 ∨ i = 1 ∨ i = 2 ∨ i = 3 ∨ i = 4 := by omega
    have g' : j = 0 ∨ j = 1 ∨ j = 2 ∨ j = 3 ∨ j = 4 := by omega
    clear hk
    rcases h' with rfl | rfl | rfl | rfl | rfl <;> rcases g' with rfl | rfl | rfl | rfl | rfl <;> rfl
  · rename_i z
    refine (nb ?_ z).elim
    rw [im_imD]
    exact exCells
  all_goals try (((with_reducible refine (?_ : (_ : Int) ≤ _)); clear hk; decide))
  all_goals try (((with_reducible refine (?_ : (_ : Nat) ≤ _)); clear hk; decide))
  all_goals try (rename_i z; exact (nf (by rw [kAK]) z).elim)
  all_goals try (rename_i z; exact (nf (by rw [kBK]) z).elim)
  · rename_i i j h g
    clear hk
    have h6 : i < 6 := h
    have h' : i = 0 ∨ i = 1 ∨ i = 2 ∨ i = 3 ∨ i = 4 ∨ i = 5 := by omega
    have g' : j = 0 ∨ j = 1 ∨ j = 2 := by omega
    rcases h' with rfl | rfl | rfl | rfl | rfl | rfl <;> rcases g' with rfl | rfl | rfl <;> rfl
  · rename_i i j h g
    clear hk
    have h' : i = 0 := by omega
    have g' : j = 0 ∨ j = 1 := by omega
    rcases h' with rfl
    rcases g' with rfl | rfl <;> rfl
  · rename_i i j h g z
    clear hk
    have h6 : i < 5 := h
    have h' : i = 0 ∨ i = 1 ∨ i = 2 ∨ i = 3 ∨ i = 4 := by omega
    have g' : j = 0 ∨ j = 1 ∨ j = 2 := by omega
    rcases h' with rfl | rfl | rfl | rfl | rfl <;> rcases g' with rfl | rfl | rfl <;> rfl
  · rename_i i j h g z
    clear hk
    have h' : i = 0 ∨ i = 1 := by omega
    have g' : j = 0 ∨ j = 1 := by omega
    rcases h' with rfl | rfl <;> rcases g' with rfl | rfl <;> rfl
  · rename_i z
    refine (nz ?_ z).elim
    clear hk z
    rw [Bool.and_eq_true, im_imD, im_imD]
    refine ⟨sameB_iff.2 ⟨kBvn, fun i _ h j g => ?_⟩, sameB_iff.2 ⟨kBln, fun i _ h j g => ?_⟩⟩
    · rw [kBvn] at h
      rw [kBV i h j g]
      have h' : i = 0 ∨ i = 1 ∨ i = 2 ∨ i = 3 ∨ i = 4 := by omega
      have g' : j = 0 ∨ j = 1 ∨ j = 2 := by omega
      rcases h' with rfl | rfl | rfl | rfl | rfl <;> rcases g' with rfl | rfl | rfl <;> decide +kernel
    · rw [kBln] at h
      rw [kBW i h j g]
      have h' : i = 0 ∨ i = 1 := by omega
      have g' : j = 0 ∨ j = 1 := by omega
      rcases h' with rfl | rfl <;> rcases g' with rfl | rfl <;> decide +kernel
  · rename_i z
    refine (nz ?_ z).elim
    clear hk z
    rw [Bool.and_eq_true, im_imD, im_imD]
    refine ⟨sameB_iff.2 ⟨kAvn, fun i _ h j g => ?_⟩, sameB_iff.2 ⟨kAln, fun i _ h j g => ?_⟩⟩
    · rw [kAvn] at h
      rw [kAV i h j g]
      have h' : i = 0 ∨ i = 1 ∨ i = 2 ∨ i = 3 ∨ i = 4 ∨ i = 5 := by omega
      have g' : j = 0 ∨ j = 1 ∨ j = 2 := by omega
      rcases h' with rfl | rfl | rfl | rfl | rfl | rfl <;> rcases g' with rfl | rfl | rfl <;> decide +kernel
    · rw [kAln] at h
      rw [kAW i h j g]
      have h' : i = 0 := by omega
      have g' : j = 0 ∨ j = 1 := by omega
      rcases h' with rfl
      rcases g' with rfl | rfl <;> decide +kernel
end Go.Proofs.Ytlndpknjlmcibaa
end
section
set_option linter.unusedVariables false
set_option linter.unusedSimpArgs false
set_option maxRecDepth 100000
namespace Go.Proofs.Ytlndpknjlmcibaa
open Go.V

theorem recoverKnown_lifted (os : Os) (started : os.Started) (H : Type) (enc : TypeId × Value → H) :
    ReturnsInHanded {} Try.checked os 3 .any (Rows.recoverKnownSpec.pre6 enc Go.Proofs.Try.prog Try.f3 Rows.recoverKnownRow.domain false) (Rows.recoverKnownSpec.post enc Go.Proofs.Try.prog Try.f3 false Rows.recoverKnownRow.fresh Rows.recoverKnownRow.handsOn Rows.recoverKnownRow.again) := by
  refine returnsInHanded_of_change (C := Try.checked) own started (by kernel_rfl) Try.func3
    (ChangeSpec.witness6 (enc := enc) (C := Try.checked) false ⟨#[], #[], []⟩ 8 (by kernel_rfl) (by kernel_rfl) (by kernel_rfl) (by kernel_rfl)) ?_
  intro W base args ds gs before hok hW _ _
  refine law_contract (l := []) (tb := 4) laid_ok lawRKnown_ok (by kernel_rfl) (by kernel_rfl) rfl tbool (fun ds h => ?_) rfl (fun ds hd => ?_) W base args ds gs before hok hW
  · match ds, h with
    | [], _ => exact ⟨_, _, rfl, trivial, .inl rfl⟩
  · match ds, hd with
    | [], _ => exact ⟨rfl, rfl, rfl⟩
theorem recoverKnown_holds : Rows.RecoverKnownSaid :=
  OpenClaim.holds_of_wide 3 Try.f3 rfl rfl rfl rfl rfl rfl rfl ⟨rfl, rfl, rfl, rfl, rfl⟩ rfl rfl rfl rfl rfl (by kernel_rfl) Try.func3 (by kernel_rfl)
    (of_decide_eq_true (by kernel_rfl)) (by unfold Func.isWrapper; first | (rw [if_pos (by decide +kernel)]; kernel_rfl) | (rw [if_neg (by decide +kernel)]; exact ⟨rfl, rfl⟩))
    (fun os started H enc _ => recoverKnown_lifted os started H enc)
#print axioms recoverKnown_holds
end Go.Proofs.Ytlndpknjlmcibaa
end
