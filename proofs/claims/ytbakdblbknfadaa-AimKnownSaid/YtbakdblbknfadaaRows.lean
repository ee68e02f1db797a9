/-
  No cell of these rows narrows 'for every input' (looked for: loops, veiled, ifaces, maps, wideKeys, modest, calm, conditions, laid).
  DERIVED. THE GIVEN ROWS OF THIS SEAT. 15 by the template 'for every input the law returns true; each argument reads behind the call as it read before'; 0 by the template 'total and deterministic' (their statements: YtbakdblbknfadaaTotals.lean).
  GIVEN WITH THE SEED: the statements are not yours to turn. If you find one false, say at which input.
  Laid BY PROGRAM, IN A SANDBOX (cutbox-rows.mjs): the forced cells as the released guide's own fill.sh prints them over the translation 24427b95822e8115… (all of the seat's roots in one cut). By AI agents, Wed Nov 11 2026. No macro, syntax, notation, axiom, sorry.
-/
import Derived.Test.YtbakdblbknfadaaChecked
import GoSem.Claim
import GoSem.ClaimJoined
import GoSem.ClaimMapViews
import Derived.JoinedTies
import Derived.KernelRfl
namespace Go.Proofs.Ytbakdblbknfadaa
/- THE CELL 'sum', in the pinned program and in every row, IS THE sha256 OF THE DUMP (.gsa) THAT YtbakdblbknfadaaProg.lean LOADS. Nothing in Lean hashes anything: it is a label: what it is worth is what the hold of that sum in a sandbox is worth. -/
noncomputable def Try.pinned : Pinned := { name := "ytbakdblbknfadaa", sum := "24427b95822e81150d4de9112b517945b025476a891331b496d69bd3fc4b33dd", checked := Try.checked }
namespace Rows
def none {H : Type} : Left H := { results := [], args := [] }

/-- 'hangfirelaw03.AimChecks': WHATEVER THE INPUT: true; the input reads as it did. -/
def aimChecksSpec : ChangeSpec := { name := "aimChecks", fn := fun _ => fun
  | [d] => { results := [.lit (.bool true)], args := [d] }
  | _ => none }
def aimChecksRow : OpenClaim := { program := "ytbakdblbknfadaa", sum := "24427b95822e81150d4de9112b517945b025476a891331b496d69bd3fc4b33dd", func := "hangfire/hangfirelaw03.AimChecks", spec := "aimChecks", unfollowed := true, recurses := true, plainKeys := false, apart := false }
def AimChecksSaid : Prop := aimChecksRow.holds Try.pinned (OpenSpec.ofChange aimChecksSpec)

/-- ITS FALSE NEIGHBOUR: 'it returns false'. Refute it at one input. -/
def aimChecksWrong : ChangeSpec := { name := "aimChecks", fn := fun _ => fun
  | [d] => { results := [.lit (.bool false)], args := [d] }
  | _ => none }
def AimChecksWrongFalsely : Prop := aimChecksRow.holds Try.pinned (OpenSpec.ofChange aimChecksWrong)

/-- 'hangfirelaw03.AimBests': WHATEVER THE INPUT: true; the input reads as it did. -/
def aimBestsSpec : ChangeSpec := { name := "aimBests", fn := fun _ => fun
  | [d1, d2] => { results := [.lit (.bool true)], args := [d1, d2] }
  | _ => none }
def aimBestsRow : OpenClaim := { program := "ytbakdblbknfadaa", sum := "24427b95822e81150d4de9112b517945b025476a891331b496d69bd3fc4b33dd", func := "hangfire/hangfirelaw03.AimBests", spec := "aimBests", unfollowed := true, recurses := true, plainKeys := false, apart := false }
def AimBestsSaid : Prop := aimBestsRow.holds Try.pinned (OpenSpec.ofChange aimBestsSpec)

/-- ITS FALSE NEIGHBOUR: 'it returns false'. Refute it at one input. -/
def aimBestsWrong : ChangeSpec := { name := "aimBests", fn := fun _ => fun
  | [d1, d2] => { results := [.lit (.bool false)], args := [d1, d2] }
  | _ => none }
def AimBestsWrongFalsely : Prop := aimBestsRow.holds Try.pinned (OpenSpec.ofChange aimBestsWrong)

/-- 'hangfirelaw03.AimPrefix': WHATEVER THE INPUT: true; the input reads as it did. -/
def aimPrefixSpec : ChangeSpec := { name := "aimPrefix", fn := fun _ => fun
  | [d1, d2] => { results := [.lit (.bool true)], args := [d1, d2] }
  | _ => none }
def aimPrefixRow : OpenClaim := { program := "ytbakdblbknfadaa", sum := "24427b95822e81150d4de9112b517945b025476a891331b496d69bd3fc4b33dd", func := "hangfire/hangfirelaw03.AimPrefix", spec := "aimPrefix", unfollowed := true, recurses := true, plainKeys := false, apart := false }
def AimPrefixSaid : Prop := aimPrefixRow.holds Try.pinned (OpenSpec.ofChange aimPrefixSpec)

/-- ITS FALSE NEIGHBOUR: 'it returns false'. Refute it at one input. -/
def aimPrefixWrong : ChangeSpec := { name := "aimPrefix", fn := fun _ => fun
  | [d1, d2] => { results := [.lit (.bool false)], args := [d1, d2] }
  | _ => none }
def AimPrefixWrongFalsely : Prop := aimPrefixRow.holds Try.pinned (OpenSpec.ofChange aimPrefixWrong)

/-- 'hangfirelaw03.AimUnknown': WHATEVER THE INPUT: true; the input reads as it did. -/
def aimUnknownSpec : ChangeSpec := { name := "aimUnknown", fn := fun _ => fun
  | [d1, d2, d3] => { results := [.lit (.bool true)], args := [d1, d2, d3] }
  | _ => none }
def aimUnknownRow : OpenClaim := { program := "ytbakdblbknfadaa", sum := "24427b95822e81150d4de9112b517945b025476a891331b496d69bd3fc4b33dd", func := "hangfire/hangfirelaw03.AimUnknown", spec := "aimUnknown", unfollowed := true, recurses := true, plainKeys := false, apart := false }
def AimUnknownSaid : Prop := aimUnknownRow.holds Try.pinned (OpenSpec.ofChange aimUnknownSpec)

/-- ITS FALSE NEIGHBOUR: 'it returns false'. Refute it at one input. -/
def aimUnknownWrong : ChangeSpec := { name := "aimUnknown", fn := fun _ => fun
  | [d1, d2, d3] => { results := [.lit (.bool false)], args := [d1, d2, d3] }
  | _ => none }
def AimUnknownWrongFalsely : Prop := aimUnknownRow.holds Try.pinned (OpenSpec.ofChange aimUnknownWrong)

/-- 'hangfirelaw03.AimInTime': WHATEVER THE INPUT: true; the input reads as it did. -/
def aimInTimeSpec : ChangeSpec := { name := "aimInTime", fn := fun _ => fun
  | [d1, d2] => { results := [.lit (.bool true)], args := [d1, d2] }
  | _ => none }
def aimInTimeRow : OpenClaim := { program := "ytbakdblbknfadaa", sum := "24427b95822e81150d4de9112b517945b025476a891331b496d69bd3fc4b33dd", func := "hangfire/hangfirelaw03.AimInTime", spec := "aimInTime", unfollowed := true, recurses := true, plainKeys := false, apart := false }
def AimInTimeSaid : Prop := aimInTimeRow.holds Try.pinned (OpenSpec.ofChange aimInTimeSpec)

/-- ITS FALSE NEIGHBOUR: 'it returns false'. Refute it at one input. -/
def aimInTimeWrong : ChangeSpec := { name := "aimInTime", fn := fun _ => fun
  | [d1, d2] => { results := [.lit (.bool false)], args := [d1, d2] }
  | _ => none }
def AimInTimeWrongFalsely : Prop := aimInTimeRow.holds Try.pinned (OpenSpec.ofChange aimInTimeWrong)

/-- 'hangfirelaw03.AimMoved': WHATEVER THE INPUT: true; the input reads as it did. -/
def aimMovedSpec : ChangeSpec := { name := "aimMoved", fn := fun _ => fun
  | [d1, d2, d3] => { results := [.lit (.bool true)], args := [d1, d2, d3] }
  | _ => none }
def aimMovedRow : OpenClaim := { program := "ytbakdblbknfadaa", sum := "24427b95822e81150d4de9112b517945b025476a891331b496d69bd3fc4b33dd", func := "hangfire/hangfirelaw03.AimMoved", spec := "aimMoved", unfollowed := true, recurses := true, plainKeys := false, apart := false }
def AimMovedSaid : Prop := aimMovedRow.holds Try.pinned (OpenSpec.ofChange aimMovedSpec)

/-- ITS FALSE NEIGHBOUR: 'it returns false'. Refute it at one input. -/
def aimMovedWrong : ChangeSpec := { name := "aimMoved", fn := fun _ => fun
  | [d1, d2, d3] => { results := [.lit (.bool false)], args := [d1, d2, d3] }
  | _ => none }
def AimMovedWrongFalsely : Prop := aimMovedRow.holds Try.pinned (OpenSpec.ofChange aimMovedWrong)

/-- 'hangfirelaw03.AimWeighs': WHATEVER THE INPUT: true; the input reads as it did. -/
def aimWeighsSpec : ChangeSpec := { name := "aimWeighs", fn := fun _ => fun
  | [d1, d2, d3] => { results := [.lit (.bool true)], args := [d1, d2, d3] }
  | _ => none }
def aimWeighsRow : OpenClaim := { program := "ytbakdblbknfadaa", sum := "24427b95822e81150d4de9112b517945b025476a891331b496d69bd3fc4b33dd", func := "hangfire/hangfirelaw03.AimWeighs", spec := "aimWeighs", unfollowed := true, recurses := true, plainKeys := false, apart := false }
def AimWeighsSaid : Prop := aimWeighsRow.holds Try.pinned (OpenSpec.ofChange aimWeighsSpec)

/-- ITS FALSE NEIGHBOUR: 'it returns false'. Refute it at one input. -/
def aimWeighsWrong : ChangeSpec := { name := "aimWeighs", fn := fun _ => fun
  | [d1, d2, d3] => { results := [.lit (.bool false)], args := [d1, d2, d3] }
  | _ => none }
def AimWeighsWrongFalsely : Prop := aimWeighsRow.holds Try.pinned (OpenSpec.ofChange aimWeighsWrong)

/-- 'hangfirelaw03.AimAsks': WHATEVER THE INPUT: true; the input reads as it did. -/
def aimAsksSpec : ChangeSpec := { name := "aimAsks", fn := fun _ => fun
  | [d1, d2, d3] => { results := [.lit (.bool true)], args := [d1, d2, d3] }
  | _ => none }
def aimAsksRow : OpenClaim := { program := "ytbakdblbknfadaa", sum := "24427b95822e81150d4de9112b517945b025476a891331b496d69bd3fc4b33dd", func := "hangfire/hangfirelaw03.AimAsks", spec := "aimAsks", unfollowed := true, recurses := true, plainKeys := false, apart := false }
def AimAsksSaid : Prop := aimAsksRow.holds Try.pinned (OpenSpec.ofChange aimAsksSpec)

/-- ITS FALSE NEIGHBOUR: 'it returns false'. Refute it at one input. -/
def aimAsksWrong : ChangeSpec := { name := "aimAsks", fn := fun _ => fun
  | [d1, d2, d3] => { results := [.lit (.bool false)], args := [d1, d2, d3] }
  | _ => none }
def AimAsksWrongFalsely : Prop := aimAsksRow.holds Try.pinned (OpenSpec.ofChange aimAsksWrong)

/-- 'hangfirelaw03.AimHeld': WHATEVER THE INPUT: true; the input reads as it did. -/
def aimHeldSpec : ChangeSpec := { name := "aimHeld", fn := fun _ => fun
  | [d1, d2] => { results := [.lit (.bool true)], args := [d1, d2] }
  | _ => none }
def aimHeldRow : OpenClaim := { program := "ytbakdblbknfadaa", sum := "24427b95822e81150d4de9112b517945b025476a891331b496d69bd3fc4b33dd", func := "hangfire/hangfirelaw03.AimHeld", spec := "aimHeld", unfollowed := true, recurses := true, plainKeys := false, apart := false }
def AimHeldSaid : Prop := aimHeldRow.holds Try.pinned (OpenSpec.ofChange aimHeldSpec)

/-- ITS FALSE NEIGHBOUR: 'it returns false'. Refute it at one input. -/
def aimHeldWrong : ChangeSpec := { name := "aimHeld", fn := fun _ => fun
  | [d1, d2] => { results := [.lit (.bool false)], args := [d1, d2] }
  | _ => none }
def AimHeldWrongFalsely : Prop := aimHeldRow.holds Try.pinned (OpenSpec.ofChange aimHeldWrong)

/-- 'hangfirelaw03.AimTrue': WHATEVER THE INPUT: true; the input reads as it did. -/
def aimTrueSpec : ChangeSpec := { name := "aimTrue", fn := fun _ => fun
  | [d1, d2, d3] => { results := [.lit (.bool true)], args := [d1, d2, d3] }
  | _ => none }
def aimTrueRow : OpenClaim := { program := "ytbakdblbknfadaa", sum := "24427b95822e81150d4de9112b517945b025476a891331b496d69bd3fc4b33dd", func := "hangfire/hangfirelaw03.AimTrue", spec := "aimTrue", unfollowed := true, recurses := true, plainKeys := false, apart := false }
def AimTrueSaid : Prop := aimTrueRow.holds Try.pinned (OpenSpec.ofChange aimTrueSpec)

/-- ITS FALSE NEIGHBOUR: 'it returns false'. Refute it at one input. -/
def aimTrueWrong : ChangeSpec := { name := "aimTrue", fn := fun _ => fun
  | [d1, d2, d3] => { results := [.lit (.bool false)], args := [d1, d2, d3] }
  | _ => none }
def AimTrueWrongFalsely : Prop := aimTrueRow.holds Try.pinned (OpenSpec.ofChange aimTrueWrong)

/-- 'hangfirelaw03.AimAccepts': WHATEVER THE INPUT: true; the input reads as it did. -/
def aimAcceptsSpec : ChangeSpec := { name := "aimAccepts", fn := fun _ => fun
  | [d1, d2, d3] => { results := [.lit (.bool true)], args := [d1, d2, d3] }
  | _ => none }
def aimAcceptsRow : OpenClaim := { program := "ytbakdblbknfadaa", sum := "24427b95822e81150d4de9112b517945b025476a891331b496d69bd3fc4b33dd", func := "hangfire/hangfirelaw03.AimAccepts", spec := "aimAccepts", unfollowed := true, recurses := true, plainKeys := false, apart := false }
def AimAcceptsSaid : Prop := aimAcceptsRow.holds Try.pinned (OpenSpec.ofChange aimAcceptsSpec)

/-- ITS FALSE NEIGHBOUR: 'it returns false'. Refute it at one input. -/
def aimAcceptsWrong : ChangeSpec := { name := "aimAccepts", fn := fun _ => fun
  | [d1, d2, d3] => { results := [.lit (.bool false)], args := [d1, d2, d3] }
  | _ => none }
def AimAcceptsWrongFalsely : Prop := aimAcceptsRow.holds Try.pinned (OpenSpec.ofChange aimAcceptsWrong)

/-- 'hangfirelaw03.AimCovered': WHATEVER THE INPUT: true; the input reads as it did. -/
def aimCoveredSpec : ChangeSpec := { name := "aimCovered", fn := fun _ => fun
  | [d1, d2, d3] => { results := [.lit (.bool true)], args := [d1, d2, d3] }
  | _ => none }
def aimCoveredRow : OpenClaim := { program := "ytbakdblbknfadaa", sum := "24427b95822e81150d4de9112b517945b025476a891331b496d69bd3fc4b33dd", func := "hangfire/hangfirelaw03.AimCovered", spec := "aimCovered", unfollowed := true, recurses := true, plainKeys := false, apart := false }
def AimCoveredSaid : Prop := aimCoveredRow.holds Try.pinned (OpenSpec.ofChange aimCoveredSpec)

/-- ITS FALSE NEIGHBOUR: 'it returns false'. Refute it at one input. -/
def aimCoveredWrong : ChangeSpec := { name := "aimCovered", fn := fun _ => fun
  | [d1, d2, d3] => { results := [.lit (.bool false)], args := [d1, d2, d3] }
  | _ => none }
def AimCoveredWrongFalsely : Prop := aimCoveredRow.holds Try.pinned (OpenSpec.ofChange aimCoveredWrong)

/-- 'hangfirelaw03.AimBest': WHATEVER THE INPUT: true; the input reads as it did. -/
def aimBestSpec : ChangeSpec := { name := "aimBest", fn := fun _ => fun
  | [d1, d2] => { results := [.lit (.bool true)], args := [d1, d2] }
  | _ => none }
def aimBestRow : OpenClaim := { program := "ytbakdblbknfadaa", sum := "24427b95822e81150d4de9112b517945b025476a891331b496d69bd3fc4b33dd", func := "hangfire/hangfirelaw03.AimBest", spec := "aimBest", unfollowed := true, recurses := true, plainKeys := false, apart := false }
def AimBestSaid : Prop := aimBestRow.holds Try.pinned (OpenSpec.ofChange aimBestSpec)

/-- ITS FALSE NEIGHBOUR: 'it returns false'. Refute it at one input. -/
def aimBestWrong : ChangeSpec := { name := "aimBest", fn := fun _ => fun
  | [d1, d2] => { results := [.lit (.bool false)], args := [d1, d2] }
  | _ => none }
def AimBestWrongFalsely : Prop := aimBestRow.holds Try.pinned (OpenSpec.ofChange aimBestWrong)

/-- 'hangfirelaw03.AimProves': WHATEVER THE INPUT: true; the input reads as it did. -/
def aimProvesSpec : ChangeSpec := { name := "aimProves", fn := fun _ => fun
  | [d1, d2, d3] => { results := [.lit (.bool true)], args := [d1, d2, d3] }
  | _ => none }
def aimProvesRow : OpenClaim := { program := "ytbakdblbknfadaa", sum := "24427b95822e81150d4de9112b517945b025476a891331b496d69bd3fc4b33dd", func := "hangfire/hangfirelaw03.AimProves", spec := "aimProves", unfollowed := true, recurses := true, plainKeys := false, apart := false }
def AimProvesSaid : Prop := aimProvesRow.holds Try.pinned (OpenSpec.ofChange aimProvesSpec)

/-- ITS FALSE NEIGHBOUR: 'it returns false'. Refute it at one input. -/
def aimProvesWrong : ChangeSpec := { name := "aimProves", fn := fun _ => fun
  | [d1, d2, d3] => { results := [.lit (.bool false)], args := [d1, d2, d3] }
  | _ => none }
def AimProvesWrongFalsely : Prop := aimProvesRow.holds Try.pinned (OpenSpec.ofChange aimProvesWrong)

/-- 'hangfirelaw03.AimKnown': WHATEVER THE INPUT: true; the input reads as it did. -/
def aimKnownSpec : ChangeSpec := { name := "aimKnown", fn := fun _ => fun
  | [] => { results := [.lit (.bool true)], args := [] }
  | _ => none }
def aimKnownRow : OpenClaim := { program := "ytbakdblbknfadaa", sum := "24427b95822e81150d4de9112b517945b025476a891331b496d69bd3fc4b33dd", func := "hangfire/hangfirelaw03.AimKnown", spec := "aimKnown", unfollowed := true, recurses := true, plainKeys := false, apart := false }
def AimKnownSaid : Prop := aimKnownRow.holds Try.pinned (OpenSpec.ofChange aimKnownSpec)

/-- ITS FALSE NEIGHBOUR: 'it returns false'. Refute it at one input. -/
def aimKnownWrong : ChangeSpec := { name := "aimKnown", fn := fun _ => fun
  | [] => { results := [.lit (.bool false)], args := [] }
  | _ => none }
def AimKnownWrongFalsely : Prop := aimKnownRow.holds Try.pinned (OpenSpec.ofChange aimKnownWrong)

/- THE SECOND FORM. 'bulk': how many values and letters a reading holds, each counted each time it is reached (what is shared counts as often as it is met; a slice's spare places count too). A statement '..UptoSaid' is the law's where the arguments, and the package variables that the reading takes, are together of bulk at most 1048576: NARROWER than '..Said'. Prove '..Said' where nothing that the law and all that it calls make is longer than what came in: it says more and counts as full. Else prove '..UptoSaid'. A law counts once. -/
mutual
def uptoBulk {H : Type} : DataW H → Nat
  | .lit (.string bytes) => bytes.length + 1
  | .lit _ => 1
  | .nil => 1
  | .ptr d => uptoBulk d + 1
  | .slice elems spare => uptoBulkAll elems + uptoBulkAll spare + 1
  | .agg parts => uptoBulkAll parts + 1
  | .iface _ d => uptoBulk d + 1
  | .map entries => uptoBulkEntries entries + 1
  | .held _ => 1
def uptoBulkAll {H : Type} : List (DataW H) → Nat
  | [] => 0
  | d :: r => uptoBulk d + uptoBulkAll r
def uptoBulkEntries {H : Type} : List (Lit × DataW H) → Nat
  | [] => 0
  | x :: r => uptoBulkEntry x + uptoBulkEntries r
def uptoBulkEntry {H : Type} : Lit × DataW H → Nat
  | (.string bytes, d) => bytes.length + uptoBulk d + 1
  | (_, d) => uptoBulk d + 1
 end
def uptoSmall : (H : Type) → List (DataW H) → Bool := fun _ ds => decide (uptoBulkAll ds ≤ 1048576)
def OpenSpec.upto (s : _root_.Go.ChangeSpec) : _root_.Go.OpenSpec := { _root_.Go.OpenSpec.ofChange s with cond := some uptoSmall }

/-- 'hangfirelaw03.AimChecks', WHERE WHAT IT READS IS OF BULK AT MOST 1048576: true; the input reads as it did. -/
def aimChecksUptoRow : OpenClaim := { program := "ytbakdblbknfadaa", sum := "24427b95822e81150d4de9112b517945b025476a891331b496d69bd3fc4b33dd", func := "hangfire/hangfirelaw03.AimChecks", spec := "aimChecks", unfollowed := true, recurses := true, plainKeys := false, apart := false, narrowed := true }
def AimChecksUptoSaid : Prop := aimChecksUptoRow.holds Try.pinned (OpenSpec.upto aimChecksSpec)

/-- 'hangfirelaw03.AimBests', WHERE WHAT IT READS IS OF BULK AT MOST 1048576: true; the input reads as it did. -/
def aimBestsUptoRow : OpenClaim := { program := "ytbakdblbknfadaa", sum := "24427b95822e81150d4de9112b517945b025476a891331b496d69bd3fc4b33dd", func := "hangfire/hangfirelaw03.AimBests", spec := "aimBests", unfollowed := true, recurses := true, plainKeys := false, apart := false, narrowed := true }
def AimBestsUptoSaid : Prop := aimBestsUptoRow.holds Try.pinned (OpenSpec.upto aimBestsSpec)

/-- 'hangfirelaw03.AimPrefix', WHERE WHAT IT READS IS OF BULK AT MOST 1048576: true; the input reads as it did. -/
def aimPrefixUptoRow : OpenClaim := { program := "ytbakdblbknfadaa", sum := "24427b95822e81150d4de9112b517945b025476a891331b496d69bd3fc4b33dd", func := "hangfire/hangfirelaw03.AimPrefix", spec := "aimPrefix", unfollowed := true, recurses := true, plainKeys := false, apart := false, narrowed := true }
def AimPrefixUptoSaid : Prop := aimPrefixUptoRow.holds Try.pinned (OpenSpec.upto aimPrefixSpec)

/-- 'hangfirelaw03.AimUnknown', WHERE WHAT IT READS IS OF BULK AT MOST 1048576: true; the input reads as it did. -/
def aimUnknownUptoRow : OpenClaim := { program := "ytbakdblbknfadaa", sum := "24427b95822e81150d4de9112b517945b025476a891331b496d69bd3fc4b33dd", func := "hangfire/hangfirelaw03.AimUnknown", spec := "aimUnknown", unfollowed := true, recurses := true, plainKeys := false, apart := false, narrowed := true }
def AimUnknownUptoSaid : Prop := aimUnknownUptoRow.holds Try.pinned (OpenSpec.upto aimUnknownSpec)

/-- 'hangfirelaw03.AimInTime', WHERE WHAT IT READS IS OF BULK AT MOST 1048576: true; the input reads as it did. -/
def aimInTimeUptoRow : OpenClaim := { program := "ytbakdblbknfadaa", sum := "24427b95822e81150d4de9112b517945b025476a891331b496d69bd3fc4b33dd", func := "hangfire/hangfirelaw03.AimInTime", spec := "aimInTime", unfollowed := true, recurses := true, plainKeys := false, apart := false, narrowed := true }
def AimInTimeUptoSaid : Prop := aimInTimeUptoRow.holds Try.pinned (OpenSpec.upto aimInTimeSpec)

/-- 'hangfirelaw03.AimMoved', WHERE WHAT IT READS IS OF BULK AT MOST 1048576: true; the input reads as it did. -/
def aimMovedUptoRow : OpenClaim := { program := "ytbakdblbknfadaa", sum := "24427b95822e81150d4de9112b517945b025476a891331b496d69bd3fc4b33dd", func := "hangfire/hangfirelaw03.AimMoved", spec := "aimMoved", unfollowed := true, recurses := true, plainKeys := false, apart := false, narrowed := true }
def AimMovedUptoSaid : Prop := aimMovedUptoRow.holds Try.pinned (OpenSpec.upto aimMovedSpec)

/-- 'hangfirelaw03.AimWeighs', WHERE WHAT IT READS IS OF BULK AT MOST 1048576: true; the input reads as it did. -/
def aimWeighsUptoRow : OpenClaim := { program := "ytbakdblbknfadaa", sum := "24427b95822e81150d4de9112b517945b025476a891331b496d69bd3fc4b33dd", func := "hangfire/hangfirelaw03.AimWeighs", spec := "aimWeighs", unfollowed := true, recurses := true, plainKeys := false, apart := false, narrowed := true }
def AimWeighsUptoSaid : Prop := aimWeighsUptoRow.holds Try.pinned (OpenSpec.upto aimWeighsSpec)

/-- 'hangfirelaw03.AimAsks', WHERE WHAT IT READS IS OF BULK AT MOST 1048576: true; the input reads as it did. -/
def aimAsksUptoRow : OpenClaim := { program := "ytbakdblbknfadaa", sum := "24427b95822e81150d4de9112b517945b025476a891331b496d69bd3fc4b33dd", func := "hangfire/hangfirelaw03.AimAsks", spec := "aimAsks", unfollowed := true, recurses := true, plainKeys := false, apart := false, narrowed := true }
def AimAsksUptoSaid : Prop := aimAsksUptoRow.holds Try.pinned (OpenSpec.upto aimAsksSpec)

/-- 'hangfirelaw03.AimHeld', WHERE WHAT IT READS IS OF BULK AT MOST 1048576: true; the input reads as it did. -/
def aimHeldUptoRow : OpenClaim := { program := "ytbakdblbknfadaa", sum := "24427b95822e81150d4de9112b517945b025476a891331b496d69bd3fc4b33dd", func := "hangfire/hangfirelaw03.AimHeld", spec := "aimHeld", unfollowed := true, recurses := true, plainKeys := false, apart := false, narrowed := true }
def AimHeldUptoSaid : Prop := aimHeldUptoRow.holds Try.pinned (OpenSpec.upto aimHeldSpec)

/-- 'hangfirelaw03.AimTrue', WHERE WHAT IT READS IS OF BULK AT MOST 1048576: true; the input reads as it did. -/
def aimTrueUptoRow : OpenClaim := { program := "ytbakdblbknfadaa", sum := "24427b95822e81150d4de9112b517945b025476a891331b496d69bd3fc4b33dd", func := "hangfire/hangfirelaw03.AimTrue", spec := "aimTrue", unfollowed := true, recurses := true, plainKeys := false, apart := false, narrowed := true }
def AimTrueUptoSaid : Prop := aimTrueUptoRow.holds Try.pinned (OpenSpec.upto aimTrueSpec)

/-- 'hangfirelaw03.AimAccepts', WHERE WHAT IT READS IS OF BULK AT MOST 1048576: true; the input reads as it did. -/
def aimAcceptsUptoRow : OpenClaim := { program := "ytbakdblbknfadaa", sum := "24427b95822e81150d4de9112b517945b025476a891331b496d69bd3fc4b33dd", func := "hangfire/hangfirelaw03.AimAccepts", spec := "aimAccepts", unfollowed := true, recurses := true, plainKeys := false, apart := false, narrowed := true }
def AimAcceptsUptoSaid : Prop := aimAcceptsUptoRow.holds Try.pinned (OpenSpec.upto aimAcceptsSpec)

/-- 'hangfirelaw03.AimCovered', WHERE WHAT IT READS IS OF BULK AT MOST 1048576: true; the input reads as it did. -/
def aimCoveredUptoRow : OpenClaim := { program := "ytbakdblbknfadaa", sum := "24427b95822e81150d4de9112b517945b025476a891331b496d69bd3fc4b33dd", func := "hangfire/hangfirelaw03.AimCovered", spec := "aimCovered", unfollowed := true, recurses := true, plainKeys := false, apart := false, narrowed := true }
def AimCoveredUptoSaid : Prop := aimCoveredUptoRow.holds Try.pinned (OpenSpec.upto aimCoveredSpec)

/-- 'hangfirelaw03.AimBest', WHERE WHAT IT READS IS OF BULK AT MOST 1048576: true; the input reads as it did. -/
def aimBestUptoRow : OpenClaim := { program := "ytbakdblbknfadaa", sum := "24427b95822e81150d4de9112b517945b025476a891331b496d69bd3fc4b33dd", func := "hangfire/hangfirelaw03.AimBest", spec := "aimBest", unfollowed := true, recurses := true, plainKeys := false, apart := false, narrowed := true }
def AimBestUptoSaid : Prop := aimBestUptoRow.holds Try.pinned (OpenSpec.upto aimBestSpec)

/-- 'hangfirelaw03.AimProves', WHERE WHAT IT READS IS OF BULK AT MOST 1048576: true; the input reads as it did. -/
def aimProvesUptoRow : OpenClaim := { program := "ytbakdblbknfadaa", sum := "24427b95822e81150d4de9112b517945b025476a891331b496d69bd3fc4b33dd", func := "hangfire/hangfirelaw03.AimProves", spec := "aimProves", unfollowed := true, recurses := true, plainKeys := false, apart := false, narrowed := true }
def AimProvesUptoSaid : Prop := aimProvesUptoRow.holds Try.pinned (OpenSpec.upto aimProvesSpec)

/-- 'hangfirelaw03.AimKnown', WHERE WHAT IT READS IS OF BULK AT MOST 1048576: true; the input reads as it did. -/
def aimKnownUptoRow : OpenClaim := { program := "ytbakdblbknfadaa", sum := "24427b95822e81150d4de9112b517945b025476a891331b496d69bd3fc4b33dd", func := "hangfire/hangfirelaw03.AimKnown", spec := "aimKnown", unfollowed := true, recurses := true, plainKeys := false, apart := false, narrowed := true }
def AimKnownUptoSaid : Prop := aimKnownUptoRow.holds Try.pinned (OpenSpec.upto aimKnownSpec)

end Rows
end Go.Proofs.Ytbakdblbknfadaa
