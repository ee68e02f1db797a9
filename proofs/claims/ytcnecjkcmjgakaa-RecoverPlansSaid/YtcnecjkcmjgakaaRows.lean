/-
  No cell of these rows narrows 'for every input' (looked for: loops, veiled, ifaces, maps, wideKeys, modest, calm, conditions, laid).
  DERIVED. THE GIVEN ROWS OF THIS SEAT. 12 by the template 'for every input the law returns true; each argument reads behind the call as it read before'; 0 by the template 'total and deterministic' (their statements: YtcnecjkcmjgakaaTotals.lean).
  GIVEN WITH THE SEED: the statements are not yours to turn. If you find one false, say at which input.
  Laid BY PROGRAM, IN A SANDBOX (cutbox-rows.mjs): the forced cells as the released guide's own fill.sh prints them over the translation 31b7a67c1380ac29… (all of the seat's roots in one cut). By AI agents, Wed Nov 11 2026. No macro, syntax, notation, axiom, sorry.
-/
import Derived.Test.YtcnecjkcmjgakaaChecked
import GoSem.Claim
import GoSem.ClaimJoined
import GoSem.ClaimMapViews
import Derived.JoinedTies
import Derived.KernelRfl
namespace Go.Proofs.Ytcnecjkcmjgakaa
/- THE CELL 'sum', in the pinned program and in every row, IS THE sha256 OF THE DUMP (.gsa) THAT YtcnecjkcmjgakaaProg.lean LOADS. Nothing in Lean hashes anything: it is a label: what it is worth is what the hold of that sum in a sandbox is worth. -/
noncomputable def Try.pinned : Pinned := { name := "ytcnecjkcmjgakaa", sum := "31b7a67c1380ac292ffbb2e3d67bb5d5e989f930b8f10d80238c747448eed7ec", checked := Try.checked }
namespace Rows
def none {H : Type} : Left H := { results := [], args := [] }

/-- 'hangfirelaw10.RecoverLands': WHATEVER THE INPUT: true; the input reads as it did. -/
def recoverLandsSpec : ChangeSpec := { name := "recoverLands", fn := fun _ => fun
  | [d1, d2] => { results := [.lit (.bool true)], args := [d1, d2] }
  | _ => none }
def recoverLandsRow : OpenClaim := { program := "ytcnecjkcmjgakaa", sum := "31b7a67c1380ac292ffbb2e3d67bb5d5e989f930b8f10d80238c747448eed7ec", func := "hangfire/hangfirelaw10.RecoverLands", spec := "recoverLands", unfollowed := true, recurses := true, apart := false }
def RecoverLandsSaid : Prop := recoverLandsRow.holds Try.pinned (OpenSpec.ofChange recoverLandsSpec)

/-- ITS FALSE NEIGHBOUR: 'it returns false'. Refute it at one input. -/
def recoverLandsWrong : ChangeSpec := { name := "recoverLands", fn := fun _ => fun
  | [d1, d2] => { results := [.lit (.bool false)], args := [d1, d2] }
  | _ => none }
def RecoverLandsWrongFalsely : Prop := recoverLandsRow.holds Try.pinned (OpenSpec.ofChange recoverLandsWrong)

/-- 'hangfirelaw10.RecoverChecks': WHATEVER THE INPUT: true; the input reads as it did. -/
def recoverChecksSpec : ChangeSpec := { name := "recoverChecks", fn := fun _ => fun
  | [d] => { results := [.lit (.bool true)], args := [d] }
  | _ => none }
def recoverChecksRow : OpenClaim := { program := "ytcnecjkcmjgakaa", sum := "31b7a67c1380ac292ffbb2e3d67bb5d5e989f930b8f10d80238c747448eed7ec", func := "hangfire/hangfirelaw10.RecoverChecks", spec := "recoverChecks", unfollowed := true, recurses := true, apart := false }
def RecoverChecksSaid : Prop := recoverChecksRow.holds Try.pinned (OpenSpec.ofChange recoverChecksSpec)

/-- ITS FALSE NEIGHBOUR: 'it returns false'. Refute it at one input. -/
def recoverChecksWrong : ChangeSpec := { name := "recoverChecks", fn := fun _ => fun
  | [d] => { results := [.lit (.bool false)], args := [d] }
  | _ => none }
def RecoverChecksWrongFalsely : Prop := recoverChecksRow.holds Try.pinned (OpenSpec.ofChange recoverChecksWrong)

/-- 'hangfirelaw10.RecoverSearches': WHATEVER THE INPUT: true; the input reads as it did. -/
def recoverSearchesSpec : ChangeSpec := { name := "recoverSearches", fn := fun _ => fun
  | [d] => { results := [.lit (.bool true)], args := [d] }
  | _ => none }
def recoverSearchesRow : OpenClaim := { program := "ytcnecjkcmjgakaa", sum := "31b7a67c1380ac292ffbb2e3d67bb5d5e989f930b8f10d80238c747448eed7ec", func := "hangfire/hangfirelaw10.RecoverSearches", spec := "recoverSearches", unfollowed := true, recurses := true, apart := false }
def RecoverSearchesSaid : Prop := recoverSearchesRow.holds Try.pinned (OpenSpec.ofChange recoverSearchesSpec)

/-- ITS FALSE NEIGHBOUR: 'it returns false'. Refute it at one input. -/
def recoverSearchesWrong : ChangeSpec := { name := "recoverSearches", fn := fun _ => fun
  | [d] => { results := [.lit (.bool false)], args := [d] }
  | _ => none }
def RecoverSearchesWrongFalsely : Prop := recoverSearchesRow.holds Try.pinned (OpenSpec.ofChange recoverSearchesWrong)

/-- 'hangfirelaw10.RecoverDrift': WHATEVER THE INPUT: true; the input reads as it did. -/
def recoverDriftSpec : ChangeSpec := { name := "recoverDrift", fn := fun _ => fun
  | [d1, d2, d3] => { results := [.lit (.bool true)], args := [d1, d2, d3] }
  | _ => none }
def recoverDriftRow : OpenClaim := { program := "ytcnecjkcmjgakaa", sum := "31b7a67c1380ac292ffbb2e3d67bb5d5e989f930b8f10d80238c747448eed7ec", func := "hangfire/hangfirelaw10.RecoverDrift", spec := "recoverDrift", unfollowed := true, recurses := true, apart := false }
def RecoverDriftSaid : Prop := recoverDriftRow.holds Try.pinned (OpenSpec.ofChange recoverDriftSpec)

/-- ITS FALSE NEIGHBOUR: 'it returns false'. Refute it at one input. -/
def recoverDriftWrong : ChangeSpec := { name := "recoverDrift", fn := fun _ => fun
  | [d1, d2, d3] => { results := [.lit (.bool false)], args := [d1, d2, d3] }
  | _ => none }
def RecoverDriftWrongFalsely : Prop := recoverDriftRow.holds Try.pinned (OpenSpec.ofChange recoverDriftWrong)

/-- 'hangfirelaw10.RecoverHeard': WHATEVER THE INPUT: true; the input reads as it did. -/
def recoverHeardSpec : ChangeSpec := { name := "recoverHeard", fn := fun _ => fun
  | [d1, d2] => { results := [.lit (.bool true)], args := [d1, d2] }
  | _ => none }
def recoverHeardRow : OpenClaim := { program := "ytcnecjkcmjgakaa", sum := "31b7a67c1380ac292ffbb2e3d67bb5d5e989f930b8f10d80238c747448eed7ec", func := "hangfire/hangfirelaw10.RecoverHeard", spec := "recoverHeard", unfollowed := true, recurses := true, apart := false }
def RecoverHeardSaid : Prop := recoverHeardRow.holds Try.pinned (OpenSpec.ofChange recoverHeardSpec)

/-- ITS FALSE NEIGHBOUR: 'it returns false'. Refute it at one input. -/
def recoverHeardWrong : ChangeSpec := { name := "recoverHeard", fn := fun _ => fun
  | [d1, d2] => { results := [.lit (.bool false)], args := [d1, d2] }
  | _ => none }
def RecoverHeardWrongFalsely : Prop := recoverHeardRow.holds Try.pinned (OpenSpec.ofChange recoverHeardWrong)

/-- 'hangfirelaw10.RecoverMore': WHATEVER THE INPUT: true; the input reads as it did. -/
def recoverMoreSpec : ChangeSpec := { name := "recoverMore", fn := fun _ => fun
  | [d1, d2] => { results := [.lit (.bool true)], args := [d1, d2] }
  | _ => none }
def recoverMoreRow : OpenClaim := { program := "ytcnecjkcmjgakaa", sum := "31b7a67c1380ac292ffbb2e3d67bb5d5e989f930b8f10d80238c747448eed7ec", func := "hangfire/hangfirelaw10.RecoverMore", spec := "recoverMore", unfollowed := true, recurses := true, apart := false }
def RecoverMoreSaid : Prop := recoverMoreRow.holds Try.pinned (OpenSpec.ofChange recoverMoreSpec)

/-- ITS FALSE NEIGHBOUR: 'it returns false'. Refute it at one input. -/
def recoverMoreWrong : ChangeSpec := { name := "recoverMore", fn := fun _ => fun
  | [d1, d2] => { results := [.lit (.bool false)], args := [d1, d2] }
  | _ => none }
def RecoverMoreWrongFalsely : Prop := recoverMoreRow.holds Try.pinned (OpenSpec.ofChange recoverMoreWrong)

/-- 'hangfirelaw10.RecoverCells': WHATEVER THE INPUT: true; the input reads as it did. -/
def recoverCellsSpec : ChangeSpec := { name := "recoverCells", fn := fun _ => fun
  | [d1, d2, d3] => { results := [.lit (.bool true)], args := [d1, d2, d3] }
  | _ => none }
def recoverCellsRow : OpenClaim := { program := "ytcnecjkcmjgakaa", sum := "31b7a67c1380ac292ffbb2e3d67bb5d5e989f930b8f10d80238c747448eed7ec", func := "hangfire/hangfirelaw10.RecoverCells", spec := "recoverCells", unfollowed := true, recurses := true, apart := false }
def RecoverCellsSaid : Prop := recoverCellsRow.holds Try.pinned (OpenSpec.ofChange recoverCellsSpec)

/-- ITS FALSE NEIGHBOUR: 'it returns false'. Refute it at one input. -/
def recoverCellsWrong : ChangeSpec := { name := "recoverCells", fn := fun _ => fun
  | [d1, d2, d3] => { results := [.lit (.bool false)], args := [d1, d2, d3] }
  | _ => none }
def RecoverCellsWrongFalsely : Prop := recoverCellsRow.holds Try.pinned (OpenSpec.ofChange recoverCellsWrong)

/-- 'hangfirelaw10.RecoverFlies': WHATEVER THE INPUT: true; the input reads as it did. -/
def recoverFliesSpec : ChangeSpec := { name := "recoverFlies", fn := fun _ => fun
  | [d1, d2] => { results := [.lit (.bool true)], args := [d1, d2] }
  | _ => none }
def recoverFliesRow : OpenClaim := { program := "ytcnecjkcmjgakaa", sum := "31b7a67c1380ac292ffbb2e3d67bb5d5e989f930b8f10d80238c747448eed7ec", func := "hangfire/hangfirelaw10.RecoverFlies", spec := "recoverFlies", unfollowed := true, recurses := true, apart := false }
def RecoverFliesSaid : Prop := recoverFliesRow.holds Try.pinned (OpenSpec.ofChange recoverFliesSpec)

/-- ITS FALSE NEIGHBOUR: 'it returns false'. Refute it at one input. -/
def recoverFliesWrong : ChangeSpec := { name := "recoverFlies", fn := fun _ => fun
  | [d1, d2] => { results := [.lit (.bool false)], args := [d1, d2] }
  | _ => none }
def RecoverFliesWrongFalsely : Prop := recoverFliesRow.holds Try.pinned (OpenSpec.ofChange recoverFliesWrong)

/-- 'hangfirelaw10.RecoverWider': WHATEVER THE INPUT: true; the input reads as it did. -/
def recoverWiderSpec : ChangeSpec := { name := "recoverWider", fn := fun _ => fun
  | [d1, d2, d3] => { results := [.lit (.bool true)], args := [d1, d2, d3] }
  | _ => none }
def recoverWiderRow : OpenClaim := { program := "ytcnecjkcmjgakaa", sum := "31b7a67c1380ac292ffbb2e3d67bb5d5e989f930b8f10d80238c747448eed7ec", func := "hangfire/hangfirelaw10.RecoverWider", spec := "recoverWider", unfollowed := true, recurses := true, apart := false }
def RecoverWiderSaid : Prop := recoverWiderRow.holds Try.pinned (OpenSpec.ofChange recoverWiderSpec)

/-- ITS FALSE NEIGHBOUR: 'it returns false'. Refute it at one input. -/
def recoverWiderWrong : ChangeSpec := { name := "recoverWider", fn := fun _ => fun
  | [d1, d2, d3] => { results := [.lit (.bool false)], args := [d1, d2, d3] }
  | _ => none }
def RecoverWiderWrongFalsely : Prop := recoverWiderRow.holds Try.pinned (OpenSpec.ofChange recoverWiderWrong)

/-- 'hangfirelaw10.RecoverPlans': WHATEVER THE INPUT: true; the input reads as it did. -/
def recoverPlansSpec : ChangeSpec := { name := "recoverPlans", fn := fun _ => fun
  | [d] => { results := [.lit (.bool true)], args := [d] }
  | _ => none }
def recoverPlansRow : OpenClaim := { program := "ytcnecjkcmjgakaa", sum := "31b7a67c1380ac292ffbb2e3d67bb5d5e989f930b8f10d80238c747448eed7ec", func := "hangfire/hangfirelaw10.RecoverPlans", spec := "recoverPlans", unfollowed := true, recurses := true, apart := false }
def RecoverPlansSaid : Prop := recoverPlansRow.holds Try.pinned (OpenSpec.ofChange recoverPlansSpec)

/-- ITS FALSE NEIGHBOUR: 'it returns false'. Refute it at one input. -/
def recoverPlansWrong : ChangeSpec := { name := "recoverPlans", fn := fun _ => fun
  | [d] => { results := [.lit (.bool false)], args := [d] }
  | _ => none }
def RecoverPlansWrongFalsely : Prop := recoverPlansRow.holds Try.pinned (OpenSpec.ofChange recoverPlansWrong)

/-- 'hangfirelaw10.RecoverFound': WHATEVER THE INPUT: true; the input reads as it did. -/
def recoverFoundSpec : ChangeSpec := { name := "recoverFound", fn := fun _ => fun
  | [d1, d2] => { results := [.lit (.bool true)], args := [d1, d2] }
  | _ => none }
def recoverFoundRow : OpenClaim := { program := "ytcnecjkcmjgakaa", sum := "31b7a67c1380ac292ffbb2e3d67bb5d5e989f930b8f10d80238c747448eed7ec", func := "hangfire/hangfirelaw10.RecoverFound", spec := "recoverFound", unfollowed := true, recurses := true, apart := false }
def RecoverFoundSaid : Prop := recoverFoundRow.holds Try.pinned (OpenSpec.ofChange recoverFoundSpec)

/-- ITS FALSE NEIGHBOUR: 'it returns false'. Refute it at one input. -/
def recoverFoundWrong : ChangeSpec := { name := "recoverFound", fn := fun _ => fun
  | [d1, d2] => { results := [.lit (.bool false)], args := [d1, d2] }
  | _ => none }
def RecoverFoundWrongFalsely : Prop := recoverFoundRow.holds Try.pinned (OpenSpec.ofChange recoverFoundWrong)

/-- 'hangfirelaw10.RecoverKnown': WHATEVER THE INPUT: true; the input reads as it did. -/
def recoverKnownSpec : ChangeSpec := { name := "recoverKnown", fn := fun _ => fun
  | [] => { results := [.lit (.bool true)], args := [] }
  | _ => none }
def recoverKnownRow : OpenClaim := { program := "ytcnecjkcmjgakaa", sum := "31b7a67c1380ac292ffbb2e3d67bb5d5e989f930b8f10d80238c747448eed7ec", func := "hangfire/hangfirelaw10.RecoverKnown", spec := "recoverKnown", unfollowed := true, recurses := true, apart := false }
def RecoverKnownSaid : Prop := recoverKnownRow.holds Try.pinned (OpenSpec.ofChange recoverKnownSpec)

/-- ITS FALSE NEIGHBOUR: 'it returns false'. Refute it at one input. -/
def recoverKnownWrong : ChangeSpec := { name := "recoverKnown", fn := fun _ => fun
  | [] => { results := [.lit (.bool false)], args := [] }
  | _ => none }
def RecoverKnownWrongFalsely : Prop := recoverKnownRow.holds Try.pinned (OpenSpec.ofChange recoverKnownWrong)

/- THE SECOND FORM. 'bulk': how many values and letters a reading holds, each counted each time it is reached (what is shared counts as often as it is met; a slice's spare places count too). A statement '..UptoSaid' is the law's where the arguments, and the package variables that the reading takes, are together of bulk at most 1048576: NARROWER than '..Said'. Prove '..Said' where nothing that the law and all that it calls make is longer than what came in: it says more and counts as full. Else prove '..UptoSaid'. A law counts once. -/
mutual
def uptoBulk {H : Type} : DataW H → Nat
  | .lit (.string bytes) => bytes.length + 1
  | .lit _ => 1
  | .nil => 1
  | .ptr d => uptoBulk d + 1
  | .slice elems spare => uptoBulkAll elems + uptoBulkAll spare + 1
  | .agg parts => uptoBulkAll parts + 1
  | .iface _ d => uptoBulk d + 1
  | .map entries => uptoBulkEntries entries + 1
  | .held _ => 1
def uptoBulkAll {H : Type} : List (DataW H) → Nat
  | [] => 0
  | d :: r => uptoBulk d + uptoBulkAll r
def uptoBulkEntries {H : Type} : List (Lit × DataW H) → Nat
  | [] => 0
  | x :: r => uptoBulkEntry x + uptoBulkEntries r
def uptoBulkEntry {H : Type} : Lit × DataW H → Nat
  | (.string bytes, d) => bytes.length + uptoBulk d + 1
  | (_, d) => uptoBulk d + 1
 end
def uptoSmall : (H : Type) → List (DataW H) → Bool := fun _ ds => decide (uptoBulkAll ds ≤ 1048576)
def OpenSpec.upto (s : _root_.Go.ChangeSpec) : _root_.Go.OpenSpec := { _root_.Go.OpenSpec.ofChange s with cond := some uptoSmall }

/-- 'hangfirelaw10.RecoverLands', WHERE WHAT IT READS IS OF BULK AT MOST 1048576: true; the input reads as it did. -/
def recoverLandsUptoRow : OpenClaim := { program := "ytcnecjkcmjgakaa", sum := "31b7a67c1380ac292ffbb2e3d67bb5d5e989f930b8f10d80238c747448eed7ec", func := "hangfire/hangfirelaw10.RecoverLands", spec := "recoverLands", unfollowed := true, recurses := true, apart := false, narrowed := true }
def RecoverLandsUptoSaid : Prop := recoverLandsUptoRow.holds Try.pinned (OpenSpec.upto recoverLandsSpec)

/-- 'hangfirelaw10.RecoverChecks', WHERE WHAT IT READS IS OF BULK AT MOST 1048576: true; the input reads as it did. -/
def recoverChecksUptoRow : OpenClaim := { program := "ytcnecjkcmjgakaa", sum := "31b7a67c1380ac292ffbb2e3d67bb5d5e989f930b8f10d80238c747448eed7ec", func := "hangfire/hangfirelaw10.RecoverChecks", spec := "recoverChecks", unfollowed := true, recurses := true, apart := false, narrowed := true }
def RecoverChecksUptoSaid : Prop := recoverChecksUptoRow.holds Try.pinned (OpenSpec.upto recoverChecksSpec)

/-- 'hangfirelaw10.RecoverSearches', WHERE WHAT IT READS IS OF BULK AT MOST 1048576: true; the input reads as it did. -/
def recoverSearchesUptoRow : OpenClaim := { program := "ytcnecjkcmjgakaa", sum := "31b7a67c1380ac292ffbb2e3d67bb5d5e989f930b8f10d80238c747448eed7ec", func := "hangfire/hangfirelaw10.RecoverSearches", spec := "recoverSearches", unfollowed := true, recurses := true, apart := false, narrowed := true }
def RecoverSearchesUptoSaid : Prop := recoverSearchesUptoRow.holds Try.pinned (OpenSpec.upto recoverSearchesSpec)

/-- 'hangfirelaw10.RecoverDrift', WHERE WHAT IT READS IS OF BULK AT MOST 1048576: true; the input reads as it did. -/
def recoverDriftUptoRow : OpenClaim := { program := "ytcnecjkcmjgakaa", sum := "31b7a67c1380ac292ffbb2e3d67bb5d5e989f930b8f10d80238c747448eed7ec", func := "hangfire/hangfirelaw10.RecoverDrift", spec := "recoverDrift", unfollowed := true, recurses := true, apart := false, narrowed := true }
def RecoverDriftUptoSaid : Prop := recoverDriftUptoRow.holds Try.pinned (OpenSpec.upto recoverDriftSpec)

/-- 'hangfirelaw10.RecoverHeard', WHERE WHAT IT READS IS OF BULK AT MOST 1048576: true; the input reads as it did. -/
def recoverHeardUptoRow : OpenClaim := { program := "ytcnecjkcmjgakaa", sum := "31b7a67c1380ac292ffbb2e3d67bb5d5e989f930b8f10d80238c747448eed7ec", func := "hangfire/hangfirelaw10.RecoverHeard", spec := "recoverHeard", unfollowed := true, recurses := true, apart := false, narrowed := true }
def RecoverHeardUptoSaid : Prop := recoverHeardUptoRow.holds Try.pinned (OpenSpec.upto recoverHeardSpec)

/-- 'hangfirelaw10.RecoverMore', WHERE WHAT IT READS IS OF BULK AT MOST 1048576: true; the input reads as it did. -/
def recoverMoreUptoRow : OpenClaim := { program := "ytcnecjkcmjgakaa", sum := "31b7a67c1380ac292ffbb2e3d67bb5d5e989f930b8f10d80238c747448eed7ec", func := "hangfire/hangfirelaw10.RecoverMore", spec := "recoverMore", unfollowed := true, recurses := true, apart := false, narrowed := true }
def RecoverMoreUptoSaid : Prop := recoverMoreUptoRow.holds Try.pinned (OpenSpec.upto recoverMoreSpec)

/-- 'hangfirelaw10.RecoverCells', WHERE WHAT IT READS IS OF BULK AT MOST 1048576: true; the input reads as it did. -/
def recoverCellsUptoRow : OpenClaim := { program := "ytcnecjkcmjgakaa", sum := "31b7a67c1380ac292ffbb2e3d67bb5d5e989f930b8f10d80238c747448eed7ec", func := "hangfire/hangfirelaw10.RecoverCells", spec := "recoverCells", unfollowed := true, recurses := true, apart := false, narrowed := true }
def RecoverCellsUptoSaid : Prop := recoverCellsUptoRow.holds Try.pinned (OpenSpec.upto recoverCellsSpec)

/-- 'hangfirelaw10.RecoverFlies', WHERE WHAT IT READS IS OF BULK AT MOST 1048576: true; the input reads as it did. -/
def recoverFliesUptoRow : OpenClaim := { program := "ytcnecjkcmjgakaa", sum := "31b7a67c1380ac292ffbb2e3d67bb5d5e989f930b8f10d80238c747448eed7ec", func := "hangfire/hangfirelaw10.RecoverFlies", spec := "recoverFlies", unfollowed := true, recurses := true, apart := false, narrowed := true }
def RecoverFliesUptoSaid : Prop := recoverFliesUptoRow.holds Try.pinned (OpenSpec.upto recoverFliesSpec)

/-- 'hangfirelaw10.RecoverWider', WHERE WHAT IT READS IS OF BULK AT MOST 1048576: true; the input reads as it did. -/
def recoverWiderUptoRow : OpenClaim := { program := "ytcnecjkcmjgakaa", sum := "31b7a67c1380ac292ffbb2e3d67bb5d5e989f930b8f10d80238c747448eed7ec", func := "hangfire/hangfirelaw10.RecoverWider", spec := "recoverWider", unfollowed := true, recurses := true, apart := false, narrowed := true }
def RecoverWiderUptoSaid : Prop := recoverWiderUptoRow.holds Try.pinned (OpenSpec.upto recoverWiderSpec)

/-- 'hangfirelaw10.RecoverPlans', WHERE WHAT IT READS IS OF BULK AT MOST 1048576: true; the input reads as it did. -/
def recoverPlansUptoRow : OpenClaim := { program := "ytcnecjkcmjgakaa", sum := "31b7a67c1380ac292ffbb2e3d67bb5d5e989f930b8f10d80238c747448eed7ec", func := "hangfire/hangfirelaw10.RecoverPlans", spec := "recoverPlans", unfollowed := true, recurses := true, apart := false, narrowed := true }
def RecoverPlansUptoSaid : Prop := recoverPlansUptoRow.holds Try.pinned (OpenSpec.upto recoverPlansSpec)

/-- 'hangfirelaw10.RecoverFound', WHERE WHAT IT READS IS OF BULK AT MOST 1048576: true; the input reads as it did. -/
def recoverFoundUptoRow : OpenClaim := { program := "ytcnecjkcmjgakaa", sum := "31b7a67c1380ac292ffbb2e3d67bb5d5e989f930b8f10d80238c747448eed7ec", func := "hangfire/hangfirelaw10.RecoverFound", spec := "recoverFound", unfollowed := true, recurses := true, apart := false, narrowed := true }
def RecoverFoundUptoSaid : Prop := recoverFoundUptoRow.holds Try.pinned (OpenSpec.upto recoverFoundSpec)

/-- 'hangfirelaw10.RecoverKnown', WHERE WHAT IT READS IS OF BULK AT MOST 1048576: true; the input reads as it did. -/
def recoverKnownUptoRow : OpenClaim := { program := "ytcnecjkcmjgakaa", sum := "31b7a67c1380ac292ffbb2e3d67bb5d5e989f930b8f10d80238c747448eed7ec", func := "hangfire/hangfirelaw10.RecoverKnown", spec := "recoverKnown", unfollowed := true, recurses := true, apart := false, narrowed := true }
def RecoverKnownUptoSaid : Prop := recoverKnownUptoRow.holds Try.pinned (OpenSpec.upto recoverKnownSpec)

end Rows
end Go.Proofs.Ytcnecjkcmjgakaa
