/-
  No cell of these rows narrows 'for every input' (looked for: loops, veiled, ifaces, maps, wideKeys, modest, calm, conditions, laid).
  DERIVED. THE GIVEN ROWS OF THIS SEAT. 17 by the template 'for every input the law returns true; each argument reads behind the call as it read before'; 0 by the template 'total and deterministic' (their statements: YtbkehkiflfhpfaaTotals.lean).
  GIVEN WITH THE SEED: the statements are not yours to turn. If you find one false, say at which input.
  Laid BY PROGRAM, IN A SANDBOX (cutbox-rows.mjs): the forced cells as the released guide's own fill.sh prints them over the translation cd2db5f87738254a… (all of the seat's roots in one cut). By AI agents, Wed Nov 11 2026. No macro, syntax, notation, axiom, sorry.
-/
import Derived.Test.YtbkehkiflfhpfaaChecked
import GoSem.Claim
import GoSem.ClaimJoined
import GoSem.ClaimMapViews
import Derived.JoinedTies
import Derived.KernelRfl
namespace Go.Proofs.Ytbkehkiflfhpfaa
/- THE CELL 'sum', in the pinned program and in every row, IS THE sha256 OF THE DUMP (.gsa) THAT YtbkehkiflfhpfaaProg.lean LOADS. Nothing in Lean hashes anything: it is a label: what it is worth is what the hold of that sum in a sandbox is worth. -/
noncomputable def Try.pinned : Pinned := { name := "ytbkehkiflfhpfaa", sum := "cd2db5f87738254af3a5f0f8855d5082a3d4bc5f173891ce39f2d2c10ace3dba", checked := Try.checked }
namespace Rows
def none {H : Type} : Left H := { results := [], args := [] }

/-- 'hangfirelaw01.WindChecks': WHATEVER THE INPUT: true; the input reads as it did. -/
def windChecksSpec : ChangeSpec := { name := "windChecks", fn := fun _ => fun
  | [d1, d2] => { results := [.lit (.bool true)], args := [d1, d2] }
  | _ => none }
def windChecksRow : OpenClaim := { program := "ytbkehkiflfhpfaa", sum := "cd2db5f87738254af3a5f0f8855d5082a3d4bc5f173891ce39f2d2c10ace3dba", func := "hangfire/hangfirelaw01.WindChecks", spec := "windChecks", unfollowed := true, recurses := true, plainKeys := false, apart := false }
def WindChecksSaid : Prop := windChecksRow.holds Try.pinned (OpenSpec.ofChange windChecksSpec)

/-- ITS FALSE NEIGHBOUR: 'it returns false'. Refute it at one input. -/
def windChecksWrong : ChangeSpec := { name := "windChecks", fn := fun _ => fun
  | [d1, d2] => { results := [.lit (.bool false)], args := [d1, d2] }
  | _ => none }
def WindChecksWrongFalsely : Prop := windChecksRow.holds Try.pinned (OpenSpec.ofChange windChecksWrong)

/-- 'hangfirelaw01.WindAt': WHATEVER THE INPUT: true; the input reads as it did. -/
def windAtSpec : ChangeSpec := { name := "windAt", fn := fun _ => fun
  | [d1, d2] => { results := [.lit (.bool true)], args := [d1, d2] }
  | _ => none }
def windAtRow : OpenClaim := { program := "ytbkehkiflfhpfaa", sum := "cd2db5f87738254af3a5f0f8855d5082a3d4bc5f173891ce39f2d2c10ace3dba", func := "hangfire/hangfirelaw01.WindAt", spec := "windAt", unfollowed := true, recurses := true, plainKeys := false, apart := false }
def WindAtSaid : Prop := windAtRow.holds Try.pinned (OpenSpec.ofChange windAtSpec)

/-- ITS FALSE NEIGHBOUR: 'it returns false'. Refute it at one input. -/
def windAtWrong : ChangeSpec := { name := "windAt", fn := fun _ => fun
  | [d1, d2] => { results := [.lit (.bool false)], args := [d1, d2] }
  | _ => none }
def WindAtWrongFalsely : Prop := windAtRow.holds Try.pinned (OpenSpec.ofChange windAtWrong)

/-- 'hangfirelaw01.WindKnows': WHATEVER THE INPUT: true; the input reads as it did. -/
def windKnowsSpec : ChangeSpec := { name := "windKnows", fn := fun _ => fun
  | [d1, d2] => { results := [.lit (.bool true)], args := [d1, d2] }
  | _ => none }
def windKnowsRow : OpenClaim := { program := "ytbkehkiflfhpfaa", sum := "cd2db5f87738254af3a5f0f8855d5082a3d4bc5f173891ce39f2d2c10ace3dba", func := "hangfire/hangfirelaw01.WindKnows", spec := "windKnows", unfollowed := true, recurses := true, plainKeys := false, apart := false }
def WindKnowsSaid : Prop := windKnowsRow.holds Try.pinned (OpenSpec.ofChange windKnowsSpec)

/-- ITS FALSE NEIGHBOUR: 'it returns false'. Refute it at one input. -/
def windKnowsWrong : ChangeSpec := { name := "windKnows", fn := fun _ => fun
  | [d1, d2] => { results := [.lit (.bool false)], args := [d1, d2] }
  | _ => none }
def WindKnowsWrongFalsely : Prop := windKnowsRow.holds Try.pinned (OpenSpec.ofChange windKnowsWrong)

/-- 'hangfirelaw01.WindBlames': WHATEVER THE INPUT: true; the input reads as it did. -/
def windBlamesSpec : ChangeSpec := { name := "windBlames", fn := fun _ => fun
  | [d1, d2] => { results := [.lit (.bool true)], args := [d1, d2] }
  | _ => none }
def windBlamesRow : OpenClaim := { program := "ytbkehkiflfhpfaa", sum := "cd2db5f87738254af3a5f0f8855d5082a3d4bc5f173891ce39f2d2c10ace3dba", func := "hangfire/hangfirelaw01.WindBlames", spec := "windBlames", unfollowed := true, recurses := true, plainKeys := false, apart := false }
def WindBlamesSaid : Prop := windBlamesRow.holds Try.pinned (OpenSpec.ofChange windBlamesSpec)

/-- ITS FALSE NEIGHBOUR: 'it returns false'. Refute it at one input. -/
def windBlamesWrong : ChangeSpec := { name := "windBlames", fn := fun _ => fun
  | [d1, d2] => { results := [.lit (.bool false)], args := [d1, d2] }
  | _ => none }
def WindBlamesWrongFalsely : Prop := windBlamesRow.holds Try.pinned (OpenSpec.ofChange windBlamesWrong)

/-- 'hangfirelaw01.WindBlamed': WHATEVER THE INPUT: true; the input reads as it did. -/
def windBlamedSpec : ChangeSpec := { name := "windBlamed", fn := fun _ => fun
  | [d1, d2, d3] => { results := [.lit (.bool true)], args := [d1, d2, d3] }
  | _ => none }
def windBlamedRow : OpenClaim := { program := "ytbkehkiflfhpfaa", sum := "cd2db5f87738254af3a5f0f8855d5082a3d4bc5f173891ce39f2d2c10ace3dba", func := "hangfire/hangfirelaw01.WindBlamed", spec := "windBlamed", unfollowed := true, recurses := true, plainKeys := false, apart := false }
def WindBlamedSaid : Prop := windBlamedRow.holds Try.pinned (OpenSpec.ofChange windBlamedSpec)

/-- ITS FALSE NEIGHBOUR: 'it returns false'. Refute it at one input. -/
def windBlamedWrong : ChangeSpec := { name := "windBlamed", fn := fun _ => fun
  | [d1, d2, d3] => { results := [.lit (.bool false)], args := [d1, d2, d3] }
  | _ => none }
def WindBlamedWrongFalsely : Prop := windBlamedRow.holds Try.pinned (OpenSpec.ofChange windBlamedWrong)

/-- 'hangfirelaw01.WindPoint': WHATEVER THE INPUT: true; the input reads as it did. -/
def windPointSpec : ChangeSpec := { name := "windPoint", fn := fun _ => fun
  | [d1, d2] => { results := [.lit (.bool true)], args := [d1, d2] }
  | _ => none }
def windPointRow : OpenClaim := { program := "ytbkehkiflfhpfaa", sum := "cd2db5f87738254af3a5f0f8855d5082a3d4bc5f173891ce39f2d2c10ace3dba", func := "hangfire/hangfirelaw01.WindPoint", spec := "windPoint", unfollowed := true, recurses := true, plainKeys := false, apart := false }
def WindPointSaid : Prop := windPointRow.holds Try.pinned (OpenSpec.ofChange windPointSpec)

/-- ITS FALSE NEIGHBOUR: 'it returns false'. Refute it at one input. -/
def windPointWrong : ChangeSpec := { name := "windPoint", fn := fun _ => fun
  | [d1, d2] => { results := [.lit (.bool false)], args := [d1, d2] }
  | _ => none }
def WindPointWrongFalsely : Prop := windPointRow.holds Try.pinned (OpenSpec.ofChange windPointWrong)

/-- 'hangfirelaw01.WindSays': WHATEVER THE INPUT: true; the input reads as it did. -/
def windSaysSpec : ChangeSpec := { name := "windSays", fn := fun _ => fun
  | [d1, d2] => { results := [.lit (.bool true)], args := [d1, d2] }
  | _ => none }
def windSaysRow : OpenClaim := { program := "ytbkehkiflfhpfaa", sum := "cd2db5f87738254af3a5f0f8855d5082a3d4bc5f173891ce39f2d2c10ace3dba", func := "hangfire/hangfirelaw01.WindSays", spec := "windSays", unfollowed := true, recurses := true, plainKeys := false, apart := false }
def WindSaysSaid : Prop := windSaysRow.holds Try.pinned (OpenSpec.ofChange windSaysSpec)

/-- ITS FALSE NEIGHBOUR: 'it returns false'. Refute it at one input. -/
def windSaysWrong : ChangeSpec := { name := "windSays", fn := fun _ => fun
  | [d1, d2] => { results := [.lit (.bool false)], args := [d1, d2] }
  | _ => none }
def WindSaysWrongFalsely : Prop := windSaysRow.holds Try.pinned (OpenSpec.ofChange windSaysWrong)

/-- 'hangfirelaw01.WindFiles': WHATEVER THE INPUT: true; the input reads as it did. -/
def windFilesSpec : ChangeSpec := { name := "windFiles", fn := fun _ => fun
  | [d1, d2] => { results := [.lit (.bool true)], args := [d1, d2] }
  | _ => none }
def windFilesRow : OpenClaim := { program := "ytbkehkiflfhpfaa", sum := "cd2db5f87738254af3a5f0f8855d5082a3d4bc5f173891ce39f2d2c10ace3dba", func := "hangfire/hangfirelaw01.WindFiles", spec := "windFiles", unfollowed := true, recurses := true, plainKeys := false, apart := false }
def WindFilesSaid : Prop := windFilesRow.holds Try.pinned (OpenSpec.ofChange windFilesSpec)

/-- ITS FALSE NEIGHBOUR: 'it returns false'. Refute it at one input. -/
def windFilesWrong : ChangeSpec := { name := "windFiles", fn := fun _ => fun
  | [d1, d2] => { results := [.lit (.bool false)], args := [d1, d2] }
  | _ => none }
def WindFilesWrongFalsely : Prop := windFilesRow.holds Try.pinned (OpenSpec.ofChange windFilesWrong)

/-- 'hangfirelaw01.WindBytes': WHATEVER THE INPUT: true; the input reads as it did. -/
def windBytesSpec : ChangeSpec := { name := "windBytes", fn := fun _ => fun
  | [d1, d2, d3] => { results := [.lit (.bool true)], args := [d1, d2, d3] }
  | _ => none }
def windBytesRow : OpenClaim := { program := "ytbkehkiflfhpfaa", sum := "cd2db5f87738254af3a5f0f8855d5082a3d4bc5f173891ce39f2d2c10ace3dba", func := "hangfire/hangfirelaw01.WindBytes", spec := "windBytes", unfollowed := true, recurses := true, plainKeys := false, apart := false }
def WindBytesSaid : Prop := windBytesRow.holds Try.pinned (OpenSpec.ofChange windBytesSpec)

/-- ITS FALSE NEIGHBOUR: 'it returns false'. Refute it at one input. -/
def windBytesWrong : ChangeSpec := { name := "windBytes", fn := fun _ => fun
  | [d1, d2, d3] => { results := [.lit (.bool false)], args := [d1, d2, d3] }
  | _ => none }
def WindBytesWrongFalsely : Prop := windBytesRow.holds Try.pinned (OpenSpec.ofChange windBytesWrong)

/-- 'hangfirelaw01.WindUnknown': WHATEVER THE INPUT: true; the input reads as it did. -/
def windUnknownSpec : ChangeSpec := { name := "windUnknown", fn := fun _ => fun
  | [d1, d2, d3] => { results := [.lit (.bool true)], args := [d1, d2, d3] }
  | _ => none }
def windUnknownRow : OpenClaim := { program := "ytbkehkiflfhpfaa", sum := "cd2db5f87738254af3a5f0f8855d5082a3d4bc5f173891ce39f2d2c10ace3dba", func := "hangfire/hangfirelaw01.WindUnknown", spec := "windUnknown", unfollowed := true, recurses := true, plainKeys := false, apart := false }
def WindUnknownSaid : Prop := windUnknownRow.holds Try.pinned (OpenSpec.ofChange windUnknownSpec)

/-- ITS FALSE NEIGHBOUR: 'it returns false'. Refute it at one input. -/
def windUnknownWrong : ChangeSpec := { name := "windUnknown", fn := fun _ => fun
  | [d1, d2, d3] => { results := [.lit (.bool false)], args := [d1, d2, d3] }
  | _ => none }
def WindUnknownWrongFalsely : Prop := windUnknownRow.holds Try.pinned (OpenSpec.ofChange windUnknownWrong)

/-- 'hangfirelaw01.WindField': WHATEVER THE INPUT: true; the input reads as it did. -/
def windFieldSpec : ChangeSpec := { name := "windField", fn := fun _ => fun
  | [d1, d2, d3] => { results := [.lit (.bool true)], args := [d1, d2, d3] }
  | _ => none }
def windFieldRow : OpenClaim := { program := "ytbkehkiflfhpfaa", sum := "cd2db5f87738254af3a5f0f8855d5082a3d4bc5f173891ce39f2d2c10ace3dba", func := "hangfire/hangfirelaw01.WindField", spec := "windField", unfollowed := true, recurses := true, plainKeys := false, apart := false }
def WindFieldSaid : Prop := windFieldRow.holds Try.pinned (OpenSpec.ofChange windFieldSpec)

/-- ITS FALSE NEIGHBOUR: 'it returns false'. Refute it at one input. -/
def windFieldWrong : ChangeSpec := { name := "windField", fn := fun _ => fun
  | [d1, d2, d3] => { results := [.lit (.bool false)], args := [d1, d2, d3] }
  | _ => none }
def WindFieldWrongFalsely : Prop := windFieldRow.holds Try.pinned (OpenSpec.ofChange windFieldWrong)

/-- 'hangfirelaw01.WindOver': WHATEVER THE INPUT: true; the input reads as it did. -/
def windOverSpec : ChangeSpec := { name := "windOver", fn := fun _ => fun
  | [d1, d2, d3] => { results := [.lit (.bool true)], args := [d1, d2, d3] }
  | _ => none }
def windOverRow : OpenClaim := { program := "ytbkehkiflfhpfaa", sum := "cd2db5f87738254af3a5f0f8855d5082a3d4bc5f173891ce39f2d2c10ace3dba", func := "hangfire/hangfirelaw01.WindOver", spec := "windOver", unfollowed := true, recurses := true, plainKeys := false, apart := false }
def WindOverSaid : Prop := windOverRow.holds Try.pinned (OpenSpec.ofChange windOverSpec)

/-- ITS FALSE NEIGHBOUR: 'it returns false'. Refute it at one input. -/
def windOverWrong : ChangeSpec := { name := "windOver", fn := fun _ => fun
  | [d1, d2, d3] => { results := [.lit (.bool false)], args := [d1, d2, d3] }
  | _ => none }
def WindOverWrongFalsely : Prop := windOverRow.holds Try.pinned (OpenSpec.ofChange windOverWrong)

/-- 'hangfirelaw01.WindAges': WHATEVER THE INPUT: true; the input reads as it did. -/
def windAgesSpec : ChangeSpec := { name := "windAges", fn := fun _ => fun
  | [d1, d2] => { results := [.lit (.bool true)], args := [d1, d2] }
  | _ => none }
def windAgesRow : OpenClaim := { program := "ytbkehkiflfhpfaa", sum := "cd2db5f87738254af3a5f0f8855d5082a3d4bc5f173891ce39f2d2c10ace3dba", func := "hangfire/hangfirelaw01.WindAges", spec := "windAges", unfollowed := true, recurses := true, plainKeys := false, apart := false }
def WindAgesSaid : Prop := windAgesRow.holds Try.pinned (OpenSpec.ofChange windAgesSpec)

/-- ITS FALSE NEIGHBOUR: 'it returns false'. Refute it at one input. -/
def windAgesWrong : ChangeSpec := { name := "windAges", fn := fun _ => fun
  | [d1, d2] => { results := [.lit (.bool false)], args := [d1, d2] }
  | _ => none }
def WindAgesWrongFalsely : Prop := windAgesRow.holds Try.pinned (OpenSpec.ofChange windAgesWrong)

/-- 'hangfirelaw01.WindLess': WHATEVER THE INPUT: true; the input reads as it did. -/
def windLessSpec : ChangeSpec := { name := "windLess", fn := fun _ => fun
  | [d1, d2, d3] => { results := [.lit (.bool true)], args := [d1, d2, d3] }
  | _ => none }
def windLessRow : OpenClaim := { program := "ytbkehkiflfhpfaa", sum := "cd2db5f87738254af3a5f0f8855d5082a3d4bc5f173891ce39f2d2c10ace3dba", func := "hangfire/hangfirelaw01.WindLess", spec := "windLess", unfollowed := true, recurses := true, plainKeys := false, apart := false }
def WindLessSaid : Prop := windLessRow.holds Try.pinned (OpenSpec.ofChange windLessSpec)

/-- ITS FALSE NEIGHBOUR: 'it returns false'. Refute it at one input. -/
def windLessWrong : ChangeSpec := { name := "windLess", fn := fun _ => fun
  | [d1, d2, d3] => { results := [.lit (.bool false)], args := [d1, d2, d3] }
  | _ => none }
def WindLessWrongFalsely : Prop := windLessRow.holds Try.pinned (OpenSpec.ofChange windLessWrong)

/-- 'hangfirelaw01.WindFiner': WHATEVER THE INPUT: true; the input reads as it did. -/
def windFinerSpec : ChangeSpec := { name := "windFiner", fn := fun _ => fun
  | [d1, d2, d3] => { results := [.lit (.bool true)], args := [d1, d2, d3] }
  | _ => none }
def windFinerRow : OpenClaim := { program := "ytbkehkiflfhpfaa", sum := "cd2db5f87738254af3a5f0f8855d5082a3d4bc5f173891ce39f2d2c10ace3dba", func := "hangfire/hangfirelaw01.WindFiner", spec := "windFiner", unfollowed := true, recurses := true, plainKeys := false, apart := false }
def WindFinerSaid : Prop := windFinerRow.holds Try.pinned (OpenSpec.ofChange windFinerSpec)

/-- ITS FALSE NEIGHBOUR: 'it returns false'. Refute it at one input. -/
def windFinerWrong : ChangeSpec := { name := "windFiner", fn := fun _ => fun
  | [d1, d2, d3] => { results := [.lit (.bool false)], args := [d1, d2, d3] }
  | _ => none }
def WindFinerWrongFalsely : Prop := windFinerRow.holds Try.pinned (OpenSpec.ofChange windFinerWrong)

/-- 'hangfirelaw01.WindCovers': WHATEVER THE INPUT: true; the input reads as it did. -/
def windCoversSpec : ChangeSpec := { name := "windCovers", fn := fun _ => fun
  | [d1, d2] => { results := [.lit (.bool true)], args := [d1, d2] }
  | _ => none }
def windCoversRow : OpenClaim := { program := "ytbkehkiflfhpfaa", sum := "cd2db5f87738254af3a5f0f8855d5082a3d4bc5f173891ce39f2d2c10ace3dba", func := "hangfire/hangfirelaw01.WindCovers", spec := "windCovers", unfollowed := true, recurses := true, plainKeys := false, apart := false }
def WindCoversSaid : Prop := windCoversRow.holds Try.pinned (OpenSpec.ofChange windCoversSpec)

/-- ITS FALSE NEIGHBOUR: 'it returns false'. Refute it at one input. -/
def windCoversWrong : ChangeSpec := { name := "windCovers", fn := fun _ => fun
  | [d1, d2] => { results := [.lit (.bool false)], args := [d1, d2] }
  | _ => none }
def WindCoversWrongFalsely : Prop := windCoversRow.holds Try.pinned (OpenSpec.ofChange windCoversWrong)

/-- 'hangfirelaw01.WindKnown': WHATEVER THE INPUT: true; the input reads as it did. -/
def windKnownSpec : ChangeSpec := { name := "windKnown", fn := fun _ => fun
  | [] => { results := [.lit (.bool true)], args := [] }
  | _ => none }
def windKnownRow : OpenClaim := { program := "ytbkehkiflfhpfaa", sum := "cd2db5f87738254af3a5f0f8855d5082a3d4bc5f173891ce39f2d2c10ace3dba", func := "hangfire/hangfirelaw01.WindKnown", spec := "windKnown", unfollowed := true, recurses := true, plainKeys := false, apart := false }
def WindKnownSaid : Prop := windKnownRow.holds Try.pinned (OpenSpec.ofChange windKnownSpec)

/-- ITS FALSE NEIGHBOUR: 'it returns false'. Refute it at one input. -/
def windKnownWrong : ChangeSpec := { name := "windKnown", fn := fun _ => fun
  | [] => { results := [.lit (.bool false)], args := [] }
  | _ => none }
def WindKnownWrongFalsely : Prop := windKnownRow.holds Try.pinned (OpenSpec.ofChange windKnownWrong)

/- THE SECOND FORM. 'bulk': how many values and letters a reading holds, each counted each time it is reached (what is shared counts as often as it is met; a slice's spare places count too). A statement '..UptoSaid' is the law's where the arguments, and the package variables that the reading takes, are together of bulk at most 1048576: NARROWER than '..Said'. Prove '..Said' where nothing that the law and all that it calls make is longer than what came in: it says more and counts as full. Else prove '..UptoSaid'. A law counts once. -/
mutual
def uptoBulk {H : Type} : DataW H → Nat
  | .lit (.string bytes) => bytes.length + 1
  | .lit _ => 1
  | .nil => 1
  | .ptr d => uptoBulk d + 1
  | .slice elems spare => uptoBulkAll elems + uptoBulkAll spare + 1
  | .agg parts => uptoBulkAll parts + 1
  | .iface _ d => uptoBulk d + 1
  | .map entries => uptoBulkEntries entries + 1
  | .held _ => 1
def uptoBulkAll {H : Type} : List (DataW H) → Nat
  | [] => 0
  | d :: r => uptoBulk d + uptoBulkAll r
def uptoBulkEntries {H : Type} : List (Lit × DataW H) → Nat
  | [] => 0
  | x :: r => uptoBulkEntry x + uptoBulkEntries r
def uptoBulkEntry {H : Type} : Lit × DataW H → Nat
  | (.string bytes, d) => bytes.length + uptoBulk d + 1
  | (_, d) => uptoBulk d + 1
 end
def uptoSmall : (H : Type) → List (DataW H) → Bool := fun _ ds => decide (uptoBulkAll ds ≤ 1048576)
def OpenSpec.upto (s : _root_.Go.ChangeSpec) : _root_.Go.OpenSpec := { _root_.Go.OpenSpec.ofChange s with cond := some uptoSmall }

/-- 'hangfirelaw01.WindChecks', WHERE WHAT IT READS IS OF BULK AT MOST 1048576: true; the input reads as it did. -/
def windChecksUptoRow : OpenClaim := { program := "ytbkehkiflfhpfaa", sum := "cd2db5f87738254af3a5f0f8855d5082a3d4bc5f173891ce39f2d2c10ace3dba", func := "hangfire/hangfirelaw01.WindChecks", spec := "windChecks", unfollowed := true, recurses := true, plainKeys := false, apart := false, narrowed := true }
def WindChecksUptoSaid : Prop := windChecksUptoRow.holds Try.pinned (OpenSpec.upto windChecksSpec)

/-- 'hangfirelaw01.WindAt', WHERE WHAT IT READS IS OF BULK AT MOST 1048576: true; the input reads as it did. -/
def windAtUptoRow : OpenClaim := { program := "ytbkehkiflfhpfaa", sum := "cd2db5f87738254af3a5f0f8855d5082a3d4bc5f173891ce39f2d2c10ace3dba", func := "hangfire/hangfirelaw01.WindAt", spec := "windAt", unfollowed := true, recurses := true, plainKeys := false, apart := false, narrowed := true }
def WindAtUptoSaid : Prop := windAtUptoRow.holds Try.pinned (OpenSpec.upto windAtSpec)

/-- 'hangfirelaw01.WindKnows', WHERE WHAT IT READS IS OF BULK AT MOST 1048576: true; the input reads as it did. -/
def windKnowsUptoRow : OpenClaim := { program := "ytbkehkiflfhpfaa", sum := "cd2db5f87738254af3a5f0f8855d5082a3d4bc5f173891ce39f2d2c10ace3dba", func := "hangfire/hangfirelaw01.WindKnows", spec := "windKnows", unfollowed := true, recurses := true, plainKeys := false, apart := false, narrowed := true }
def WindKnowsUptoSaid : Prop := windKnowsUptoRow.holds Try.pinned (OpenSpec.upto windKnowsSpec)

/-- 'hangfirelaw01.WindBlames', WHERE WHAT IT READS IS OF BULK AT MOST 1048576: true; the input reads as it did. -/
def windBlamesUptoRow : OpenClaim := { program := "ytbkehkiflfhpfaa", sum := "cd2db5f87738254af3a5f0f8855d5082a3d4bc5f173891ce39f2d2c10ace3dba", func := "hangfire/hangfirelaw01.WindBlames", spec := "windBlames", unfollowed := true, recurses := true, plainKeys := false, apart := false, narrowed := true }
def WindBlamesUptoSaid : Prop := windBlamesUptoRow.holds Try.pinned (OpenSpec.upto windBlamesSpec)

/-- 'hangfirelaw01.WindBlamed', WHERE WHAT IT READS IS OF BULK AT MOST 1048576: true; the input reads as it did. -/
def windBlamedUptoRow : OpenClaim := { program := "ytbkehkiflfhpfaa", sum := "cd2db5f87738254af3a5f0f8855d5082a3d4bc5f173891ce39f2d2c10ace3dba", func := "hangfire/hangfirelaw01.WindBlamed", spec := "windBlamed", unfollowed := true, recurses := true, plainKeys := false, apart := false, narrowed := true }
def WindBlamedUptoSaid : Prop := windBlamedUptoRow.holds Try.pinned (OpenSpec.upto windBlamedSpec)

/-- 'hangfirelaw01.WindPoint', WHERE WHAT IT READS IS OF BULK AT MOST 1048576: true; the input reads as it did. -/
def windPointUptoRow : OpenClaim := { program := "ytbkehkiflfhpfaa", sum := "cd2db5f87738254af3a5f0f8855d5082a3d4bc5f173891ce39f2d2c10ace3dba", func := "hangfire/hangfirelaw01.WindPoint", spec := "windPoint", unfollowed := true, recurses := true, plainKeys := false, apart := false, narrowed := true }
def WindPointUptoSaid : Prop := windPointUptoRow.holds Try.pinned (OpenSpec.upto windPointSpec)

/-- 'hangfirelaw01.WindSays', WHERE WHAT IT READS IS OF BULK AT MOST 1048576: true; the input reads as it did. -/
def windSaysUptoRow : OpenClaim := { program := "ytbkehkiflfhpfaa", sum := "cd2db5f87738254af3a5f0f8855d5082a3d4bc5f173891ce39f2d2c10ace3dba", func := "hangfire/hangfirelaw01.WindSays", spec := "windSays", unfollowed := true, recurses := true, plainKeys := false, apart := false, narrowed := true }
def WindSaysUptoSaid : Prop := windSaysUptoRow.holds Try.pinned (OpenSpec.upto windSaysSpec)

/-- 'hangfirelaw01.WindFiles', WHERE WHAT IT READS IS OF BULK AT MOST 1048576: true; the input reads as it did. -/
def windFilesUptoRow : OpenClaim := { program := "ytbkehkiflfhpfaa", sum := "cd2db5f87738254af3a5f0f8855d5082a3d4bc5f173891ce39f2d2c10ace3dba", func := "hangfire/hangfirelaw01.WindFiles", spec := "windFiles", unfollowed := true, recurses := true, plainKeys := false, apart := false, narrowed := true }
def WindFilesUptoSaid : Prop := windFilesUptoRow.holds Try.pinned (OpenSpec.upto windFilesSpec)

/-- 'hangfirelaw01.WindBytes', WHERE WHAT IT READS IS OF BULK AT MOST 1048576: true; the input reads as it did. -/
def windBytesUptoRow : OpenClaim := { program := "ytbkehkiflfhpfaa", sum := "cd2db5f87738254af3a5f0f8855d5082a3d4bc5f173891ce39f2d2c10ace3dba", func := "hangfire/hangfirelaw01.WindBytes", spec := "windBytes", unfollowed := true, recurses := true, plainKeys := false, apart := false, narrowed := true }
def WindBytesUptoSaid : Prop := windBytesUptoRow.holds Try.pinned (OpenSpec.upto windBytesSpec)

/-- 'hangfirelaw01.WindUnknown', WHERE WHAT IT READS IS OF BULK AT MOST 1048576: true; the input reads as it did. -/
def windUnknownUptoRow : OpenClaim := { program := "ytbkehkiflfhpfaa", sum := "cd2db5f87738254af3a5f0f8855d5082a3d4bc5f173891ce39f2d2c10ace3dba", func := "hangfire/hangfirelaw01.WindUnknown", spec := "windUnknown", unfollowed := true, recurses := true, plainKeys := false, apart := false, narrowed := true }
def WindUnknownUptoSaid : Prop := windUnknownUptoRow.holds Try.pinned (OpenSpec.upto windUnknownSpec)

/-- 'hangfirelaw01.WindField', WHERE WHAT IT READS IS OF BULK AT MOST 1048576: true; the input reads as it did. -/
def windFieldUptoRow : OpenClaim := { program := "ytbkehkiflfhpfaa", sum := "cd2db5f87738254af3a5f0f8855d5082a3d4bc5f173891ce39f2d2c10ace3dba", func := "hangfire/hangfirelaw01.WindField", spec := "windField", unfollowed := true, recurses := true, plainKeys := false, apart := false, narrowed := true }
def WindFieldUptoSaid : Prop := windFieldUptoRow.holds Try.pinned (OpenSpec.upto windFieldSpec)

/-- 'hangfirelaw01.WindOver', WHERE WHAT IT READS IS OF BULK AT MOST 1048576: true; the input reads as it did. -/
def windOverUptoRow : OpenClaim := { program := "ytbkehkiflfhpfaa", sum := "cd2db5f87738254af3a5f0f8855d5082a3d4bc5f173891ce39f2d2c10ace3dba", func := "hangfire/hangfirelaw01.WindOver", spec := "windOver", unfollowed := true, recurses := true, plainKeys := false, apart := false, narrowed := true }
def WindOverUptoSaid : Prop := windOverUptoRow.holds Try.pinned (OpenSpec.upto windOverSpec)

/-- 'hangfirelaw01.WindAges', WHERE WHAT IT READS IS OF BULK AT MOST 1048576: true; the input reads as it did. -/
def windAgesUptoRow : OpenClaim := { program := "ytbkehkiflfhpfaa", sum := "cd2db5f87738254af3a5f0f8855d5082a3d4bc5f173891ce39f2d2c10ace3dba", func := "hangfire/hangfirelaw01.WindAges", spec := "windAges", unfollowed := true, recurses := true, plainKeys := false, apart := false, narrowed := true }
def WindAgesUptoSaid : Prop := windAgesUptoRow.holds Try.pinned (OpenSpec.upto windAgesSpec)

/-- 'hangfirelaw01.WindLess', WHERE WHAT IT READS IS OF BULK AT MOST 1048576: true; the input reads as it did. -/
def windLessUptoRow : OpenClaim := { program := "ytbkehkiflfhpfaa", sum := "cd2db5f87738254af3a5f0f8855d5082a3d4bc5f173891ce39f2d2c10ace3dba", func := "hangfire/hangfirelaw01.WindLess", spec := "windLess", unfollowed := true, recurses := true, plainKeys := false, apart := false, narrowed := true }
def WindLessUptoSaid : Prop := windLessUptoRow.holds Try.pinned (OpenSpec.upto windLessSpec)

/-- 'hangfirelaw01.WindFiner', WHERE WHAT IT READS IS OF BULK AT MOST 1048576: true; the input reads as it did. -/
def windFinerUptoRow : OpenClaim := { program := "ytbkehkiflfhpfaa", sum := "cd2db5f87738254af3a5f0f8855d5082a3d4bc5f173891ce39f2d2c10ace3dba", func := "hangfire/hangfirelaw01.WindFiner", spec := "windFiner", unfollowed := true, recurses := true, plainKeys := false, apart := false, narrowed := true }
def WindFinerUptoSaid : Prop := windFinerUptoRow.holds Try.pinned (OpenSpec.upto windFinerSpec)

/-- 'hangfirelaw01.WindCovers', WHERE WHAT IT READS IS OF BULK AT MOST 1048576: true; the input reads as it did. -/
def windCoversUptoRow : OpenClaim := { program := "ytbkehkiflfhpfaa", sum := "cd2db5f87738254af3a5f0f8855d5082a3d4bc5f173891ce39f2d2c10ace3dba", func := "hangfire/hangfirelaw01.WindCovers", spec := "windCovers", unfollowed := true, recurses := true, plainKeys := false, apart := false, narrowed := true }
def WindCoversUptoSaid : Prop := windCoversUptoRow.holds Try.pinned (OpenSpec.upto windCoversSpec)

/-- 'hangfirelaw01.WindKnown', WHERE WHAT IT READS IS OF BULK AT MOST 1048576: true; the input reads as it did. -/
def windKnownUptoRow : OpenClaim := { program := "ytbkehkiflfhpfaa", sum := "cd2db5f87738254af3a5f0f8855d5082a3d4bc5f173891ce39f2d2c10ace3dba", func := "hangfire/hangfirelaw01.WindKnown", spec := "windKnown", unfollowed := true, recurses := true, plainKeys := false, apart := false, narrowed := true }
def WindKnownUptoSaid : Prop := windKnownUptoRow.holds Try.pinned (OpenSpec.upto windKnownSpec)

end Rows
end Go.Proofs.Ytbkehkiflfhpfaa
