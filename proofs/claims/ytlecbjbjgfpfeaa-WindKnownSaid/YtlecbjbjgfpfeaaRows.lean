/-
  No cell of these rows narrows 'for every input' (looked for: loops, veiled, ifaces, maps, wideKeys, modest, calm, conditions, laid).
  DERIVED. THE GIVEN ROWS OF THIS SEAT. 3 by the template 'for every input the law returns true; each argument reads behind the call as it read before'; 0 by the template 'total and deterministic' (their statements: YtlecbjbjgfpfeaaTotals.lean).
  GIVEN WITH THE SEED: the statements are not yours to turn. If you find one false, say at which input.
  Laid BY PROGRAM, IN A SANDBOX (cutbox-rows.mjs): the forced cells as the released guide's own fill.sh prints them over the translation 5dcee8d90b55f3c7… (all of the seat's roots in one cut). By AI agents, Wed Nov 11 2026. No macro, syntax, notation, axiom, sorry.
-/
import Derived.Test.YtlecbjbjgfpfeaaChecked
import GoSem.Claim
import GoSem.ClaimJoined
import GoSem.ClaimMapViews
import Derived.JoinedTies
import Derived.KernelRfl
namespace Go.Proofs.Ytlecbjbjgfpfeaa
/- THE CELL 'sum', in the pinned program and in every row, IS THE sha256 OF THE DUMP (.gsa) THAT YtlecbjbjgfpfeaaProg.lean LOADS. Nothing in Lean hashes anything: it is a label: what it is worth is what the hold of that sum in a sandbox is worth. -/
noncomputable def Try.pinned : Pinned := { name := "ytlecbjbjgfpfeaa", sum := "5dcee8d90b55f3c7c43215a4625965ce881c07b314cacdf869f1f289745accc2", checked := Try.checked }
namespace Rows
def none {H : Type} : Left H := { results := [], args := [] }

/-- 'hangfirelaw01.WindFiles': WHATEVER THE INPUT: true; the input reads as it did. -/
def windFilesSpec : ChangeSpec := { name := "windFiles", fn := fun _ => fun
  | [d1, d2] => { results := [.lit (.bool true)], args := [d1, d2] }
  | _ => none }
def windFilesRow : OpenClaim := { program := "ytlecbjbjgfpfeaa", sum := "5dcee8d90b55f3c7c43215a4625965ce881c07b314cacdf869f1f289745accc2", func := "hangfire/hangfirelaw01.WindFiles", spec := "windFiles", unfollowed := true, recurses := true, plainKeys := false, apart := false }
def WindFilesSaid : Prop := windFilesRow.holds Try.pinned (OpenSpec.ofChange windFilesSpec)

/-- ITS FALSE NEIGHBOUR: 'it returns false'. Refute it at one input. -/
def windFilesWrong : ChangeSpec := { name := "windFiles", fn := fun _ => fun
  | [d1, d2] => { results := [.lit (.bool false)], args := [d1, d2] }
  | _ => none }
def WindFilesWrongFalsely : Prop := windFilesRow.holds Try.pinned (OpenSpec.ofChange windFilesWrong)

/-- 'hangfirelaw01.WindBytes': WHATEVER THE INPUT: true; the input reads as it did. -/
def windBytesSpec : ChangeSpec := { name := "windBytes", fn := fun _ => fun
  | [d1, d2, d3] => { results := [.lit (.bool true)], args := [d1, d2, d3] }
  | _ => none }
def windBytesRow : OpenClaim := { program := "ytlecbjbjgfpfeaa", sum := "5dcee8d90b55f3c7c43215a4625965ce881c07b314cacdf869f1f289745accc2", func := "hangfire/hangfirelaw01.WindBytes", spec := "windBytes", unfollowed := true, recurses := true, plainKeys := false, apart := false }
def WindBytesSaid : Prop := windBytesRow.holds Try.pinned (OpenSpec.ofChange windBytesSpec)

/-- ITS FALSE NEIGHBOUR: 'it returns false'. Refute it at one input. -/
def windBytesWrong : ChangeSpec := { name := "windBytes", fn := fun _ => fun
  | [d1, d2, d3] => { results := [.lit (.bool false)], args := [d1, d2, d3] }
  | _ => none }
def WindBytesWrongFalsely : Prop := windBytesRow.holds Try.pinned (OpenSpec.ofChange windBytesWrong)

/-- 'hangfirelaw01.WindKnown': WHATEVER THE INPUT: true; the input reads as it did. -/
def windKnownSpec : ChangeSpec := { name := "windKnown", fn := fun _ => fun
  | [] => { results := [.lit (.bool true)], args := [] }
  | _ => none }
def windKnownRow : OpenClaim := { program := "ytlecbjbjgfpfeaa", sum := "5dcee8d90b55f3c7c43215a4625965ce881c07b314cacdf869f1f289745accc2", func := "hangfire/hangfirelaw01.WindKnown", spec := "windKnown", unfollowed := true, recurses := true, plainKeys := false, apart := false }
def WindKnownSaid : Prop := windKnownRow.holds Try.pinned (OpenSpec.ofChange windKnownSpec)

/-- ITS FALSE NEIGHBOUR: 'it returns false'. Refute it at one input. -/
def windKnownWrong : ChangeSpec := { name := "windKnown", fn := fun _ => fun
  | [] => { results := [.lit (.bool false)], args := [] }
  | _ => none }
def WindKnownWrongFalsely : Prop := windKnownRow.holds Try.pinned (OpenSpec.ofChange windKnownWrong)

/- THE SECOND FORM. 'bulk': how many values and letters a reading holds, each counted each time it is reached (what is shared counts as often as it is met; a slice's spare places count too). A statement '..UptoSaid' is the law's where the arguments, and the package variables that the reading takes, are together of bulk at most 1048576: NARROWER than '..Said'. Prove '..Said' where nothing that the law and all that it calls make is longer than what came in: it says more and counts as full. Else prove '..UptoSaid'. A law counts once. -/
mutual
def uptoBulk {H : Type} : DataW H → Nat
  | .lit (.string bytes) => bytes.length + 1
  | .lit _ => 1
  | .nil => 1
  | .ptr d => uptoBulk d + 1
  | .slice elems spare => uptoBulkAll elems + uptoBulkAll spare + 1
  | .agg parts => uptoBulkAll parts + 1
  | .iface _ d => uptoBulk d + 1
  | .map entries => uptoBulkEntries entries + 1
  | .held _ => 1
def uptoBulkAll {H : Type} : List (DataW H) → Nat
  | [] => 0
  | d :: r => uptoBulk d + uptoBulkAll r
def uptoBulkEntries {H : Type} : List (Lit × DataW H) → Nat
  | [] => 0
  | x :: r => uptoBulkEntry x + uptoBulkEntries r
def uptoBulkEntry {H : Type} : Lit × DataW H → Nat
  | (.string bytes, d) => bytes.length + uptoBulk d + 1
  | (_, d) => uptoBulk d + 1
 end
def uptoSmall : (H : Type) → List (DataW H) → Bool := fun _ ds => decide (uptoBulkAll ds ≤ 1048576)
def OpenSpec.upto (s : _root_.Go.ChangeSpec) : _root_.Go.OpenSpec := { _root_.Go.OpenSpec.ofChange s with cond := some uptoSmall }

/-- 'hangfirelaw01.WindFiles', WHERE WHAT IT READS IS OF BULK AT MOST 1048576: true; the input reads as it did. -/
def windFilesUptoRow : OpenClaim := { program := "ytlecbjbjgfpfeaa", sum := "5dcee8d90b55f3c7c43215a4625965ce881c07b314cacdf869f1f289745accc2", func := "hangfire/hangfirelaw01.WindFiles", spec := "windFiles", unfollowed := true, recurses := true, plainKeys := false, apart := false, narrowed := true }
def WindFilesUptoSaid : Prop := windFilesUptoRow.holds Try.pinned (OpenSpec.upto windFilesSpec)

/-- 'hangfirelaw01.WindBytes', WHERE WHAT IT READS IS OF BULK AT MOST 1048576: true; the input reads as it did. -/
def windBytesUptoRow : OpenClaim := { program := "ytlecbjbjgfpfeaa", sum := "5dcee8d90b55f3c7c43215a4625965ce881c07b314cacdf869f1f289745accc2", func := "hangfire/hangfirelaw01.WindBytes", spec := "windBytes", unfollowed := true, recurses := true, plainKeys := false, apart := false, narrowed := true }
def WindBytesUptoSaid : Prop := windBytesUptoRow.holds Try.pinned (OpenSpec.upto windBytesSpec)

/-- 'hangfirelaw01.WindKnown', WHERE WHAT IT READS IS OF BULK AT MOST 1048576: true; the input reads as it did. -/
def windKnownUptoRow : OpenClaim := { program := "ytlecbjbjgfpfeaa", sum := "5dcee8d90b55f3c7c43215a4625965ce881c07b314cacdf869f1f289745accc2", func := "hangfire/hangfirelaw01.WindKnown", spec := "windKnown", unfollowed := true, recurses := true, plainKeys := false, apart := false, narrowed := true }
def WindKnownUptoSaid : Prop := windKnownUptoRow.holds Try.pinned (OpenSpec.upto windKnownSpec)

end Rows
end Go.Proofs.Ytlecbjbjgfpfeaa
