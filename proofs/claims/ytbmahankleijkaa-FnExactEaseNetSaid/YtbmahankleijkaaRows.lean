/-
  No cell of these rows narrows 'for every input' (looked for: loops, veiled, ifaces, maps, wideKeys, modest, calm, conditions, laid).
  DERIVED. THE GIVEN ROWS OF THIS SEAT. 9 by the template 'for every input the law returns true; each argument reads behind the call as it read before'; 0 by the template 'total and deterministic' (their statements: YtbmahankleijkaaTotals.lean).
  GIVEN WITH THE SEED: the statements are not yours to turn. If you find one false, say at which input.
  Laid BY PROGRAM, IN A SANDBOX (cutbox-rows.mjs): the forced cells as the released guide's own fill.sh prints them over the translation 1044ba4aeb885a4c… (all of the seat's roots in one cut). By AI agents, Wed Nov 11 2026. No macro, syntax, notation, axiom, sorry.
-/
import Derived.Test.YtbmahankleijkaaChecked
import GoSem.Claim
import GoSem.ClaimJoined
import GoSem.ClaimMapViews
import Derived.JoinedTies
import Derived.KernelRfl
namespace Go.Proofs.Ytbmahankleijkaa
/- THE CELL 'sum', in the pinned program and in every row, IS THE sha256 OF THE DUMP (.gsa) THAT YtbmahankleijkaaProg.lean LOADS. Nothing in Lean hashes anything: it is a label: what it is worth is what the hold of that sum in a sandbox is worth. -/
noncomputable def Try.pinned : Pinned := { name := "ytbmahankleijkaa", sum := "1044ba4aeb885a4c1fb2b939df0c8b0976db8ff35440575bfcb0a995da911a93", checked := Try.checked }
namespace Rows
def none {H : Type} : Left H := { results := [], args := [] }

/-- 'laws.FnExactFacetsAt': WHATEVER THE INPUT: true; the input reads as it did. -/
def fnExactFacetsAtSpec : ChangeSpec := { name := "fnExactFacetsAt", fn := fun _ => fun
  | [d1, d2] => { results := [.lit (.bool true)], args := [d1, d2] }
  | _ => none }
def fnExactFacetsAtRow : OpenClaim := { program := "ytbmahankleijkaa", sum := "1044ba4aeb885a4c1fb2b939df0c8b0976db8ff35440575bfcb0a995da911a93", func := "loop.example/g01328/laws.FnExactFacetsAt", spec := "fnExactFacetsAt", unfollowed := true, recurses := true, plainKeys := false, apart := false }
def FnExactFacetsAtSaid : Prop := fnExactFacetsAtRow.holds Try.pinned (OpenSpec.ofChange fnExactFacetsAtSpec)

/-- ITS FALSE NEIGHBOUR: 'it returns false'. Refute it at one input. -/
def fnExactFacetsAtWrong : ChangeSpec := { name := "fnExactFacetsAt", fn := fun _ => fun
  | [d1, d2] => { results := [.lit (.bool false)], args := [d1, d2] }
  | _ => none }
def FnExactFacetsAtWrongFalsely : Prop := fnExactFacetsAtRow.holds Try.pinned (OpenSpec.ofChange fnExactFacetsAtWrong)

/-- 'laws.FnExactEdgesOfNet': WHATEVER THE INPUT: true; the input reads as it did. -/
def fnExactEdgesOfNetSpec : ChangeSpec := { name := "fnExactEdgesOfNet", fn := fun _ => fun
  | [d] => { results := [.lit (.bool true)], args := [d] }
  | _ => none }
def fnExactEdgesOfNetRow : OpenClaim := { program := "ytbmahankleijkaa", sum := "1044ba4aeb885a4c1fb2b939df0c8b0976db8ff35440575bfcb0a995da911a93", func := "loop.example/g01328/laws.FnExactEdgesOfNet", spec := "fnExactEdgesOfNet", unfollowed := true, recurses := true, plainKeys := false, apart := false }
def FnExactEdgesOfNetSaid : Prop := fnExactEdgesOfNetRow.holds Try.pinned (OpenSpec.ofChange fnExactEdgesOfNetSpec)

/-- ITS FALSE NEIGHBOUR: 'it returns false'. Refute it at one input. -/
def fnExactEdgesOfNetWrong : ChangeSpec := { name := "fnExactEdgesOfNet", fn := fun _ => fun
  | [d] => { results := [.lit (.bool false)], args := [d] }
  | _ => none }
def FnExactEdgesOfNetWrongFalsely : Prop := fnExactEdgesOfNetRow.holds Try.pinned (OpenSpec.ofChange fnExactEdgesOfNetWrong)

/-- 'laws.FnExactBordersOfNet': WHATEVER THE INPUT: true; the input reads as it did. -/
def fnExactBordersOfNetSpec : ChangeSpec := { name := "fnExactBordersOfNet", fn := fun _ => fun
  | [d] => { results := [.lit (.bool true)], args := [d] }
  | _ => none }
def fnExactBordersOfNetRow : OpenClaim := { program := "ytbmahankleijkaa", sum := "1044ba4aeb885a4c1fb2b939df0c8b0976db8ff35440575bfcb0a995da911a93", func := "loop.example/g01328/laws.FnExactBordersOfNet", spec := "fnExactBordersOfNet", unfollowed := true, recurses := true, plainKeys := false, apart := false }
def FnExactBordersOfNetSaid : Prop := fnExactBordersOfNetRow.holds Try.pinned (OpenSpec.ofChange fnExactBordersOfNetSpec)

/-- ITS FALSE NEIGHBOUR: 'it returns false'. Refute it at one input. -/
def fnExactBordersOfNetWrong : ChangeSpec := { name := "fnExactBordersOfNet", fn := fun _ => fun
  | [d] => { results := [.lit (.bool false)], args := [d] }
  | _ => none }
def FnExactBordersOfNetWrongFalsely : Prop := fnExactBordersOfNetRow.holds Try.pinned (OpenSpec.ofChange fnExactBordersOfNetWrong)

/-- 'laws.FnExactFacetShared': WHATEVER THE INPUT: true; the input reads as it did. -/
def fnExactFacetSharedSpec : ChangeSpec := { name := "fnExactFacetShared", fn := fun _ => fun
  | [d1, d2] => { results := [.lit (.bool true)], args := [d1, d2] }
  | _ => none }
def fnExactFacetSharedRow : OpenClaim := { program := "ytbmahankleijkaa", sum := "1044ba4aeb885a4c1fb2b939df0c8b0976db8ff35440575bfcb0a995da911a93", func := "loop.example/g01328/laws.FnExactFacetShared", spec := "fnExactFacetShared", unfollowed := true, recurses := true, plainKeys := false, apart := false }
def FnExactFacetSharedSaid : Prop := fnExactFacetSharedRow.holds Try.pinned (OpenSpec.ofChange fnExactFacetSharedSpec)

/-- ITS FALSE NEIGHBOUR: 'it returns false'. Refute it at one input. -/
def fnExactFacetSharedWrong : ChangeSpec := { name := "fnExactFacetShared", fn := fun _ => fun
  | [d1, d2] => { results := [.lit (.bool false)], args := [d1, d2] }
  | _ => none }
def FnExactFacetSharedWrongFalsely : Prop := fnExactFacetSharedRow.holds Try.pinned (OpenSpec.ofChange fnExactFacetSharedWrong)

/-- 'laws.FnExactBackNet': WHATEVER THE INPUT: true; the input reads as it did. -/
def fnExactBackNetSpec : ChangeSpec := { name := "fnExactBackNet", fn := fun _ => fun
  | [d] => { results := [.lit (.bool true)], args := [d] }
  | _ => none }
def fnExactBackNetRow : OpenClaim := { program := "ytbmahankleijkaa", sum := "1044ba4aeb885a4c1fb2b939df0c8b0976db8ff35440575bfcb0a995da911a93", func := "loop.example/g01328/laws.FnExactBackNet", spec := "fnExactBackNet", unfollowed := true, recurses := true, plainKeys := false, apart := false }
def FnExactBackNetSaid : Prop := fnExactBackNetRow.holds Try.pinned (OpenSpec.ofChange fnExactBackNetSpec)

/-- ITS FALSE NEIGHBOUR: 'it returns false'. Refute it at one input. -/
def fnExactBackNetWrong : ChangeSpec := { name := "fnExactBackNet", fn := fun _ => fun
  | [d] => { results := [.lit (.bool false)], args := [d] }
  | _ => none }
def FnExactBackNetWrongFalsely : Prop := fnExactBackNetRow.holds Try.pinned (OpenSpec.ofChange fnExactBackNetWrong)

/-- 'laws.FnExactVolumeOfNet': WHATEVER THE INPUT: true; the input reads as it did. -/
def fnExactVolumeOfNetSpec : ChangeSpec := { name := "fnExactVolumeOfNet", fn := fun _ => fun
  | [d] => { results := [.lit (.bool true)], args := [d] }
  | _ => none }
def fnExactVolumeOfNetRow : OpenClaim := { program := "ytbmahankleijkaa", sum := "1044ba4aeb885a4c1fb2b939df0c8b0976db8ff35440575bfcb0a995da911a93", func := "loop.example/g01328/laws.FnExactVolumeOfNet", spec := "fnExactVolumeOfNet", unfollowed := true, recurses := true, plainKeys := false, apart := false }
def FnExactVolumeOfNetSaid : Prop := fnExactVolumeOfNetRow.holds Try.pinned (OpenSpec.ofChange fnExactVolumeOfNetSpec)

/-- ITS FALSE NEIGHBOUR: 'it returns false'. Refute it at one input. -/
def fnExactVolumeOfNetWrong : ChangeSpec := { name := "fnExactVolumeOfNet", fn := fun _ => fun
  | [d] => { results := [.lit (.bool false)], args := [d] }
  | _ => none }
def FnExactVolumeOfNetWrongFalsely : Prop := fnExactVolumeOfNetRow.holds Try.pinned (OpenSpec.ofChange fnExactVolumeOfNetWrong)

/-- 'laws.FnExactAreaOfNet': WHATEVER THE INPUT: true; the input reads as it did. -/
def fnExactAreaOfNetSpec : ChangeSpec := { name := "fnExactAreaOfNet", fn := fun _ => fun
  | [d] => { results := [.lit (.bool true)], args := [d] }
  | _ => none }
def fnExactAreaOfNetRow : OpenClaim := { program := "ytbmahankleijkaa", sum := "1044ba4aeb885a4c1fb2b939df0c8b0976db8ff35440575bfcb0a995da911a93", func := "loop.example/g01328/laws.FnExactAreaOfNet", spec := "fnExactAreaOfNet", inPlace := ["math.sqrt"], unfollowed := true, recurses := true, plainKeys := false, apart := false }
def FnExactAreaOfNetSaid : Prop := fnExactAreaOfNetRow.holds Try.pinned (OpenSpec.ofChange fnExactAreaOfNetSpec)

/-- ITS FALSE NEIGHBOUR: 'it returns false'. Refute it at one input. -/
def fnExactAreaOfNetWrong : ChangeSpec := { name := "fnExactAreaOfNet", fn := fun _ => fun
  | [d] => { results := [.lit (.bool false)], args := [d] }
  | _ => none }
def FnExactAreaOfNetWrongFalsely : Prop := fnExactAreaOfNetRow.holds Try.pinned (OpenSpec.ofChange fnExactAreaOfNetWrong)

/-- 'laws.FnExactEaseNet': WHATEVER THE INPUT: true; the input reads as it did. -/
def fnExactEaseNetSpec : ChangeSpec := { name := "fnExactEaseNet", fn := fun _ => fun
  | [d1, d2] => { results := [.lit (.bool true)], args := [d1, d2] }
  | _ => none }
def fnExactEaseNetRow : OpenClaim := { program := "ytbmahankleijkaa", sum := "1044ba4aeb885a4c1fb2b939df0c8b0976db8ff35440575bfcb0a995da911a93", func := "loop.example/g01328/laws.FnExactEaseNet", spec := "fnExactEaseNet", unfollowed := true, recurses := true, plainKeys := false, apart := false }
def FnExactEaseNetSaid : Prop := fnExactEaseNetRow.holds Try.pinned (OpenSpec.ofChange fnExactEaseNetSpec)

/-- ITS FALSE NEIGHBOUR: 'it returns false'. Refute it at one input. -/
def fnExactEaseNetWrong : ChangeSpec := { name := "fnExactEaseNet", fn := fun _ => fun
  | [d1, d2] => { results := [.lit (.bool false)], args := [d1, d2] }
  | _ => none }
def FnExactEaseNetWrongFalsely : Prop := fnExactEaseNetRow.holds Try.pinned (OpenSpec.ofChange fnExactEaseNetWrong)

/-- 'laws.FnExactRoundNet': WHATEVER THE INPUT: true; the input reads as it did. -/
def fnExactRoundNetSpec : ChangeSpec := { name := "fnExactRoundNet", fn := fun _ => fun
  | [d] => { results := [.lit (.bool true)], args := [d] }
  | _ => none }
def fnExactRoundNetRow : OpenClaim := { program := "ytbmahankleijkaa", sum := "1044ba4aeb885a4c1fb2b939df0c8b0976db8ff35440575bfcb0a995da911a93", func := "loop.example/g01328/laws.FnExactRoundNet", spec := "fnExactRoundNet", unfollowed := true, recurses := true, plainKeys := false, apart := false }
def FnExactRoundNetSaid : Prop := fnExactRoundNetRow.holds Try.pinned (OpenSpec.ofChange fnExactRoundNetSpec)

/-- ITS FALSE NEIGHBOUR: 'it returns false'. Refute it at one input. -/
def fnExactRoundNetWrong : ChangeSpec := { name := "fnExactRoundNet", fn := fun _ => fun
  | [d] => { results := [.lit (.bool false)], args := [d] }
  | _ => none }
def FnExactRoundNetWrongFalsely : Prop := fnExactRoundNetRow.holds Try.pinned (OpenSpec.ofChange fnExactRoundNetWrong)

/- THE SECOND FORM. 'bulk': how many values and letters a reading holds, each counted each time it is reached (what is shared counts as often as it is met; a slice's spare places count too). A statement '..UptoSaid' is the law's where the arguments, and the package variables that the reading takes, are together of bulk at most 1048576: NARROWER than '..Said'. Prove '..Said' where nothing that the law and all that it calls make is longer than what came in: it says more and counts as full. Else prove '..UptoSaid'. A law counts once. -/
mutual
def uptoBulk {H : Type} : DataW H → Nat
  | .lit (.string bytes) => bytes.length + 1
  | .lit _ => 1
  | .nil => 1
  | .ptr d => uptoBulk d + 1
  | .slice elems spare => uptoBulkAll elems + uptoBulkAll spare + 1
  | .agg parts => uptoBulkAll parts + 1
  | .iface _ d => uptoBulk d + 1
  | .map entries => uptoBulkEntries entries + 1
  | .held _ => 1
def uptoBulkAll {H : Type} : List (DataW H) → Nat
  | [] => 0
  | d :: r => uptoBulk d + uptoBulkAll r
def uptoBulkEntries {H : Type} : List (Lit × DataW H) → Nat
  | [] => 0
  | x :: r => uptoBulkEntry x + uptoBulkEntries r
def uptoBulkEntry {H : Type} : Lit × DataW H → Nat
  | (.string bytes, d) => bytes.length + uptoBulk d + 1
  | (_, d) => uptoBulk d + 1
 end
def uptoSmall : (H : Type) → List (DataW H) → Bool := fun _ ds => decide (uptoBulkAll ds ≤ 1048576)
def OpenSpec.upto (s : _root_.Go.ChangeSpec) : _root_.Go.OpenSpec := { _root_.Go.OpenSpec.ofChange s with cond := some uptoSmall }

/-- 'laws.FnExactFacetsAt', WHERE WHAT IT READS IS OF BULK AT MOST 1048576: true; the input reads as it did. -/
def fnExactFacetsAtUptoRow : OpenClaim := { program := "ytbmahankleijkaa", sum := "1044ba4aeb885a4c1fb2b939df0c8b0976db8ff35440575bfcb0a995da911a93", func := "loop.example/g01328/laws.FnExactFacetsAt", spec := "fnExactFacetsAt", unfollowed := true, recurses := true, plainKeys := false, apart := false, narrowed := true }
def FnExactFacetsAtUptoSaid : Prop := fnExactFacetsAtUptoRow.holds Try.pinned (OpenSpec.upto fnExactFacetsAtSpec)

/-- 'laws.FnExactEdgesOfNet', WHERE WHAT IT READS IS OF BULK AT MOST 1048576: true; the input reads as it did. -/
def fnExactEdgesOfNetUptoRow : OpenClaim := { program := "ytbmahankleijkaa", sum := "1044ba4aeb885a4c1fb2b939df0c8b0976db8ff35440575bfcb0a995da911a93", func := "loop.example/g01328/laws.FnExactEdgesOfNet", spec := "fnExactEdgesOfNet", unfollowed := true, recurses := true, plainKeys := false, apart := false, narrowed := true }
def FnExactEdgesOfNetUptoSaid : Prop := fnExactEdgesOfNetUptoRow.holds Try.pinned (OpenSpec.upto fnExactEdgesOfNetSpec)

/-- 'laws.FnExactBordersOfNet', WHERE WHAT IT READS IS OF BULK AT MOST 1048576: true; the input reads as it did. -/
def fnExactBordersOfNetUptoRow : OpenClaim := { program := "ytbmahankleijkaa", sum := "1044ba4aeb885a4c1fb2b939df0c8b0976db8ff35440575bfcb0a995da911a93", func := "loop.example/g01328/laws.FnExactBordersOfNet", spec := "fnExactBordersOfNet", unfollowed := true, recurses := true, plainKeys := false, apart := false, narrowed := true }
def FnExactBordersOfNetUptoSaid : Prop := fnExactBordersOfNetUptoRow.holds Try.pinned (OpenSpec.upto fnExactBordersOfNetSpec)

/-- 'laws.FnExactFacetShared', WHERE WHAT IT READS IS OF BULK AT MOST 1048576: true; the input reads as it did. -/
def fnExactFacetSharedUptoRow : OpenClaim := { program := "ytbmahankleijkaa", sum := "1044ba4aeb885a4c1fb2b939df0c8b0976db8ff35440575bfcb0a995da911a93", func := "loop.example/g01328/laws.FnExactFacetShared", spec := "fnExactFacetShared", unfollowed := true, recurses := true, plainKeys := false, apart := false, narrowed := true }
def FnExactFacetSharedUptoSaid : Prop := fnExactFacetSharedUptoRow.holds Try.pinned (OpenSpec.upto fnExactFacetSharedSpec)

/-- 'laws.FnExactBackNet', WHERE WHAT IT READS IS OF BULK AT MOST 1048576: true; the input reads as it did. -/
def fnExactBackNetUptoRow : OpenClaim := { program := "ytbmahankleijkaa", sum := "1044ba4aeb885a4c1fb2b939df0c8b0976db8ff35440575bfcb0a995da911a93", func := "loop.example/g01328/laws.FnExactBackNet", spec := "fnExactBackNet", unfollowed := true, recurses := true, plainKeys := false, apart := false, narrowed := true }
def FnExactBackNetUptoSaid : Prop := fnExactBackNetUptoRow.holds Try.pinned (OpenSpec.upto fnExactBackNetSpec)

/-- 'laws.FnExactVolumeOfNet', WHERE WHAT IT READS IS OF BULK AT MOST 1048576: true; the input reads as it did. -/
def fnExactVolumeOfNetUptoRow : OpenClaim := { program := "ytbmahankleijkaa", sum := "1044ba4aeb885a4c1fb2b939df0c8b0976db8ff35440575bfcb0a995da911a93", func := "loop.example/g01328/laws.FnExactVolumeOfNet", spec := "fnExactVolumeOfNet", unfollowed := true, recurses := true, plainKeys := false, apart := false, narrowed := true }
def FnExactVolumeOfNetUptoSaid : Prop := fnExactVolumeOfNetUptoRow.holds Try.pinned (OpenSpec.upto fnExactVolumeOfNetSpec)

/-- 'laws.FnExactAreaOfNet', WHERE WHAT IT READS IS OF BULK AT MOST 1048576: true; the input reads as it did. -/
def fnExactAreaOfNetUptoRow : OpenClaim := { program := "ytbmahankleijkaa", sum := "1044ba4aeb885a4c1fb2b939df0c8b0976db8ff35440575bfcb0a995da911a93", func := "loop.example/g01328/laws.FnExactAreaOfNet", spec := "fnExactAreaOfNet", inPlace := ["math.sqrt"], unfollowed := true, recurses := true, plainKeys := false, apart := false, narrowed := true }
def FnExactAreaOfNetUptoSaid : Prop := fnExactAreaOfNetUptoRow.holds Try.pinned (OpenSpec.upto fnExactAreaOfNetSpec)

/-- 'laws.FnExactEaseNet', WHERE WHAT IT READS IS OF BULK AT MOST 1048576: true; the input reads as it did. -/
def fnExactEaseNetUptoRow : OpenClaim := { program := "ytbmahankleijkaa", sum := "1044ba4aeb885a4c1fb2b939df0c8b0976db8ff35440575bfcb0a995da911a93", func := "loop.example/g01328/laws.FnExactEaseNet", spec := "fnExactEaseNet", unfollowed := true, recurses := true, plainKeys := false, apart := false, narrowed := true }
def FnExactEaseNetUptoSaid : Prop := fnExactEaseNetUptoRow.holds Try.pinned (OpenSpec.upto fnExactEaseNetSpec)

/-- 'laws.FnExactRoundNet', WHERE WHAT IT READS IS OF BULK AT MOST 1048576: true; the input reads as it did. -/
def fnExactRoundNetUptoRow : OpenClaim := { program := "ytbmahankleijkaa", sum := "1044ba4aeb885a4c1fb2b939df0c8b0976db8ff35440575bfcb0a995da911a93", func := "loop.example/g01328/laws.FnExactRoundNet", spec := "fnExactRoundNet", unfollowed := true, recurses := true, plainKeys := false, apart := false, narrowed := true }
def FnExactRoundNetUptoSaid : Prop := fnExactRoundNetUptoRow.holds Try.pinned (OpenSpec.upto fnExactRoundNetSpec)

end Rows
end Go.Proofs.Ytbmahankleijkaa
