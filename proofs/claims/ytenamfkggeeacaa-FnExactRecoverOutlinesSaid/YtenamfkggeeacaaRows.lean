/-
  No cell of these rows narrows 'for every input' (looked for: loops, veiled, ifaces, maps, wideKeys, modest, calm, conditions, laid).
  DERIVED. THE GIVEN ROWS OF THIS SEAT. 2 by the template 'for every input the law returns true; each argument reads behind the call as it read before'; 0 by the template 'total and deterministic' (their statements: YtenamfkggeeacaaTotals.lean).
  GIVEN WITH THE SEED: the statements are not yours to turn. If you find one false, say at which input.
  Laid BY PROGRAM, IN A SANDBOX (cutbox-rows.mjs): the forced cells as the released guide's own fill.sh prints them over the translation e95602548c40af6c… (all of the seat's roots in one cut). By AI agents, Wed Nov 11 2026. No macro, syntax, notation, axiom, sorry.
-/
import Derived.Test.YtenamfkggeeacaaChecked
import GoSem.Claim
import GoSem.ClaimJoined
import GoSem.ClaimMapViews
import Derived.JoinedTies
import Derived.KernelRfl
namespace Go.Proofs.Ytenamfkggeeacaa
/- THE CELL 'sum', in the pinned program and in every row, IS THE sha256 OF THE DUMP (.gsa) THAT YtenamfkggeeacaaProg.lean LOADS. Nothing in Lean hashes anything: it is a label: what it is worth is what the hold of that sum in a sandbox is worth. -/
noncomputable def Try.pinned : Pinned := { name := "ytenamfkggeeacaa", sum := "e95602548c40af6c86cbc7f14f6e8deee45ff77a339c8d44760f51f03088eb71", checked := Try.checked }
namespace Rows
def none {H : Type} : Left H := { results := [], args := [] }

/-- 'laws.FnExactLoadOutline': WHATEVER THE INPUT: true; the input reads as it did. -/
def fnExactLoadOutlineSpec : ChangeSpec := { name := "fnExactLoadOutline", fn := fun _ => fun
  | [d] => { results := [.lit (.bool true)], args := [d] }
  | _ => none }
def fnExactLoadOutlineRow : OpenClaim := { program := "ytenamfkggeeacaa", sum := "e95602548c40af6c86cbc7f14f6e8deee45ff77a339c8d44760f51f03088eb71", func := "loop.example/g01328/laws.FnExactLoadOutline", spec := "fnExactLoadOutline", inPlace := ["math.Float32frombits", "math.Float32bits", "internal/abi.NoEscape", "internal/bytealg.MakeNoZero"], unfollowed := true, recurses := true, apart := false }
def FnExactLoadOutlineSaid : Prop := fnExactLoadOutlineRow.holds Try.pinned (OpenSpec.ofChange fnExactLoadOutlineSpec)

/-- ITS FALSE NEIGHBOUR: 'it returns false'. Refute it at one input. -/
def fnExactLoadOutlineWrong : ChangeSpec := { name := "fnExactLoadOutline", fn := fun _ => fun
  | [d] => { results := [.lit (.bool false)], args := [d] }
  | _ => none }
def FnExactLoadOutlineWrongFalsely : Prop := fnExactLoadOutlineRow.holds Try.pinned (OpenSpec.ofChange fnExactLoadOutlineWrong)

/-- 'laws.FnExactRecoverOutlines': WHATEVER THE INPUT: true; the input reads as it did. -/
def fnExactRecoverOutlinesSpec : ChangeSpec := { name := "fnExactRecoverOutlines", fn := fun _ => fun
  | [d] => { results := [.lit (.bool true)], args := [d] }
  | _ => none }
def fnExactRecoverOutlinesRow : OpenClaim := { program := "ytenamfkggeeacaa", sum := "e95602548c40af6c86cbc7f14f6e8deee45ff77a339c8d44760f51f03088eb71", func := "loop.example/g01328/laws.FnExactRecoverOutlines", spec := "fnExactRecoverOutlines", inPlace := ["math.Float32frombits", "math.Float32bits", "internal/abi.NoEscape", "internal/bytealg.MakeNoZero"], unfollowed := true, recurses := true, apart := false }
def FnExactRecoverOutlinesSaid : Prop := fnExactRecoverOutlinesRow.holds Try.pinned (OpenSpec.ofChange fnExactRecoverOutlinesSpec)

/-- ITS FALSE NEIGHBOUR: 'it returns false'. Refute it at one input. -/
def fnExactRecoverOutlinesWrong : ChangeSpec := { name := "fnExactRecoverOutlines", fn := fun _ => fun
  | [d] => { results := [.lit (.bool false)], args := [d] }
  | _ => none }
def FnExactRecoverOutlinesWrongFalsely : Prop := fnExactRecoverOutlinesRow.holds Try.pinned (OpenSpec.ofChange fnExactRecoverOutlinesWrong)

/- THE SECOND FORM. 'bulk': how many values and letters a reading holds, each counted each time it is reached (what is shared counts as often as it is met; a slice's spare places count too). A statement '..UptoSaid' is the law's where the arguments, and the package variables that the reading takes, are together of bulk at most 1048576: NARROWER than '..Said'. Prove '..Said' where nothing that the law and all that it calls make is longer than what came in: it says more and counts as full. Else prove '..UptoSaid'. A law counts once. -/
mutual
def uptoBulk {H : Type} : DataW H → Nat
  | .lit (.string bytes) => bytes.length + 1
  | .lit _ => 1
  | .nil => 1
  | .ptr d => uptoBulk d + 1
  | .slice elems spare => uptoBulkAll elems + uptoBulkAll spare + 1
  | .agg parts => uptoBulkAll parts + 1
  | .iface _ d => uptoBulk d + 1
  | .map entries => uptoBulkEntries entries + 1
  | .held _ => 1
def uptoBulkAll {H : Type} : List (DataW H) → Nat
  | [] => 0
  | d :: r => uptoBulk d + uptoBulkAll r
def uptoBulkEntries {H : Type} : List (Lit × DataW H) → Nat
  | [] => 0
  | x :: r => uptoBulkEntry x + uptoBulkEntries r
def uptoBulkEntry {H : Type} : Lit × DataW H → Nat
  | (.string bytes, d) => bytes.length + uptoBulk d + 1
  | (_, d) => uptoBulk d + 1
 end
def uptoSmall : (H : Type) → List (DataW H) → Bool := fun _ ds => decide (uptoBulkAll ds ≤ 1048576)
def OpenSpec.upto (s : _root_.Go.ChangeSpec) : _root_.Go.OpenSpec := { _root_.Go.OpenSpec.ofChange s with cond := some uptoSmall }

/-- 'laws.FnExactLoadOutline', WHERE WHAT IT READS IS OF BULK AT MOST 1048576: true; the input reads as it did. -/
def fnExactLoadOutlineUptoRow : OpenClaim := { program := "ytenamfkggeeacaa", sum := "e95602548c40af6c86cbc7f14f6e8deee45ff77a339c8d44760f51f03088eb71", func := "loop.example/g01328/laws.FnExactLoadOutline", spec := "fnExactLoadOutline", inPlace := ["math.Float32frombits", "math.Float32bits", "internal/abi.NoEscape", "internal/bytealg.MakeNoZero"], unfollowed := true, recurses := true, apart := false, narrowed := true }
def FnExactLoadOutlineUptoSaid : Prop := fnExactLoadOutlineUptoRow.holds Try.pinned (OpenSpec.upto fnExactLoadOutlineSpec)

/-- 'laws.FnExactRecoverOutlines', WHERE WHAT IT READS IS OF BULK AT MOST 1048576: true; the input reads as it did. -/
def fnExactRecoverOutlinesUptoRow : OpenClaim := { program := "ytenamfkggeeacaa", sum := "e95602548c40af6c86cbc7f14f6e8deee45ff77a339c8d44760f51f03088eb71", func := "loop.example/g01328/laws.FnExactRecoverOutlines", spec := "fnExactRecoverOutlines", inPlace := ["math.Float32frombits", "math.Float32bits", "internal/abi.NoEscape", "internal/bytealg.MakeNoZero"], unfollowed := true, recurses := true, apart := false, narrowed := true }
def FnExactRecoverOutlinesUptoSaid : Prop := fnExactRecoverOutlinesUptoRow.holds Try.pinned (OpenSpec.upto fnExactRecoverOutlinesSpec)

end Rows
end Go.Proofs.Ytenamfkggeeacaa
