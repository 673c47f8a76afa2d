/-
  No cell of these rows narrows 'for every input' (looked for: loops, veiled, ifaces, maps, wideKeys, modest, calm, conditions, laid).
  DERIVED. THE GIVEN ROWS OF THIS SEAT. 8 by the template 'for every input the law returns true; each argument reads behind the call as it read before'; 0 by the template 'total and deterministic' (their statements: YtilffanmaicakaaTotals.lean).
  GIVEN WITH THE SEED: the statements are not yours to turn. If you find one false, say at which input.
  Laid BY PROGRAM, IN A SANDBOX (cutbox-rows.mjs): the forced cells as the released guide's own fill.sh prints them over the translation e6d4bfe8c918834a… (all of the seat's roots in one cut). By AI agents, Wed Nov 11 2026. No macro, syntax, notation, axiom, sorry.
-/
import Derived.Test.YtilffanmaicakaaChecked
import GoSem.Claim
import GoSem.ClaimJoined
import GoSem.ClaimMapViews
import Derived.JoinedTies
import Derived.KernelRfl
namespace Go.Proofs.Ytilffanmaicakaa
/- THE CELL 'sum', in the pinned program and in every row, IS THE sha256 OF THE DUMP (.gsa) THAT YtilffanmaicakaaProg.lean LOADS. Nothing in Lean hashes anything: it is a label: what it is worth is what the hold of that sum in a sandbox is worth. -/
noncomputable def Try.pinned : Pinned := { name := "ytilffanmaicakaa", sum := "e6d4bfe8c918834a2ea5187d36a2790bedf3d7504f60fd4d61c0ebe6edc9c95c", checked := Try.checked }
namespace Rows
def none {H : Type} : Left H := { results := [], args := [] }

/-- 'pontoonlaw14.GuardStays': WHATEVER THE INPUT: true; the input reads as it did. -/
def guardStaysSpec : ChangeSpec := { name := "guardStays", fn := fun _ => fun
  | [d1, d2] => { results := [.lit (.bool true)], args := [d1, d2] }
  | _ => none }
def guardStaysRow : OpenClaim := { program := "ytilffanmaicakaa", sum := "e6d4bfe8c918834a2ea5187d36a2790bedf3d7504f60fd4d61c0ebe6edc9c95c", func := "pontoon/pontoonlaw14.GuardStays", spec := "guardStays", plainKeys := false, apart := false }
def GuardStaysSaid : Prop := guardStaysRow.holds Try.pinned (OpenSpec.ofChange guardStaysSpec)

/-- ITS FALSE NEIGHBOUR: 'it returns false'. Refute it at one input. -/
def guardStaysWrong : ChangeSpec := { name := "guardStays", fn := fun _ => fun
  | [d1, d2] => { results := [.lit (.bool false)], args := [d1, d2] }
  | _ => none }
def GuardStaysWrongFalsely : Prop := guardStaysRow.holds Try.pinned (OpenSpec.ofChange guardStaysWrong)

/-- 'pontoonlaw14.GuardDoes': WHATEVER THE INPUT: true; the input reads as it did. -/
def guardDoesSpec : ChangeSpec := { name := "guardDoes", fn := fun _ => fun
  | [d1, d2] => { results := [.lit (.bool true)], args := [d1, d2] }
  | _ => none }
def guardDoesRow : OpenClaim := { program := "ytilffanmaicakaa", sum := "e6d4bfe8c918834a2ea5187d36a2790bedf3d7504f60fd4d61c0ebe6edc9c95c", func := "pontoon/pontoonlaw14.GuardDoes", spec := "guardDoes", plainKeys := false, apart := false }
def GuardDoesSaid : Prop := guardDoesRow.holds Try.pinned (OpenSpec.ofChange guardDoesSpec)

/-- ITS FALSE NEIGHBOUR: 'it returns false'. Refute it at one input. -/
def guardDoesWrong : ChangeSpec := { name := "guardDoes", fn := fun _ => fun
  | [d1, d2] => { results := [.lit (.bool false)], args := [d1, d2] }
  | _ => none }
def GuardDoesWrongFalsely : Prop := guardDoesRow.holds Try.pinned (OpenSpec.ofChange guardDoesWrong)

/-- 'pontoonlaw14.GuardNever': WHATEVER THE INPUT: true; the input reads as it did. -/
def guardNeverSpec : ChangeSpec := { name := "guardNever", fn := fun _ => fun
  | [d] => { results := [.lit (.bool true)], args := [d] }
  | _ => none }
def guardNeverRow : OpenClaim := { program := "ytilffanmaicakaa", sum := "e6d4bfe8c918834a2ea5187d36a2790bedf3d7504f60fd4d61c0ebe6edc9c95c", func := "pontoon/pontoonlaw14.GuardNever", spec := "guardNever", plainKeys := false, apart := false }
def GuardNeverSaid : Prop := guardNeverRow.holds Try.pinned (OpenSpec.ofChange guardNeverSpec)

/-- ITS FALSE NEIGHBOUR: 'it returns false'. Refute it at one input. -/
def guardNeverWrong : ChangeSpec := { name := "guardNever", fn := fun _ => fun
  | [d] => { results := [.lit (.bool false)], args := [d] }
  | _ => none }
def GuardNeverWrongFalsely : Prop := guardNeverRow.holds Try.pinned (OpenSpec.ofChange guardNeverWrong)

/-- 'pontoonlaw05.GraphChecks': WHATEVER THE INPUT: true; the input reads as it did. -/
def graphChecksSpec : ChangeSpec := { name := "graphChecks", fn := fun _ => fun
  | [d] => { results := [.lit (.bool true)], args := [d] }
  | _ => none }
def graphChecksRow : OpenClaim := { program := "ytilffanmaicakaa", sum := "e6d4bfe8c918834a2ea5187d36a2790bedf3d7504f60fd4d61c0ebe6edc9c95c", func := "pontoon/pontoonlaw05.GraphChecks", spec := "graphChecks", unfollowed := true, recurses := true, plainKeys := false, apart := false }
def GraphChecksSaid : Prop := graphChecksRow.holds Try.pinned (OpenSpec.ofChange graphChecksSpec)

/-- ITS FALSE NEIGHBOUR: 'it returns false'. Refute it at one input. -/
def graphChecksWrong : ChangeSpec := { name := "graphChecks", fn := fun _ => fun
  | [d] => { results := [.lit (.bool false)], args := [d] }
  | _ => none }
def GraphChecksWrongFalsely : Prop := graphChecksRow.holds Try.pinned (OpenSpec.ofChange graphChecksWrong)

/-- 'pontoonlaw05.GraphLeads': WHATEVER THE INPUT: true; the input reads as it did. -/
def graphLeadsSpec : ChangeSpec := { name := "graphLeads", fn := fun _ => fun
  | [d] => { results := [.lit (.bool true)], args := [d] }
  | _ => none }
def graphLeadsRow : OpenClaim := { program := "ytilffanmaicakaa", sum := "e6d4bfe8c918834a2ea5187d36a2790bedf3d7504f60fd4d61c0ebe6edc9c95c", func := "pontoon/pontoonlaw05.GraphLeads", spec := "graphLeads", unfollowed := true, recurses := true, plainKeys := false, apart := false }
def GraphLeadsSaid : Prop := graphLeadsRow.holds Try.pinned (OpenSpec.ofChange graphLeadsSpec)

/-- ITS FALSE NEIGHBOUR: 'it returns false'. Refute it at one input. -/
def graphLeadsWrong : ChangeSpec := { name := "graphLeads", fn := fun _ => fun
  | [d] => { results := [.lit (.bool false)], args := [d] }
  | _ => none }
def GraphLeadsWrongFalsely : Prop := graphLeadsRow.holds Try.pinned (OpenSpec.ofChange graphLeadsWrong)

/-- 'pontoonlaw05.GraphFinds': WHATEVER THE INPUT: true; the input reads as it did. -/
def graphFindsSpec : ChangeSpec := { name := "graphFinds", fn := fun _ => fun
  | [d1, d2, d3] => { results := [.lit (.bool true)], args := [d1, d2, d3] }
  | _ => none }
def graphFindsRow : OpenClaim := { program := "ytilffanmaicakaa", sum := "e6d4bfe8c918834a2ea5187d36a2790bedf3d7504f60fd4d61c0ebe6edc9c95c", func := "pontoon/pontoonlaw05.GraphFinds", spec := "graphFinds", unfollowed := true, recurses := true, plainKeys := false, apart := false }
def GraphFindsSaid : Prop := graphFindsRow.holds Try.pinned (OpenSpec.ofChange graphFindsSpec)

/-- ITS FALSE NEIGHBOUR: 'it returns false'. Refute it at one input. -/
def graphFindsWrong : ChangeSpec := { name := "graphFinds", fn := fun _ => fun
  | [d1, d2, d3] => { results := [.lit (.bool false)], args := [d1, d2, d3] }
  | _ => none }
def GraphFindsWrongFalsely : Prop := graphFindsRow.holds Try.pinned (OpenSpec.ofChange graphFindsWrong)

/-- 'pontoonlaw05.GraphBack': WHATEVER THE INPUT: true; the input reads as it did. -/
def graphBackSpec : ChangeSpec := { name := "graphBack", fn := fun _ => fun
  | [d1, d2] => { results := [.lit (.bool true)], args := [d1, d2] }
  | _ => none }
def graphBackRow : OpenClaim := { program := "ytilffanmaicakaa", sum := "e6d4bfe8c918834a2ea5187d36a2790bedf3d7504f60fd4d61c0ebe6edc9c95c", func := "pontoon/pontoonlaw05.GraphBack", spec := "graphBack", unfollowed := true, recurses := true, plainKeys := false, apart := false }
def GraphBackSaid : Prop := graphBackRow.holds Try.pinned (OpenSpec.ofChange graphBackSpec)

/-- ITS FALSE NEIGHBOUR: 'it returns false'. Refute it at one input. -/
def graphBackWrong : ChangeSpec := { name := "graphBack", fn := fun _ => fun
  | [d1, d2] => { results := [.lit (.bool false)], args := [d1, d2] }
  | _ => none }
def GraphBackWrongFalsely : Prop := graphBackRow.holds Try.pinned (OpenSpec.ofChange graphBackWrong)

/-- 'pontoonlaw05.GraphBytes': WHATEVER THE INPUT: true; the input reads as it did. -/
def graphBytesSpec : ChangeSpec := { name := "graphBytes", fn := fun _ => fun
  | [d1, d2, d3] => { results := [.lit (.bool true)], args := [d1, d2, d3] }
  | _ => none }
def graphBytesRow : OpenClaim := { program := "ytilffanmaicakaa", sum := "e6d4bfe8c918834a2ea5187d36a2790bedf3d7504f60fd4d61c0ebe6edc9c95c", func := "pontoon/pontoonlaw05.GraphBytes", spec := "graphBytes", unfollowed := true, recurses := true, plainKeys := false, apart := false }
def GraphBytesSaid : Prop := graphBytesRow.holds Try.pinned (OpenSpec.ofChange graphBytesSpec)

/-- ITS FALSE NEIGHBOUR: 'it returns false'. Refute it at one input. -/
def graphBytesWrong : ChangeSpec := { name := "graphBytes", fn := fun _ => fun
  | [d1, d2, d3] => { results := [.lit (.bool false)], args := [d1, d2, d3] }
  | _ => none }
def GraphBytesWrongFalsely : Prop := graphBytesRow.holds Try.pinned (OpenSpec.ofChange graphBytesWrong)

/- THE SECOND FORM. 'bulk': how many values and letters a reading holds, each counted each time it is reached (what is shared counts as often as it is met; a slice's spare places count too). A statement '..UptoSaid' is the law's where the arguments, and the package variables that the reading takes, are together of bulk at most 1048576: NARROWER than '..Said'. Prove '..Said' where nothing that the law and all that it calls make is longer than what came in: it says more and counts as full. Else prove '..UptoSaid'. A law counts once. -/
mutual
def uptoBulk {H : Type} : DataW H → Nat
  | .lit (.string bytes) => bytes.length + 1
  | .lit _ => 1
  | .nil => 1
  | .ptr d => uptoBulk d + 1
  | .slice elems spare => uptoBulkAll elems + uptoBulkAll spare + 1
  | .agg parts => uptoBulkAll parts + 1
  | .iface _ d => uptoBulk d + 1
  | .map entries => uptoBulkEntries entries + 1
  | .held _ => 1
def uptoBulkAll {H : Type} : List (DataW H) → Nat
  | [] => 0
  | d :: r => uptoBulk d + uptoBulkAll r
def uptoBulkEntries {H : Type} : List (Lit × DataW H) → Nat
  | [] => 0
  | x :: r => uptoBulkEntry x + uptoBulkEntries r
def uptoBulkEntry {H : Type} : Lit × DataW H → Nat
  | (.string bytes, d) => bytes.length + uptoBulk d + 1
  | (_, d) => uptoBulk d + 1
 end
def uptoSmall : (H : Type) → List (DataW H) → Bool := fun _ ds => decide (uptoBulkAll ds ≤ 1048576)
def OpenSpec.upto (s : _root_.Go.ChangeSpec) : _root_.Go.OpenSpec := { _root_.Go.OpenSpec.ofChange s with cond := some uptoSmall }

/-- 'pontoonlaw14.GuardStays', WHERE WHAT IT READS IS OF BULK AT MOST 1048576: true; the input reads as it did. -/
def guardStaysUptoRow : OpenClaim := { program := "ytilffanmaicakaa", sum := "e6d4bfe8c918834a2ea5187d36a2790bedf3d7504f60fd4d61c0ebe6edc9c95c", func := "pontoon/pontoonlaw14.GuardStays", spec := "guardStays", plainKeys := false, apart := false, narrowed := true }
def GuardStaysUptoSaid : Prop := guardStaysUptoRow.holds Try.pinned (OpenSpec.upto guardStaysSpec)

/-- 'pontoonlaw14.GuardDoes', WHERE WHAT IT READS IS OF BULK AT MOST 1048576: true; the input reads as it did. -/
def guardDoesUptoRow : OpenClaim := { program := "ytilffanmaicakaa", sum := "e6d4bfe8c918834a2ea5187d36a2790bedf3d7504f60fd4d61c0ebe6edc9c95c", func := "pontoon/pontoonlaw14.GuardDoes", spec := "guardDoes", plainKeys := false, apart := false, narrowed := true }
def GuardDoesUptoSaid : Prop := guardDoesUptoRow.holds Try.pinned (OpenSpec.upto guardDoesSpec)

/-- 'pontoonlaw14.GuardNever', WHERE WHAT IT READS IS OF BULK AT MOST 1048576: true; the input reads as it did. -/
def guardNeverUptoRow : OpenClaim := { program := "ytilffanmaicakaa", sum := "e6d4bfe8c918834a2ea5187d36a2790bedf3d7504f60fd4d61c0ebe6edc9c95c", func := "pontoon/pontoonlaw14.GuardNever", spec := "guardNever", plainKeys := false, apart := false, narrowed := true }
def GuardNeverUptoSaid : Prop := guardNeverUptoRow.holds Try.pinned (OpenSpec.upto guardNeverSpec)

/-- 'pontoonlaw05.GraphChecks', WHERE WHAT IT READS IS OF BULK AT MOST 1048576: true; the input reads as it did. -/
def graphChecksUptoRow : OpenClaim := { program := "ytilffanmaicakaa", sum := "e6d4bfe8c918834a2ea5187d36a2790bedf3d7504f60fd4d61c0ebe6edc9c95c", func := "pontoon/pontoonlaw05.GraphChecks", spec := "graphChecks", unfollowed := true, recurses := true, plainKeys := false, apart := false, narrowed := true }
def GraphChecksUptoSaid : Prop := graphChecksUptoRow.holds Try.pinned (OpenSpec.upto graphChecksSpec)

/-- 'pontoonlaw05.GraphLeads', WHERE WHAT IT READS IS OF BULK AT MOST 1048576: true; the input reads as it did. -/
def graphLeadsUptoRow : OpenClaim := { program := "ytilffanmaicakaa", sum := "e6d4bfe8c918834a2ea5187d36a2790bedf3d7504f60fd4d61c0ebe6edc9c95c", func := "pontoon/pontoonlaw05.GraphLeads", spec := "graphLeads", unfollowed := true, recurses := true, plainKeys := false, apart := false, narrowed := true }
def GraphLeadsUptoSaid : Prop := graphLeadsUptoRow.holds Try.pinned (OpenSpec.upto graphLeadsSpec)

/-- 'pontoonlaw05.GraphFinds', WHERE WHAT IT READS IS OF BULK AT MOST 1048576: true; the input reads as it did. -/
def graphFindsUptoRow : OpenClaim := { program := "ytilffanmaicakaa", sum := "e6d4bfe8c918834a2ea5187d36a2790bedf3d7504f60fd4d61c0ebe6edc9c95c", func := "pontoon/pontoonlaw05.GraphFinds", spec := "graphFinds", unfollowed := true, recurses := true, plainKeys := false, apart := false, narrowed := true }
def GraphFindsUptoSaid : Prop := graphFindsUptoRow.holds Try.pinned (OpenSpec.upto graphFindsSpec)

/-- 'pontoonlaw05.GraphBack', WHERE WHAT IT READS IS OF BULK AT MOST 1048576: true; the input reads as it did. -/
def graphBackUptoRow : OpenClaim := { program := "ytilffanmaicakaa", sum := "e6d4bfe8c918834a2ea5187d36a2790bedf3d7504f60fd4d61c0ebe6edc9c95c", func := "pontoon/pontoonlaw05.GraphBack", spec := "graphBack", unfollowed := true, recurses := true, plainKeys := false, apart := false, narrowed := true }
def GraphBackUptoSaid : Prop := graphBackUptoRow.holds Try.pinned (OpenSpec.upto graphBackSpec)

/-- 'pontoonlaw05.GraphBytes', WHERE WHAT IT READS IS OF BULK AT MOST 1048576: true; the input reads as it did. -/
def graphBytesUptoRow : OpenClaim := { program := "ytilffanmaicakaa", sum := "e6d4bfe8c918834a2ea5187d36a2790bedf3d7504f60fd4d61c0ebe6edc9c95c", func := "pontoon/pontoonlaw05.GraphBytes", spec := "graphBytes", unfollowed := true, recurses := true, plainKeys := false, apart := false, narrowed := true }
def GraphBytesUptoSaid : Prop := graphBytesUptoRow.holds Try.pinned (OpenSpec.upto graphBytesSpec)

end Rows
end Go.Proofs.Ytilffanmaicakaa
