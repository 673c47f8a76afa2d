/-
  No cell of these rows narrows 'for every input' (looked for: loops, veiled, ifaces, maps, wideKeys, modest, calm, conditions, laid).
  DERIVED. THE GIVEN ROWS OF THIS SEAT. 10 by the template 'for every input the law returns true; each argument reads behind the call as it read before'; 0 by the template 'total and deterministic' (their statements: YtjdbmfipciadfaaTotals.lean).
  GIVEN WITH THE SEED: the statements are not yours to turn. If you find one false, say at which input.
  Laid BY PROGRAM, IN A SANDBOX (cutbox-rows.mjs): the forced cells as the released guide's own fill.sh prints them over the translation 42e8ff91f68b7ecf… (all of the seat's roots in one cut). By AI agents, Wed Nov 11 2026. No macro, syntax, notation, axiom, sorry.
-/
import Derived.Test.YtjdbmfipciadfaaChecked
import GoSem.Claim
import GoSem.ClaimJoined
import GoSem.ClaimMapViews
import Derived.JoinedTies
import Derived.KernelRfl
namespace Go.Proofs.Ytjdbmfipciadfaa
/- THE CELL 'sum', in the pinned program and in every row, IS THE sha256 OF THE DUMP (.gsa) THAT YtjdbmfipciadfaaProg.lean LOADS. Nothing in Lean hashes anything: it is a label: what it is worth is what the hold of that sum in a sandbox is worth. -/
noncomputable def Try.pinned : Pinned := { name := "ytjdbmfipciadfaa", sum := "42e8ff91f68b7ecf619959051752c3de4593ab50344607eae88bca35a90e451c", checked := Try.checked }
namespace Rows
def none {H : Type} : Left H := { results := [], args := [] }

/-- 'pontoonlaw15.SinkOnce': WHATEVER THE INPUT: true; the input reads as it did. -/
def sinkOnceSpec : ChangeSpec := { name := "sinkOnce", fn := fun _ => fun
  | [d] => { results := [.lit (.bool true)], args := [d] }
  | _ => none }
def sinkOnceRow : OpenClaim := { program := "ytjdbmfipciadfaa", sum := "42e8ff91f68b7ecf619959051752c3de4593ab50344607eae88bca35a90e451c", func := "pontoon/pontoonlaw15.SinkOnce", spec := "sinkOnce", unfollowed := true, recurses := true, plainKeys := false, apart := false }
def SinkOnceSaid : Prop := sinkOnceRow.holds Try.pinned (OpenSpec.ofChange sinkOnceSpec)

/-- ITS FALSE NEIGHBOUR: 'it returns false'. Refute it at one input. -/
def sinkOnceWrong : ChangeSpec := { name := "sinkOnce", fn := fun _ => fun
  | [d] => { results := [.lit (.bool false)], args := [d] }
  | _ => none }
def SinkOnceWrongFalsely : Prop := sinkOnceRow.holds Try.pinned (OpenSpec.ofChange sinkOnceWrong)

/-- 'pontoonlaw15.SinkFenced': WHATEVER THE INPUT: true; the input reads as it did. -/
def sinkFencedSpec : ChangeSpec := { name := "sinkFenced", fn := fun _ => fun
  | [d1, d2] => { results := [.lit (.bool true)], args := [d1, d2] }
  | _ => none }
def sinkFencedRow : OpenClaim := { program := "ytjdbmfipciadfaa", sum := "42e8ff91f68b7ecf619959051752c3de4593ab50344607eae88bca35a90e451c", func := "pontoon/pontoonlaw15.SinkFenced", spec := "sinkFenced", unfollowed := true, recurses := true, plainKeys := false, apart := false }
def SinkFencedSaid : Prop := sinkFencedRow.holds Try.pinned (OpenSpec.ofChange sinkFencedSpec)

/-- ITS FALSE NEIGHBOUR: 'it returns false'. Refute it at one input. -/
def sinkFencedWrong : ChangeSpec := { name := "sinkFenced", fn := fun _ => fun
  | [d1, d2] => { results := [.lit (.bool false)], args := [d1, d2] }
  | _ => none }
def SinkFencedWrongFalsely : Prop := sinkFencedRow.holds Try.pinned (OpenSpec.ofChange sinkFencedWrong)

/-- 'pontoonlaw15.SinkGrows': WHATEVER THE INPUT: true; the input reads as it did. -/
def sinkGrowsSpec : ChangeSpec := { name := "sinkGrows", fn := fun _ => fun
  | [d] => { results := [.lit (.bool true)], args := [d] }
  | _ => none }
def sinkGrowsRow : OpenClaim := { program := "ytjdbmfipciadfaa", sum := "42e8ff91f68b7ecf619959051752c3de4593ab50344607eae88bca35a90e451c", func := "pontoon/pontoonlaw15.SinkGrows", spec := "sinkGrows", unfollowed := true, recurses := true, plainKeys := false, apart := false }
def SinkGrowsSaid : Prop := sinkGrowsRow.holds Try.pinned (OpenSpec.ofChange sinkGrowsSpec)

/-- ITS FALSE NEIGHBOUR: 'it returns false'. Refute it at one input. -/
def sinkGrowsWrong : ChangeSpec := { name := "sinkGrows", fn := fun _ => fun
  | [d] => { results := [.lit (.bool false)], args := [d] }
  | _ => none }
def SinkGrowsWrongFalsely : Prop := sinkGrowsRow.holds Try.pinned (OpenSpec.ofChange sinkGrowsWrong)

/-- 'pontoonlaw03.StorePrefix': WHATEVER THE INPUT: true; the input reads as it did. -/
def storePrefixSpec : ChangeSpec := { name := "storePrefix", fn := fun _ => fun
  | [d] => { results := [.lit (.bool true)], args := [d] }
  | _ => none }
def storePrefixRow : OpenClaim := { program := "ytjdbmfipciadfaa", sum := "42e8ff91f68b7ecf619959051752c3de4593ab50344607eae88bca35a90e451c", func := "pontoon/pontoonlaw03.StorePrefix", spec := "storePrefix", unfollowed := true, recurses := true, plainKeys := false, apart := false }
def StorePrefixSaid : Prop := storePrefixRow.holds Try.pinned (OpenSpec.ofChange storePrefixSpec)

/-- ITS FALSE NEIGHBOUR: 'it returns false'. Refute it at one input. -/
def storePrefixWrong : ChangeSpec := { name := "storePrefix", fn := fun _ => fun
  | [d] => { results := [.lit (.bool false)], args := [d] }
  | _ => none }
def StorePrefixWrongFalsely : Prop := storePrefixRow.holds Try.pinned (OpenSpec.ofChange storePrefixWrong)

/-- 'pontoonlaw03.StoreSure': WHATEVER THE INPUT: true; the input reads as it did. -/
def storeSureSpec : ChangeSpec := { name := "storeSure", fn := fun _ => fun
  | [d1, d2, d3] => { results := [.lit (.bool true)], args := [d1, d2, d3] }
  | _ => none }
def storeSureRow : OpenClaim := { program := "ytjdbmfipciadfaa", sum := "42e8ff91f68b7ecf619959051752c3de4593ab50344607eae88bca35a90e451c", func := "pontoon/pontoonlaw03.StoreSure", spec := "storeSure", unfollowed := true, recurses := true, plainKeys := false, apart := false }
def StoreSureSaid : Prop := storeSureRow.holds Try.pinned (OpenSpec.ofChange storeSureSpec)

/-- ITS FALSE NEIGHBOUR: 'it returns false'. Refute it at one input. -/
def storeSureWrong : ChangeSpec := { name := "storeSure", fn := fun _ => fun
  | [d1, d2, d3] => { results := [.lit (.bool false)], args := [d1, d2, d3] }
  | _ => none }
def StoreSureWrongFalsely : Prop := storeSureRow.holds Try.pinned (OpenSpec.ofChange storeSureWrong)

/-- 'pontoonlaw15.SinkFrom': WHATEVER THE INPUT: true; the input reads as it did. -/
def sinkFromSpec : ChangeSpec := { name := "sinkFrom", fn := fun _ => fun
  | [d] => { results := [.lit (.bool true)], args := [d] }
  | _ => none }
def sinkFromRow : OpenClaim := { program := "ytjdbmfipciadfaa", sum := "42e8ff91f68b7ecf619959051752c3de4593ab50344607eae88bca35a90e451c", func := "pontoon/pontoonlaw15.SinkFrom", spec := "sinkFrom", unfollowed := true, recurses := true, plainKeys := false, apart := false }
def SinkFromSaid : Prop := sinkFromRow.holds Try.pinned (OpenSpec.ofChange sinkFromSpec)

/-- ITS FALSE NEIGHBOUR: 'it returns false'. Refute it at one input. -/
def sinkFromWrong : ChangeSpec := { name := "sinkFrom", fn := fun _ => fun
  | [d] => { results := [.lit (.bool false)], args := [d] }
  | _ => none }
def SinkFromWrongFalsely : Prop := sinkFromRow.holds Try.pinned (OpenSpec.ofChange sinkFromWrong)

/-- 'pontoonlaw03.StoreRefuses': WHATEVER THE INPUT: true; the input reads as it did. -/
def storeRefusesSpec : ChangeSpec := { name := "storeRefuses", fn := fun _ => fun
  | [d1, d2] => { results := [.lit (.bool true)], args := [d1, d2] }
  | _ => none }
def storeRefusesRow : OpenClaim := { program := "ytjdbmfipciadfaa", sum := "42e8ff91f68b7ecf619959051752c3de4593ab50344607eae88bca35a90e451c", func := "pontoon/pontoonlaw03.StoreRefuses", spec := "storeRefuses", unfollowed := true, recurses := true, plainKeys := false, apart := false }
def StoreRefusesSaid : Prop := storeRefusesRow.holds Try.pinned (OpenSpec.ofChange storeRefusesSpec)

/-- ITS FALSE NEIGHBOUR: 'it returns false'. Refute it at one input. -/
def storeRefusesWrong : ChangeSpec := { name := "storeRefuses", fn := fun _ => fun
  | [d1, d2] => { results := [.lit (.bool false)], args := [d1, d2] }
  | _ => none }
def StoreRefusesWrongFalsely : Prop := storeRefusesRow.holds Try.pinned (OpenSpec.ofChange storeRefusesWrong)

/-- 'pontoonlaw15.SinkDoes': WHATEVER THE INPUT: true; the input reads as it did. -/
def sinkDoesSpec : ChangeSpec := { name := "sinkDoes", fn := fun _ => fun
  | [d1, d2] => { results := [.lit (.bool true)], args := [d1, d2] }
  | _ => none }
def sinkDoesRow : OpenClaim := { program := "ytjdbmfipciadfaa", sum := "42e8ff91f68b7ecf619959051752c3de4593ab50344607eae88bca35a90e451c", func := "pontoon/pontoonlaw15.SinkDoes", spec := "sinkDoes", unfollowed := true, recurses := true, plainKeys := false, apart := false }
def SinkDoesSaid : Prop := sinkDoesRow.holds Try.pinned (OpenSpec.ofChange sinkDoesSpec)

/-- ITS FALSE NEIGHBOUR: 'it returns false'. Refute it at one input. -/
def sinkDoesWrong : ChangeSpec := { name := "sinkDoes", fn := fun _ => fun
  | [d1, d2] => { results := [.lit (.bool false)], args := [d1, d2] }
  | _ => none }
def SinkDoesWrongFalsely : Prop := sinkDoesRow.holds Try.pinned (OpenSpec.ofChange sinkDoesWrong)

/-- 'pontoonlaw15.SinkNone': WHATEVER THE INPUT: true; the input reads as it did. -/
def sinkNoneSpec : ChangeSpec := { name := "sinkNone", fn := fun _ => fun
  | [d] => { results := [.lit (.bool true)], args := [d] }
  | _ => none }
def sinkNoneRow : OpenClaim := { program := "ytjdbmfipciadfaa", sum := "42e8ff91f68b7ecf619959051752c3de4593ab50344607eae88bca35a90e451c", func := "pontoon/pontoonlaw15.SinkNone", spec := "sinkNone", unfollowed := true, recurses := true, plainKeys := false, apart := false }
def SinkNoneSaid : Prop := sinkNoneRow.holds Try.pinned (OpenSpec.ofChange sinkNoneSpec)

/-- ITS FALSE NEIGHBOUR: 'it returns false'. Refute it at one input. -/
def sinkNoneWrong : ChangeSpec := { name := "sinkNone", fn := fun _ => fun
  | [d] => { results := [.lit (.bool false)], args := [d] }
  | _ => none }
def SinkNoneWrongFalsely : Prop := sinkNoneRow.holds Try.pinned (OpenSpec.ofChange sinkNoneWrong)

/-- 'pontoonlaw03.StoreNone': WHATEVER THE INPUT: true; the input reads as it did. -/
def storeNoneSpec : ChangeSpec := { name := "storeNone", fn := fun _ => fun
  | [d] => { results := [.lit (.bool true)], args := [d] }
  | _ => none }
def storeNoneRow : OpenClaim := { program := "ytjdbmfipciadfaa", sum := "42e8ff91f68b7ecf619959051752c3de4593ab50344607eae88bca35a90e451c", func := "pontoon/pontoonlaw03.StoreNone", spec := "storeNone", unfollowed := true, recurses := true, plainKeys := false, apart := false }
def StoreNoneSaid : Prop := storeNoneRow.holds Try.pinned (OpenSpec.ofChange storeNoneSpec)

/-- ITS FALSE NEIGHBOUR: 'it returns false'. Refute it at one input. -/
def storeNoneWrong : ChangeSpec := { name := "storeNone", fn := fun _ => fun
  | [d] => { results := [.lit (.bool false)], args := [d] }
  | _ => none }
def StoreNoneWrongFalsely : Prop := storeNoneRow.holds Try.pinned (OpenSpec.ofChange storeNoneWrong)

/- THE SECOND FORM. 'bulk': how many values and letters a reading holds, each counted each time it is reached (what is shared counts as often as it is met; a slice's spare places count too). A statement '..UptoSaid' is the law's where the arguments, and the package variables that the reading takes, are together of bulk at most 1048576: NARROWER than '..Said'. Prove '..Said' where nothing that the law and all that it calls make is longer than what came in: it says more and counts as full. Else prove '..UptoSaid'. A law counts once. -/
mutual
def uptoBulk {H : Type} : DataW H → Nat
  | .lit (.string bytes) => bytes.length + 1
  | .lit _ => 1
  | .nil => 1
  | .ptr d => uptoBulk d + 1
  | .slice elems spare => uptoBulkAll elems + uptoBulkAll spare + 1
  | .agg parts => uptoBulkAll parts + 1
  | .iface _ d => uptoBulk d + 1
  | .map entries => uptoBulkEntries entries + 1
  | .held _ => 1
def uptoBulkAll {H : Type} : List (DataW H) → Nat
  | [] => 0
  | d :: r => uptoBulk d + uptoBulkAll r
def uptoBulkEntries {H : Type} : List (Lit × DataW H) → Nat
  | [] => 0
  | x :: r => uptoBulkEntry x + uptoBulkEntries r
def uptoBulkEntry {H : Type} : Lit × DataW H → Nat
  | (.string bytes, d) => bytes.length + uptoBulk d + 1
  | (_, d) => uptoBulk d + 1
 end
def uptoSmall : (H : Type) → List (DataW H) → Bool := fun _ ds => decide (uptoBulkAll ds ≤ 1048576)
def OpenSpec.upto (s : _root_.Go.ChangeSpec) : _root_.Go.OpenSpec := { _root_.Go.OpenSpec.ofChange s with cond := some uptoSmall }

/-- 'pontoonlaw15.SinkOnce', WHERE WHAT IT READS IS OF BULK AT MOST 1048576: true; the input reads as it did. -/
def sinkOnceUptoRow : OpenClaim := { program := "ytjdbmfipciadfaa", sum := "42e8ff91f68b7ecf619959051752c3de4593ab50344607eae88bca35a90e451c", func := "pontoon/pontoonlaw15.SinkOnce", spec := "sinkOnce", unfollowed := true, recurses := true, plainKeys := false, apart := false, narrowed := true }
def SinkOnceUptoSaid : Prop := sinkOnceUptoRow.holds Try.pinned (OpenSpec.upto sinkOnceSpec)

/-- 'pontoonlaw15.SinkFenced', WHERE WHAT IT READS IS OF BULK AT MOST 1048576: true; the input reads as it did. -/
def sinkFencedUptoRow : OpenClaim := { program := "ytjdbmfipciadfaa", sum := "42e8ff91f68b7ecf619959051752c3de4593ab50344607eae88bca35a90e451c", func := "pontoon/pontoonlaw15.SinkFenced", spec := "sinkFenced", unfollowed := true, recurses := true, plainKeys := false, apart := false, narrowed := true }
def SinkFencedUptoSaid : Prop := sinkFencedUptoRow.holds Try.pinned (OpenSpec.upto sinkFencedSpec)

/-- 'pontoonlaw15.SinkGrows', WHERE WHAT IT READS IS OF BULK AT MOST 1048576: true; the input reads as it did. -/
def sinkGrowsUptoRow : OpenClaim := { program := "ytjdbmfipciadfaa", sum := "42e8ff91f68b7ecf619959051752c3de4593ab50344607eae88bca35a90e451c", func := "pontoon/pontoonlaw15.SinkGrows", spec := "sinkGrows", unfollowed := true, recurses := true, plainKeys := false, apart := false, narrowed := true }
def SinkGrowsUptoSaid : Prop := sinkGrowsUptoRow.holds Try.pinned (OpenSpec.upto sinkGrowsSpec)

/-- 'pontoonlaw03.StorePrefix', WHERE WHAT IT READS IS OF BULK AT MOST 1048576: true; the input reads as it did. -/
def storePrefixUptoRow : OpenClaim := { program := "ytjdbmfipciadfaa", sum := "42e8ff91f68b7ecf619959051752c3de4593ab50344607eae88bca35a90e451c", func := "pontoon/pontoonlaw03.StorePrefix", spec := "storePrefix", unfollowed := true, recurses := true, plainKeys := false, apart := false, narrowed := true }
def StorePrefixUptoSaid : Prop := storePrefixUptoRow.holds Try.pinned (OpenSpec.upto storePrefixSpec)

/-- 'pontoonlaw03.StoreSure', WHERE WHAT IT READS IS OF BULK AT MOST 1048576: true; the input reads as it did. -/
def storeSureUptoRow : OpenClaim := { program := "ytjdbmfipciadfaa", sum := "42e8ff91f68b7ecf619959051752c3de4593ab50344607eae88bca35a90e451c", func := "pontoon/pontoonlaw03.StoreSure", spec := "storeSure", unfollowed := true, recurses := true, plainKeys := false, apart := false, narrowed := true }
def StoreSureUptoSaid : Prop := storeSureUptoRow.holds Try.pinned (OpenSpec.upto storeSureSpec)

/-- 'pontoonlaw15.SinkFrom', WHERE WHAT IT READS IS OF BULK AT MOST 1048576: true; the input reads as it did. -/
def sinkFromUptoRow : OpenClaim := { program := "ytjdbmfipciadfaa", sum := "42e8ff91f68b7ecf619959051752c3de4593ab50344607eae88bca35a90e451c", func := "pontoon/pontoonlaw15.SinkFrom", spec := "sinkFrom", unfollowed := true, recurses := true, plainKeys := false, apart := false, narrowed := true }
def SinkFromUptoSaid : Prop := sinkFromUptoRow.holds Try.pinned (OpenSpec.upto sinkFromSpec)

/-- 'pontoonlaw03.StoreRefuses', WHERE WHAT IT READS IS OF BULK AT MOST 1048576: true; the input reads as it did. -/
def storeRefusesUptoRow : OpenClaim := { program := "ytjdbmfipciadfaa", sum := "42e8ff91f68b7ecf619959051752c3de4593ab50344607eae88bca35a90e451c", func := "pontoon/pontoonlaw03.StoreRefuses", spec := "storeRefuses", unfollowed := true, recurses := true, plainKeys := false, apart := false, narrowed := true }
def StoreRefusesUptoSaid : Prop := storeRefusesUptoRow.holds Try.pinned (OpenSpec.upto storeRefusesSpec)

/-- 'pontoonlaw15.SinkDoes', WHERE WHAT IT READS IS OF BULK AT MOST 1048576: true; the input reads as it did. -/
def sinkDoesUptoRow : OpenClaim := { program := "ytjdbmfipciadfaa", sum := "42e8ff91f68b7ecf619959051752c3de4593ab50344607eae88bca35a90e451c", func := "pontoon/pontoonlaw15.SinkDoes", spec := "sinkDoes", unfollowed := true, recurses := true, plainKeys := false, apart := false, narrowed := true }
def SinkDoesUptoSaid : Prop := sinkDoesUptoRow.holds Try.pinned (OpenSpec.upto sinkDoesSpec)

/-- 'pontoonlaw15.SinkNone', WHERE WHAT IT READS IS OF BULK AT MOST 1048576: true; the input reads as it did. -/
def sinkNoneUptoRow : OpenClaim := { program := "ytjdbmfipciadfaa", sum := "42e8ff91f68b7ecf619959051752c3de4593ab50344607eae88bca35a90e451c", func := "pontoon/pontoonlaw15.SinkNone", spec := "sinkNone", unfollowed := true, recurses := true, plainKeys := false, apart := false, narrowed := true }
def SinkNoneUptoSaid : Prop := sinkNoneUptoRow.holds Try.pinned (OpenSpec.upto sinkNoneSpec)

/-- 'pontoonlaw03.StoreNone', WHERE WHAT IT READS IS OF BULK AT MOST 1048576: true; the input reads as it did. -/
def storeNoneUptoRow : OpenClaim := { program := "ytjdbmfipciadfaa", sum := "42e8ff91f68b7ecf619959051752c3de4593ab50344607eae88bca35a90e451c", func := "pontoon/pontoonlaw03.StoreNone", spec := "storeNone", unfollowed := true, recurses := true, plainKeys := false, apart := false, narrowed := true }
def StoreNoneUptoSaid : Prop := storeNoneUptoRow.holds Try.pinned (OpenSpec.upto storeNoneSpec)

end Rows
end Go.Proofs.Ytjdbmfipciadfaa
