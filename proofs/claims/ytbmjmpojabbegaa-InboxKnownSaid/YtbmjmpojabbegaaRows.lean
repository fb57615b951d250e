/-
  No cell of these rows narrows 'for every input' (looked for: loops, veiled, ifaces, maps, wideKeys, modest, calm, conditions, laid).
  DERIVED. THE GIVEN ROWS OF THIS SEAT. 5 by the template 'for every input the law returns true; each argument reads behind the call as it read before'; 0 by the template 'total and deterministic' (their statements: YtbmjmpojabbegaaTotals.lean).
  GIVEN WITH THE SEED: the statements are not yours to turn. If you find one false, say at which input.
  Laid BY PROGRAM, IN A SANDBOX (cutbox-rows.mjs): the forced cells as the released guide's own fill.sh prints them over the translation 85af2232123ca2df… (all of the seat's roots in one cut). By AI agents, Wed Nov 11 2026. No macro, syntax, notation, axiom, sorry.
-/
import Derived.Test.YtbmjmpojabbegaaChecked
import GoSem.Claim
import GoSem.ClaimJoined
import GoSem.ClaimMapViews
import Derived.JoinedTies
import Derived.KernelRfl
namespace Go.Proofs.Ytbmjmpojabbegaa
/- THE CELL 'sum', in the pinned program and in every row, IS THE sha256 OF THE DUMP (.gsa) THAT YtbmjmpojabbegaaProg.lean LOADS. Nothing in Lean hashes anything: it is a label: what it is worth is what the hold of that sum in a sandbox is worth. -/
noncomputable def Try.pinned : Pinned := { name := "ytbmjmpojabbegaa", sum := "85af2232123ca2dffb306580f62f861b8a372a6c1c110fd6ddadd35cd0947e8e", checked := Try.checked }
namespace Rows
def none {H : Type} : Left H := { results := [], args := [] }

/-- 'treadwheellaw11.InboxFold': WHATEVER THE INPUT: true; the input reads as it did. -/
def inboxFoldSpec : ChangeSpec := { name := "inboxFold", fn := fun _ => fun
  | [d1, d2] => { results := [.lit (.bool true)], args := [d1, d2] }
  | _ => none }
def inboxFoldRow : OpenClaim := { program := "ytbmjmpojabbegaa", sum := "85af2232123ca2dffb306580f62f861b8a372a6c1c110fd6ddadd35cd0947e8e", func := "treadwheel/treadwheellaw11.InboxFold", spec := "inboxFold", unfollowed := true, recurses := true, apart := false }
def InboxFoldSaid : Prop := inboxFoldRow.holds Try.pinned (OpenSpec.ofChange inboxFoldSpec)

/-- ITS FALSE NEIGHBOUR: 'it returns false'. Refute it at one input. -/
def inboxFoldWrong : ChangeSpec := { name := "inboxFold", fn := fun _ => fun
  | [d1, d2] => { results := [.lit (.bool false)], args := [d1, d2] }
  | _ => none }
def InboxFoldWrongFalsely : Prop := inboxFoldRow.holds Try.pinned (OpenSpec.ofChange inboxFoldWrong)

/-- 'treadwheellaw11.InboxSplit': WHATEVER THE INPUT: true; the input reads as it did. -/
def inboxSplitSpec : ChangeSpec := { name := "inboxSplit", fn := fun _ => fun
  | [d1, d2] => { results := [.lit (.bool true)], args := [d1, d2] }
  | _ => none }
def inboxSplitRow : OpenClaim := { program := "ytbmjmpojabbegaa", sum := "85af2232123ca2dffb306580f62f861b8a372a6c1c110fd6ddadd35cd0947e8e", func := "treadwheel/treadwheellaw11.InboxSplit", spec := "inboxSplit", unfollowed := true, recurses := true, apart := false }
def InboxSplitSaid : Prop := inboxSplitRow.holds Try.pinned (OpenSpec.ofChange inboxSplitSpec)

/-- ITS FALSE NEIGHBOUR: 'it returns false'. Refute it at one input. -/
def inboxSplitWrong : ChangeSpec := { name := "inboxSplit", fn := fun _ => fun
  | [d1, d2] => { results := [.lit (.bool false)], args := [d1, d2] }
  | _ => none }
def InboxSplitWrongFalsely : Prop := inboxSplitRow.holds Try.pinned (OpenSpec.ofChange inboxSplitWrong)

/-- 'treadwheellaw11.InboxMerge': WHATEVER THE INPUT: true; the input reads as it did. -/
def inboxMergeSpec : ChangeSpec := { name := "inboxMerge", fn := fun _ => fun
  | [d1, d2, d3, d4] => { results := [.lit (.bool true)], args := [d1, d2, d3, d4] }
  | _ => none }
def inboxMergeRow : OpenClaim := { program := "ytbmjmpojabbegaa", sum := "85af2232123ca2dffb306580f62f861b8a372a6c1c110fd6ddadd35cd0947e8e", func := "treadwheel/treadwheellaw11.InboxMerge", spec := "inboxMerge", unfollowed := true, recurses := true, apart := false }
def InboxMergeSaid : Prop := inboxMergeRow.holds Try.pinned (OpenSpec.ofChange inboxMergeSpec)

/-- ITS FALSE NEIGHBOUR: 'it returns false'. Refute it at one input. -/
def inboxMergeWrong : ChangeSpec := { name := "inboxMerge", fn := fun _ => fun
  | [d1, d2, d3, d4] => { results := [.lit (.bool false)], args := [d1, d2, d3, d4] }
  | _ => none }
def InboxMergeWrongFalsely : Prop := inboxMergeRow.holds Try.pinned (OpenSpec.ofChange inboxMergeWrong)

/-- 'treadwheellaw11.InboxOrder': WHATEVER THE INPUT: true; the input reads as it did. -/
def inboxOrderSpec : ChangeSpec := { name := "inboxOrder", fn := fun _ => fun
  | [d1, d2, d3, d4, d5, d6] => { results := [.lit (.bool true)], args := [d1, d2, d3, d4, d5, d6] }
  | _ => none }
def inboxOrderRow : OpenClaim := { program := "ytbmjmpojabbegaa", sum := "85af2232123ca2dffb306580f62f861b8a372a6c1c110fd6ddadd35cd0947e8e", func := "treadwheel/treadwheellaw11.InboxOrder", spec := "inboxOrder", unfollowed := true, recurses := true, apart := false }
def InboxOrderSaid : Prop := inboxOrderRow.holds Try.pinned (OpenSpec.ofChange inboxOrderSpec)

/-- ITS FALSE NEIGHBOUR: 'it returns false'. Refute it at one input. -/
def inboxOrderWrong : ChangeSpec := { name := "inboxOrder", fn := fun _ => fun
  | [d1, d2, d3, d4, d5, d6] => { results := [.lit (.bool false)], args := [d1, d2, d3, d4, d5, d6] }
  | _ => none }
def InboxOrderWrongFalsely : Prop := inboxOrderRow.holds Try.pinned (OpenSpec.ofChange inboxOrderWrong)

/-- 'treadwheellaw11.InboxKnown': WHATEVER THE INPUT: true; the input reads as it did. -/
def inboxKnownSpec : ChangeSpec := { name := "inboxKnown", fn := fun _ => fun
  | [] => { results := [.lit (.bool true)], args := [] }
  | _ => none }
def inboxKnownRow : OpenClaim := { program := "ytbmjmpojabbegaa", sum := "85af2232123ca2dffb306580f62f861b8a372a6c1c110fd6ddadd35cd0947e8e", func := "treadwheel/treadwheellaw11.InboxKnown", spec := "inboxKnown", unfollowed := true, recurses := true, apart := false }
def InboxKnownSaid : Prop := inboxKnownRow.holds Try.pinned (OpenSpec.ofChange inboxKnownSpec)

/-- ITS FALSE NEIGHBOUR: 'it returns false'. Refute it at one input. -/
def inboxKnownWrong : ChangeSpec := { name := "inboxKnown", fn := fun _ => fun
  | [] => { results := [.lit (.bool false)], args := [] }
  | _ => none }
def InboxKnownWrongFalsely : Prop := inboxKnownRow.holds Try.pinned (OpenSpec.ofChange inboxKnownWrong)

/- THE SECOND FORM. 'bulk': how many values and letters a reading holds, each counted each time it is reached (what is shared counts as often as it is met; a slice's spare places count too). A statement '..UptoSaid' is the law's where the arguments, and the package variables that the reading takes, are together of bulk at most 1048576: NARROWER than '..Said'. Prove '..Said' where nothing that the law and all that it calls make is longer than what came in: it says more and counts as full. Else prove '..UptoSaid'. A law counts once. -/
mutual
def uptoBulk {H : Type} : DataW H → Nat
  | .lit (.string bytes) => bytes.length + 1
  | .lit _ => 1
  | .nil => 1
  | .ptr d => uptoBulk d + 1
  | .slice elems spare => uptoBulkAll elems + uptoBulkAll spare + 1
  | .agg parts => uptoBulkAll parts + 1
  | .iface _ d => uptoBulk d + 1
  | .map entries => uptoBulkEntries entries + 1
  | .held _ => 1
def uptoBulkAll {H : Type} : List (DataW H) → Nat
  | [] => 0
  | d :: r => uptoBulk d + uptoBulkAll r
def uptoBulkEntries {H : Type} : List (Lit × DataW H) → Nat
  | [] => 0
  | x :: r => uptoBulkEntry x + uptoBulkEntries r
def uptoBulkEntry {H : Type} : Lit × DataW H → Nat
  | (.string bytes, d) => bytes.length + uptoBulk d + 1
  | (_, d) => uptoBulk d + 1
 end
def uptoSmall : (H : Type) → List (DataW H) → Bool := fun _ ds => decide (uptoBulkAll ds ≤ 1048576)
def OpenSpec.upto (s : _root_.Go.ChangeSpec) : _root_.Go.OpenSpec := { _root_.Go.OpenSpec.ofChange s with cond := some uptoSmall }

/-- 'treadwheellaw11.InboxFold', WHERE WHAT IT READS IS OF BULK AT MOST 1048576: true; the input reads as it did. -/
def inboxFoldUptoRow : OpenClaim := { program := "ytbmjmpojabbegaa", sum := "85af2232123ca2dffb306580f62f861b8a372a6c1c110fd6ddadd35cd0947e8e", func := "treadwheel/treadwheellaw11.InboxFold", spec := "inboxFold", unfollowed := true, recurses := true, apart := false, narrowed := true }
def InboxFoldUptoSaid : Prop := inboxFoldUptoRow.holds Try.pinned (OpenSpec.upto inboxFoldSpec)

/-- 'treadwheellaw11.InboxSplit', WHERE WHAT IT READS IS OF BULK AT MOST 1048576: true; the input reads as it did. -/
def inboxSplitUptoRow : OpenClaim := { program := "ytbmjmpojabbegaa", sum := "85af2232123ca2dffb306580f62f861b8a372a6c1c110fd6ddadd35cd0947e8e", func := "treadwheel/treadwheellaw11.InboxSplit", spec := "inboxSplit", unfollowed := true, recurses := true, apart := false, narrowed := true }
def InboxSplitUptoSaid : Prop := inboxSplitUptoRow.holds Try.pinned (OpenSpec.upto inboxSplitSpec)

/-- 'treadwheellaw11.InboxMerge', WHERE WHAT IT READS IS OF BULK AT MOST 1048576: true; the input reads as it did. -/
def inboxMergeUptoRow : OpenClaim := { program := "ytbmjmpojabbegaa", sum := "85af2232123ca2dffb306580f62f861b8a372a6c1c110fd6ddadd35cd0947e8e", func := "treadwheel/treadwheellaw11.InboxMerge", spec := "inboxMerge", unfollowed := true, recurses := true, apart := false, narrowed := true }
def InboxMergeUptoSaid : Prop := inboxMergeUptoRow.holds Try.pinned (OpenSpec.upto inboxMergeSpec)

/-- 'treadwheellaw11.InboxOrder', WHERE WHAT IT READS IS OF BULK AT MOST 1048576: true; the input reads as it did. -/
def inboxOrderUptoRow : OpenClaim := { program := "ytbmjmpojabbegaa", sum := "85af2232123ca2dffb306580f62f861b8a372a6c1c110fd6ddadd35cd0947e8e", func := "treadwheel/treadwheellaw11.InboxOrder", spec := "inboxOrder", unfollowed := true, recurses := true, apart := false, narrowed := true }
def InboxOrderUptoSaid : Prop := inboxOrderUptoRow.holds Try.pinned (OpenSpec.upto inboxOrderSpec)

/-- 'treadwheellaw11.InboxKnown', WHERE WHAT IT READS IS OF BULK AT MOST 1048576: true; the input reads as it did. -/
def inboxKnownUptoRow : OpenClaim := { program := "ytbmjmpojabbegaa", sum := "85af2232123ca2dffb306580f62f861b8a372a6c1c110fd6ddadd35cd0947e8e", func := "treadwheel/treadwheellaw11.InboxKnown", spec := "inboxKnown", unfollowed := true, recurses := true, apart := false, narrowed := true }
def InboxKnownUptoSaid : Prop := inboxKnownUptoRow.holds Try.pinned (OpenSpec.upto inboxKnownSpec)

end Rows
end Go.Proofs.Ytbmjmpojabbegaa
