/-
  NARROWER THAN 'FOR EVERY INPUT', by the rows' own cells (each row's printed sentence says how): GraphParse: laid · GraphEdges: laid · GraphSame: laid · GraphCheck: laid · GraphBack: laid · GraphKnown: laid.
  DERIVED. THE GIVEN ROWS OF THIS SEAT. 6 by the template 'for every input the law returns true; each argument reads behind the call as it read before'; 0 by the template 'total and deterministic' (their statements: YtknigkjbnaoldaaDoorTotals.lean).
  GIVEN WITH THE SEED: the statements are not yours to turn. If you find one false, say at which input.
  Laid BY PROGRAM, IN A SANDBOX (cutbox-rows.mjs): the forced cells as the released guide's own fill.sh prints them over the translation 37881dacdcadfc50… (all of the seat's roots in one cut). By AI agents, Wed Nov 11 2026. No macro, syntax, notation, axiom, sorry.
-/
import Derived.Test.YtknigkjbnaoldaaDoorChecked
import GoSem.Claim
import GoSem.ClaimJoined
import GoSem.ClaimMapViews
import Derived.JoinedTies
import Derived.KernelRfl
namespace Go.Proofs.YtknigkjbnaoldaaDoor
/- THE CELL 'sum', in the pinned program and in every row, IS THE sha256 OF THE DUMP (.gsa) THAT YtknigkjbnaoldaaDoorProg.lean LOADS. Nothing in Lean hashes anything: it is a label: what it is worth is what the hold of that sum in a sandbox is worth. -/
noncomputable def Tryd.pinned : Pinned := { name := "ytknigkjbnaoldaadoor", sum := "37881dacdcadfc500b69b84782f79618a4a3692b646cac7d637233daa77b0be2", checked := Tryd.checked }
namespace Rows
def none {H : Type} : Left H := { results := [], args := [] }

/- WHAT THE LISTED PACKAGE-LEVEL VARIABLES READ AS WHEN THE CALL BEGINS. Each datum BY PROGRAM (the guide's laid-datum.mjs) off the statement by which the dump's own 'gosem.cut.vars' lays the variable. In a bare row this is a premise. The card (YtknigkjbnaoldaaDoorCards.lean) ties it to the program's text. -/
def laid_treadwheel_words_firsts {H : Type} : DataW H := .agg [.lit (.int .i32 48), .lit (.int .i32 1632), .lit (.int .i32 65296)]

/-- 'treadwheellaw04.GraphParse': WHATEVER THE INPUT: true; the input reads as it did. -/
def graphParseSpec : ChangeSpec := { name := "graphParse", fn := fun _ => fun
  | [d] => { results := [.lit (.bool true)], args := [d] }
  | _ => none }
def graphParseRow : OpenClaim := { program := "ytknigkjbnaoldaadoor", sum := "37881dacdcadfc500b69b84782f79618a4a3692b646cac7d637233daa77b0be2", func := "treadwheel/treadwheellaw04.GraphParse", spec := "graphParse", inPlace := ["internal/bytealg.IndexByteString", "internal/abi.NoEscape"], unfollowed := true, recurses := true, named := ["treadwheel/words.firsts"], plainKeys := false, apart := false, laid := [("treadwheel/words.firsts", laid_treadwheel_words_firsts)] }
def GraphParseSaid : Prop := graphParseRow.holds Tryd.pinned (OpenSpec.ofChange graphParseSpec)

/-- ITS FALSE NEIGHBOUR: 'it returns false'. Refute it at one input. -/
def graphParseWrong : ChangeSpec := { name := "graphParse", fn := fun _ => fun
  | [d] => { results := [.lit (.bool false)], args := [d] }
  | _ => none }
def GraphParseWrongFalsely : Prop := graphParseRow.holds Tryd.pinned (OpenSpec.ofChange graphParseWrong)

/-- 'treadwheellaw04.GraphEdges': WHATEVER THE INPUT: true; the input reads as it did. -/
def graphEdgesSpec : ChangeSpec := { name := "graphEdges", fn := fun _ => fun
  | [d1, d2] => { results := [.lit (.bool true)], args := [d1, d2] }
  | _ => none }
def graphEdgesRow : OpenClaim := { program := "ytknigkjbnaoldaadoor", sum := "37881dacdcadfc500b69b84782f79618a4a3692b646cac7d637233daa77b0be2", func := "treadwheel/treadwheellaw04.GraphEdges", spec := "graphEdges", inPlace := ["internal/bytealg.IndexByteString", "internal/abi.NoEscape"], unfollowed := true, recurses := true, named := ["treadwheel/words.firsts"], plainKeys := false, apart := false, laid := [("treadwheel/words.firsts", laid_treadwheel_words_firsts)] }
def GraphEdgesSaid : Prop := graphEdgesRow.holds Tryd.pinned (OpenSpec.ofChange graphEdgesSpec)

/-- ITS FALSE NEIGHBOUR: 'it returns false'. Refute it at one input. -/
def graphEdgesWrong : ChangeSpec := { name := "graphEdges", fn := fun _ => fun
  | [d1, d2] => { results := [.lit (.bool false)], args := [d1, d2] }
  | _ => none }
def GraphEdgesWrongFalsely : Prop := graphEdgesRow.holds Tryd.pinned (OpenSpec.ofChange graphEdgesWrong)

/-- 'treadwheellaw04.GraphSame': WHATEVER THE INPUT: true; the input reads as it did. -/
def graphSameSpec : ChangeSpec := { name := "graphSame", fn := fun _ => fun
  | [d1, d2] => { results := [.lit (.bool true)], args := [d1, d2] }
  | _ => none }
def graphSameRow : OpenClaim := { program := "ytknigkjbnaoldaadoor", sum := "37881dacdcadfc500b69b84782f79618a4a3692b646cac7d637233daa77b0be2", func := "treadwheel/treadwheellaw04.GraphSame", spec := "graphSame", inPlace := ["internal/bytealg.IndexByteString", "internal/abi.NoEscape"], unfollowed := true, recurses := true, named := ["treadwheel/words.firsts"], plainKeys := false, apart := false, laid := [("treadwheel/words.firsts", laid_treadwheel_words_firsts)] }
def GraphSameSaid : Prop := graphSameRow.holds Tryd.pinned (OpenSpec.ofChange graphSameSpec)

/-- ITS FALSE NEIGHBOUR: 'it returns false'. Refute it at one input. -/
def graphSameWrong : ChangeSpec := { name := "graphSame", fn := fun _ => fun
  | [d1, d2] => { results := [.lit (.bool false)], args := [d1, d2] }
  | _ => none }
def GraphSameWrongFalsely : Prop := graphSameRow.holds Tryd.pinned (OpenSpec.ofChange graphSameWrong)

/-- 'treadwheellaw04.GraphCheck': WHATEVER THE INPUT: true; the input reads as it did. -/
def graphCheckSpec : ChangeSpec := { name := "graphCheck", fn := fun _ => fun
  | [d] => { results := [.lit (.bool true)], args := [d] }
  | _ => none }
def graphCheckRow : OpenClaim := { program := "ytknigkjbnaoldaadoor", sum := "37881dacdcadfc500b69b84782f79618a4a3692b646cac7d637233daa77b0be2", func := "treadwheel/treadwheellaw04.GraphCheck", spec := "graphCheck", inPlace := ["internal/bytealg.IndexByteString", "internal/abi.NoEscape"], unfollowed := true, recurses := true, named := ["treadwheel/words.firsts"], plainKeys := false, apart := false, laid := [("treadwheel/words.firsts", laid_treadwheel_words_firsts)] }
def GraphCheckSaid : Prop := graphCheckRow.holds Tryd.pinned (OpenSpec.ofChange graphCheckSpec)

/-- ITS FALSE NEIGHBOUR: 'it returns false'. Refute it at one input. -/
def graphCheckWrong : ChangeSpec := { name := "graphCheck", fn := fun _ => fun
  | [d] => { results := [.lit (.bool false)], args := [d] }
  | _ => none }
def GraphCheckWrongFalsely : Prop := graphCheckRow.holds Tryd.pinned (OpenSpec.ofChange graphCheckWrong)

/-- 'treadwheellaw04.GraphBack': WHATEVER THE INPUT: true; the input reads as it did. -/
def graphBackSpec : ChangeSpec := { name := "graphBack", fn := fun _ => fun
  | [d1, d2] => { results := [.lit (.bool true)], args := [d1, d2] }
  | _ => none }
def graphBackRow : OpenClaim := { program := "ytknigkjbnaoldaadoor", sum := "37881dacdcadfc500b69b84782f79618a4a3692b646cac7d637233daa77b0be2", func := "treadwheel/treadwheellaw04.GraphBack", spec := "graphBack", inPlace := ["internal/bytealg.IndexByteString", "internal/abi.NoEscape"], unfollowed := true, recurses := true, named := ["treadwheel/words.firsts"], plainKeys := false, apart := false, laid := [("treadwheel/words.firsts", laid_treadwheel_words_firsts)] }
def GraphBackSaid : Prop := graphBackRow.holds Tryd.pinned (OpenSpec.ofChange graphBackSpec)

/-- ITS FALSE NEIGHBOUR: 'it returns false'. Refute it at one input. -/
def graphBackWrong : ChangeSpec := { name := "graphBack", fn := fun _ => fun
  | [d1, d2] => { results := [.lit (.bool false)], args := [d1, d2] }
  | _ => none }
def GraphBackWrongFalsely : Prop := graphBackRow.holds Tryd.pinned (OpenSpec.ofChange graphBackWrong)

/-- 'treadwheellaw04.GraphKnown': WHATEVER THE INPUT: true; the input reads as it did. -/
def graphKnownSpec : ChangeSpec := { name := "graphKnown", fn := fun _ => fun
  | [] => { results := [.lit (.bool true)], args := [] }
  | _ => none }
def graphKnownRow : OpenClaim := { program := "ytknigkjbnaoldaadoor", sum := "37881dacdcadfc500b69b84782f79618a4a3692b646cac7d637233daa77b0be2", func := "treadwheel/treadwheellaw04.GraphKnown", spec := "graphKnown", inPlace := ["internal/bytealg.IndexByteString", "internal/abi.NoEscape"], unfollowed := true, recurses := true, named := ["treadwheel/words.firsts"], plainKeys := false, apart := false, laid := [("treadwheel/words.firsts", laid_treadwheel_words_firsts)] }
def GraphKnownSaid : Prop := graphKnownRow.holds Tryd.pinned (OpenSpec.ofChange graphKnownSpec)

/-- ITS FALSE NEIGHBOUR: 'it returns false'. Refute it at one input. -/
def graphKnownWrong : ChangeSpec := { name := "graphKnown", fn := fun _ => fun
  | [] => { results := [.lit (.bool false)], args := [] }
  | _ => none }
def GraphKnownWrongFalsely : Prop := graphKnownRow.holds Tryd.pinned (OpenSpec.ofChange graphKnownWrong)

/- THE SECOND FORM. 'bulk': how many values and letters a reading holds, each counted each time it is reached (what is shared counts as often as it is met; a slice's spare places count too). A statement '..UptoSaid' is the law's where the arguments, and the package variables that the reading takes, are together of bulk at most 1048576: NARROWER than '..Said'. Prove '..Said' where nothing that the law and all that it calls make is longer than what came in: it says more and counts as full. Else prove '..UptoSaid'. A law counts once. -/
mutual
def uptoBulk {H : Type} : DataW H → Nat
  | .lit (.string bytes) => bytes.length + 1
  | .lit _ => 1
  | .nil => 1
  | .ptr d => uptoBulk d + 1
  | .slice elems spare => uptoBulkAll elems + uptoBulkAll spare + 1
  | .agg parts => uptoBulkAll parts + 1
  | .iface _ d => uptoBulk d + 1
  | .map entries => uptoBulkEntries entries + 1
  | .held _ => 1
def uptoBulkAll {H : Type} : List (DataW H) → Nat
  | [] => 0
  | d :: r => uptoBulk d + uptoBulkAll r
def uptoBulkEntries {H : Type} : List (Lit × DataW H) → Nat
  | [] => 0
  | x :: r => uptoBulkEntry x + uptoBulkEntries r
def uptoBulkEntry {H : Type} : Lit × DataW H → Nat
  | (.string bytes, d) => bytes.length + uptoBulk d + 1
  | (_, d) => uptoBulk d + 1
 end
def uptoSmall : (H : Type) → List (DataW H) → Bool := fun _ ds => decide (uptoBulkAll ds ≤ 1048576)
def OpenSpec.upto (s : _root_.Go.ChangeSpec) : _root_.Go.OpenSpec := { _root_.Go.OpenSpec.ofChange s with cond := some uptoSmall }

/-- 'treadwheellaw04.GraphParse', WHERE WHAT IT READS IS OF BULK AT MOST 1048576: true; the input reads as it did. -/
def graphParseUptoRow : OpenClaim := { program := "ytknigkjbnaoldaadoor", sum := "37881dacdcadfc500b69b84782f79618a4a3692b646cac7d637233daa77b0be2", func := "treadwheel/treadwheellaw04.GraphParse", spec := "graphParse", inPlace := ["internal/bytealg.IndexByteString", "internal/abi.NoEscape"], unfollowed := true, recurses := true, named := ["treadwheel/words.firsts"], plainKeys := false, apart := false, laid := [("treadwheel/words.firsts", laid_treadwheel_words_firsts)], narrowed := true }
def GraphParseUptoSaid : Prop := graphParseUptoRow.holds Tryd.pinned (OpenSpec.upto graphParseSpec)

/-- 'treadwheellaw04.GraphEdges', WHERE WHAT IT READS IS OF BULK AT MOST 1048576: true; the input reads as it did. -/
def graphEdgesUptoRow : OpenClaim := { program := "ytknigkjbnaoldaadoor", sum := "37881dacdcadfc500b69b84782f79618a4a3692b646cac7d637233daa77b0be2", func := "treadwheel/treadwheellaw04.GraphEdges", spec := "graphEdges", inPlace := ["internal/bytealg.IndexByteString", "internal/abi.NoEscape"], unfollowed := true, recurses := true, named := ["treadwheel/words.firsts"], plainKeys := false, apart := false, laid := [("treadwheel/words.firsts", laid_treadwheel_words_firsts)], narrowed := true }
def GraphEdgesUptoSaid : Prop := graphEdgesUptoRow.holds Tryd.pinned (OpenSpec.upto graphEdgesSpec)

/-- 'treadwheellaw04.GraphSame', WHERE WHAT IT READS IS OF BULK AT MOST 1048576: true; the input reads as it did. -/
def graphSameUptoRow : OpenClaim := { program := "ytknigkjbnaoldaadoor", sum := "37881dacdcadfc500b69b84782f79618a4a3692b646cac7d637233daa77b0be2", func := "treadwheel/treadwheellaw04.GraphSame", spec := "graphSame", inPlace := ["internal/bytealg.IndexByteString", "internal/abi.NoEscape"], unfollowed := true, recurses := true, named := ["treadwheel/words.firsts"], plainKeys := false, apart := false, laid := [("treadwheel/words.firsts", laid_treadwheel_words_firsts)], narrowed := true }
def GraphSameUptoSaid : Prop := graphSameUptoRow.holds Tryd.pinned (OpenSpec.upto graphSameSpec)

/-- 'treadwheellaw04.GraphCheck', WHERE WHAT IT READS IS OF BULK AT MOST 1048576: true; the input reads as it did. -/
def graphCheckUptoRow : OpenClaim := { program := "ytknigkjbnaoldaadoor", sum := "37881dacdcadfc500b69b84782f79618a4a3692b646cac7d637233daa77b0be2", func := "treadwheel/treadwheellaw04.GraphCheck", spec := "graphCheck", inPlace := ["internal/bytealg.IndexByteString", "internal/abi.NoEscape"], unfollowed := true, recurses := true, named := ["treadwheel/words.firsts"], plainKeys := false, apart := false, laid := [("treadwheel/words.firsts", laid_treadwheel_words_firsts)], narrowed := true }
def GraphCheckUptoSaid : Prop := graphCheckUptoRow.holds Tryd.pinned (OpenSpec.upto graphCheckSpec)

/-- 'treadwheellaw04.GraphBack', WHERE WHAT IT READS IS OF BULK AT MOST 1048576: true; the input reads as it did. -/
def graphBackUptoRow : OpenClaim := { program := "ytknigkjbnaoldaadoor", sum := "37881dacdcadfc500b69b84782f79618a4a3692b646cac7d637233daa77b0be2", func := "treadwheel/treadwheellaw04.GraphBack", spec := "graphBack", inPlace := ["internal/bytealg.IndexByteString", "internal/abi.NoEscape"], unfollowed := true, recurses := true, named := ["treadwheel/words.firsts"], plainKeys := false, apart := false, laid := [("treadwheel/words.firsts", laid_treadwheel_words_firsts)], narrowed := true }
def GraphBackUptoSaid : Prop := graphBackUptoRow.holds Tryd.pinned (OpenSpec.upto graphBackSpec)

/-- 'treadwheellaw04.GraphKnown', WHERE WHAT IT READS IS OF BULK AT MOST 1048576: true; the input reads as it did. -/
def graphKnownUptoRow : OpenClaim := { program := "ytknigkjbnaoldaadoor", sum := "37881dacdcadfc500b69b84782f79618a4a3692b646cac7d637233daa77b0be2", func := "treadwheel/treadwheellaw04.GraphKnown", spec := "graphKnown", inPlace := ["internal/bytealg.IndexByteString", "internal/abi.NoEscape"], unfollowed := true, recurses := true, named := ["treadwheel/words.firsts"], plainKeys := false, apart := false, laid := [("treadwheel/words.firsts", laid_treadwheel_words_firsts)], narrowed := true }
def GraphKnownUptoSaid : Prop := graphKnownUptoRow.holds Tryd.pinned (OpenSpec.upto graphKnownSpec)

end Rows
end Go.Proofs.YtknigkjbnaoldaaDoor
