/-
  NARROWER THAN 'FOR EVERY INPUT', by the rows' own cells (each row's printed sentence says how): JournalTorn: laid · JournalNumbers: laid · JournalHands: laid · JournalFinds: laid · JournalExact: laid.
  DERIVED. THE GIVEN ROWS OF THIS SEAT. 5 by the template 'for every input the law returns true; each argument reads behind the call as it read before'; 0 by the template 'total and deterministic' (their statements: YtaiaghfckhgnnaaGreatDoorTotals.lean).
  GIVEN WITH THE SEED: the statements are not yours to turn. If you find one false, say at which input.
  Laid BY PROGRAM, IN A SANDBOX (cutbox-rows.mjs): the forced cells as the released guide's own fill.sh prints them over the translation d9a548974407b6e4… (all of the seat's roots in one cut). By AI agents, Wed Nov 11 2026. No macro, syntax, notation, axiom, sorry.
-/
import Derived.Test.YtaiaghfckhgnnaaGreatDoorChecked
import GoSem.Claim
import GoSem.ClaimJoined
import GoSem.ClaimMapViews
import Derived.JoinedTies
import Derived.KernelRfl
namespace Go.Proofs.YtaiaghfckhgnnaaGreatDoor
/- THE CELL 'sum', in the pinned program and in every row, IS THE sha256 OF THE DUMP (.gsa) THAT YtaiaghfckhgnnaaGreatDoorProg.lean LOADS. Nothing in Lean hashes anything: it is a label: what it is worth is what the hold of that sum in a sandbox is worth. -/
noncomputable def Tryz.pinned : Pinned := { name := "ytaiaghfckhgnnaagreatdoor", sum := "d9a548974407b6e4eadd23b8cfb68bc87dd3b2a75fffd710c4f66df48486a373", checked := Tryz.checked }
namespace Rows
def none {H : Type} : Left H := { results := [], args := [] }

/- WHAT THE LISTED PACKAGE-LEVEL VARIABLES READ AS WHEN THE CALL BEGINS. Each datum BY PROGRAM (the guide's laid-datum.mjs) off the statement by which the dump's own 'gosem.cut.vars' lays the variable. In a bare row this is a premise. The card (YtaiaghfckhgnnaaGreatDoorCards.lean) ties it to the program's text. -/
def laid_errors_errorType {H : Type} : DataW H := .iface "internal/reflectlite.rtype" (.agg [.ptr (.lit (.string [101, 114, 114, 111, 114]))])
def laid_redraft_frame_table {H : Type} : DataW H := .agg [.lit (.int .u32 0), .lit (.int .u32 274646895), .lit (.int .u32 549293790), .lit (.int .u32 820201905), .lit (.int .u32 1098587580), .lit (.int .u32 1361435347), .lit (.int .u32 1640403810), .lit (.int .u32 1905808397), .lit (.int .u32 2197175160), .lit (.int .u32 2460548119), .lit (.int .u32 2722870694), .lit (.int .u32 2987750089), .lit (.int .u32 3280807620), .lit (.int .u32 3553878443), .lit (.int .u32 3811616794), .lit (.int .u32 4084100981)]

/-- 'redraftlaw12.JournalTorn': WHATEVER THE INPUT: true; the input reads as it did. -/
def journalTornSpec : ChangeSpec := { name := "journalTorn", fn := fun _ => fun
  | [d1, d2, d3] => { results := [.lit (.bool true)], args := [d1, d2, d3] }
  | _ => none }
def journalTornRow : OpenClaim := { program := "ytaiaghfckhgnnaagreatdoor", sum := "d9a548974407b6e4eadd23b8cfb68bc87dd3b2a75fffd710c4f66df48486a373", func := "redraft/redraftlaw12.JournalTorn", spec := "journalTorn", inPlace := ["internal/reflectlite.ValueOf", "(internal/reflectlite.Value).Type", "(internal/reflectlite.Value).IsNil", "internal/reflectlite.TypeOf", "(internal/reflectlite.Value).Elem", "(internal/reflectlite.Value).Set", "internal/bytealg.IndexByteString", "internal/bytealg.IndexString", "internal/bytealg.abigen_runtime_cmpstring"], unfollowed := true, recurses := true, named := ["errors.errorType", "redraft/frame.table", "internal/bytealg.MaxLen"], apart := false, laid := [("errors.errorType", laid_errors_errorType), ("redraft/frame.table", laid_redraft_frame_table)] }
def JournalTornSaid : Prop := journalTornRow.holds Tryz.pinned (OpenSpec.ofChange journalTornSpec)

/-- ITS FALSE NEIGHBOUR: 'it returns false'. Refute it at one input. -/
def journalTornWrong : ChangeSpec := { name := "journalTorn", fn := fun _ => fun
  | [d1, d2, d3] => { results := [.lit (.bool false)], args := [d1, d2, d3] }
  | _ => none }
def JournalTornWrongFalsely : Prop := journalTornRow.holds Tryz.pinned (OpenSpec.ofChange journalTornWrong)

/-- 'redraftlaw12.JournalNumbers': WHATEVER THE INPUT: true; the input reads as it did. -/
def journalNumbersSpec : ChangeSpec := { name := "journalNumbers", fn := fun _ => fun
  | [d1, d2] => { results := [.lit (.bool true)], args := [d1, d2] }
  | _ => none }
def journalNumbersRow : OpenClaim := { program := "ytaiaghfckhgnnaagreatdoor", sum := "d9a548974407b6e4eadd23b8cfb68bc87dd3b2a75fffd710c4f66df48486a373", func := "redraft/redraftlaw12.JournalNumbers", spec := "journalNumbers", inPlace := ["internal/reflectlite.ValueOf", "(internal/reflectlite.Value).Type", "(internal/reflectlite.Value).IsNil", "internal/reflectlite.TypeOf", "(internal/reflectlite.Value).Elem", "(internal/reflectlite.Value).Set", "internal/bytealg.IndexByteString", "internal/bytealg.IndexString", "internal/bytealg.abigen_runtime_cmpstring"], unfollowed := true, recurses := true, named := ["errors.errorType", "redraft/frame.table", "internal/bytealg.MaxLen"], apart := false, laid := [("errors.errorType", laid_errors_errorType), ("redraft/frame.table", laid_redraft_frame_table)] }
def JournalNumbersSaid : Prop := journalNumbersRow.holds Tryz.pinned (OpenSpec.ofChange journalNumbersSpec)

/-- ITS FALSE NEIGHBOUR: 'it returns false'. Refute it at one input. -/
def journalNumbersWrong : ChangeSpec := { name := "journalNumbers", fn := fun _ => fun
  | [d1, d2] => { results := [.lit (.bool false)], args := [d1, d2] }
  | _ => none }
def JournalNumbersWrongFalsely : Prop := journalNumbersRow.holds Tryz.pinned (OpenSpec.ofChange journalNumbersWrong)

/-- 'redraftlaw12.JournalHands': WHATEVER THE INPUT: true; the input reads as it did. -/
def journalHandsSpec : ChangeSpec := { name := "journalHands", fn := fun _ => fun
  | [d1, d2, d3] => { results := [.lit (.bool true)], args := [d1, d2, d3] }
  | _ => none }
def journalHandsRow : OpenClaim := { program := "ytaiaghfckhgnnaagreatdoor", sum := "d9a548974407b6e4eadd23b8cfb68bc87dd3b2a75fffd710c4f66df48486a373", func := "redraft/redraftlaw12.JournalHands", spec := "journalHands", inPlace := ["internal/reflectlite.ValueOf", "(internal/reflectlite.Value).Type", "(internal/reflectlite.Value).IsNil", "internal/reflectlite.TypeOf", "(internal/reflectlite.Value).Elem", "(internal/reflectlite.Value).Set", "internal/bytealg.IndexByteString", "internal/bytealg.IndexString", "internal/bytealg.abigen_runtime_cmpstring"], unfollowed := true, recurses := true, named := ["errors.errorType", "redraft/frame.table", "internal/bytealg.MaxLen"], apart := false, laid := [("errors.errorType", laid_errors_errorType), ("redraft/frame.table", laid_redraft_frame_table)] }
def JournalHandsSaid : Prop := journalHandsRow.holds Tryz.pinned (OpenSpec.ofChange journalHandsSpec)

/-- ITS FALSE NEIGHBOUR: 'it returns false'. Refute it at one input. -/
def journalHandsWrong : ChangeSpec := { name := "journalHands", fn := fun _ => fun
  | [d1, d2, d3] => { results := [.lit (.bool false)], args := [d1, d2, d3] }
  | _ => none }
def JournalHandsWrongFalsely : Prop := journalHandsRow.holds Tryz.pinned (OpenSpec.ofChange journalHandsWrong)

/-- 'redraftlaw12.JournalFinds': WHATEVER THE INPUT: true; the input reads as it did. -/
def journalFindsSpec : ChangeSpec := { name := "journalFinds", fn := fun _ => fun
  | [d] => { results := [.lit (.bool true)], args := [d] }
  | _ => none }
def journalFindsRow : OpenClaim := { program := "ytaiaghfckhgnnaagreatdoor", sum := "d9a548974407b6e4eadd23b8cfb68bc87dd3b2a75fffd710c4f66df48486a373", func := "redraft/redraftlaw12.JournalFinds", spec := "journalFinds", inPlace := ["internal/reflectlite.ValueOf", "(internal/reflectlite.Value).Type", "(internal/reflectlite.Value).IsNil", "internal/reflectlite.TypeOf", "(internal/reflectlite.Value).Elem", "(internal/reflectlite.Value).Set", "internal/bytealg.IndexByteString", "internal/bytealg.IndexString", "internal/bytealg.abigen_runtime_cmpstring"], unfollowed := true, recurses := true, named := ["errors.errorType", "redraft/frame.table", "internal/bytealg.MaxLen"], apart := false, laid := [("errors.errorType", laid_errors_errorType), ("redraft/frame.table", laid_redraft_frame_table)] }
def JournalFindsSaid : Prop := journalFindsRow.holds Tryz.pinned (OpenSpec.ofChange journalFindsSpec)

/-- ITS FALSE NEIGHBOUR: 'it returns false'. Refute it at one input. -/
def journalFindsWrong : ChangeSpec := { name := "journalFinds", fn := fun _ => fun
  | [d] => { results := [.lit (.bool false)], args := [d] }
  | _ => none }
def JournalFindsWrongFalsely : Prop := journalFindsRow.holds Tryz.pinned (OpenSpec.ofChange journalFindsWrong)

/-- 'redraftlaw12.JournalExact': WHATEVER THE INPUT: true; the input reads as it did. -/
def journalExactSpec : ChangeSpec := { name := "journalExact", fn := fun _ => fun
  | [d1, d2] => { results := [.lit (.bool true)], args := [d1, d2] }
  | _ => none }
def journalExactRow : OpenClaim := { program := "ytaiaghfckhgnnaagreatdoor", sum := "d9a548974407b6e4eadd23b8cfb68bc87dd3b2a75fffd710c4f66df48486a373", func := "redraft/redraftlaw12.JournalExact", spec := "journalExact", inPlace := ["internal/reflectlite.ValueOf", "(internal/reflectlite.Value).Type", "(internal/reflectlite.Value).IsNil", "internal/reflectlite.TypeOf", "(internal/reflectlite.Value).Elem", "(internal/reflectlite.Value).Set", "internal/bytealg.IndexByteString", "internal/bytealg.IndexString", "internal/bytealg.abigen_runtime_cmpstring"], unfollowed := true, recurses := true, named := ["errors.errorType", "redraft/frame.table", "internal/bytealg.MaxLen"], apart := false, laid := [("errors.errorType", laid_errors_errorType), ("redraft/frame.table", laid_redraft_frame_table)] }
def JournalExactSaid : Prop := journalExactRow.holds Tryz.pinned (OpenSpec.ofChange journalExactSpec)

/-- ITS FALSE NEIGHBOUR: 'it returns false'. Refute it at one input. -/
def journalExactWrong : ChangeSpec := { name := "journalExact", fn := fun _ => fun
  | [d1, d2] => { results := [.lit (.bool false)], args := [d1, d2] }
  | _ => none }
def JournalExactWrongFalsely : Prop := journalExactRow.holds Tryz.pinned (OpenSpec.ofChange journalExactWrong)

/- THE SECOND FORM. 'bulk': how many values and letters a reading holds, each counted each time it is reached (what is shared counts as often as it is met; a slice's spare places count too). A statement '..UptoSaid' is the law's where the arguments, and the package variables that the reading takes, are together of bulk at most 1048576: NARROWER than '..Said'. Prove '..Said' where nothing that the law and all that it calls make is longer than what came in: it says more and counts as full. Else prove '..UptoSaid'. A law counts once. -/
mutual
def uptoBulk {H : Type} : DataW H → Nat
  | .lit (.string bytes) => bytes.length + 1
  | .lit _ => 1
  | .nil => 1
  | .ptr d => uptoBulk d + 1
  | .slice elems spare => uptoBulkAll elems + uptoBulkAll spare + 1
  | .agg parts => uptoBulkAll parts + 1
  | .iface _ d => uptoBulk d + 1
  | .map entries => uptoBulkEntries entries + 1
  | .held _ => 1
def uptoBulkAll {H : Type} : List (DataW H) → Nat
  | [] => 0
  | d :: r => uptoBulk d + uptoBulkAll r
def uptoBulkEntries {H : Type} : List (Lit × DataW H) → Nat
  | [] => 0
  | x :: r => uptoBulkEntry x + uptoBulkEntries r
def uptoBulkEntry {H : Type} : Lit × DataW H → Nat
  | (.string bytes, d) => bytes.length + uptoBulk d + 1
  | (_, d) => uptoBulk d + 1
 end
def uptoSmall : (H : Type) → List (DataW H) → Bool := fun _ ds => decide (uptoBulkAll ds ≤ 1048576)
def OpenSpec.upto (s : _root_.Go.ChangeSpec) : _root_.Go.OpenSpec := { _root_.Go.OpenSpec.ofChange s with cond := some uptoSmall }

/-- 'redraftlaw12.JournalTorn', WHERE WHAT IT READS IS OF BULK AT MOST 1048576: true; the input reads as it did. -/
def journalTornUptoRow : OpenClaim := { program := "ytaiaghfckhgnnaagreatdoor", sum := "d9a548974407b6e4eadd23b8cfb68bc87dd3b2a75fffd710c4f66df48486a373", func := "redraft/redraftlaw12.JournalTorn", spec := "journalTorn", inPlace := ["internal/reflectlite.ValueOf", "(internal/reflectlite.Value).Type", "(internal/reflectlite.Value).IsNil", "internal/reflectlite.TypeOf", "(internal/reflectlite.Value).Elem", "(internal/reflectlite.Value).Set", "internal/bytealg.IndexByteString", "internal/bytealg.IndexString", "internal/bytealg.abigen_runtime_cmpstring"], unfollowed := true, recurses := true, named := ["errors.errorType", "redraft/frame.table", "internal/bytealg.MaxLen"], apart := false, laid := [("errors.errorType", laid_errors_errorType), ("redraft/frame.table", laid_redraft_frame_table)], narrowed := true }
def JournalTornUptoSaid : Prop := journalTornUptoRow.holds Tryz.pinned (OpenSpec.upto journalTornSpec)

/-- 'redraftlaw12.JournalNumbers', WHERE WHAT IT READS IS OF BULK AT MOST 1048576: true; the input reads as it did. -/
def journalNumbersUptoRow : OpenClaim := { program := "ytaiaghfckhgnnaagreatdoor", sum := "d9a548974407b6e4eadd23b8cfb68bc87dd3b2a75fffd710c4f66df48486a373", func := "redraft/redraftlaw12.JournalNumbers", spec := "journalNumbers", inPlace := ["internal/reflectlite.ValueOf", "(internal/reflectlite.Value).Type", "(internal/reflectlite.Value).IsNil", "internal/reflectlite.TypeOf", "(internal/reflectlite.Value).Elem", "(internal/reflectlite.Value).Set", "internal/bytealg.IndexByteString", "internal/bytealg.IndexString", "internal/bytealg.abigen_runtime_cmpstring"], unfollowed := true, recurses := true, named := ["errors.errorType", "redraft/frame.table", "internal/bytealg.MaxLen"], apart := false, laid := [("errors.errorType", laid_errors_errorType), ("redraft/frame.table", laid_redraft_frame_table)], narrowed := true }
def JournalNumbersUptoSaid : Prop := journalNumbersUptoRow.holds Tryz.pinned (OpenSpec.upto journalNumbersSpec)

/-- 'redraftlaw12.JournalHands', WHERE WHAT IT READS IS OF BULK AT MOST 1048576: true; the input reads as it did. -/
def journalHandsUptoRow : OpenClaim := { program := "ytaiaghfckhgnnaagreatdoor", sum := "d9a548974407b6e4eadd23b8cfb68bc87dd3b2a75fffd710c4f66df48486a373", func := "redraft/redraftlaw12.JournalHands", spec := "journalHands", inPlace := ["internal/reflectlite.ValueOf", "(internal/reflectlite.Value).Type", "(internal/reflectlite.Value).IsNil", "internal/reflectlite.TypeOf", "(internal/reflectlite.Value).Elem", "(internal/reflectlite.Value).Set", "internal/bytealg.IndexByteString", "internal/bytealg.IndexString", "internal/bytealg.abigen_runtime_cmpstring"], unfollowed := true, recurses := true, named := ["errors.errorType", "redraft/frame.table", "internal/bytealg.MaxLen"], apart := false, laid := [("errors.errorType", laid_errors_errorType), ("redraft/frame.table", laid_redraft_frame_table)], narrowed := true }
def JournalHandsUptoSaid : Prop := journalHandsUptoRow.holds Tryz.pinned (OpenSpec.upto journalHandsSpec)

/-- 'redraftlaw12.JournalFinds', WHERE WHAT IT READS IS OF BULK AT MOST 1048576: true; the input reads as it did. -/
def journalFindsUptoRow : OpenClaim := { program := "ytaiaghfckhgnnaagreatdoor", sum := "d9a548974407b6e4eadd23b8cfb68bc87dd3b2a75fffd710c4f66df48486a373", func := "redraft/redraftlaw12.JournalFinds", spec := "journalFinds", inPlace := ["internal/reflectlite.ValueOf", "(internal/reflectlite.Value).Type", "(internal/reflectlite.Value).IsNil", "internal/reflectlite.TypeOf", "(internal/reflectlite.Value).Elem", "(internal/reflectlite.Value).Set", "internal/bytealg.IndexByteString", "internal/bytealg.IndexString", "internal/bytealg.abigen_runtime_cmpstring"], unfollowed := true, recurses := true, named := ["errors.errorType", "redraft/frame.table", "internal/bytealg.MaxLen"], apart := false, laid := [("errors.errorType", laid_errors_errorType), ("redraft/frame.table", laid_redraft_frame_table)], narrowed := true }
def JournalFindsUptoSaid : Prop := journalFindsUptoRow.holds Tryz.pinned (OpenSpec.upto journalFindsSpec)

/-- 'redraftlaw12.JournalExact', WHERE WHAT IT READS IS OF BULK AT MOST 1048576: true; the input reads as it did. -/
def journalExactUptoRow : OpenClaim := { program := "ytaiaghfckhgnnaagreatdoor", sum := "d9a548974407b6e4eadd23b8cfb68bc87dd3b2a75fffd710c4f66df48486a373", func := "redraft/redraftlaw12.JournalExact", spec := "journalExact", inPlace := ["internal/reflectlite.ValueOf", "(internal/reflectlite.Value).Type", "(internal/reflectlite.Value).IsNil", "internal/reflectlite.TypeOf", "(internal/reflectlite.Value).Elem", "(internal/reflectlite.Value).Set", "internal/bytealg.IndexByteString", "internal/bytealg.IndexString", "internal/bytealg.abigen_runtime_cmpstring"], unfollowed := true, recurses := true, named := ["errors.errorType", "redraft/frame.table", "internal/bytealg.MaxLen"], apart := false, laid := [("errors.errorType", laid_errors_errorType), ("redraft/frame.table", laid_redraft_frame_table)], narrowed := true }
def JournalExactUptoSaid : Prop := journalExactUptoRow.holds Tryz.pinned (OpenSpec.upto journalExactSpec)

end Rows
end Go.Proofs.YtaiaghfckhgnnaaGreatDoor
