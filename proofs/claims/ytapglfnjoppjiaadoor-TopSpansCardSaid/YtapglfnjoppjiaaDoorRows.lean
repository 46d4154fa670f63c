/-
  NARROWER THAN 'FOR EVERY INPUT', by the rows' own cells (each row's printed sentence says how): TopTorn: laid · TopSpans: laid · TopNumbered: laid · TopPosted: laid · TopRung: laid.
  DERIVED. THE GIVEN ROWS OF THIS SEAT. 5 by the template 'for every input the law returns true; each argument reads behind the call as it read before'; 0 by the template 'total and deterministic' (their statements: YtapglfnjoppjiaaDoorTotals.lean).
  GIVEN WITH THE SEED: the statements are not yours to turn. If you find one false, say at which input.
  Laid BY PROGRAM, IN A SANDBOX (cutbox-rows.mjs): the forced cells as the released guide's own fill.sh prints them over the translation f0f0afdc004a570d… (all of the seat's roots in one cut). By AI agents, Wed Nov 11 2026. No macro, syntax, notation, axiom, sorry.
-/
import Derived.Test.YtapglfnjoppjiaaDoorChecked
import GoSem.Claim
import GoSem.ClaimJoined
import GoSem.ClaimMapViews
import Derived.JoinedTies
import Derived.KernelRfl
namespace Go.Proofs.YtapglfnjoppjiaaDoor
/- THE CELL 'sum', in the pinned program and in every row, IS THE sha256 OF THE DUMP (.gsa) THAT YtapglfnjoppjiaaDoorProg.lean LOADS. Nothing in Lean hashes anything: it is a label: what it is worth is what the hold of that sum in a sandbox is worth. -/
noncomputable def Tryd.pinned : Pinned := { name := "ytapglfnjoppjiaadoor", sum := "f0f0afdc004a570da3ed896864bac50507662e2b16ca43c156e6b3aadb9cea16", checked := Tryd.checked }
namespace Rows
def none {H : Type} : Left H := { results := [], args := [] }

/- WHAT THE LISTED PACKAGE-LEVEL VARIABLES READ AS WHEN THE CALL BEGINS. Each datum BY PROGRAM (the guide's laid-datum.mjs) off the statement by which the dump's own 'gosem.cut.vars' lays the variable. In a bare row this is a premise. The card (YtapglfnjoppjiaaDoorCards.lean) ties it to the program's text. -/
def laid_lockkeeper_crc_table {H : Type} : DataW H := .agg [.lit (.int .u32 0), .lit (.int .u32 274646895), .lit (.int .u32 549293790), .lit (.int .u32 820201905), .lit (.int .u32 1098587580), .lit (.int .u32 1361435347), .lit (.int .u32 1640403810), .lit (.int .u32 1905808397), .lit (.int .u32 2197175160), .lit (.int .u32 2460548119), .lit (.int .u32 2722870694), .lit (.int .u32 2987750089), .lit (.int .u32 3280807620), .lit (.int .u32 3553878443), .lit (.int .u32 3811616794), .lit (.int .u32 4084100981)]

/-- 'lockkeepertop.TopTorn': WHATEVER THE INPUT: true; the input reads as it did. -/
def topTornSpec : ChangeSpec := { name := "topTorn", fn := fun _ => fun
  | [d1, d2, d3, d4] => { results := [.lit (.bool true)], args := [d1, d2, d3, d4] }
  | _ => none }
def topTornRow : OpenClaim := { program := "ytapglfnjoppjiaadoor", sum := "f0f0afdc004a570da3ed896864bac50507662e2b16ca43c156e6b3aadb9cea16", func := "lockkeeper/lockkeepertop.TopTorn", spec := "topTorn", inPlace := ["internal/abi.NoEscape", "internal/bytealg.MakeNoZero"], unfollowed := true, recurses := true, named := ["lockkeeper/crc.table"], apart := false, laid := [("lockkeeper/crc.table", laid_lockkeeper_crc_table)] }
def TopTornSaid : Prop := topTornRow.holds Tryd.pinned (OpenSpec.ofChange topTornSpec)

/-- ITS FALSE NEIGHBOUR: 'it returns false'. Refute it at one input. -/
def topTornWrong : ChangeSpec := { name := "topTorn", fn := fun _ => fun
  | [d1, d2, d3, d4] => { results := [.lit (.bool false)], args := [d1, d2, d3, d4] }
  | _ => none }
def TopTornWrongFalsely : Prop := topTornRow.holds Tryd.pinned (OpenSpec.ofChange topTornWrong)

/-- 'lockkeepertop.TopSpans': WHATEVER THE INPUT: true; the input reads as it did. -/
def topSpansSpec : ChangeSpec := { name := "topSpans", fn := fun _ => fun
  | [d1, d2] => { results := [.lit (.bool true)], args := [d1, d2] }
  | _ => none }
def topSpansRow : OpenClaim := { program := "ytapglfnjoppjiaadoor", sum := "f0f0afdc004a570da3ed896864bac50507662e2b16ca43c156e6b3aadb9cea16", func := "lockkeeper/lockkeepertop.TopSpans", spec := "topSpans", unfollowed := true, recurses := true, named := ["lockkeeper/crc.table"], apart := false, laid := [("lockkeeper/crc.table", laid_lockkeeper_crc_table)] }
def TopSpansSaid : Prop := topSpansRow.holds Tryd.pinned (OpenSpec.ofChange topSpansSpec)

/-- ITS FALSE NEIGHBOUR: 'it returns false'. Refute it at one input. -/
def topSpansWrong : ChangeSpec := { name := "topSpans", fn := fun _ => fun
  | [d1, d2] => { results := [.lit (.bool false)], args := [d1, d2] }
  | _ => none }
def TopSpansWrongFalsely : Prop := topSpansRow.holds Tryd.pinned (OpenSpec.ofChange topSpansWrong)

/-- 'lockkeepertop.TopNumbered': WHATEVER THE INPUT: true; the input reads as it did. -/
def topNumberedSpec : ChangeSpec := { name := "topNumbered", fn := fun _ => fun
  | [d1, d2] => { results := [.lit (.bool true)], args := [d1, d2] }
  | _ => none }
def topNumberedRow : OpenClaim := { program := "ytapglfnjoppjiaadoor", sum := "f0f0afdc004a570da3ed896864bac50507662e2b16ca43c156e6b3aadb9cea16", func := "lockkeeper/lockkeepertop.TopNumbered", spec := "topNumbered", unfollowed := true, recurses := true, named := ["lockkeeper/crc.table"], apart := false, laid := [("lockkeeper/crc.table", laid_lockkeeper_crc_table)] }
def TopNumberedSaid : Prop := topNumberedRow.holds Tryd.pinned (OpenSpec.ofChange topNumberedSpec)

/-- ITS FALSE NEIGHBOUR: 'it returns false'. Refute it at one input. -/
def topNumberedWrong : ChangeSpec := { name := "topNumbered", fn := fun _ => fun
  | [d1, d2] => { results := [.lit (.bool false)], args := [d1, d2] }
  | _ => none }
def TopNumberedWrongFalsely : Prop := topNumberedRow.holds Tryd.pinned (OpenSpec.ofChange topNumberedWrong)

/-- 'lockkeepertop.TopPosted': WHATEVER THE INPUT: true; the input reads as it did. -/
def topPostedSpec : ChangeSpec := { name := "topPosted", fn := fun _ => fun
  | [d] => { results := [.lit (.bool true)], args := [d] }
  | _ => none }
def topPostedRow : OpenClaim := { program := "ytapglfnjoppjiaadoor", sum := "f0f0afdc004a570da3ed896864bac50507662e2b16ca43c156e6b3aadb9cea16", func := "lockkeeper/lockkeepertop.TopPosted", spec := "topPosted", inPlace := ["internal/abi.NoEscape", "internal/bytealg.MakeNoZero"], unfollowed := true, recurses := true, named := ["lockkeeper/crc.table"], apart := false, laid := [("lockkeeper/crc.table", laid_lockkeeper_crc_table)] }
def TopPostedSaid : Prop := topPostedRow.holds Tryd.pinned (OpenSpec.ofChange topPostedSpec)

/-- ITS FALSE NEIGHBOUR: 'it returns false'. Refute it at one input. -/
def topPostedWrong : ChangeSpec := { name := "topPosted", fn := fun _ => fun
  | [d] => { results := [.lit (.bool false)], args := [d] }
  | _ => none }
def TopPostedWrongFalsely : Prop := topPostedRow.holds Tryd.pinned (OpenSpec.ofChange topPostedWrong)

/-- 'lockkeepertop.TopRung': WHATEVER THE INPUT: true; the input reads as it did. -/
def topRungSpec : ChangeSpec := { name := "topRung", fn := fun _ => fun
  | [d] => { results := [.lit (.bool true)], args := [d] }
  | _ => none }
def topRungRow : OpenClaim := { program := "ytapglfnjoppjiaadoor", sum := "f0f0afdc004a570da3ed896864bac50507662e2b16ca43c156e6b3aadb9cea16", func := "lockkeeper/lockkeepertop.TopRung", spec := "topRung", unfollowed := true, recurses := true, named := ["lockkeeper/crc.table"], apart := false, laid := [("lockkeeper/crc.table", laid_lockkeeper_crc_table)] }
def TopRungSaid : Prop := topRungRow.holds Tryd.pinned (OpenSpec.ofChange topRungSpec)

/-- ITS FALSE NEIGHBOUR: 'it returns false'. Refute it at one input. -/
def topRungWrong : ChangeSpec := { name := "topRung", fn := fun _ => fun
  | [d] => { results := [.lit (.bool false)], args := [d] }
  | _ => none }
def TopRungWrongFalsely : Prop := topRungRow.holds Tryd.pinned (OpenSpec.ofChange topRungWrong)

/- THE SECOND FORM. 'bulk': how many values and letters a reading holds, each counted each time it is reached (what is shared counts as often as it is met; a slice's spare places count too). A statement '..UptoSaid' is the law's where the arguments, and the package variables that the reading takes, are together of bulk at most 1048576: NARROWER than '..Said'. Prove '..Said' where nothing that the law and all that it calls make is longer than what came in: it says more and counts as full. Else prove '..UptoSaid'. A law counts once. -/
mutual
def uptoBulk {H : Type} : DataW H → Nat
  | .lit (.string bytes) => bytes.length + 1
  | .lit _ => 1
  | .nil => 1
  | .ptr d => uptoBulk d + 1
  | .slice elems spare => uptoBulkAll elems + uptoBulkAll spare + 1
  | .agg parts => uptoBulkAll parts + 1
  | .iface _ d => uptoBulk d + 1
  | .map entries => uptoBulkEntries entries + 1
  | .held _ => 1
def uptoBulkAll {H : Type} : List (DataW H) → Nat
  | [] => 0
  | d :: r => uptoBulk d + uptoBulkAll r
def uptoBulkEntries {H : Type} : List (Lit × DataW H) → Nat
  | [] => 0
  | x :: r => uptoBulkEntry x + uptoBulkEntries r
def uptoBulkEntry {H : Type} : Lit × DataW H → Nat
  | (.string bytes, d) => bytes.length + uptoBulk d + 1
  | (_, d) => uptoBulk d + 1
 end
def uptoSmall : (H : Type) → List (DataW H) → Bool := fun _ ds => decide (uptoBulkAll ds ≤ 1048576)
def OpenSpec.upto (s : _root_.Go.ChangeSpec) : _root_.Go.OpenSpec := { _root_.Go.OpenSpec.ofChange s with cond := some uptoSmall }

/-- 'lockkeepertop.TopTorn', WHERE WHAT IT READS IS OF BULK AT MOST 1048576: true; the input reads as it did. -/
def topTornUptoRow : OpenClaim := { program := "ytapglfnjoppjiaadoor", sum := "f0f0afdc004a570da3ed896864bac50507662e2b16ca43c156e6b3aadb9cea16", func := "lockkeeper/lockkeepertop.TopTorn", spec := "topTorn", inPlace := ["internal/abi.NoEscape", "internal/bytealg.MakeNoZero"], unfollowed := true, recurses := true, named := ["lockkeeper/crc.table"], apart := false, laid := [("lockkeeper/crc.table", laid_lockkeeper_crc_table)], narrowed := true }
def TopTornUptoSaid : Prop := topTornUptoRow.holds Tryd.pinned (OpenSpec.upto topTornSpec)

/-- 'lockkeepertop.TopSpans', WHERE WHAT IT READS IS OF BULK AT MOST 1048576: true; the input reads as it did. -/
def topSpansUptoRow : OpenClaim := { program := "ytapglfnjoppjiaadoor", sum := "f0f0afdc004a570da3ed896864bac50507662e2b16ca43c156e6b3aadb9cea16", func := "lockkeeper/lockkeepertop.TopSpans", spec := "topSpans", unfollowed := true, recurses := true, named := ["lockkeeper/crc.table"], apart := false, laid := [("lockkeeper/crc.table", laid_lockkeeper_crc_table)], narrowed := true }
def TopSpansUptoSaid : Prop := topSpansUptoRow.holds Tryd.pinned (OpenSpec.upto topSpansSpec)

/-- 'lockkeepertop.TopNumbered', WHERE WHAT IT READS IS OF BULK AT MOST 1048576: true; the input reads as it did. -/
def topNumberedUptoRow : OpenClaim := { program := "ytapglfnjoppjiaadoor", sum := "f0f0afdc004a570da3ed896864bac50507662e2b16ca43c156e6b3aadb9cea16", func := "lockkeeper/lockkeepertop.TopNumbered", spec := "topNumbered", unfollowed := true, recurses := true, named := ["lockkeeper/crc.table"], apart := false, laid := [("lockkeeper/crc.table", laid_lockkeeper_crc_table)], narrowed := true }
def TopNumberedUptoSaid : Prop := topNumberedUptoRow.holds Tryd.pinned (OpenSpec.upto topNumberedSpec)

/-- 'lockkeepertop.TopPosted', WHERE WHAT IT READS IS OF BULK AT MOST 1048576: true; the input reads as it did. -/
def topPostedUptoRow : OpenClaim := { program := "ytapglfnjoppjiaadoor", sum := "f0f0afdc004a570da3ed896864bac50507662e2b16ca43c156e6b3aadb9cea16", func := "lockkeeper/lockkeepertop.TopPosted", spec := "topPosted", inPlace := ["internal/abi.NoEscape", "internal/bytealg.MakeNoZero"], unfollowed := true, recurses := true, named := ["lockkeeper/crc.table"], apart := false, laid := [("lockkeeper/crc.table", laid_lockkeeper_crc_table)], narrowed := true }
def TopPostedUptoSaid : Prop := topPostedUptoRow.holds Tryd.pinned (OpenSpec.upto topPostedSpec)

/-- 'lockkeepertop.TopRung', WHERE WHAT IT READS IS OF BULK AT MOST 1048576: true; the input reads as it did. -/
def topRungUptoRow : OpenClaim := { program := "ytapglfnjoppjiaadoor", sum := "f0f0afdc004a570da3ed896864bac50507662e2b16ca43c156e6b3aadb9cea16", func := "lockkeeper/lockkeepertop.TopRung", spec := "topRung", unfollowed := true, recurses := true, named := ["lockkeeper/crc.table"], apart := false, laid := [("lockkeeper/crc.table", laid_lockkeeper_crc_table)], narrowed := true }
def TopRungUptoSaid : Prop := topRungUptoRow.holds Tryd.pinned (OpenSpec.upto topRungSpec)

end Rows
end Go.Proofs.YtapglfnjoppjiaaDoor
