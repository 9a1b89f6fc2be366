/-
  NARROWER THAN 'FOR EVERY INPUT', by the rows' own cells (each row's printed sentence says how): ModelBounds: laid · ModelShut: laid · ModelPuts: laid.
  DERIVED. THE GIVEN ROWS OF THIS SEAT. 3 by the template 'for every input the law returns true; each argument reads behind the call as it read before'; 0 by the template 'total and deterministic' (their statements: YtaihjcpfjgpmoaaGreatDoorTotals.lean).
  GIVEN WITH THE SEED: the statements are not yours to turn. If you find one false, say at which input.
  Laid BY PROGRAM, IN A SANDBOX (cutbox-rows.mjs): the forced cells as the released guide's own fill.sh prints them over the translation 78fe4b3915122d05… (all of the seat's roots in one cut). By AI agents, Wed Nov 11 2026. No macro, syntax, notation, axiom, sorry.
-/
import Derived.Test.YtaihjcpfjgpmoaaGreatDoorChecked
import GoSem.PinnedTables
import GoSem.Claim
import GoSem.ClaimJoined
import GoSem.ClaimMapViews
import Derived.JoinedTies
import Derived.KernelRfl
namespace Go.Proofs.YtaihjcpfjgpmoaaGreatDoor
/- THE CELL 'sum', in the pinned program and in every row, IS THE sha256 OF THE DUMP (.gsa) THAT YtaihjcpfjgpmoaaGreatDoorProg.lean LOADS. Nothing in Lean hashes anything: it is a label: what it is worth is what the hold of that sum in a sandbox is worth. -/
noncomputable def Tryz.pinned : Pinned := { name := "ytaihjcpfjgpmoaagreatdoor", sum := "78fe4b3915122d0566c5b603e64f448e02eb32d949794d2629a79d010db41d59", checked := Tryz.checked }
namespace Rows
def none {H : Type} : Left H := { results := [], args := [] }

/- WHAT THE LISTED PACKAGE-LEVEL VARIABLES READ AS WHEN THE CALL BEGINS. Each datum BY PROGRAM (the guide's laid-datum.mjs) off the statement by which the dump's own 'gosem.cut.vars' lays the variable. In a bare row this is a premise. The card (YtaihjcpfjgpmoaaGreatDoorCards.lean) ties it to the program's text. -/
def laid_unicode_utf8_acceptRanges {H : Type} : DataW H := .agg [.agg [.lit (.int .u8 128), .lit (.int .u8 191)], .agg [.lit (.int .u8 160), .lit (.int .u8 191)], .agg [.lit (.int .u8 128), .lit (.int .u8 159)], .agg [.lit (.int .u8 144), .lit (.int .u8 191)], .agg [.lit (.int .u8 128), .lit (.int .u8 143)], .agg [.lit (.int .u8 0), .lit (.int .u8 0)], .agg [.lit (.int .u8 0), .lit (.int .u8 0)], .agg [.lit (.int .u8 0), .lit (.int .u8 0)], .agg [.lit (.int .u8 0), .lit (.int .u8 0)], .agg [.lit (.int .u8 0), .lit (.int .u8 0)], .agg [.lit (.int .u8 0), .lit (.int .u8 0)], .agg [.lit (.int .u8 0), .lit (.int .u8 0)], .agg [.lit (.int .u8 0), .lit (.int .u8 0)], .agg [.lit (.int .u8 0), .lit (.int .u8 0)], .agg [.lit (.int .u8 0), .lit (.int .u8 0)], .agg [.lit (.int .u8 0), .lit (.int .u8 0)]]
/-- One of Go's own tables, pinned by name: the form's constant. -/
def laid_unicode_utf8_first : DataW Unit := Go.Pinned.utf8First

/-- 'codicillaw26.ModelBounds': WHATEVER THE INPUT: true; the input reads as it did. -/
def modelBoundsSpec : ChangeSpec := { name := "modelBounds", fn := fun _ => fun
  | [d1, d2, d3] => { results := [.lit (.bool true)], args := [d1, d2, d3] }
  | _ => none }
def modelBoundsRow : OpenClaim := { program := "ytaihjcpfjgpmoaagreatdoor", sum := "78fe4b3915122d0566c5b603e64f448e02eb32d949794d2629a79d010db41d59", func := "codicil/codicillaw26.ModelBounds", spec := "modelBounds", inPlace := ["math/bits.Sub64", "math/bits.Add64", "internal/bytealg.Compare", "internal/bytealg.abigen_runtime_cmpstring", "slices.overlaps[codicil/api.Cell]"], unfollowed := true, recurses := true, named := ["unicode/utf8.first", "unicode/utf8.acceptRanges"], apart := false, laid := [("unicode/utf8.acceptRanges", laid_unicode_utf8_acceptRanges), ("unicode/utf8.first", laid_unicode_utf8_first)] }
def ModelBoundsSaid : Prop := modelBoundsRow.holds Tryz.pinned (OpenSpec.ofChange modelBoundsSpec)

/-- ITS FALSE NEIGHBOUR: 'it returns false'. Refute it at one input. -/
def modelBoundsWrong : ChangeSpec := { name := "modelBounds", fn := fun _ => fun
  | [d1, d2, d3] => { results := [.lit (.bool false)], args := [d1, d2, d3] }
  | _ => none }
def ModelBoundsWrongFalsely : Prop := modelBoundsRow.holds Tryz.pinned (OpenSpec.ofChange modelBoundsWrong)

/-- 'codicillaw26.ModelShut': WHATEVER THE INPUT: true; the input reads as it did. -/
def modelShutSpec : ChangeSpec := { name := "modelShut", fn := fun _ => fun
  | [d1, d2, d3] => { results := [.lit (.bool true)], args := [d1, d2, d3] }
  | _ => none }
def modelShutRow : OpenClaim := { program := "ytaihjcpfjgpmoaagreatdoor", sum := "78fe4b3915122d0566c5b603e64f448e02eb32d949794d2629a79d010db41d59", func := "codicil/codicillaw26.ModelShut", spec := "modelShut", inPlace := ["math/bits.Add64", "internal/bytealg.Compare", "internal/bytealg.abigen_runtime_cmpstring", "slices.overlaps[codicil/api.Cell]", "math/bits.Sub64"], unfollowed := true, recurses := true, named := ["unicode/utf8.first", "unicode/utf8.acceptRanges"], apart := false, laid := [("unicode/utf8.acceptRanges", laid_unicode_utf8_acceptRanges), ("unicode/utf8.first", laid_unicode_utf8_first)] }
def ModelShutSaid : Prop := modelShutRow.holds Tryz.pinned (OpenSpec.ofChange modelShutSpec)

/-- ITS FALSE NEIGHBOUR: 'it returns false'. Refute it at one input. -/
def modelShutWrong : ChangeSpec := { name := "modelShut", fn := fun _ => fun
  | [d1, d2, d3] => { results := [.lit (.bool false)], args := [d1, d2, d3] }
  | _ => none }
def ModelShutWrongFalsely : Prop := modelShutRow.holds Tryz.pinned (OpenSpec.ofChange modelShutWrong)

/-- 'codicillaw26.ModelPuts': WHATEVER THE INPUT: true; the input reads as it did. -/
def modelPutsSpec : ChangeSpec := { name := "modelPuts", fn := fun _ => fun
  | [d1, d2, d3, d4, d5, d6] => { results := [.lit (.bool true)], args := [d1, d2, d3, d4, d5, d6] }
  | _ => none }
def modelPutsRow : OpenClaim := { program := "ytaihjcpfjgpmoaagreatdoor", sum := "78fe4b3915122d0566c5b603e64f448e02eb32d949794d2629a79d010db41d59", func := "codicil/codicillaw26.ModelPuts", spec := "modelPuts", inPlace := ["math/bits.Sub64", "math/bits.Add64", "internal/bytealg.Compare", "internal/bytealg.abigen_runtime_cmpstring", "slices.overlaps[codicil/api.Cell]"], unfollowed := true, recurses := true, named := ["unicode/utf8.first", "unicode/utf8.acceptRanges"], apart := false, laid := [("unicode/utf8.acceptRanges", laid_unicode_utf8_acceptRanges), ("unicode/utf8.first", laid_unicode_utf8_first)] }
def ModelPutsSaid : Prop := modelPutsRow.holds Tryz.pinned (OpenSpec.ofChange modelPutsSpec)

/-- ITS FALSE NEIGHBOUR: 'it returns false'. Refute it at one input. -/
def modelPutsWrong : ChangeSpec := { name := "modelPuts", fn := fun _ => fun
  | [d1, d2, d3, d4, d5, d6] => { results := [.lit (.bool false)], args := [d1, d2, d3, d4, d5, d6] }
  | _ => none }
def ModelPutsWrongFalsely : Prop := modelPutsRow.holds Tryz.pinned (OpenSpec.ofChange modelPutsWrong)

/- THE SECOND FORM. 'bulk': how many values and letters a reading holds, each counted each time it is reached (what is shared counts as often as it is met; a slice's spare places count too). A statement '..UptoSaid' is the law's where the arguments, and the package variables that the reading takes, are together of bulk at most 1048576: NARROWER than '..Said'. Prove '..Said' where nothing that the law and all that it calls make is longer than what came in: it says more and counts as full. Else prove '..UptoSaid'. A law counts once. -/
mutual
def uptoBulk {H : Type} : DataW H → Nat
  | .lit (.string bytes) => bytes.length + 1
  | .lit _ => 1
  | .nil => 1
  | .ptr d => uptoBulk d + 1
  | .slice elems spare => uptoBulkAll elems + uptoBulkAll spare + 1
  | .agg parts => uptoBulkAll parts + 1
  | .iface _ d => uptoBulk d + 1
  | .map entries => uptoBulkEntries entries + 1
  | .held _ => 1
def uptoBulkAll {H : Type} : List (DataW H) → Nat
  | [] => 0
  | d :: r => uptoBulk d + uptoBulkAll r
def uptoBulkEntries {H : Type} : List (Lit × DataW H) → Nat
  | [] => 0
  | x :: r => uptoBulkEntry x + uptoBulkEntries r
def uptoBulkEntry {H : Type} : Lit × DataW H → Nat
  | (.string bytes, d) => bytes.length + uptoBulk d + 1
  | (_, d) => uptoBulk d + 1
 end
def uptoSmall : (H : Type) → List (DataW H) → Bool := fun _ ds => decide (uptoBulkAll ds ≤ 1048576)
def OpenSpec.upto (s : _root_.Go.ChangeSpec) : _root_.Go.OpenSpec := { _root_.Go.OpenSpec.ofChange s with cond := some uptoSmall }

/-- 'codicillaw26.ModelBounds', WHERE WHAT IT READS IS OF BULK AT MOST 1048576: true; the input reads as it did. -/
def modelBoundsUptoRow : OpenClaim := { program := "ytaihjcpfjgpmoaagreatdoor", sum := "78fe4b3915122d0566c5b603e64f448e02eb32d949794d2629a79d010db41d59", func := "codicil/codicillaw26.ModelBounds", spec := "modelBounds", inPlace := ["math/bits.Sub64", "math/bits.Add64", "internal/bytealg.Compare", "internal/bytealg.abigen_runtime_cmpstring", "slices.overlaps[codicil/api.Cell]"], unfollowed := true, recurses := true, named := ["unicode/utf8.first", "unicode/utf8.acceptRanges"], apart := false, laid := [("unicode/utf8.acceptRanges", laid_unicode_utf8_acceptRanges), ("unicode/utf8.first", laid_unicode_utf8_first)], narrowed := true }
def ModelBoundsUptoSaid : Prop := modelBoundsUptoRow.holds Tryz.pinned (OpenSpec.upto modelBoundsSpec)

/-- 'codicillaw26.ModelShut', WHERE WHAT IT READS IS OF BULK AT MOST 1048576: true; the input reads as it did. -/
def modelShutUptoRow : OpenClaim := { program := "ytaihjcpfjgpmoaagreatdoor", sum := "78fe4b3915122d0566c5b603e64f448e02eb32d949794d2629a79d010db41d59", func := "codicil/codicillaw26.ModelShut", spec := "modelShut", inPlace := ["math/bits.Add64", "internal/bytealg.Compare", "internal/bytealg.abigen_runtime_cmpstring", "slices.overlaps[codicil/api.Cell]", "math/bits.Sub64"], unfollowed := true, recurses := true, named := ["unicode/utf8.first", "unicode/utf8.acceptRanges"], apart := false, laid := [("unicode/utf8.acceptRanges", laid_unicode_utf8_acceptRanges), ("unicode/utf8.first", laid_unicode_utf8_first)], narrowed := true }
def ModelShutUptoSaid : Prop := modelShutUptoRow.holds Tryz.pinned (OpenSpec.upto modelShutSpec)

/-- 'codicillaw26.ModelPuts', WHERE WHAT IT READS IS OF BULK AT MOST 1048576: true; the input reads as it did. -/
def modelPutsUptoRow : OpenClaim := { program := "ytaihjcpfjgpmoaagreatdoor", sum := "78fe4b3915122d0566c5b603e64f448e02eb32d949794d2629a79d010db41d59", func := "codicil/codicillaw26.ModelPuts", spec := "modelPuts", inPlace := ["math/bits.Sub64", "math/bits.Add64", "internal/bytealg.Compare", "internal/bytealg.abigen_runtime_cmpstring", "slices.overlaps[codicil/api.Cell]"], unfollowed := true, recurses := true, named := ["unicode/utf8.first", "unicode/utf8.acceptRanges"], apart := false, laid := [("unicode/utf8.acceptRanges", laid_unicode_utf8_acceptRanges), ("unicode/utf8.first", laid_unicode_utf8_first)], narrowed := true }
def ModelPutsUptoSaid : Prop := modelPutsUptoRow.holds Tryz.pinned (OpenSpec.upto modelPutsSpec)

end Rows
end Go.Proofs.YtaihjcpfjgpmoaaGreatDoor
