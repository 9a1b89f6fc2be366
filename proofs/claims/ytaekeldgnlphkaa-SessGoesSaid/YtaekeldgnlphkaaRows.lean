/-
  No cell of these rows narrows 'for every input' (looked for: loops, veiled, ifaces, maps, wideKeys, modest, calm, conditions, laid).
  DERIVED. THE GIVEN ROWS OF THIS SEAT. 4 by the template 'for every input the law returns true; each argument reads behind the call as it read before'; 0 by the template 'total and deterministic' (their statements: YtaekeldgnlphkaaTotals.lean).
  GIVEN WITH THE SEED: the statements are not yours to turn. If you find one false, say at which input.
  Laid BY PROGRAM, IN A SANDBOX (cutbox-rows.mjs): the forced cells as the released guide's own fill.sh prints them over the translation 5c8b20cfef766539… (all of the seat's roots in one cut). By AI agents, Wed Nov 11 2026. No macro, syntax, notation, axiom, sorry.
-/
import Derived.Test.YtaekeldgnlphkaaChecked
import GoSem.Claim
import GoSem.ClaimJoined
import GoSem.ClaimMapViews
import Derived.JoinedTies
import Derived.KernelRfl
namespace Go.Proofs.Ytaekeldgnlphkaa
/- THE CELL 'sum', in the pinned program and in every row, IS THE sha256 OF THE DUMP (.gsa) THAT YtaekeldgnlphkaaProg.lean LOADS. Nothing in Lean hashes anything: it is a label: what it is worth is what the hold of that sum in a sandbox is worth. -/
noncomputable def Try.pinned : Pinned := { name := "ytaekeldgnlphkaa", sum := "5c8b20cfef766539a2e0420b12d8fec2a9c06a879342da36444165cedfc5ec78", checked := Try.checked }
namespace Rows
def none {H : Type} : Left H := { results := [], args := [] }

/-- 'codicillaw21.SessQuiet': WHATEVER THE INPUT: true; the input reads as it did. -/
def sessQuietSpec : ChangeSpec := { name := "sessQuiet", fn := fun _ => fun
  | [d] => { results := [.lit (.bool true)], args := [d] }
  | _ => none }
def sessQuietRow : OpenClaim := { program := "ytaekeldgnlphkaa", sum := "5c8b20cfef766539a2e0420b12d8fec2a9c06a879342da36444165cedfc5ec78", func := "codicil/codicillaw21.SessQuiet", spec := "sessQuiet", apart := false }
def SessQuietSaid : Prop := sessQuietRow.holds Try.pinned (OpenSpec.ofChange sessQuietSpec)

/-- ITS FALSE NEIGHBOUR: 'it returns false'. Refute it at one input. -/
def sessQuietWrong : ChangeSpec := { name := "sessQuiet", fn := fun _ => fun
  | [d] => { results := [.lit (.bool false)], args := [d] }
  | _ => none }
def SessQuietWrongFalsely : Prop := sessQuietRow.holds Try.pinned (OpenSpec.ofChange sessQuietWrong)

/-- 'codicillaw21.SessExact': WHATEVER THE INPUT: true; the input reads as it did. -/
def sessExactSpec : ChangeSpec := { name := "sessExact", fn := fun _ => fun
  | [d] => { results := [.lit (.bool true)], args := [d] }
  | _ => none }
def sessExactRow : OpenClaim := { program := "ytaekeldgnlphkaa", sum := "5c8b20cfef766539a2e0420b12d8fec2a9c06a879342da36444165cedfc5ec78", func := "codicil/codicillaw21.SessExact", spec := "sessExact", apart := false }
def SessExactSaid : Prop := sessExactRow.holds Try.pinned (OpenSpec.ofChange sessExactSpec)

/-- ITS FALSE NEIGHBOUR: 'it returns false'. Refute it at one input. -/
def sessExactWrong : ChangeSpec := { name := "sessExact", fn := fun _ => fun
  | [d] => { results := [.lit (.bool false)], args := [d] }
  | _ => none }
def SessExactWrongFalsely : Prop := sessExactRow.holds Try.pinned (OpenSpec.ofChange sessExactWrong)

/-- 'codicillaw21.SessGoes': WHATEVER THE INPUT: true; the input reads as it did. -/
def sessGoesSpec : ChangeSpec := { name := "sessGoes", fn := fun _ => fun
  | [d1, d2] => { results := [.lit (.bool true)], args := [d1, d2] }
  | _ => none }
def sessGoesRow : OpenClaim := { program := "ytaekeldgnlphkaa", sum := "5c8b20cfef766539a2e0420b12d8fec2a9c06a879342da36444165cedfc5ec78", func := "codicil/codicillaw21.SessGoes", spec := "sessGoes", apart := false }
def SessGoesSaid : Prop := sessGoesRow.holds Try.pinned (OpenSpec.ofChange sessGoesSpec)

/-- ITS FALSE NEIGHBOUR: 'it returns false'. Refute it at one input. -/
def sessGoesWrong : ChangeSpec := { name := "sessGoes", fn := fun _ => fun
  | [d1, d2] => { results := [.lit (.bool false)], args := [d1, d2] }
  | _ => none }
def SessGoesWrongFalsely : Prop := sessGoesRow.holds Try.pinned (OpenSpec.ofChange sessGoesWrong)

/-- 'codicillaw21.SessHears': WHATEVER THE INPUT: true; the input reads as it did. -/
def sessHearsSpec : ChangeSpec := { name := "sessHears", fn := fun _ => fun
  | [d1, d2] => { results := [.lit (.bool true)], args := [d1, d2] }
  | _ => none }
def sessHearsRow : OpenClaim := { program := "ytaekeldgnlphkaa", sum := "5c8b20cfef766539a2e0420b12d8fec2a9c06a879342da36444165cedfc5ec78", func := "codicil/codicillaw21.SessHears", spec := "sessHears", apart := false }
def SessHearsSaid : Prop := sessHearsRow.holds Try.pinned (OpenSpec.ofChange sessHearsSpec)

/-- ITS FALSE NEIGHBOUR: 'it returns false'. Refute it at one input. -/
def sessHearsWrong : ChangeSpec := { name := "sessHears", fn := fun _ => fun
  | [d1, d2] => { results := [.lit (.bool false)], args := [d1, d2] }
  | _ => none }
def SessHearsWrongFalsely : Prop := sessHearsRow.holds Try.pinned (OpenSpec.ofChange sessHearsWrong)

/- THE SECOND FORM. 'bulk': how many values and letters a reading holds, each counted each time it is reached (what is shared counts as often as it is met; a slice's spare places count too). A statement '..UptoSaid' is the law's where the arguments, and the package variables that the reading takes, are together of bulk at most 1048576: NARROWER than '..Said'. Prove '..Said' where nothing that the law and all that it calls make is longer than what came in: it says more and counts as full. Else prove '..UptoSaid'. A law counts once. -/
mutual
def uptoBulk {H : Type} : DataW H → Nat
  | .lit (.string bytes) => bytes.length + 1
  | .lit _ => 1
  | .nil => 1
  | .ptr d => uptoBulk d + 1
  | .slice elems spare => uptoBulkAll elems + uptoBulkAll spare + 1
  | .agg parts => uptoBulkAll parts + 1
  | .iface _ d => uptoBulk d + 1
  | .map entries => uptoBulkEntries entries + 1
  | .held _ => 1
def uptoBulkAll {H : Type} : List (DataW H) → Nat
  | [] => 0
  | d :: r => uptoBulk d + uptoBulkAll r
def uptoBulkEntries {H : Type} : List (Lit × DataW H) → Nat
  | [] => 0
  | x :: r => uptoBulkEntry x + uptoBulkEntries r
def uptoBulkEntry {H : Type} : Lit × DataW H → Nat
  | (.string bytes, d) => bytes.length + uptoBulk d + 1
  | (_, d) => uptoBulk d + 1
 end
def uptoSmall : (H : Type) → List (DataW H) → Bool := fun _ ds => decide (uptoBulkAll ds ≤ 1048576)
def OpenSpec.upto (s : _root_.Go.ChangeSpec) : _root_.Go.OpenSpec := { _root_.Go.OpenSpec.ofChange s with cond := some uptoSmall }

/-- 'codicillaw21.SessQuiet', WHERE WHAT IT READS IS OF BULK AT MOST 1048576: true; the input reads as it did. -/
def sessQuietUptoRow : OpenClaim := { program := "ytaekeldgnlphkaa", sum := "5c8b20cfef766539a2e0420b12d8fec2a9c06a879342da36444165cedfc5ec78", func := "codicil/codicillaw21.SessQuiet", spec := "sessQuiet", apart := false, narrowed := true }
def SessQuietUptoSaid : Prop := sessQuietUptoRow.holds Try.pinned (OpenSpec.upto sessQuietSpec)

/-- 'codicillaw21.SessExact', WHERE WHAT IT READS IS OF BULK AT MOST 1048576: true; the input reads as it did. -/
def sessExactUptoRow : OpenClaim := { program := "ytaekeldgnlphkaa", sum := "5c8b20cfef766539a2e0420b12d8fec2a9c06a879342da36444165cedfc5ec78", func := "codicil/codicillaw21.SessExact", spec := "sessExact", apart := false, narrowed := true }
def SessExactUptoSaid : Prop := sessExactUptoRow.holds Try.pinned (OpenSpec.upto sessExactSpec)

/-- 'codicillaw21.SessGoes', WHERE WHAT IT READS IS OF BULK AT MOST 1048576: true; the input reads as it did. -/
def sessGoesUptoRow : OpenClaim := { program := "ytaekeldgnlphkaa", sum := "5c8b20cfef766539a2e0420b12d8fec2a9c06a879342da36444165cedfc5ec78", func := "codicil/codicillaw21.SessGoes", spec := "sessGoes", apart := false, narrowed := true }
def SessGoesUptoSaid : Prop := sessGoesUptoRow.holds Try.pinned (OpenSpec.upto sessGoesSpec)

/-- 'codicillaw21.SessHears', WHERE WHAT IT READS IS OF BULK AT MOST 1048576: true; the input reads as it did. -/
def sessHearsUptoRow : OpenClaim := { program := "ytaekeldgnlphkaa", sum := "5c8b20cfef766539a2e0420b12d8fec2a9c06a879342da36444165cedfc5ec78", func := "codicil/codicillaw21.SessHears", spec := "sessHears", apart := false, narrowed := true }
def SessHearsUptoSaid : Prop := sessHearsUptoRow.holds Try.pinned (OpenSpec.upto sessHearsSpec)

end Rows
end Go.Proofs.Ytaekeldgnlphkaa
