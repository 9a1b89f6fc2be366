/-
  DERIVED. GIVEN WITH THE SEED: THE CARDS: each row of YtaihjcpfjgpmoaaGreatDoorRows.lean that lists a variable, with what it lists TIED to the program's text (the seventh form; the later family's looks); each row that meets fmt, with fmt's text TOLD by the authors' own Lean function (tested against real Go, not proved from fmt's source: count such statements apart). THE CARD IS WHAT COUNTS. Prove the row's statement (the work); the ties are given (YtaihjcpfjgpmoaaGreatDoorTie.lean); close each card by the builder's one call (the guide's Derived/Test/ToyasCard.lean, 'card_holds'). Laid BY PROGRAM, IN A SANDBOX (cutbox-door.mjs). By AI agents, Wed Nov 11 2026. No macro, syntax, notation, axiom, sorry.
-/
import Derived.Test.YtaihjcpfjgpmoaaGreatDoorRows
import GoSem.ClaimSeven
namespace Go.Proofs.YtaihjcpfjgpmoaaGreatDoor
namespace Rows

/-- THE TIED CARD OF 'codicillaw26.ModelBounds'. -/
def modelBoundsCard : Claim7 := { stood := { row := modelBoundsRow, standIns := [], harness := (true, "029827bed9e42a5d8abe96eef220bce12d80a904329115cf0b33b0ab6676e080"), looks := false }, kinds := [], alts := [], laidByText := true, laidKinds := [.data, .pinned], laidTests := true, laidLooks := .later }
def ModelBoundsCardSaid : Prop := Claim7.holds Tryz.pinned (.plain (OpenSpec.ofChange modelBoundsSpec)) modelBoundsCard

/-- THE TIED CARD OF 'codicillaw26.ModelShut'. -/
def modelShutCard : Claim7 := { stood := { row := modelShutRow, standIns := [], harness := (true, "029827bed9e42a5d8abe96eef220bce12d80a904329115cf0b33b0ab6676e080"), looks := false }, kinds := [], alts := [], laidByText := true, laidKinds := [.data, .pinned], laidTests := true, laidLooks := .later }
def ModelShutCardSaid : Prop := Claim7.holds Tryz.pinned (.plain (OpenSpec.ofChange modelShutSpec)) modelShutCard

/-- THE TIED CARD OF 'codicillaw26.ModelPuts'. -/
def modelPutsCard : Claim7 := { stood := { row := modelPutsRow, standIns := [], harness := (true, "029827bed9e42a5d8abe96eef220bce12d80a904329115cf0b33b0ab6676e080"), looks := false }, kinds := [], alts := [], laidByText := true, laidKinds := [.data, .pinned], laidTests := true, laidLooks := .later }
def ModelPutsCardSaid : Prop := Claim7.holds Tryz.pinned (.plain (OpenSpec.ofChange modelPutsSpec)) modelPutsCard

/-- THE SECOND FORM's CARD OF 'codicillaw26.ModelBounds'. -/
def modelBoundsUptoCard : Claim7 := { stood := { row := modelBoundsUptoRow, standIns := [], harness := (true, "029827bed9e42a5d8abe96eef220bce12d80a904329115cf0b33b0ab6676e080"), looks := false }, kinds := [], alts := [], laidByText := true, laidKinds := [.data, .pinned], laidTests := true, laidLooks := .later }
def ModelBoundsUptoCardSaid : Prop := Claim7.holds Tryz.pinned (.plain (OpenSpec.upto modelBoundsSpec)) modelBoundsUptoCard

/-- THE SECOND FORM's CARD OF 'codicillaw26.ModelShut'. -/
def modelShutUptoCard : Claim7 := { stood := { row := modelShutUptoRow, standIns := [], harness := (true, "029827bed9e42a5d8abe96eef220bce12d80a904329115cf0b33b0ab6676e080"), looks := false }, kinds := [], alts := [], laidByText := true, laidKinds := [.data, .pinned], laidTests := true, laidLooks := .later }
def ModelShutUptoCardSaid : Prop := Claim7.holds Tryz.pinned (.plain (OpenSpec.upto modelShutSpec)) modelShutUptoCard

/-- THE SECOND FORM's CARD OF 'codicillaw26.ModelPuts'. -/
def modelPutsUptoCard : Claim7 := { stood := { row := modelPutsUptoRow, standIns := [], harness := (true, "029827bed9e42a5d8abe96eef220bce12d80a904329115cf0b33b0ab6676e080"), looks := false }, kinds := [], alts := [], laidByText := true, laidKinds := [.data, .pinned], laidTests := true, laidLooks := .later }
def ModelPutsUptoCardSaid : Prop := Claim7.holds Tryz.pinned (.plain (OpenSpec.upto modelPutsSpec)) modelPutsUptoCard
end Rows
end Go.Proofs.YtaihjcpfjgpmoaaGreatDoor
