/-
  DERIVED. GIVEN WITH THE SEED: THE CARDS: each row of YtimaobccedeafaaGreatDoorRows.lean that lists a variable, with what it lists TIED to the program's text (the seventh form; the later family's looks); each row that meets fmt, with fmt's text TOLD by the authors' own Lean function (tested against real Go, not proved from fmt's source: count such statements apart). THE CARD IS WHAT COUNTS. Prove the row's statement (the work); the ties are given (YtimaobccedeafaaGreatDoorTie.lean); close each card by the builder's one call (the guide's Derived/Test/ToyasCard.lean, 'card_holds'). Laid BY PROGRAM, IN A SANDBOX (cutbox-door.mjs). By AI agents, Wed Nov 11 2026. No macro, syntax, notation, axiom, sorry.
-/
import Derived.Test.YtimaobccedeafaaGreatDoorRows
import GoSem.ClaimSeven
namespace Go.Proofs.YtimaobccedeafaaGreatDoor
namespace Rows

/-- THE TIED CARD OF 'codicillaw20.StateExact'. -/
def stateExactCard : Claim7 := { stood := { row := stateExactRow, standIns := [], harness := (true, "0c72d5ce77b1d6974d4d835cee18d8cb602a2d0c839a2fba5965fa67e431c196"), looks := false }, kinds := [], alts := [], laidByText := true, laidKinds := [.data, .pinned], laidTests := true, laidLooks := .later }
def StateExactCardSaid : Prop := Claim7.holds Tryz.pinned (.plain (OpenSpec.ofChange stateExactSpec)) stateExactCard

/-- THE TIED CARD OF 'codicillaw20.StateSame'. -/
def stateSameCard : Claim7 := { stood := { row := stateSameRow, standIns := [], harness := (true, "0c72d5ce77b1d6974d4d835cee18d8cb602a2d0c839a2fba5965fa67e431c196"), looks := false }, kinds := [], alts := [], laidByText := true, laidKinds := [.data, .pinned], laidTests := true, laidLooks := .later }
def StateSameCardSaid : Prop := Claim7.holds Tryz.pinned (.plain (OpenSpec.ofChange stateSameSpec)) stateSameCard

/-- THE TIED CARD OF 'codicillaw20.StateTells'. -/
def stateTellsCard : Claim7 := { stood := { row := stateTellsRow, standIns := [], harness := (true, "0c72d5ce77b1d6974d4d835cee18d8cb602a2d0c839a2fba5965fa67e431c196"), looks := false }, kinds := [], alts := [], laidByText := true, laidKinds := [.data, .pinned], laidTests := true, laidLooks := .later }
def StateTellsCardSaid : Prop := Claim7.holds Tryz.pinned (.plain (OpenSpec.ofChange stateTellsSpec)) stateTellsCard

/-- THE TIED CARD OF 'codicillaw20.StateAuthors'. -/
def stateAuthorsCard : Claim7 := { stood := { row := stateAuthorsRow, standIns := [], harness := (true, "0c72d5ce77b1d6974d4d835cee18d8cb602a2d0c839a2fba5965fa67e431c196"), looks := false }, kinds := [], alts := [], laidByText := true, laidKinds := [.data, .pinned], laidTests := true, laidLooks := .later }
def StateAuthorsCardSaid : Prop := Claim7.holds Tryz.pinned (.plain (OpenSpec.ofChange stateAuthorsSpec)) stateAuthorsCard

/-- THE TIED CARD OF 'codicillaw20.StateGrows'. -/
def stateGrowsCard : Claim7 := { stood := { row := stateGrowsRow, standIns := [], harness := (true, "0c72d5ce77b1d6974d4d835cee18d8cb602a2d0c839a2fba5965fa67e431c196"), looks := false }, kinds := [], alts := [], laidByText := true, laidKinds := [.data, .pinned], laidTests := true, laidLooks := .later }
def StateGrowsCardSaid : Prop := Claim7.holds Tryz.pinned (.plain (OpenSpec.ofChange stateGrowsSpec)) stateGrowsCard

/-- THE TIED CARD OF 'codicillaw20.StateItems'. -/
def stateItemsCard : Claim7 := { stood := { row := stateItemsRow, standIns := [], harness := (true, "0c72d5ce77b1d6974d4d835cee18d8cb602a2d0c839a2fba5965fa67e431c196"), looks := false }, kinds := [], alts := [], laidByText := true, laidKinds := [.data, .pinned], laidTests := true, laidLooks := .later }
def StateItemsCardSaid : Prop := Claim7.holds Tryz.pinned (.plain (OpenSpec.ofChange stateItemsSpec)) stateItemsCard

/-- THE SECOND FORM's CARD OF 'codicillaw20.StateExact'. -/
def stateExactUptoCard : Claim7 := { stood := { row := stateExactUptoRow, standIns := [], harness := (true, "0c72d5ce77b1d6974d4d835cee18d8cb602a2d0c839a2fba5965fa67e431c196"), looks := false }, kinds := [], alts := [], laidByText := true, laidKinds := [.data, .pinned], laidTests := true, laidLooks := .later }
def StateExactUptoCardSaid : Prop := Claim7.holds Tryz.pinned (.plain (OpenSpec.upto stateExactSpec)) stateExactUptoCard

/-- THE SECOND FORM's CARD OF 'codicillaw20.StateSame'. -/
def stateSameUptoCard : Claim7 := { stood := { row := stateSameUptoRow, standIns := [], harness := (true, "0c72d5ce77b1d6974d4d835cee18d8cb602a2d0c839a2fba5965fa67e431c196"), looks := false }, kinds := [], alts := [], laidByText := true, laidKinds := [.data, .pinned], laidTests := true, laidLooks := .later }
def StateSameUptoCardSaid : Prop := Claim7.holds Tryz.pinned (.plain (OpenSpec.upto stateSameSpec)) stateSameUptoCard

/-- THE SECOND FORM's CARD OF 'codicillaw20.StateTells'. -/
def stateTellsUptoCard : Claim7 := { stood := { row := stateTellsUptoRow, standIns := [], harness := (true, "0c72d5ce77b1d6974d4d835cee18d8cb602a2d0c839a2fba5965fa67e431c196"), looks := false }, kinds := [], alts := [], laidByText := true, laidKinds := [.data, .pinned], laidTests := true, laidLooks := .later }
def StateTellsUptoCardSaid : Prop := Claim7.holds Tryz.pinned (.plain (OpenSpec.upto stateTellsSpec)) stateTellsUptoCard

/-- THE SECOND FORM's CARD OF 'codicillaw20.StateAuthors'. -/
def stateAuthorsUptoCard : Claim7 := { stood := { row := stateAuthorsUptoRow, standIns := [], harness := (true, "0c72d5ce77b1d6974d4d835cee18d8cb602a2d0c839a2fba5965fa67e431c196"), looks := false }, kinds := [], alts := [], laidByText := true, laidKinds := [.data, .pinned], laidTests := true, laidLooks := .later }
def StateAuthorsUptoCardSaid : Prop := Claim7.holds Tryz.pinned (.plain (OpenSpec.upto stateAuthorsSpec)) stateAuthorsUptoCard

/-- THE SECOND FORM's CARD OF 'codicillaw20.StateGrows'. -/
def stateGrowsUptoCard : Claim7 := { stood := { row := stateGrowsUptoRow, standIns := [], harness := (true, "0c72d5ce77b1d6974d4d835cee18d8cb602a2d0c839a2fba5965fa67e431c196"), looks := false }, kinds := [], alts := [], laidByText := true, laidKinds := [.data, .pinned], laidTests := true, laidLooks := .later }
def StateGrowsUptoCardSaid : Prop := Claim7.holds Tryz.pinned (.plain (OpenSpec.upto stateGrowsSpec)) stateGrowsUptoCard

/-- THE SECOND FORM's CARD OF 'codicillaw20.StateItems'. -/
def stateItemsUptoCard : Claim7 := { stood := { row := stateItemsUptoRow, standIns := [], harness := (true, "0c72d5ce77b1d6974d4d835cee18d8cb602a2d0c839a2fba5965fa67e431c196"), looks := false }, kinds := [], alts := [], laidByText := true, laidKinds := [.data, .pinned], laidTests := true, laidLooks := .later }
def StateItemsUptoCardSaid : Prop := Claim7.holds Tryz.pinned (.plain (OpenSpec.upto stateItemsSpec)) stateItemsUptoCard
end Rows
end Go.Proofs.YtimaobccedeafaaGreatDoor
