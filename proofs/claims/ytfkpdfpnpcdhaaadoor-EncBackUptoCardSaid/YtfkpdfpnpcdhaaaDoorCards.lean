/-
  DERIVED. GIVEN WITH THE SEED: THE CARDS: each row of YtfkpdfpnpcdhaaaDoorRows.lean that lists a variable, with what it lists TIED to the program's text (the seventh form; the later family's looks); each row that meets fmt, with fmt's text TOLD by the authors' own Lean function (tested against real Go, not proved from fmt's source: count such statements apart). THE CARD IS WHAT COUNTS. Prove the row's statement (the work); the ties are given (YtfkpdfpnpcdhaaaDoorTie.lean); close each card by the builder's one call (the guide's Derived/Test/ToyasCard.lean, 'card_holds'). Laid BY PROGRAM, IN A SANDBOX (cutbox-door.mjs). By AI agents, Wed Nov 11 2026. No macro, syntax, notation, axiom, sorry.
-/
import Derived.Test.YtfkpdfpnpcdhaaaDoorRows
import GoSem.ClaimSeven
namespace Go.Proofs.YtfkpdfpnpcdhaaaDoor
namespace Rows

/-- THE TIED CARD OF 'stowagelaw0.NamesNumbers'. -/
def namesNumbersCard : Claim7 := { stood := { row := namesNumbersRow, standIns := [], harness := (true, "99b297151d89d77a2ef0b0db519d46e5351a242758353801bf1e68bfb93659db"), looks := false }, kinds := [], alts := [], laidByText := true, laidKinds := [.data, .data, .data], laidTests := true, laidLooks := .later }
def NamesNumbersCardSaid : Prop := Claim7.holds Tryd.pinned (.plain (OpenSpec.ofChange namesNumbersSpec)) namesNumbersCard

/-- THE TIED CARD OF 'stowagelaw1.EncNumbers'. -/
def encNumbersCard : Claim7 := { stood := { row := encNumbersRow, standIns := [], harness := (true, "99b297151d89d77a2ef0b0db519d46e5351a242758353801bf1e68bfb93659db"), looks := false }, kinds := [], alts := [], laidByText := true, laidKinds := [.data, .data, .data], laidTests := true, laidLooks := .later }
def EncNumbersCardSaid : Prop := Claim7.holds Tryd.pinned (.plain (OpenSpec.ofChange encNumbersSpec)) encNumbersCard

/-- THE TIED CARD OF 'stowagelaw1.EncBack'. -/
def encBackCard : Claim7 := { stood := { row := encBackRow, standIns := [], harness := (true, "99b297151d89d77a2ef0b0db519d46e5351a242758353801bf1e68bfb93659db"), looks := false }, kinds := [], alts := [], laidByText := true, laidKinds := [.data, .data, .data], laidTests := true, laidLooks := .later }
def EncBackCardSaid : Prop := Claim7.holds Tryd.pinned (.plain (OpenSpec.ofChange encBackSpec)) encBackCard

/-- THE SECOND FORM's CARD OF 'stowagelaw0.NamesNumbers'. -/
def namesNumbersUptoCard : Claim7 := { stood := { row := namesNumbersUptoRow, standIns := [], harness := (true, "99b297151d89d77a2ef0b0db519d46e5351a242758353801bf1e68bfb93659db"), looks := false }, kinds := [], alts := [], laidByText := true, laidKinds := [.data, .data, .data], laidTests := true, laidLooks := .later }
def NamesNumbersUptoCardSaid : Prop := Claim7.holds Tryd.pinned (.plain (OpenSpec.upto namesNumbersSpec)) namesNumbersUptoCard

/-- THE SECOND FORM's CARD OF 'stowagelaw1.EncNumbers'. -/
def encNumbersUptoCard : Claim7 := { stood := { row := encNumbersUptoRow, standIns := [], harness := (true, "99b297151d89d77a2ef0b0db519d46e5351a242758353801bf1e68bfb93659db"), looks := false }, kinds := [], alts := [], laidByText := true, laidKinds := [.data, .data, .data], laidTests := true, laidLooks := .later }
def EncNumbersUptoCardSaid : Prop := Claim7.holds Tryd.pinned (.plain (OpenSpec.upto encNumbersSpec)) encNumbersUptoCard

/-- THE SECOND FORM's CARD OF 'stowagelaw1.EncBack'. -/
def encBackUptoCard : Claim7 := { stood := { row := encBackUptoRow, standIns := [], harness := (true, "99b297151d89d77a2ef0b0db519d46e5351a242758353801bf1e68bfb93659db"), looks := false }, kinds := [], alts := [], laidByText := true, laidKinds := [.data, .data, .data], laidTests := true, laidLooks := .later }
def EncBackUptoCardSaid : Prop := Claim7.holds Tryd.pinned (.plain (OpenSpec.upto encBackSpec)) encBackUptoCard
end Rows
end Go.Proofs.YtfkpdfpnpcdhaaaDoor
