/-
  DERIVED. GIVEN WITH THE SEED: THE CARDS: each row of YtdigohaeakclfaaGreatDoorRows.lean that lists a variable, with what it lists TIED to the program's text (the seventh form; the later family's looks); each row that meets fmt, with fmt's text TOLD by the authors' own Lean function (tested against real Go, not proved from fmt's source: count such statements apart). THE CARD IS WHAT COUNTS. Prove the row's statement (the work); the ties are given (YtdigohaeakclfaaGreatDoorTie.lean); close each card by the builder's one call (the guide's Derived/Test/ToyasCard.lean, 'card_holds'). Laid BY PROGRAM, IN A SANDBOX (cutbox-door.mjs). By AI agents, Wed Nov 11 2026. No macro, syntax, notation, axiom, sorry.
-/
import Derived.Test.YtdigohaeakclfaaGreatDoorRows
import GoSem.ClaimSeven
namespace Go.Proofs.YtdigohaeakclfaaGreatDoor
namespace Rows

/-- THE TIED CARD OF 'stowagelaw18.SigMakes'. -/
def sigMakesCard : Claim7 := { stood := { row := sigMakesRow, standIns := [], harness := (true, "b01f74cd13b84b68c8c468a3e1f3dfe3c153b4fb5751e96b6acaae762225a071"), looks := false }, kinds := [], alts := [], laidByText := true, laidKinds := [.data, .data, .data], laidTests := true, laidLooks := .later }
def SigMakesCardSaid : Prop := Claim7.holds Tryz.pinned (.plain (OpenSpec.ofChange sigMakesSpec)) sigMakesCard

/-- THE TIED CARD OF 'stowagelaw18.SigTakes'. -/
def sigTakesCard : Claim7 := { stood := { row := sigTakesRow, standIns := [], harness := (true, "b01f74cd13b84b68c8c468a3e1f3dfe3c153b4fb5751e96b6acaae762225a071"), looks := false }, kinds := [], alts := [], laidByText := true, laidKinds := [.data, .data, .data], laidTests := true, laidLooks := .later }
def SigTakesCardSaid : Prop := Claim7.holds Tryz.pinned (.plain (OpenSpec.ofChange sigTakesSpec)) sigTakesCard

/-- THE TIED CARD OF 'stowagelaw18.SigLent'. -/
def sigLentCard : Claim7 := { stood := { row := sigLentRow, standIns := [], harness := (true, "b01f74cd13b84b68c8c468a3e1f3dfe3c153b4fb5751e96b6acaae762225a071"), looks := false }, kinds := [], alts := [], laidByText := true, laidKinds := [.data, .data, .data], laidTests := true, laidLooks := .later }
def SigLentCardSaid : Prop := Claim7.holds Tryz.pinned (.plain (OpenSpec.ofChange sigLentSpec)) sigLentCard

/-- THE SECOND FORM's CARD OF 'stowagelaw18.SigMakes'. -/
def sigMakesUptoCard : Claim7 := { stood := { row := sigMakesUptoRow, standIns := [], harness := (true, "b01f74cd13b84b68c8c468a3e1f3dfe3c153b4fb5751e96b6acaae762225a071"), looks := false }, kinds := [], alts := [], laidByText := true, laidKinds := [.data, .data, .data], laidTests := true, laidLooks := .later }
def SigMakesUptoCardSaid : Prop := Claim7.holds Tryz.pinned (.plain (OpenSpec.upto sigMakesSpec)) sigMakesUptoCard

/-- THE SECOND FORM's CARD OF 'stowagelaw18.SigTakes'. -/
def sigTakesUptoCard : Claim7 := { stood := { row := sigTakesUptoRow, standIns := [], harness := (true, "b01f74cd13b84b68c8c468a3e1f3dfe3c153b4fb5751e96b6acaae762225a071"), looks := false }, kinds := [], alts := [], laidByText := true, laidKinds := [.data, .data, .data], laidTests := true, laidLooks := .later }
def SigTakesUptoCardSaid : Prop := Claim7.holds Tryz.pinned (.plain (OpenSpec.upto sigTakesSpec)) sigTakesUptoCard

/-- THE SECOND FORM's CARD OF 'stowagelaw18.SigLent'. -/
def sigLentUptoCard : Claim7 := { stood := { row := sigLentUptoRow, standIns := [], harness := (true, "b01f74cd13b84b68c8c468a3e1f3dfe3c153b4fb5751e96b6acaae762225a071"), looks := false }, kinds := [], alts := [], laidByText := true, laidKinds := [.data, .data, .data], laidTests := true, laidLooks := .later }
def SigLentUptoCardSaid : Prop := Claim7.holds Tryz.pinned (.plain (OpenSpec.upto sigLentSpec)) sigLentUptoCard
end Rows
end Go.Proofs.YtdigohaeakclfaaGreatDoor
