/-
  No cell of these rows narrows 'for every input' (looked for: loops, veiled, ifaces, maps, wideKeys, modest, calm, conditions, laid).
  DERIVED. THE GIVEN ROWS OF THIS SEAT. 8 by the template 'for every input the law returns true; each argument reads behind the call as it read before'; 0 by the template 'total and deterministic' (their statements: YtfkpdfpnpcdhaaaTotals.lean).
  GIVEN WITH THE SEED: the statements are not yours to turn. If you find one false, say at which input.
  Laid BY PROGRAM, IN A SANDBOX (cutbox-rows.mjs): the forced cells as the released guide's own fill.sh prints them over the translation d248abe1af7162dd… (all of the seat's roots in one cut). By AI agents, Wed Nov 11 2026. No macro, syntax, notation, axiom, sorry.
-/
import Derived.Test.YtfkpdfpnpcdhaaaChecked
import GoSem.Claim
import GoSem.ClaimJoined
import GoSem.ClaimMapViews
import Derived.JoinedTies
import Derived.KernelRfl
namespace Go.Proofs.Ytfkpdfpnpcdhaaa
/- THE CELL 'sum', in the pinned program and in every row, IS THE sha256 OF THE DUMP (.gsa) THAT YtfkpdfpnpcdhaaaProg.lean LOADS. Nothing in Lean hashes anything: it is a label: what it is worth is what the hold of that sum in a sandbox is worth. -/
noncomputable def Try.pinned : Pinned := { name := "ytfkpdfpnpcdhaaa", sum := "d248abe1af7162dd8bbf02100d0e2effd1b7f1dfe8910ac163a15a29f7700b51", checked := Try.checked }
namespace Rows
def none {H : Type} : Left H := { results := [], args := [] }

/-- 'stowagelaw1.EncHexes': WHATEVER THE INPUT: true; the input reads as it did. -/
def encHexesSpec : ChangeSpec := { name := "encHexes", fn := fun _ => fun
  | [d1, d2] => { results := [.lit (.bool true)], args := [d1, d2] }
  | _ => none }
def encHexesRow : OpenClaim := { program := "ytfkpdfpnpcdhaaa", sum := "d248abe1af7162dd8bbf02100d0e2effd1b7f1dfe8910ac163a15a29f7700b51", func := "stowage/stowagelaw1.EncHexes", spec := "encHexes", apart := false }
def EncHexesSaid : Prop := encHexesRow.holds Try.pinned (OpenSpec.ofChange encHexesSpec)

/-- ITS FALSE NEIGHBOUR: 'it returns false'. Refute it at one input. -/
def encHexesWrong : ChangeSpec := { name := "encHexes", fn := fun _ => fun
  | [d1, d2] => { results := [.lit (.bool false)], args := [d1, d2] }
  | _ => none }
def EncHexesWrongFalsely : Prop := encHexesRow.holds Try.pinned (OpenSpec.ofChange encHexesWrong)

/-- 'stowagelaw1.EncLent': WHATEVER THE INPUT: true; the input reads as it did. -/
def encLentSpec : ChangeSpec := { name := "encLent", fn := fun _ => fun
  | [d1, d2] => { results := [.lit (.bool true)], args := [d1, d2] }
  | _ => none }
def encLentRow : OpenClaim := { program := "ytfkpdfpnpcdhaaa", sum := "d248abe1af7162dd8bbf02100d0e2effd1b7f1dfe8910ac163a15a29f7700b51", func := "stowage/stowagelaw1.EncLent", spec := "encLent", apart := false }
def EncLentSaid : Prop := encLentRow.holds Try.pinned (OpenSpec.ofChange encLentSpec)

/-- ITS FALSE NEIGHBOUR: 'it returns false'. Refute it at one input. -/
def encLentWrong : ChangeSpec := { name := "encLent", fn := fun _ => fun
  | [d1, d2] => { results := [.lit (.bool false)], args := [d1, d2] }
  | _ => none }
def EncLentWrongFalsely : Prop := encLentRow.holds Try.pinned (OpenSpec.ofChange encLentWrong)

/-- 'stowagelaw1.EncPacks': WHATEVER THE INPUT: true; the input reads as it did. -/
def encPacksSpec : ChangeSpec := { name := "encPacks", fn := fun _ => fun
  | [d1, d2, d3] => { results := [.lit (.bool true)], args := [d1, d2, d3] }
  | _ => none }
def encPacksRow : OpenClaim := { program := "ytfkpdfpnpcdhaaa", sum := "d248abe1af7162dd8bbf02100d0e2effd1b7f1dfe8910ac163a15a29f7700b51", func := "stowage/stowagelaw1.EncPacks", spec := "encPacks", apart := false }
def EncPacksSaid : Prop := encPacksRow.holds Try.pinned (OpenSpec.ofChange encPacksSpec)

/-- ITS FALSE NEIGHBOUR: 'it returns false'. Refute it at one input. -/
def encPacksWrong : ChangeSpec := { name := "encPacks", fn := fun _ => fun
  | [d1, d2, d3] => { results := [.lit (.bool false)], args := [d1, d2, d3] }
  | _ => none }
def EncPacksWrongFalsely : Prop := encPacksRow.holds Try.pinned (OpenSpec.ofChange encPacksWrong)

/-- 'stowagelaw1.EncBases': WHATEVER THE INPUT: true; the input reads as it did. -/
def encBasesSpec : ChangeSpec := { name := "encBases", fn := fun _ => fun
  | [d1, d2] => { results := [.lit (.bool true)], args := [d1, d2] }
  | _ => none }
def encBasesRow : OpenClaim := { program := "ytfkpdfpnpcdhaaa", sum := "d248abe1af7162dd8bbf02100d0e2effd1b7f1dfe8910ac163a15a29f7700b51", func := "stowage/stowagelaw1.EncBases", spec := "encBases", apart := false }
def EncBasesSaid : Prop := encBasesRow.holds Try.pinned (OpenSpec.ofChange encBasesSpec)

/-- ITS FALSE NEIGHBOUR: 'it returns false'. Refute it at one input. -/
def encBasesWrong : ChangeSpec := { name := "encBases", fn := fun _ => fun
  | [d1, d2] => { results := [.lit (.bool false)], args := [d1, d2] }
  | _ => none }
def EncBasesWrongFalsely : Prop := encBasesRow.holds Try.pinned (OpenSpec.ofChange encBasesWrong)

/-- 'stowagelaw23.ListGroups': WHATEVER THE INPUT: true; the input reads as it did. -/
def listGroupsSpec : ChangeSpec := { name := "listGroups", fn := fun _ => fun
  | [d1, d2, d3] => { results := [.lit (.bool true)], args := [d1, d2, d3] }
  | _ => none }
def listGroupsRow : OpenClaim := { program := "ytfkpdfpnpcdhaaa", sum := "d248abe1af7162dd8bbf02100d0e2effd1b7f1dfe8910ac163a15a29f7700b51", func := "stowage/stowagelaw23.ListGroups", spec := "listGroups", inPlace := ["internal/bytealg.IndexByteString", "internal/bytealg.IndexString"], unfollowed := true, recurses := true, named := ["internal/bytealg.MaxLen"], apart := false }
def ListGroupsSaid : Prop := listGroupsRow.holds Try.pinned (OpenSpec.ofChange listGroupsSpec)

/-- ITS FALSE NEIGHBOUR: 'it returns false'. Refute it at one input. -/
def listGroupsWrong : ChangeSpec := { name := "listGroups", fn := fun _ => fun
  | [d1, d2, d3] => { results := [.lit (.bool false)], args := [d1, d2, d3] }
  | _ => none }
def ListGroupsWrongFalsely : Prop := listGroupsRow.holds Try.pinned (OpenSpec.ofChange listGroupsWrong)

/-- 'stowagelaw23.ListPages': WHATEVER THE INPUT: true; the input reads as it did. -/
def listPagesSpec : ChangeSpec := { name := "listPages", fn := fun _ => fun
  | [d1, d2] => { results := [.lit (.bool true)], args := [d1, d2] }
  | _ => none }
def listPagesRow : OpenClaim := { program := "ytfkpdfpnpcdhaaa", sum := "d248abe1af7162dd8bbf02100d0e2effd1b7f1dfe8910ac163a15a29f7700b51", func := "stowage/stowagelaw23.ListPages", spec := "listPages", inPlace := ["internal/bytealg.IndexByteString", "internal/bytealg.IndexString"], unfollowed := true, recurses := true, named := ["internal/bytealg.MaxLen"], apart := false }
def ListPagesSaid : Prop := listPagesRow.holds Try.pinned (OpenSpec.ofChange listPagesSpec)

/-- ITS FALSE NEIGHBOUR: 'it returns false'. Refute it at one input. -/
def listPagesWrong : ChangeSpec := { name := "listPages", fn := fun _ => fun
  | [d1, d2] => { results := [.lit (.bool false)], args := [d1, d2] }
  | _ => none }
def ListPagesWrongFalsely : Prop := listPagesRow.holds Try.pinned (OpenSpec.ofChange listPagesWrong)

/-- 'stowagelaw23.ListAll': WHATEVER THE INPUT: true; the input reads as it did. -/
def listAllSpec : ChangeSpec := { name := "listAll", fn := fun _ => fun
  | [d1, d2, d3, d4] => { results := [.lit (.bool true)], args := [d1, d2, d3, d4] }
  | _ => none }
def listAllRow : OpenClaim := { program := "ytfkpdfpnpcdhaaa", sum := "d248abe1af7162dd8bbf02100d0e2effd1b7f1dfe8910ac163a15a29f7700b51", func := "stowage/stowagelaw23.ListAll", spec := "listAll", inPlace := ["internal/bytealg.IndexByteString", "internal/bytealg.IndexString"], unfollowed := true, recurses := true, named := ["internal/bytealg.MaxLen"], apart := false }
def ListAllSaid : Prop := listAllRow.holds Try.pinned (OpenSpec.ofChange listAllSpec)

/-- ITS FALSE NEIGHBOUR: 'it returns false'. Refute it at one input. -/
def listAllWrong : ChangeSpec := { name := "listAll", fn := fun _ => fun
  | [d1, d2, d3, d4] => { results := [.lit (.bool false)], args := [d1, d2, d3, d4] }
  | _ => none }
def ListAllWrongFalsely : Prop := listAllRow.holds Try.pinned (OpenSpec.ofChange listAllWrong)

/-- 'stowagelaw23.ListMarkers': WHATEVER THE INPUT: true; the input reads as it did. -/
def listMarkersSpec : ChangeSpec := { name := "listMarkers", fn := fun _ => fun
  | [d1, d2, d3] => { results := [.lit (.bool true)], args := [d1, d2, d3] }
  | _ => none }
def listMarkersRow : OpenClaim := { program := "ytfkpdfpnpcdhaaa", sum := "d248abe1af7162dd8bbf02100d0e2effd1b7f1dfe8910ac163a15a29f7700b51", func := "stowage/stowagelaw23.ListMarkers", spec := "listMarkers", inPlace := ["internal/bytealg.IndexByteString", "internal/bytealg.IndexString"], unfollowed := true, recurses := true, named := ["internal/bytealg.MaxLen"], apart := false }
def ListMarkersSaid : Prop := listMarkersRow.holds Try.pinned (OpenSpec.ofChange listMarkersSpec)

/-- ITS FALSE NEIGHBOUR: 'it returns false'. Refute it at one input. -/
def listMarkersWrong : ChangeSpec := { name := "listMarkers", fn := fun _ => fun
  | [d1, d2, d3] => { results := [.lit (.bool false)], args := [d1, d2, d3] }
  | _ => none }
def ListMarkersWrongFalsely : Prop := listMarkersRow.holds Try.pinned (OpenSpec.ofChange listMarkersWrong)

/- THE SECOND FORM. 'bulk': how many values and letters a reading holds, each counted each time it is reached (what is shared counts as often as it is met; a slice's spare places count too). A statement '..UptoSaid' is the law's where the arguments, and the package variables that the reading takes, are together of bulk at most 1048576: NARROWER than '..Said'. Prove '..Said' where nothing that the law and all that it calls make is longer than what came in: it says more and counts as full. Else prove '..UptoSaid'. A law counts once. -/
mutual
def uptoBulk {H : Type} : DataW H → Nat
  | .lit (.string bytes) => bytes.length + 1
  | .lit _ => 1
  | .nil => 1
  | .ptr d => uptoBulk d + 1
  | .slice elems spare => uptoBulkAll elems + uptoBulkAll spare + 1
  | .agg parts => uptoBulkAll parts + 1
  | .iface _ d => uptoBulk d + 1
  | .map entries => uptoBulkEntries entries + 1
  | .held _ => 1
def uptoBulkAll {H : Type} : List (DataW H) → Nat
  | [] => 0
  | d :: r => uptoBulk d + uptoBulkAll r
def uptoBulkEntries {H : Type} : List (Lit × DataW H) → Nat
  | [] => 0
  | x :: r => uptoBulkEntry x + uptoBulkEntries r
def uptoBulkEntry {H : Type} : Lit × DataW H → Nat
  | (.string bytes, d) => bytes.length + uptoBulk d + 1
  | (_, d) => uptoBulk d + 1
 end
def uptoSmall : (H : Type) → List (DataW H) → Bool := fun _ ds => decide (uptoBulkAll ds ≤ 1048576)
def OpenSpec.upto (s : _root_.Go.ChangeSpec) : _root_.Go.OpenSpec := { _root_.Go.OpenSpec.ofChange s with cond := some uptoSmall }

/-- 'stowagelaw1.EncHexes', WHERE WHAT IT READS IS OF BULK AT MOST 1048576: true; the input reads as it did. -/
def encHexesUptoRow : OpenClaim := { program := "ytfkpdfpnpcdhaaa", sum := "d248abe1af7162dd8bbf02100d0e2effd1b7f1dfe8910ac163a15a29f7700b51", func := "stowage/stowagelaw1.EncHexes", spec := "encHexes", apart := false, narrowed := true }
def EncHexesUptoSaid : Prop := encHexesUptoRow.holds Try.pinned (OpenSpec.upto encHexesSpec)

/-- 'stowagelaw1.EncLent', WHERE WHAT IT READS IS OF BULK AT MOST 1048576: true; the input reads as it did. -/
def encLentUptoRow : OpenClaim := { program := "ytfkpdfpnpcdhaaa", sum := "d248abe1af7162dd8bbf02100d0e2effd1b7f1dfe8910ac163a15a29f7700b51", func := "stowage/stowagelaw1.EncLent", spec := "encLent", apart := false, narrowed := true }
def EncLentUptoSaid : Prop := encLentUptoRow.holds Try.pinned (OpenSpec.upto encLentSpec)

/-- 'stowagelaw1.EncPacks', WHERE WHAT IT READS IS OF BULK AT MOST 1048576: true; the input reads as it did. -/
def encPacksUptoRow : OpenClaim := { program := "ytfkpdfpnpcdhaaa", sum := "d248abe1af7162dd8bbf02100d0e2effd1b7f1dfe8910ac163a15a29f7700b51", func := "stowage/stowagelaw1.EncPacks", spec := "encPacks", apart := false, narrowed := true }
def EncPacksUptoSaid : Prop := encPacksUptoRow.holds Try.pinned (OpenSpec.upto encPacksSpec)

/-- 'stowagelaw1.EncBases', WHERE WHAT IT READS IS OF BULK AT MOST 1048576: true; the input reads as it did. -/
def encBasesUptoRow : OpenClaim := { program := "ytfkpdfpnpcdhaaa", sum := "d248abe1af7162dd8bbf02100d0e2effd1b7f1dfe8910ac163a15a29f7700b51", func := "stowage/stowagelaw1.EncBases", spec := "encBases", apart := false, narrowed := true }
def EncBasesUptoSaid : Prop := encBasesUptoRow.holds Try.pinned (OpenSpec.upto encBasesSpec)

/-- 'stowagelaw23.ListGroups', WHERE WHAT IT READS IS OF BULK AT MOST 1048576: true; the input reads as it did. -/
def listGroupsUptoRow : OpenClaim := { program := "ytfkpdfpnpcdhaaa", sum := "d248abe1af7162dd8bbf02100d0e2effd1b7f1dfe8910ac163a15a29f7700b51", func := "stowage/stowagelaw23.ListGroups", spec := "listGroups", inPlace := ["internal/bytealg.IndexByteString", "internal/bytealg.IndexString"], unfollowed := true, recurses := true, named := ["internal/bytealg.MaxLen"], apart := false, narrowed := true }
def ListGroupsUptoSaid : Prop := listGroupsUptoRow.holds Try.pinned (OpenSpec.upto listGroupsSpec)

/-- 'stowagelaw23.ListPages', WHERE WHAT IT READS IS OF BULK AT MOST 1048576: true; the input reads as it did. -/
def listPagesUptoRow : OpenClaim := { program := "ytfkpdfpnpcdhaaa", sum := "d248abe1af7162dd8bbf02100d0e2effd1b7f1dfe8910ac163a15a29f7700b51", func := "stowage/stowagelaw23.ListPages", spec := "listPages", inPlace := ["internal/bytealg.IndexByteString", "internal/bytealg.IndexString"], unfollowed := true, recurses := true, named := ["internal/bytealg.MaxLen"], apart := false, narrowed := true }
def ListPagesUptoSaid : Prop := listPagesUptoRow.holds Try.pinned (OpenSpec.upto listPagesSpec)

/-- 'stowagelaw23.ListAll', WHERE WHAT IT READS IS OF BULK AT MOST 1048576: true; the input reads as it did. -/
def listAllUptoRow : OpenClaim := { program := "ytfkpdfpnpcdhaaa", sum := "d248abe1af7162dd8bbf02100d0e2effd1b7f1dfe8910ac163a15a29f7700b51", func := "stowage/stowagelaw23.ListAll", spec := "listAll", inPlace := ["internal/bytealg.IndexByteString", "internal/bytealg.IndexString"], unfollowed := true, recurses := true, named := ["internal/bytealg.MaxLen"], apart := false, narrowed := true }
def ListAllUptoSaid : Prop := listAllUptoRow.holds Try.pinned (OpenSpec.upto listAllSpec)

/-- 'stowagelaw23.ListMarkers', WHERE WHAT IT READS IS OF BULK AT MOST 1048576: true; the input reads as it did. -/
def listMarkersUptoRow : OpenClaim := { program := "ytfkpdfpnpcdhaaa", sum := "d248abe1af7162dd8bbf02100d0e2effd1b7f1dfe8910ac163a15a29f7700b51", func := "stowage/stowagelaw23.ListMarkers", spec := "listMarkers", inPlace := ["internal/bytealg.IndexByteString", "internal/bytealg.IndexString"], unfollowed := true, recurses := true, named := ["internal/bytealg.MaxLen"], apart := false, narrowed := true }
def ListMarkersUptoSaid : Prop := listMarkersUptoRow.holds Try.pinned (OpenSpec.upto listMarkersSpec)

end Rows
end Go.Proofs.Ytfkpdfpnpcdhaaa
