/-
  No cell of these rows narrows 'for every input' (looked for: loops, veiled, ifaces, maps, wideKeys, modest, calm, conditions, laid).
  DERIVED. THE GIVEN ROWS OF THIS SEAT. 4 by the template 'for every input the law returns true; each argument reads behind the call as it read before'; 0 by the template 'total and deterministic' (their statements: YtnohmijdpmelpaaGreatTotals.lean).
  GIVEN WITH THE SEED: the statements are not yours to turn. If you find one false, say at which input.
  Laid BY PROGRAM, IN A SANDBOX (cutbox-rows.mjs): the forced cells as the released guide's own fill.sh prints them over the translation 56f4cf92493c0aa2… (all of the seat's roots in one cut). By AI agents, Wed Nov 11 2026. No macro, syntax, notation, axiom, sorry.
-/
import Derived.Test.YtnohmijdpmelpaaGreatChecked
import GoSem.Claim
import GoSem.ClaimJoined
import GoSem.ClaimMapViews
import Derived.JoinedTies
import Derived.KernelRfl
namespace Go.Proofs.YtnohmijdpmelpaaGreat
/- THE CELL 'sum', in the pinned program and in every row, IS THE sha256 OF THE DUMP (.gsa) THAT YtnohmijdpmelpaaGreatProg.lean LOADS. Nothing in Lean hashes anything: it is a label: what it is worth is what the hold of that sum in a sandbox is worth. -/
noncomputable def Tryz.pinned : Pinned := { name := "ytnohmijdpmelpaagreat", sum := "56f4cf92493c0aa28bfaa1ff0f6350760fc5e77b73ca7ed253091ef446ba3b40", checked := Tryz.checked }
namespace Rows
def none {H : Type} : Left H := { results := [], args := [] }

/-- 'stowagelaw18.SigCanonical': WHATEVER THE INPUT: true; the input reads as it did. -/
def sigCanonicalSpec : ChangeSpec := { name := "sigCanonical", fn := fun _ => fun
  | [d1, d2, d3, d4] => { results := [.lit (.bool true)], args := [d1, d2, d3, d4] }
  | _ => none }
def sigCanonicalRow : OpenClaim := { program := "ytnohmijdpmelpaagreat", sum := "56f4cf92493c0aa28bfaa1ff0f6350760fc5e77b73ca7ed253091ef446ba3b40", func := "stowage/stowagelaw18.SigCanonical", spec := "sigCanonical", inPlace := ["internal/bytealg.IndexByteString", "internal/bytealg.IndexString", "internal/abi.NoEscape", "internal/bytealg.MakeNoZero"], unfollowed := true, recurses := true, named := ["internal/bytealg.MaxLen"], apart := false }
def SigCanonicalSaid : Prop := sigCanonicalRow.holds Tryz.pinned (OpenSpec.ofChange sigCanonicalSpec)

/-- ITS FALSE NEIGHBOUR: 'it returns false'. Refute it at one input. -/
def sigCanonicalWrong : ChangeSpec := { name := "sigCanonical", fn := fun _ => fun
  | [d1, d2, d3, d4] => { results := [.lit (.bool false)], args := [d1, d2, d3, d4] }
  | _ => none }
def SigCanonicalWrongFalsely : Prop := sigCanonicalRow.holds Tryz.pinned (OpenSpec.ofChange sigCanonicalWrong)

/-- 'stowagelaw18.SigSigns': WHATEVER THE INPUT: true; the input reads as it did. -/
def sigSignsSpec : ChangeSpec := { name := "sigSigns", fn := fun _ => fun
  | [d1, d2, d3, d4, d5, d6, d7] => { results := [.lit (.bool true)], args := [d1, d2, d3, d4, d5, d6, d7] }
  | _ => none }
def sigSignsRow : OpenClaim := { program := "ytnohmijdpmelpaagreat", sum := "56f4cf92493c0aa28bfaa1ff0f6350760fc5e77b73ca7ed253091ef446ba3b40", func := "stowage/stowagelaw18.SigSigns", spec := "sigSigns", inPlace := ["internal/bytealg.IndexByteString", "internal/bytealg.IndexString", "internal/abi.NoEscape", "internal/bytealg.MakeNoZero"], unfollowed := true, recurses := true, named := ["internal/bytealg.MaxLen"], apart := false }
def SigSignsSaid : Prop := sigSignsRow.holds Tryz.pinned (OpenSpec.ofChange sigSignsSpec)

/-- ITS FALSE NEIGHBOUR: 'it returns false'. Refute it at one input. -/
def sigSignsWrong : ChangeSpec := { name := "sigSigns", fn := fun _ => fun
  | [d1, d2, d3, d4, d5, d6, d7] => { results := [.lit (.bool false)], args := [d1, d2, d3, d4, d5, d6, d7] }
  | _ => none }
def SigSignsWrongFalsely : Prop := sigSignsRow.holds Tryz.pinned (OpenSpec.ofChange sigSignsWrong)

/-- 'stowagelaw18.SigVerifies': WHATEVER THE INPUT: true; the input reads as it did. -/
def sigVerifiesSpec : ChangeSpec := { name := "sigVerifies", fn := fun _ => fun
  | [d1, d2, d3] => { results := [.lit (.bool true)], args := [d1, d2, d3] }
  | _ => none }
def sigVerifiesRow : OpenClaim := { program := "ytnohmijdpmelpaagreat", sum := "56f4cf92493c0aa28bfaa1ff0f6350760fc5e77b73ca7ed253091ef446ba3b40", func := "stowage/stowagelaw18.SigVerifies", spec := "sigVerifies", inPlace := ["internal/bytealg.IndexByteString", "internal/bytealg.IndexString", "internal/abi.NoEscape", "internal/bytealg.MakeNoZero"], unfollowed := true, recurses := true, named := ["internal/bytealg.MaxLen"], apart := false }
def SigVerifiesSaid : Prop := sigVerifiesRow.holds Tryz.pinned (OpenSpec.ofChange sigVerifiesSpec)

/-- ITS FALSE NEIGHBOUR: 'it returns false'. Refute it at one input. -/
def sigVerifiesWrong : ChangeSpec := { name := "sigVerifies", fn := fun _ => fun
  | [d1, d2, d3] => { results := [.lit (.bool false)], args := [d1, d2, d3] }
  | _ => none }
def SigVerifiesWrongFalsely : Prop := sigVerifiesRow.holds Tryz.pinned (OpenSpec.ofChange sigVerifiesWrong)

/-- 'stowagelaw18.SigOrders': WHATEVER THE INPUT: true; the input reads as it did. -/
def sigOrdersSpec : ChangeSpec := { name := "sigOrders", fn := fun _ => fun
  | [d1, d2, d3, d4, d5] => { results := [.lit (.bool true)], args := [d1, d2, d3, d4, d5] }
  | _ => none }
def sigOrdersRow : OpenClaim := { program := "ytnohmijdpmelpaagreat", sum := "56f4cf92493c0aa28bfaa1ff0f6350760fc5e77b73ca7ed253091ef446ba3b40", func := "stowage/stowagelaw18.SigOrders", spec := "sigOrders", inPlace := ["internal/bytealg.IndexByteString", "internal/bytealg.IndexString", "internal/abi.NoEscape", "internal/bytealg.MakeNoZero"], unfollowed := true, recurses := true, named := ["internal/bytealg.MaxLen"], apart := false }
def SigOrdersSaid : Prop := sigOrdersRow.holds Tryz.pinned (OpenSpec.ofChange sigOrdersSpec)

/-- ITS FALSE NEIGHBOUR: 'it returns false'. Refute it at one input. -/
def sigOrdersWrong : ChangeSpec := { name := "sigOrders", fn := fun _ => fun
  | [d1, d2, d3, d4, d5] => { results := [.lit (.bool false)], args := [d1, d2, d3, d4, d5] }
  | _ => none }
def SigOrdersWrongFalsely : Prop := sigOrdersRow.holds Tryz.pinned (OpenSpec.ofChange sigOrdersWrong)

/- THE SECOND FORM. 'bulk': how many values and letters a reading holds, each counted each time it is reached (what is shared counts as often as it is met; a slice's spare places count too). A statement '..UptoSaid' is the law's where the arguments, and the package variables that the reading takes, are together of bulk at most 1048576: NARROWER than '..Said'. Prove '..Said' where nothing that the law and all that it calls make is longer than what came in: it says more and counts as full. Else prove '..UptoSaid'. A law counts once. -/
mutual
def uptoBulk {H : Type} : DataW H → Nat
  | .lit (.string bytes) => bytes.length + 1
  | .lit _ => 1
  | .nil => 1
  | .ptr d => uptoBulk d + 1
  | .slice elems spare => uptoBulkAll elems + uptoBulkAll spare + 1
  | .agg parts => uptoBulkAll parts + 1
  | .iface _ d => uptoBulk d + 1
  | .map entries => uptoBulkEntries entries + 1
  | .held _ => 1
def uptoBulkAll {H : Type} : List (DataW H) → Nat
  | [] => 0
  | d :: r => uptoBulk d + uptoBulkAll r
def uptoBulkEntries {H : Type} : List (Lit × DataW H) → Nat
  | [] => 0
  | x :: r => uptoBulkEntry x + uptoBulkEntries r
def uptoBulkEntry {H : Type} : Lit × DataW H → Nat
  | (.string bytes, d) => bytes.length + uptoBulk d + 1
  | (_, d) => uptoBulk d + 1
 end
def uptoSmall : (H : Type) → List (DataW H) → Bool := fun _ ds => decide (uptoBulkAll ds ≤ 1048576)
def OpenSpec.upto (s : _root_.Go.ChangeSpec) : _root_.Go.OpenSpec := { _root_.Go.OpenSpec.ofChange s with cond := some uptoSmall }

/-- 'stowagelaw18.SigCanonical', WHERE WHAT IT READS IS OF BULK AT MOST 1048576: true; the input reads as it did. -/
def sigCanonicalUptoRow : OpenClaim := { program := "ytnohmijdpmelpaagreat", sum := "56f4cf92493c0aa28bfaa1ff0f6350760fc5e77b73ca7ed253091ef446ba3b40", func := "stowage/stowagelaw18.SigCanonical", spec := "sigCanonical", inPlace := ["internal/bytealg.IndexByteString", "internal/bytealg.IndexString", "internal/abi.NoEscape", "internal/bytealg.MakeNoZero"], unfollowed := true, recurses := true, named := ["internal/bytealg.MaxLen"], apart := false, narrowed := true }
def SigCanonicalUptoSaid : Prop := sigCanonicalUptoRow.holds Tryz.pinned (OpenSpec.upto sigCanonicalSpec)

/-- 'stowagelaw18.SigSigns', WHERE WHAT IT READS IS OF BULK AT MOST 1048576: true; the input reads as it did. -/
def sigSignsUptoRow : OpenClaim := { program := "ytnohmijdpmelpaagreat", sum := "56f4cf92493c0aa28bfaa1ff0f6350760fc5e77b73ca7ed253091ef446ba3b40", func := "stowage/stowagelaw18.SigSigns", spec := "sigSigns", inPlace := ["internal/bytealg.IndexByteString", "internal/bytealg.IndexString", "internal/abi.NoEscape", "internal/bytealg.MakeNoZero"], unfollowed := true, recurses := true, named := ["internal/bytealg.MaxLen"], apart := false, narrowed := true }
def SigSignsUptoSaid : Prop := sigSignsUptoRow.holds Tryz.pinned (OpenSpec.upto sigSignsSpec)

/-- 'stowagelaw18.SigVerifies', WHERE WHAT IT READS IS OF BULK AT MOST 1048576: true; the input reads as it did. -/
def sigVerifiesUptoRow : OpenClaim := { program := "ytnohmijdpmelpaagreat", sum := "56f4cf92493c0aa28bfaa1ff0f6350760fc5e77b73ca7ed253091ef446ba3b40", func := "stowage/stowagelaw18.SigVerifies", spec := "sigVerifies", inPlace := ["internal/bytealg.IndexByteString", "internal/bytealg.IndexString", "internal/abi.NoEscape", "internal/bytealg.MakeNoZero"], unfollowed := true, recurses := true, named := ["internal/bytealg.MaxLen"], apart := false, narrowed := true }
def SigVerifiesUptoSaid : Prop := sigVerifiesUptoRow.holds Tryz.pinned (OpenSpec.upto sigVerifiesSpec)

/-- 'stowagelaw18.SigOrders', WHERE WHAT IT READS IS OF BULK AT MOST 1048576: true; the input reads as it did. -/
def sigOrdersUptoRow : OpenClaim := { program := "ytnohmijdpmelpaagreat", sum := "56f4cf92493c0aa28bfaa1ff0f6350760fc5e77b73ca7ed253091ef446ba3b40", func := "stowage/stowagelaw18.SigOrders", spec := "sigOrders", inPlace := ["internal/bytealg.IndexByteString", "internal/bytealg.IndexString", "internal/abi.NoEscape", "internal/bytealg.MakeNoZero"], unfollowed := true, recurses := true, named := ["internal/bytealg.MaxLen"], apart := false, narrowed := true }
def SigOrdersUptoSaid : Prop := sigOrdersUptoRow.holds Tryz.pinned (OpenSpec.upto sigOrdersSpec)

end Rows
end Go.Proofs.YtnohmijdpmelpaaGreat
