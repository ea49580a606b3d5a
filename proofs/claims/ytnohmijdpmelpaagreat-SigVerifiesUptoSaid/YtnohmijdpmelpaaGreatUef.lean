/- The contracts of chars.Unescape and chars.Escape. -/
import Derived.Test.YtnohmijdpmelpaaGreatUne
import Derived.Test.YtnohmijdpmelpaaGreatEsc
set_option maxRecDepth 100000
set_option linter.unusedVariables false
namespace Go.Proofs.YtnohmijdpmelpaaGreat
open Go Go.Am Go.RowKit
theorem cunescF (s : List UInt8) (hs : s.length ≤ 16777214) : FnOK Tryz.prog 53 [.str s] [] (.tup [.str ((unescL s).getD []), .bool (unescL s).isSome]) [] := by
  refine FnOK.of_below rfl fun w G vs hl ha hw => ?_
  obtain ⟨v0, rfl⟩ : ∃ v0, vs = [v0] := by
    match vs, hl with
    | [v0], _ => exact ⟨v0, rfl⟩
  have h0 := (ha 0 _ v0 rfl rfl).str_inv
  subst h0
  refine (unesc_core s s.length rfl hs w).mono ?_
  rintro e w' ⟨rfl, hB⟩
  refine ⟨_, rfl, fun G w => .tup _ _ [_, _] rfl fun q c v e1 e2 => ?_, hB⟩
  match q, e1, e2 with
  | 0, e1, e2 => simp at e1 e2; subst e1; subst e2; exact .str ..
  | 1, e1, e2 => simp at e1 e2; subst e1; subst e2; exact .bool ..
  | q + 2, e1, _ => simp at e1
end Go.Proofs.YtnohmijdpmelpaaGreat
set_option maxRecDepth 100000
set_option linter.unusedVariables false
namespace Go.Proofs.YtnohmijdpmelpaaGreat
open Go Go.Am Go.RowKit
theorem cescF (s : List UInt8) (sl : Bool) (hs : s.length ≤ 16777216) : FnOK Tryz.prog 54 [.str s, .bool sl] [] (.str (escL s sl)) [] := by
  refine FnOK.of_below rfl fun w G vs hl ha hw => ?_
  obtain ⟨v0, v1, rfl⟩ : ∃ v0 v1, vs = [v0, v1] := by
    match vs, hl with
    | [v0, v1], _ => exact ⟨v0, v1, rfl⟩
  have h0 := (ha 0 _ v0 rfl rfl).str_inv
  have h1 := (ha 1 _ v1 rfl rfl).bool_inv
  subst h0; subst h1
  refine (esc_core s sl s.length rfl hs w).mono ?_
  rintro e w' ⟨rfl, hB⟩
  exact ⟨_, rfl, fun G w => .str .., hB⟩
end Go.Proofs.YtnohmijdpmelpaaGreat
