/- The document's query and strings.Join as contracts. -/
import Derived.Test.YtnohmijdpmelpaaGreatRqw
import Derived.Test.YtnohmijdpmelpaaGreatRow
set_option maxRecDepth 100000
set_option linter.unusedVariables false
namespace Go.Proofs.YtnohmijdpmelpaaGreat
open Go Go.Am Go.RowKit
theorem rquery18_ok (t : List UInt8) (pre : Bool) (ht : t.length ≤ 2097152) : FnOK Tryz.prog 25 [.str t, .bool pre] [] (.tup [.str ((queryC t pre).getD []), .bool (queryC t pre).isSome]) [] := by
  refine FnOK.of_below rfl fun w G vs hl ha hw => ?_
  obtain ⟨v0, v1, rfl⟩ : ∃ v0 v1, vs = [v0, v1] := by
    match vs, hl with
    | [v0, v1], _ => exact ⟨v0, v1, rfl⟩
  have h0 := (ha 0 _ v0 rfl rfl).str_inv
  have h1 := (ha 1 _ v1 rfl rfl).bool_inv
  subst h0; subst h1
  refine (rq_core ⟨t.toArray⟩ pre (queryQ t) (queryQ t).length rfl ⟨(queryP t).toArray⟩ (by have := queryQ_len t; omega) (fun p hp => by have := query_part t p hp; omega) (k23 t (by omega)) (queryC t pre) rfl w).mono ?_
  rintro e w' ⟨rfl, hB⟩
  refine ⟨_, rfl, fun G w => .tup _ _ [_, _] rfl fun q c v e1 e2 => ?_, hB⟩
  match q, e1, e2 with
  | 0, e1, e2 => simp at e1 e2; subst e1; subst e2; exact .str ..
  | 1, e1, e2 => simp at e1 e2; subst e1; subst e2; exact .bool ..
  | q + 2, e1, _ => simp at e1
end Go.Proofs.YtnohmijdpmelpaaGreat
set_option maxRecDepth 100000
set_option linter.unusedVariables false
set_option linter.unusedSimpArgs false
namespace Go.Proofs.YtnohmijdpmelpaaGreat
open Go Go.Am Go.RowKit
theorem join_snoc (x : List UInt8) (r : List (List UInt8)) (y sep : List UInt8) : Lib.join (x :: (r ++ [y])) sep = Lib.join (x :: r) sep ++ sep ++ y := by
  rw [Lib.join_cons, Lib.join_cons]
  simp [Lib.joinTail]
theorem joinN_lib (l : List (List UInt8)) (sep : List UInt8) : ∀ i, i ≤ l.length → joinN l sep i = Lib.join (l.take i) sep
  | 0, _ => rfl
  | i + 1, h => by
    have ih := joinN_lib l sep i (by omega)
    have hi : i < l.length := h
    rw [joinN_succ, ih, List.take_add_one, List.getElem?_eq_getElem hi, List.getD_eq_getElem?_getD, List.getElem?_eq_getElem hi]
    simp only [Option.toList_some, Option.getD_some]
    cases i with
    | zero => simp [Lib.join_nil, Lib.join_one]
    | succ j =>
      rw [if_pos (Nat.succ_pos j)]
      match l, h with
      | x :: r, h =>
        rw [List.take_succ_cons, List.cons_append, join_snoc]
theorem joinL_lib (l : List (List UInt8)) (sep : List UInt8) : joinL l sep = Lib.join l sep := by
  have := joinN_lib l sep l.length (Nat.le_refl _)
  rwa [List.take_length] at this
theorem join_at (l : List (List UInt8)) (sep : List UInt8) (w : World) (v : Value) (h : SlAt w v (sV l)) (hl : l.length ≤ 140737488355328) (hj : (joinL l sep).length ≤ 140737488355328) :
    Calls Tryz.prog 22 #[v, .string ⟨sep.toArray⟩] w fun e w' => e = .returned (.string ⟨(joinL l sep).toArray⟩) ∧ Below w.heap.size w w' := by
  obtain ⟨base, cap, rfl, h2, h3, h4⟩ := h
  rw [sV_len] at h2 ⊢
  by_cases h0 : l.length = 0
  · have hl0 : l = [] := List.eq_nil_of_length_eq_zero h0
    subst hl0
    refine (Tryz.strings_Join_none _ cap ⟨sep.toArray⟩ w).mono ?_
    rintro e w' ⟨rfl, rfl⟩
    exact ⟨rfl, Below.refl _ _⟩
  · cases base with
    | none => have := h3 rfl; rw [this] at h2; omega
    | some p =>
      obtain ⟨b, o⟩ := p
      have hcells : ∀ (j : Nat) x, (l.map fun s => (⟨s.toArray⟩ : ByteArray))[j]? = some x → w.cell? ⟨b, o + j, none⟩ = some (.string x) := fun j x hx => by
        rw [List.getElem?_map] at hx
        cases e : l[j]? with
        | none => rw [e] at hx; cases hx
        | some s =>
          rw [e] at hx
          cases hx
          exact h4 b o rfl j _ (by unfold sV; rw [List.getElem?_map, e]; rfl)
      have e1 : (l.map fun s => (⟨s.toArray⟩ : ByteArray)).map (·.data.toList) = l := by
        rw [List.map_map]
        exact (List.map_congr_left fun s _ => rfl).trans (List.map_id l)
      have hb : b < w.heap.size := World.block_lt_of_cell? _ _ (hcells 0 ⟨(l.getD 0 []).toArray⟩ (by rw [List.getElem?_map, List.getD_eq_getElem?_getD, List.getElem?_eq_getElem (show 0 < l.length by omega)]; rfl))
      have key := Tryz.strings_Join b o cap (l.map fun s => (⟨s.toArray⟩ : ByteArray)) ⟨sep.toArray⟩ w hcells hb (by rw [List.length_map]; exact hl) (by rw [List.length_map]; exact h2) (by rw [e1]; show (Lib.join l sep).length ≤ _; rw [← joinL_lib]; exact hj)
      rw [e1, List.length_map] at key
      refine Calls.mono key ?_
      rintro e w' ⟨rfl, hB⟩
      refine ⟨?_, hB⟩
      show Ending.returned (.string ⟨(Lib.join l sep).toArray⟩) = _
      rw [← joinL_lib]
theorem join_ok (l : List (List UInt8)) (sep : List UInt8) (hl : l.length ≤ 16777216) (hj : (joinL l sep).length ≤ 140737488355328) : FnOK Tryz.prog 22 [.sl 1 l.length (strEl l) false, .str sep] [] (.str (joinL l sep)) [] := by
  refine FnOK.of_below rfl fun w G vs hlen ha hw => ?_
  obtain ⟨v0, v1, rfl⟩ : ∃ v0 v1, vs = [v0, v1] := by
    match vs, hlen with
    | [v0, v1], _ => exact ⟨v0, v1, rfl⟩
  have h0 := ha 0 _ v0 rfl rfl
  have h1 := (ha 1 _ v1 rfl rfl).str_inv
  subst h1
  obtain ⟨base, cap, us, rfl, e1, e2, e3, e4, e5⟩ := h0.sl_inv
  refine (join_at l sep w _ ⟨base, cap, by rw [sV_len], by rw [sV_len]; exact e1, e2, fun b o hb q u hu => ?_⟩ (by omega) hj).mono ?_
  · have hq : q < l.length := by have := (List.getElem?_eq_some_iff.1 hu).1; rwa [sV_len] at this
    have c := (e4 b o hb q (by omega)).2
    have hv := (e5 q 0 (.str (l.getD q [])) hq rfl).str_inv
    rw [show q * 1 + 0 = q by omega] at hv
    rw [c, hv, ← hu]
    unfold sV
    rw [List.getElem?_map, List.getD_eq_getElem?_getD, List.getElem?_eq_getElem hq]; rfl
  · rintro e w' ⟨rfl, hB⟩
    exact ⟨_, rfl, fun G w => .str .., hB⟩
end Go.Proofs.YtnohmijdpmelpaaGreat
