/- What the program and the document read a claim out of, in plain lists. -/
import Derived.Test.YtnohmijdpmelpaaGreatInq
set_option maxRecDepth 100000
set_option linter.unusedVariables false
set_option linter.unusedSimpArgs false
namespace Go.Proofs.YtnohmijdpmelpaaGreat
open Go Go.Am
abbrev credP : List UInt8 := [67, 114, 101, 100, 101, 110, 116, 105, 97, 108]
abbrev sgP : List UInt8 := [83, 105, 103, 110, 101, 100, 72, 101, 97, 100, 101, 114, 115]
abbrev sigP : List UInt8 := [83, 105, 103, 110, 97, 116, 117, 114, 101]
theorem begL_iff {s p : List UInt8} : begL s p = true ↔ ∃ r, s = p ++ r := by
  unfold begL
  rw [Bool.and_eq_true, decide_eq_true_eq, beq_iff_eq]
  constructor
  · rintro ⟨_, h⟩
    exact ⟨s.drop p.length, by conv => lhs; rw [← List.take_append_drop p.length s, h]⟩
  · rintro ⟨r, rfl⟩
    exact ⟨by simp, by simp⟩
/-- a text cut at '=' where its beginning has none -/
theorem cut_at (p r : List UInt8) (hp : ¬ (61 : UInt8) ∈ p) : cutF (p ++ [61] ++ r) 61 = (p, r, true) := by
  have h0 : 0 ≤ Lib.indexByte (p ++ [61] ++ r) 61 := by
    rcases Int.lt_or_le (Lib.indexByte (p ++ [61] ++ r) 61) 0 with h | h
    · have h1 := Lib.indexByte_ge (p ++ [61] ++ r) 61
      have h2 := Lib.indexByte_none (show Lib.indexByte (p ++ [61] ++ r) 61 = -1 by omega) p.length
      exfalso; apply h2; simp
    · exact h
  obtain ⟨i, hi⟩ := Int.eq_ofNat_of_zero_le h0
  obtain ⟨h1, h2⟩ := Lib.indexByte_some hi
  have hip : i = p.length := by
    rcases Nat.lt_trichotomy i p.length with h | h | h
    · exfalso
      rw [List.append_assoc, List.getElem?_append_left h] at h1
      exact hp (List.mem_of_getElem? h1)
    · exact h
    · exfalso
      apply h2 p.length h
      simp
  rw [(cut_some hi).1, hip]
  simp
theorem cut_join {x : List UInt8} (h : (cutF x 61).2.2 = true) : x = (cutF x 61).1 ++ [61] ++ (cutF x 61).2.1 := by
  by_cases h0 : 0 ≤ Lib.indexByte x 61
  · obtain ⟨i, hi⟩ := Int.eq_ofNat_of_zero_le h0
    have h1 := (Lib.indexByte_some hi).1
    have h2 := cut_some hi
    rw [h2.1]
    simp only
    have := List.getElem_of_getElem? h1
    obtain ⟨h3, h4⟩ := this
    conv => lhs; rw [← List.take_append_drop i x, List.drop_eq_getElem_cons h3, h4]
    simp
  · rw [cut_none h0] at h; cases h
/-- a part that begins with a name and '=' -/
theorem cutV_iff {x p : List UInt8} (hp : ¬ (61 : UInt8) ∈ p) (v : List UInt8) : cutV (p ++ [61]) x = some v ↔ (cutF (trimL x) 61).2.2 = true ∧ (cutF (trimL x) 61).1 = p ∧ (cutF (trimL x) 61).2.1 = v := by
  constructor
  · intro h
    unfold cutV at h
    split at h
    · rename_i h1
      have h2 : begL (trimL x) (p ++ [61]) = true := by
        unfold cutpL at h1
        split at h1
        · assumption
        · cases h1
      rw [cutp_t h2] at h
      obtain ⟨r, hr⟩ := begL_iff.1 h2
      rw [hr] at h ⊢
      rw [cut_at p r hp]
      simp at h
      exact ⟨rfl, rfl, h⟩
    · cases h
  · rintro ⟨h1, h2, h3⟩
    have h4 := cut_join h1
    rw [h2, h3] at h4
    have h5 : begL (trimL x) (p ++ [61]) = true := begL_iff.2 ⟨v, h4⟩
    unfold cutV
    rw [cutp_t h5, if_pos rfl]
    conv => lhs; rw [h4]
    simp
theorem cutV_no {x p : List UInt8} (hp : ¬ (61 : UInt8) ∈ p) (h : ¬ ((cutF (trimL x) 61).2.2 = true ∧ (cutF (trimL x) 61).1 = p)) : cutV (p ++ [61]) x = none := by
  cases e : cutV (p ++ [61]) x with
  | none => rfl
  | some v => have := (cutV_iff hp v).1 e; exact absurd ⟨this.1, this.2.1⟩ h
theorem nC : ¬ (61 : UInt8) ∈ credP := by decide
theorem nS : ¬ (61 : UInt8) ∈ sgP := by decide
theorem nG : ¬ (61 : UInt8) ∈ sigP := by decide
/-- so many parts are of a kind -/
def cnt3 (l : List (List UInt8)) : Nat := (fldN l credB).length + (fldN l sgB).length + (fldN l sigB).length
theorem fldN_app (l m : List (List UInt8)) (b : List UInt8) : fldN (l ++ m) b = fldN l b ++ fldN m b := by unfold fldN; exact List.filterMap_append
theorem fldN_cons (x : List UInt8) (l : List (List UInt8)) (b : List UInt8) : fldN (x :: l) b = (cutV b x).toList ++ fldN l b := by
  unfold fldN
  rw [List.filterMap_cons]
  cases cutV b x <;> rfl
theorem cnt3_app (l m : List (List UInt8)) : cnt3 (l ++ m) = cnt3 l + cnt3 m := by
  unfold cnt3; rw [fldN_app, fldN_app, fldN_app]; simp only [List.length_append]; omega
/-- one part -/
theorem cnt3_one (x : List UInt8) : cnt3 [x] ≤ 1 := by
  unfold cnt3
  rw [fldN_cons, fldN_cons, fldN_cons]
  simp only [fldN, List.filterMap_nil, List.append_nil]
  have d1 : ∀ v, cutV credB x = some v → cutV sgB x = none ∧ cutV sigB x = none := fun v h => by
    have h1 := (cutV_iff nC v).1 h
    exact ⟨cutV_no nS (fun h2 => by rw [h1.2.1] at h2; exact absurd h2.2 (by decide)), cutV_no nG (fun h2 => by rw [h1.2.1] at h2; exact absurd h2.2 (by decide))⟩
  have d2 : ∀ v, cutV sgB x = some v → cutV sigB x = none := fun v h => by
    have h1 := (cutV_iff nS v).1 h
    exact cutV_no nG (fun h2 => by rw [h1.2.1] at h2; exact absurd h2.2 (by decide))
  cases e1 : cutV credB x with
  | some v => rw [(d1 v e1).1, (d1 v e1).2]; simp
  | none =>
    cases e2 : cutV sgB x with
    | some v => rw [d2 v e2]; simp
    | none => cases cutV sigB x <;> simp
theorem cnt3_le : ∀ l, cnt3 l ≤ l.length
  | [] => by simp [cnt3, fldN]
  | x :: l => by
    have h1 := cnt3_one x
    have h2 := cnt3_le l
    have h3 := cnt3_app [x] l
    simp only [List.singleton_append] at h3
    rw [h3, List.length_cons]; omega
/-- what has been read of a header's parts -/
structure HdI (l : List (List UInt8)) (i : Nat) (c s g : Option (List UInt8)) : Prop where
  le : i ≤ l.length
  ec : fldN (l.take i) credB = c.toList
  es : fldN (l.take i) sgB = s.toList
  eg : fldN (l.take i) sigB = g.toList
  n : c.toList.length + s.toList.length + g.toList.length = i
theorem HdI.start (l : List (List UInt8)) : HdI l 0 none none none := ⟨Nat.zero_le _, rfl, rfl, rfl, rfl⟩
theorem fldN_snoc {l : List (List UInt8)} {i : Nat} (hi : i < l.length) (b : List UInt8) : fldN (l.take (i + 1)) b = fldN (l.take i) b ++ (cutV b (l.getD i [])).toList := by
  rw [take_snoc [] hi, fldN_app, fldN_cons]
  simp [fldN]
abbrev ptF (l : List (List UInt8)) (i : Nat) : List UInt8 × List UInt8 × Bool := cutF (trimL (l.getD i [])) 61
theorem HdI.stepC {l i s g} (h : HdI l i none s g) (hi : i < l.length) (h1 : (ptF l i).2.2 = true) (h2 : (ptF l i).1 = credP) : HdI l (i + 1) (some (ptF l i).2.1) s g := by
  have e1 := (cutV_iff nC _).2 ⟨h1, h2, rfl⟩
  have e2 : cutV sgB (l.getD i []) = none := cutV_no nS (fun h3 => by have := h2.symm.trans h3.2; exact absurd this (by decide))
  have e3 : cutV sigB (l.getD i []) = none := cutV_no nG (fun h3 => by have := h2.symm.trans h3.2; exact absurd this (by decide))
  refine ⟨hi, ?_, ?_, ?_, ?_⟩
  · rw [fldN_snoc hi, h.ec]; exact congrArg (fun o => [] ++ Option.toList o) e1
  · rw [fldN_snoc hi, h.es, e2]; simp
  · rw [fldN_snoc hi, h.eg, e3]; simp
  · have := h.n; simp at this ⊢; omega
theorem HdI.stepS {l i c g} (h : HdI l i c none g) (hi : i < l.length) (h1 : (ptF l i).2.2 = true) (h2 : (ptF l i).1 = sgP) : HdI l (i + 1) c (some (ptF l i).2.1) g := by
  have e1 := (cutV_iff nS _).2 ⟨h1, h2, rfl⟩
  have e2 : cutV credB (l.getD i []) = none := cutV_no nC (fun h3 => by have := h2.symm.trans h3.2; exact absurd this (by decide))
  have e3 : cutV sigB (l.getD i []) = none := cutV_no nG (fun h3 => by have := h2.symm.trans h3.2; exact absurd this (by decide))
  refine ⟨hi, ?_, ?_, ?_, ?_⟩
  · rw [fldN_snoc hi, h.ec, e2]; simp
  · rw [fldN_snoc hi, h.es]; exact congrArg (fun o => [] ++ Option.toList o) e1
  · rw [fldN_snoc hi, h.eg, e3]; simp
  · have := h.n; simp at this ⊢; omega
theorem HdI.stepG {l i c s} (h : HdI l i c s none) (hi : i < l.length) (h1 : (ptF l i).2.2 = true) (h2 : (ptF l i).1 = sigP) : HdI l (i + 1) c s (some (ptF l i).2.1) := by
  have e1 := (cutV_iff nG _).2 ⟨h1, h2, rfl⟩
  have e2 : cutV credB (l.getD i []) = none := cutV_no nC (fun h3 => by have := h2.symm.trans h3.2; exact absurd this (by decide))
  have e3 : cutV sgB (l.getD i []) = none := cutV_no nS (fun h3 => by have := h2.symm.trans h3.2; exact absurd this (by decide))
  refine ⟨hi, ?_, ?_, ?_, ?_⟩
  · rw [fldN_snoc hi, h.ec, e2]; simp
  · rw [fldN_snoc hi, h.es, e3]; simp
  · rw [fldN_snoc hi, h.eg]; exact congrArg (fun o => [] ++ Option.toList o) e1
  · have := h.n; simp at this ⊢; omega
theorem fldO_one {l : List (List UInt8)} {b : List UInt8} (h : (fldO l b).isSome = true) : (fldN l b).length = 1 := by
  unfold fldO at h
  split at h
  · assumption
  · cases h
theorem HdrOK.cnt {v : List UInt8} (h : HdrOK v) : cnt3 (hdrL v) = (hdrL v).length ∧ (fldN (hdrL v) credB).length = 1 ∧ (fldN (hdrL v) sgB).length = 1 ∧ (fldN (hdrL v) sigB).length = 1 := by
  obtain ⟨_, h1, h2, h3, h4, _⟩ := h
  have k1 := fldO_one h1; have k2 := fldO_one h2; have k3 := fldO_one h3
  exact ⟨by unfold cnt3; omega, k1, k2, k3⟩
theorem split_at {α : Type} {l : List α} {i : Nat} (d : α) (hi : i < l.length) : l = l.take i ++ ([l.getD i d] ++ l.drop (i + 1)) := by
  conv => lhs; rw [← List.take_append_drop i l, List.drop_eq_getElem_cons hi]
  rw [List.getD_eq_getElem?_getD, List.getElem?_eq_getElem hi]; rfl
theorem HdI.none_bad {v : List UInt8} {i : Nat} {c s g} (h : HdI (hdrL v) i c s g) (hi : i < (hdrL v).length) (hn : cnt3 [(hdrL v).getD i []] = 0) : ¬ HdrOK v := fun hk => by
  have h1 := hk.cnt.1
  have h2 := split_at [] hi
  have h3 := cnt3_le ((hdrL v).drop (i + 1))
  rw [List.length_drop] at h3
  have h4 : cnt3 ((hdrL v).take i) = i := by unfold cnt3; rw [h.ec, h.es, h.eg]; exact h.n
  have h5 : cnt3 (hdrL v) = i + (0 + cnt3 ((hdrL v).drop (i + 1))) := by conv => lhs; rw [h2, cnt3_app, cnt3_app, hn, h4]
  omega
theorem HdI.dup_bad {v : List UInt8} {i : Nat} {b w u : List UInt8} (hi : i < (hdrL v).length) (h1 : fldN ((hdrL v).take i) b = [w]) (h2 : cutV b ((hdrL v).getD i []) = some u) (hk : (fldN (hdrL v) b).length = 1) : False := by
  have h3 := split_at [] hi
  have : fldN (hdrL v) b = [w] ++ ([u] ++ fldN ((hdrL v).drop (i + 1)) b) := by
    conv => lhs; rw [h3, fldN_app, fldN_app, h1, fldN_cons, h2]
    simp [fldN]
  rw [this] at hk; simp at hk
theorem cnt3_zero {x : List UInt8} (h : ¬ ((cutF (trimL x) 61).2.2 = true ∧ ((cutF (trimL x) 61).1 = credP ∨ (cutF (trimL x) 61).1 = sgP ∨ (cutF (trimL x) 61).1 = sigP))) : cnt3 [x] = 0 := by
  have e1 : cutV credB x = none := cutV_no nC (fun k => h ⟨k.1, .inl k.2⟩)
  have e2 : cutV sgB x = none := cutV_no nS (fun k => h ⟨k.1, .inr (.inl k.2)⟩)
  have e3 : cutV sigB x = none := cutV_no nG (fun k => h ⟨k.1, .inr (.inr k.2)⟩)
  unfold cnt3
  rw [fldN_cons, fldN_cons, fldN_cons, e1, e2, e3]
  rfl
/-- what is read of a part, or that it is wrong -/
inductive PtI (l : List (List UInt8)) (i : Nat) (c s g : Option (List UInt8)) : Prop
  | C (h1 : (ptF l i).2.2 = true) (h2 : (ptF l i).1 = credP) (h3 : c = none)
  | S (h1 : (ptF l i).2.2 = true) (h2 : (ptF l i).1 = sgP) (h3 : s = none)
  | G (h1 : (ptF l i).2.2 = true) (h2 : (ptF l i).1 = sigP) (h3 : g = none)
  | B0 (h1 : (ptF l i).2.2 = false)
  | B1 (h1 : (ptF l i).2.2 = true) (h2 : (ptF l i).1 = credP) (u : List UInt8) (h3 : c = some u)
  | B2 (h1 : (ptF l i).2.2 = true) (h2 : (ptF l i).1 = sgP) (u : List UInt8) (h3 : s = some u)
  | B3 (h1 : (ptF l i).2.2 = true) (h2 : (ptF l i).1 = sigP) (u : List UInt8) (h3 : g = some u)
  | B4 (h1 : (ptF l i).2.2 = true) (h2 : (ptF l i).1 ≠ credP) (h3 : (ptF l i).1 ≠ sgP) (h4 : (ptF l i).1 ≠ sigP)
theorem PtI.all (l : List (List UInt8)) (i : Nat) (c s g : Option (List UInt8)) : PtI l i c s g := by
  cases e : (ptF l i).2.2 with
  | false => exact .B0 e
  | true =>
    by_cases h1 : (ptF l i).1 = credP
    · cases c with
      | none => exact .C e h1 rfl
      | some u => exact .B1 e h1 u rfl
    · by_cases h2 : (ptF l i).1 = sgP
      · cases s with
        | none => exact .S e h2 rfl
        | some u => exact .B2 e h2 u rfl
      · by_cases h3 : (ptF l i).1 = sigP
        · cases g with
          | none => exact .G e h3 rfl
          | some u => exact .B3 e h3 u rfl
        · exact .B4 e h1 h2 h3
theorem HdI.b0 {v : List UInt8} {i : Nat} {c s g} (h : HdI (hdrL v) i c s g) (hi : i < (hdrL v).length) (h1 : (ptF (hdrL v) i).2.2 = false) : ¬ HdrOK v := h.none_bad hi (cnt3_zero fun k => by rw [show (cutF (trimL ((hdrL v).getD i [])) 61).2.2 = false from h1] at k; cases k.1)
theorem HdI.b4 {v : List UInt8} {i : Nat} {c s g} (h : HdI (hdrL v) i c s g) (hi : i < (hdrL v).length) (h2 : (ptF (hdrL v) i).1 ≠ credP) (h3 : (ptF (hdrL v) i).1 ≠ sgP) (h4 : (ptF (hdrL v) i).1 ≠ sigP) : ¬ HdrOK v := h.none_bad hi (cnt3_zero fun k => by rcases k.2 with k | k | k; exact h2 k; exact h3 k; exact h4 k)
theorem HdI.b1 {v : List UInt8} {i : Nat} {s g} {u : List UInt8} (h : HdI (hdrL v) i (some u) s g) (hi : i < (hdrL v).length) (h1 : (ptF (hdrL v) i).2.2 = true) (h2 : (ptF (hdrL v) i).1 = credP) : ¬ HdrOK v := fun hk => HdI.dup_bad hi h.ec ((cutV_iff nC _).2 ⟨h1, h2, rfl⟩) hk.cnt.2.1
theorem HdI.b2 {v : List UInt8} {i : Nat} {c g} {u : List UInt8} (h : HdI (hdrL v) i c (some u) g) (hi : i < (hdrL v).length) (h1 : (ptF (hdrL v) i).2.2 = true) (h2 : (ptF (hdrL v) i).1 = sgP) : ¬ HdrOK v := fun hk => HdI.dup_bad hi h.es ((cutV_iff nS _).2 ⟨h1, h2, rfl⟩) hk.cnt.2.2.1
theorem HdI.b3 {v : List UInt8} {i : Nat} {c s} {u : List UInt8} (h : HdI (hdrL v) i c s (some u)) (hi : i < (hdrL v).length) (h1 : (ptF (hdrL v) i).2.2 = true) (h2 : (ptF (hdrL v) i).1 = sigP) : ¬ HdrOK v := fun hk => HdI.dup_bad hi h.eg ((cutV_iff nG _).2 ⟨h1, h2, rfl⟩) hk.cnt.2.2.2
def bits3 (c s g : Option (List UInt8)) : Int := (if c.isSome then 1 else 0) + (if s.isSome then 2 else 0) + (if g.isSome then 4 else 0)
/-- all has been read -/
theorem HdI.done {v : List UInt8} {i : Nat} {c s g} (h : HdI (hdrL v) i c s g) (hi : (hdrL v).length ≤ i) (hc : (cutpL v algoS).2 = true) : HdrOK v ↔ bits3 c s g = 7 ∧ digsL (g.getD []) = true := by
  have hi2 : i = (hdrL v).length := Nat.le_antisymm h.le hi
  subst hi2
  have e1 := h.ec; have e2 := h.es; have e3 := h.eg
  rw [List.take_length] at e1 e2 e3
  have n := h.n
  constructor
  · intro hk
    have h2 := hk.cnt.2
    rw [e1, e2, e3] at h2
    obtain ⟨_, _, _, _, _, hd⟩ := hk
    rw [fldO, e3] at hd
    rcases c with _ | c <;> rcases s with _ | s <;> rcases g with _ | g <;> simp at h2
    exact ⟨rfl, hd⟩
  · rintro ⟨hb, hd⟩
    rcases c with _ | c <;> rcases s with _ | s <;> rcases g with _ | g <;> first | (exfalso; unfold bits3 at hb; simp at hb; done) | skip
    refine ⟨hc, by rw [fldO, e1]; rfl, by rw [fldO, e2]; rfl, by rw [fldO, e3]; rfl, by simp at n; omega, ?_⟩
    rw [fldO, e3]; exact hd
theorem HdI.vals {v : List UInt8} {i : Nat} {c s g} (h : HdI (hdrL v) i c s g) (hi : (hdrL v).length ≤ i) (hb : bits3 c s g = 7) : hC v = c.getD [] ∧ hS v = s.getD [] ∧ hG v = g.getD [] := by
  have hi2 : i = (hdrL v).length := Nat.le_antisymm h.le hi
  subst hi2
  have e1 := h.ec; have e2 := h.es; have e3 := h.eg
  rw [List.take_length] at e1 e2 e3
  rcases c with _ | c <;> rcases s with _ | s <;> rcases g with _ | g <;> first | (exfalso; unfold bits3 at hb; simp at hb; done) | skip
  exact ⟨by rw [hC, fldO, e1]; rfl, by rw [hS, fldO, e2]; rfl, by rw [hG, fldO, e3]; rfl⟩
theorem b3_c (c s g : Option (List UInt8)) : decide (bitsE .and .i64 (bits3 c s g) 1 = 0) = c.isNone := by
  rcases c with _ | c <;> rcases s with _ | s <;> rcases g with _ | g <;> (simp only [bits3, Option.isSome_none, Option.isSome_some, Bool.false_eq_true, if_false, if_true, Option.isNone_none, Option.isNone_some]; decide)
theorem b3_s (c s g : Option (List UInt8)) : decide (bitsE .and .i64 (bits3 c s g) 2 = 0) = s.isNone := by
  rcases c with _ | c <;> rcases s with _ | s <;> rcases g with _ | g <;> (simp only [bits3, Option.isSome_none, Option.isSome_some, Bool.false_eq_true, if_false, if_true, Option.isNone_none, Option.isNone_some]; decide)
theorem b3_g (c s g : Option (List UInt8)) : decide (bitsE .and .i64 (bits3 c s g) 4 = 0) = g.isNone := by
  rcases c with _ | c <;> rcases s with _ | s <;> rcases g with _ | g <;> (simp only [bits3, Option.isSome_none, Option.isSome_some, Bool.false_eq_true, if_false, if_true, Option.isNone_none, Option.isNone_some]; decide)
theorem b3_oc (x : List UInt8) (s g : Option (List UInt8)) : bitsE .or .i64 (bits3 none s g) 1 = bits3 (some x) s g := by
  rcases s with _ | s <;> rcases g with _ | g <;> (simp only [bits3, Option.isSome_none, Option.isSome_some, Bool.false_eq_true, if_false, if_true, Option.isNone_none, Option.isNone_some]; decide)
theorem b3_os (x : List UInt8) (c g : Option (List UInt8)) : bitsE .or .i64 (bits3 c none g) 2 = bits3 c (some x) g := by
  rcases c with _ | s <;> rcases g with _ | g <;> (simp only [bits3, Option.isSome_none, Option.isSome_some, Bool.false_eq_true, if_false, if_true, Option.isNone_none, Option.isNone_some]; decide)
theorem b3_og (x : List UInt8) (c s : Option (List UInt8)) : bitsE .or .i64 (bits3 c s none) 4 = bits3 c s (some x) := by
  rcases c with _ | c <;> rcases s with _ | s <;> (simp only [bits3, Option.isSome_none, Option.isSome_some, Bool.false_eq_true, if_false, if_true, Option.isNone_none, Option.isNone_some]; decide)
theorem b3_c0 {c : Option (List UInt8)} (h : c = none) (s g : Option (List UInt8)) : decide (bitsE .and .i64 (bits3 c s g) 1 = 0) = true := by rw [b3_c, h]; rfl
theorem b3_s0 {s : Option (List UInt8)} (h : s = none) (c g : Option (List UInt8)) : decide (bitsE .and .i64 (bits3 c s g) 2 = 0) = true := by rw [b3_s, h]; rfl
theorem b3_g0 {g : Option (List UInt8)} (h : g = none) (c s : Option (List UInt8)) : decide (bitsE .and .i64 (bits3 c s g) 4 = 0) = true := by rw [b3_g, h]; rfl
theorem b3_c1 {c : Option (List UInt8)} {u : List UInt8} (h : c = some u) (s g : Option (List UInt8)) : decide (bitsE .and .i64 (bits3 c s g) 1 = 0) = false := by rw [b3_c, h]; rfl
theorem b3_s1 {s : Option (List UInt8)} {u : List UInt8} (h : s = some u) (c g : Option (List UInt8)) : decide (bitsE .and .i64 (bits3 c s g) 2 = 0) = false := by rw [b3_s, h]; rfl
theorem b3_g1 {g : Option (List UInt8)} {u : List UInt8} (h : g = some u) (c s : Option (List UInt8)) : decide (bitsE .and .i64 (bits3 c s g) 4 = 0) = false := by rw [b3_g, h]; rfl
theorem b3_oc0 {c : Option (List UInt8)} (h : c = none) (x : List UInt8) (s g : Option (List UInt8)) : bitsE .or .i64 (bits3 c s g) 1 = bits3 (some x) s g := by rw [h]; exact b3_oc x s g
theorem b3_os0 {s : Option (List UInt8)} (h : s = none) (x : List UInt8) (c g : Option (List UInt8)) : bitsE .or .i64 (bits3 c s g) 2 = bits3 c (some x) g := by rw [h]; exact b3_os x c g
theorem b3_og0 {g : Option (List UInt8)} (h : g = none) (x : List UInt8) (c s : Option (List UInt8)) : bitsE .or .i64 (bits3 c s g) 4 = bits3 c s (some x) := by rw [h]; exact b3_og x c s
theorem nm_no {x p q : List UInt8} (h : x = p) (hne : (p == q) = false) : (x == q) = false := by rw [h]; exact hne
end Go.Proofs.YtnohmijdpmelpaaGreat
