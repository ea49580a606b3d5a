/- cells of new slices that are written. -/
import Derived.Test.YtfkpdfpnpcdhaaaE2
import Derived.BigQuiet
import Derived.Deep.QuietTactic
import Derived.WalkSpells
set_option maxRecDepth 100000
set_option linter.unusedVariables false
set_option linter.unusedSimpArgs false
set_option linter.unusedSectionVars false
namespace Go.Proofs.Ytfkpdfpnpcdhaaa
open Go Go.Am Go.RowKit
attribute [local go_sem] Oper.semAt_some
theorem cellSet {w : World} {b o : Nat} {u : Value} (x : Value) (h : w.cell? (mkA b o) = some u) (b' o' : Nat) :
    (w.setCell (mkA b o) x).cell? (mkA b' o') = if b' = b ∧ o' = o then some x else w.cell? (mkA b' o') := by
  unfold World.setCell World.cell? mkA at *
  by_cases hb : b' = b
  · subst hb
    simp only [Array.getElem?_modify, if_true] at *
    cases hc : w.heap[b']? with
    | none => rw [hc] at h; cases h
    | some ob =>
      rw [hc] at h
      simp only [Option.map_some]
      cases ob with
      | cells vs t rg =>
        simp only [true_and, Option.isSome_none, Bool.false_eq_true, if_false] at *
        rw [Array.getElem?_setIfInBounds]
        by_cases ho : o = o'
        · subst ho
          have : o < vs.size := (Array.getElem?_eq_some_iff.1 h).1
          simp [this]
        · rw [if_neg ho, if_neg (fun h => ho h.symm)]
      | _ => cases h
  · simp only [hb, false_and, if_false]
    rw [Array.getElem?_modify, if_neg (fun h => hb h.symm)]
theorem frzSet {w : World} {b o : Nat} (x : Value) (b' o' : Nat) : (w.setCell (mkA b o) x).frozen? (mkA b' o') = w.frozen? (mkA b' o') := by
  unfold World.setCell World.frozen? mkA
  simp only [Array.getElem?_modify]
  by_cases hb : b = b'
  · subst hb
    cases hc : w.heap[b]? with
    | none => simp
    | some ob => cases ob <;> simp
  · simp [hb]
/-- a cell of it is written -/
theorem FrAt.set {N : Nat} {w : World} {b o n cap : Nat} {xs : List Value} (h : FrAt N w (.slice (some (mkA b o)) n cap) xs) {j : Nat} (hj : j < xs.length) (x : Value) :
    FrAt N (w.setCell (mkA b (o + j)) x) (.slice (some (mkA b o)) n cap) (xs.set j x) ∧ N ≤ b := by
  obtain ⟨base, cap', h1, h2, h3, h4⟩ := h
  cases base with
  | none => simp at h1
  | some p =>
    obtain ⟨b', o'⟩ := p
    simp only [Option.map_some, Value.slice.injEq, Option.some.injEq, mkA, Addr.mk.injEq] at h1
    obtain ⟨⟨rfl, rfl, _⟩, rfl, rfl⟩ := h1
    have hcj := h4 b o rfl j _ (List.getElem?_eq_getElem hj)
    refine ⟨⟨some (b, o), cap, by simp [mkA], by simpa using h2, by simp, fun b' o' e q u hu => ?_⟩, hcj.2.1⟩
    cases e
    rw [cellSet x hcj.1, frzSet]
    rw [List.getElem?_set] at hu
    by_cases hq : j = q
    · subst hq
      simp only [if_true] at hu
      rw [if_pos hj] at hu; cases hu
      rw [if_pos ⟨rfl, rfl⟩]
      exact ⟨rfl, hcj.2⟩
    · rw [if_neg hq] at hu
      rw [if_neg (by omega)]
      exact h4 b o rfl q u hu
theorem FrAt.some_of {N : Nat} {w : World} {v : Value} {xs : List Value} (h : FrAt N w v xs) {j : Nat} (hj : j < xs.length) : ∃ b o cap, v = .slice (some (mkA b o)) xs.length cap ∧ N ≤ b ∧ xs.length ≤ cap ∧
    ∀ q u, xs[q]? = some u → w.cell? (mkA b (o + q)) = some u ∧ w.frozen? (mkA b (o + q)) = false := by
  obtain ⟨base, cap', h1, h2, h3, h4⟩ := h
  cases base with
  | none => have := h3 rfl; omega
  | some p => exact ⟨p.1, p.2, cap', h1, (h4 p.1 p.2 rfl j _ (List.getElem?_eq_getElem hj)).2.1, h2, fun q u hu => ⟨(h4 p.1 p.2 rfl q u hu).1, (h4 p.1 p.2 rfl q u hu).2.2⟩⟩
theorem FrAt.len {N : Nat} {w : World} {v : Value} {xs : List Value} (h : FrAt N w v xs) : ∃ b c, v = .slice b xs.length c := by
  obtain ⟨base, cap', h1, _⟩ := h
  exact ⟨_, _, h1⟩
theorem FrAt.below {N M : Nat} {w w' : World} {v : Value} {xs : List Value} (h : FrAt N w v xs) (hM : w.heap.size ≤ M) (hb : Below M w w') : FrAt N w' v xs := by
  obtain ⟨base, cap, h1, h2, h3, h4⟩ := h
  refine ⟨base, cap, h1, h2, h3, fun b o e q u hu => ?_⟩
  obtain ⟨c1, c2, c3⟩ := h4 b o e q u hu
  have hlt := Nat.lt_of_lt_of_le (World.block_lt_of_cell? _ _ c1) hM
  refine ⟨(hb.cell (p := mkA b (o + q)) hlt).trans c1, c2, ?_⟩
  rw [World.frozen?_of_block (hb.block _ hlt)]; exact c3
end Go.Proofs.Ytfkpdfpnpcdhaaa
