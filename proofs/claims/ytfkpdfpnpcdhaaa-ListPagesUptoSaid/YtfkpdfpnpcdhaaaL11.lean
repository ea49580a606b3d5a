/- Rising's contract. -/
import Derived.Test.YtfkpdfpnpcdhaaaL10
namespace Go.Proofs.LP
open Go Go.Am Go.RowKit Go.Shelf Go.Proofs
set_option linter.unusedVariables false
set_option linter.unusedSimpArgs false
set_option linter.unusedSectionVars false
set_option maxRecDepth 100000
variable [MM]
theorem names_of {G : Gh} {w : World} {l : List (List UInt8)} {base : Option (Nat × Nat)} {cap : Nat} {ws : Nat → Value} (hw : WI G w) (hn : l.length ≤ cap) (hbz : base = none → cap = 0)
    (hc : ∀ b o, base = some (b, o) → ∀ q, q < l.length * 1 → G b (o + q) = .frz ∧ w.cell? (mkA b (o + q)) = some (ws q))
    (hv : ∀ (i j : Nat) (c : AV), i < l.length → (strEl l i).cells[j]? = some c → VR G w [] c (ws (i * 1 + j))) : Names w w.heap.size (base.map fun p => mkA p.1 p.2) l.length (fun i => toB (l.getD i [])) := fun i hi => by
  match base, hbz, hc with
  | none, hbz, _ => have := hbz rfl; omega
  | some (b, o), _, hc =>
    obtain ⟨g1, g2⟩ := hc b o rfl i (by omega)
    have hv' := hv i 0 (.str (l.getD i [])) hi rfl
    rw [show i * 1 + 0 = i by omega] at hv'
    generalize ws i = x at *
    cases hv'
    refine ⟨mkA b o, rfl, ?_, ?_⟩
    · rw [mkA_add]; exact hw.lt (b := b) (o := o + i) (by rw [g1]; simp)
    · rw [mkA_add]; exact g2
theorem rising_ok (l : List (List UInt8)) (hl : l.length ≤ 1048576) : FnOK Try.prog 34 [.sl 1 l.length (strEl l) false] [] (.sl 1 (risL l).length (strEl (risL l)) false) [] := by
  intro w G ρ vs hlen ha hb hw
  have hρ : ρ = [] := List.eq_nil_of_length_eq_zero (by rw [← hb.len]; rfl)
  subst hρ
  match vs, hlen with
  | [a], _ =>
    have h0 := (ha 0 _ a rfl rfl).1
    clear ha
    cases h0 with
    | sl _ _ _ _ _ base cap ws hn hbz hsz hc hv =>
      have hNm : Names w w.heap.size (base.map fun p => mkA p.1 p.2) l.length (fun i => toB (l.getD i [])) := names_of (G := G) (w := w) (l := l) (base := base) (cap := cap) (ws := ws) hw hn hbz hc hv
      clear hv hc
      have key := rising_in l hl w (base.map fun p => mkA p.1 p.2) cap hNm
      refine Calls.mono key ?_
      rintro e w' ⟨v, rfl, hrow, hB⟩
      have hrl := risL_len l
      generalize risL l = r at *
      have hvl : (vals r).length = r.length := by simp [vals]
      have hv1 : ∀ v, v ∈ vals r → v.oneCell' = true := fun v hv => by
        obtain ⟨x, _, rfl⟩ := List.mem_map.1 hv; rfl
      rw [← hrl] at hrow
      rcases hrow.2 with ⟨rfl, h0⟩ | ⟨g, cap', cur, rfl, hg, hcur, h1, h2, h3, h4⟩
      · refine ⟨_, G, [], rfl, Below.tr hB hw, Below.wi hB hw, rfl, nil_br, ?_, SpV_nr rfl⟩
        rw [h0]
        exact .sl _ _ _ _ _ none 0 (fun _ => undef) (Nat.le_refl _) (fun _ => rfl) (fun i h => absurd h (Nat.not_lt_zero _)) (fun b o h => by simp at h) (fun i j c h => absurd h (Nat.not_lt_zero _))
      · have hcs : ∀ (j : Nat) (u : Value), (vals r)[j]? = some u → w'.cell? ⟨g, j, none⟩ = some u ∧ w'.frozen? ⟨g, j, none⟩ = false := fun j u e => by
          obtain ⟨e1, e2, _⟩ := row_cell hrow e; exact ⟨e1, e2⟩
        refine ⟨_, frG G g (vals r).length, [], rfl, frG_tr hB hw hg hcs, frG_wi hB hw hg hcs hv1, rfl, nil_br, ?_, SpV_nr rfl⟩
        refine .sl _ _ _ _ _ (some (g, 0)) cap' (fun q => (vals r).getD q undef) h1 (fun h => by cases h) (fun i hi => rfl) (fun b o hbo q hq => ?_) (fun i j c hi hj => ?_)
        · cases hbo
          have hq' : q < (vals r).length := by omega
          refine ⟨by unfold frG; rw [if_pos ⟨rfl, by omega⟩], ?_⟩
          rw [List.getD_eq_getElem?_getD, List.getElem?_eq_getElem hq', Option.getD_some]
          simpa [mkA] using (hcs q _ (List.getElem?_eq_getElem hq')).1
        · have hj' : j = 0 := by have := (List.getElem?_eq_some_iff.1 hj).1; simp [AV.cells] at this; omega
          subst hj'
          cases hj
          rw [Nat.mul_one, Nat.add_zero, List.getD_eq_getElem?_getD, vals_at _ _ hi]
          exact .str _ _
end Go.Proofs.LP
