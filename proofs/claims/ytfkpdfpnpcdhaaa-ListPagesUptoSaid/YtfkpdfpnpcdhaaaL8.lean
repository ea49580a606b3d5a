/- list.Page's contract. -/
import Derived.Test.YtfkpdfpnpcdhaaaL7
namespace Go.Proofs.LP
open Go Go.Am Go.RowKit Go.Shelf Go.Proofs
set_option linter.unusedVariables false
set_option linter.unusedSimpArgs false
set_option linter.unusedSectionVars false
set_option maxRecDepth 100000
variable [MM]
theorem frG_tr {G : Gh} {w w' : World} {g : Nat} {row : List Value} (hB : Below w.heap.size w w') (hw : WI G w) (hg : w.heap.size ≤ g)
    (hc : ∀ (j : Nat) (u : Value), row[j]? = some u → w'.cell? ⟨g, j, none⟩ = some u ∧ w'.frozen? ⟨g, j, none⟩ = false) : Trans G w (frG G g row.length) w' := by
  have hlt : ∀ b o, (G b o = .frz ∨ G b o = .ctx) → b < w.heap.size := fun b o e => hw.lt (b := b) (o := o) (by rcases e with e | e <;> rw [e] <;> simp)
  refine ⟨hB.os, hB.tape, hB.output, hB.size, fun b o e => ?_, fun b o e => ?_, fun b o e => Below.at_ hB (hlt b o e), fun b hb _ => hB.block b hb, fun b o e1 e2 => ?_⟩
  · unfold frG; split <;> simp [e]
  · unfold frG; rw [if_neg (by rintro ⟨rfl, -⟩; have := hlt _ o (.inr e); omega)]; exact e
  · unfold frG at e2
    split at e2
    · rename_i h
      obtain ⟨rfl, h⟩ := h
      exact (hc o _ (List.getElem?_eq_getElem h)).2
    · exact absurd e2 e1
theorem frG_wi {G : Gh} {w w' : World} {g : Nat} {row : List Value} (hB : Below w.heap.size w w') (hw : WI G w) (hg : w.heap.size ≤ g)
    (hc : ∀ (j : Nat) (u : Value), row[j]? = some u → w'.cell? ⟨g, j, none⟩ = some u ∧ w'.frozen? ⟨g, j, none⟩ = false) (h1 : ∀ v, v ∈ row → v.oneCell' = true) : WI (frG G g row.length) w' := by
  have hw' := Below.wi hB hw
  refine ⟨fun b o e => ?_, fun b o hb => ?_, fun b o v e hv => ?_, hw.tab.trans (frG_tr hB hw hg hc)⟩
  · unfold frG at e
    split at e
    · simp [Own.mine] at e
    · exact hw'.own b o e
  · unfold frG
    rw [if_neg]
    · exact hw'.old b o hb
    · rintro ⟨rfl, h⟩
      have := (hc o _ (List.getElem?_eq_getElem h)).1
      unfold World.cell? at this
      split at this
      · rename_i e; have := (Array.getElem?_eq_some_iff.1 e).1; simp at this; omega
      · simp at this
  · unfold frG at e
    split at e
    · rename_i h
      obtain ⟨rfl, h⟩ := h
      have := (hc o _ (List.getElem?_eq_getElem h)).1
      rw [show mkA b o = ⟨b, o, none⟩ from rfl, this] at hv
      cases hv
      exact h1 _ (List.getElem_mem h)
    · exact hw'.one b o v e hv
theorem nil_br {G : Gh} {w : World} : BR G w [] [] := ⟨rfl, fun id b blk j c h1 => by simp at h1⟩
set_option maxHeartbeats 1000000 in
theorem page_ok (l : List (List UInt8)) (pre del mar sec qb qc : List UInt8) (mx qd : Int) (hl : l.length ≤ 16777216) (hs : ∀ x, x ∈ l → x.length < 4294967281) :
    FnOK Try.prog 33 [.sl 1 l.length (strEl l) false, .agg [.str pre, .str del, .str mar, .str sec, .str qb, .str qc, .int .i64 mx, .int .i64 qd]] [] (.tup [.sl 22 (pgLL l pre del mar mx).length (tiEl (pgLL l pre del mar mx)) false, .bool (pgML l pre del mar mx)]) [] := by
  intro w G ρ vs hlen ha hb hw
  have hρ : ρ = [] := List.eq_nil_of_length_eq_zero (by rw [← hb.len]; rfl)
  subst hρ
  obtain ⟨hm, hm0⟩ := m_cell hw
  match vs, hlen with
  | [a, b], _ =>
    have h0 := (ha 0 _ a rfl rfl).1
    have h1 := (ha 1 _ b rfl rfl).1
    clear ha
    cases h0 with
    | sl _ _ _ _ _ base cap ws hn hbz hsz hc hv =>
    cases h1 with
    | agg _ _ qs hql hqv =>
    match qs, hql with
    | [q0, q1, q2, q3, q4, q5, q6, q7], _ =>
      have e0 := hqv 0 _ q0 rfl rfl
      have e1 := hqv 1 _ q1 rfl rfl
      have e2 := hqv 2 _ q2 rfl rfl
      have e3 := hqv 3 _ q3 rfl rfl
      have e4 := hqv 4 _ q4 rfl rfl
      have e5 := hqv 5 _ q5 rfl rfl
      have e6 := hqv 6 _ q6 rfl rfl
      have e7 := hqv 7 _ q7 rfl rfl
      cases e0; cases e1; cases e2; cases e3; cases e4; cases e5; cases e6; cases e7
      have hN : Names w w.heap.size (base.map fun p => mkA p.1 p.2) l.length (fun i => toB (l.getD i [])) := fun i hi => by
        match base, hbz, hc with
        | none, hbz, _ => have := hbz rfl; omega
        | some (b, o), _, hc =>
          obtain ⟨g1, g2⟩ := hc b o rfl i (by omega)
          have hv' := hv i 0 (.str (l.getD i [])) hi rfl
          rw [show i * 1 + 0 = i by omega] at hv'
          generalize ws i = x at *
          cases hv'
          refine ⟨mkA b o, rfl, ?_, ?_⟩
          · rw [mkA_add]; exact hw.lt (b := b) (o := o + i) (by rw [g1]; simp)
          · rw [mkA_add]; exact g2
      have key := callsIn_wide.1 (Page_in hpB grB (fun i => toB (l.getD i [])) (toB pre) (toB del) (toB mar) (toB sec) (toB qb) (toB qc) qd mx 6 (Nat.le_refl _) w (base.map fun p => mkA p.1 p.2) cap l.length hl
        (env_of hm hm0 _ _ _ _ (fun k hk => by
          have := hs (l.getD k []) (by rw [List.getD_eq_getElem?_getD, List.getElem?_eq_getElem hk]; exact List.getElem_mem hk)
          exact this)) hN)
      refine key.mono ?_
      rintro e w' ⟨v, rfl, hrow, hB⟩
      rw [pgM_eq, pgL_eq] at *
      generalize hr : pgLL l pre del mar mx = r at *
      rcases hrow with ⟨rfl, h0⟩ | ⟨g, rfl, hg, hcs⟩
      · have : r = [] := by simpa using h0
        subst this
        refine ⟨_, G, [], rfl, Below.tr hB hw, Below.wi hB hw, rfl, nil_br, .tup _ _ [_, _] rfl fun q c v e1 e2 => ?_, SpV_nr rfl⟩
        match q, e1, e2 with
        | 0, e1, e2 =>
          simp at e1 e2; subst e1; subst e2
          exact .sl _ _ _ _ _ none 0 (fun _ => undef) (Nat.le_refl _) (fun _ => rfl) (fun i h => absurd h (Nat.not_lt_zero _)) (fun b o h => by simp at h) (fun i j c h => absurd h (Nat.not_lt_zero _))
        | 1, e1, e2 => simp at e1 e2; subst e1; subst e2; exact .bool _ _
        | q + 2, e1, _ => simp at e1
      · have hrl := rowOf_len (r.map Ti.it)
        rw [List.length_map] at hrl
        refine ⟨_, frG G g (rowOf (r.map Ti.it)).length, [], rfl, frG_tr hB hw hg hcs, frG_wi hB hw hg hcs (rowOf_one _), rfl, nil_br, .tup _ _ [_, _] rfl fun q c v e1 e2 => ?_, SpV_nr rfl⟩
        match q, e1, e2 with
        | 0, e1, e2 =>
          simp only [List.getElem?_cons_zero, Option.some.injEq, List.length_map] at e1 e2; subst e1; subst e2
          refine .sl _ _ _ _ _ (some (g, 0)) r.length (fun q => (rowOf (r.map Ti.it)).getD q undef) (Nat.le_refl _) (fun h => by cases h) (fun i hi => rfl) (fun b o hbo q hq => ?_) (fun i j c hi hj => ?_)
          · cases hbo
            have hq' : q < (rowOf (r.map Ti.it)).length := by omega
            refine ⟨by unfold frG; rw [if_pos ⟨rfl, by omega⟩], ?_⟩
            rw [List.getD_eq_getElem?_getD, List.getElem?_eq_getElem hq', Option.getD_some]
            simpa [mkA] using (hcs q _ (List.getElem?_eq_getElem hq')).1
          · have hj' : j < 22 := (List.getElem?_eq_some_iff.1 hj).1
            have := rowOf_at r i j hi hj'
            rw [List.getD_eq_getElem?_getD, this]
            have hjj : j < (itC (r.getD i ⟨[], false, 0⟩).it.name (r.getD i ⟨[], false, 0⟩).it.grp (r.getD i ⟨[], false, 0⟩).it.at_).length := by rw [itC_len]; exact hj'
            rw [List.getElem?_eq_getElem hjj]
            exact vr_ti _ j c _ hj (List.getElem?_eq_getElem hjj)
        | 1, e1, e2 => simp at e1 e2; subst e1; subst e2; exact .bool _ _
        | q + 2, e1, _ => simp at e1
end Go.Proofs.LP
