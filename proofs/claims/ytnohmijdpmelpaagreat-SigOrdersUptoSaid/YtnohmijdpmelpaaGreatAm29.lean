/- The abstract machine: a contract of the library's, as a contract of the machine's. -/
import Derived.Test.YtnohmijdpmelpaaGreatAm28
import Derived.Sort.Grow
set_option linter.unusedSectionVars false
set_option linter.unusedVariables false
set_option linter.unusedSimpArgs false
namespace Go.Am
open Go Go.RowKit
variable [Tab]
variable {P : Program} {f : FuncId}

theorem Below.at_ {w w' : World} (h : Below w.heap.size w w') {b o : Nat} (hb : b < w.heap.size) : w'.cell? (mkA b o) = w.cell? (mkA b o) ∧ w'.frozen? (mkA b o) = w.frozen? (mkA b o) := by
  have e := h.block b hb
  constructor
  · show (match w'.heap[b]? with | _ => _) = (match w.heap[b]? with | _ => _)
    simp only [World.cell?, mkA, e]
  · simp only [World.frozen?, mkA, e]
theorem Below.tr {w w' : World} {G : Gh} (h : Below w.heap.size w w') (hw : WI G w) : Trans G w G w' := by
  refine ⟨h.os, h.tape, h.output, h.size, fun _ _ e => e, fun _ _ e => e, fun b o e => ?_, fun b hb _ => h.block b hb, fun _ _ e1 e2 => absurd e2 e1⟩
  exact Below.at_ h (hw.lt (b := b) (o := o) (by rcases e with e | e <;> rw [e] <;> simp))
theorem Below.wi {w w' : World} {G : Gh} (h : Below w.heap.size w w') (hw : WI G w) : WI G w' := by
  have lt : ∀ b o, (G b o = .frz ∨ (G b o).mine = true) → b < w.heap.size := fun b o e => hw.lt (b := b) (o := o) (by
    rcases e with e | e
    · rw [e]; simp
    · intro k; rw [k] at e; cases e)
  refine ⟨fun b o e => ?_, fun b o hb => hw.old b o (Nat.le_trans h.size hb), fun b o v e hc => ?_, hw.tab.trans (Below.tr h hw)⟩
  · have := Below.at_ h (o := o) (lt b o (.inr e))
    rw [this.1, this.2]; exact hw.own b o e
  · rw [(Below.at_ h (o := o) (lt b o e)).1] at hc
    exact hw.one b o v e hc
/-- a value that hangs on no world -/
def pv : AV → Bool
  | .int .. => true
  | .bool _ => true
  | .str _ => true
  | .tup vs => vs.all fun | .int .. => true | .bool _ => true | .str _ => true | _ => false
  | _ => false
theorem pv_nr {a : AV} (h : pv a = true) : nr a = true := by
  cases a <;> simp [pv] at h <;> try rfl
  rename_i vs
  unfold nr
  rw [List.all_eq_true]
  intro x hx
  have := h x hx
  cases x <;> simp at this ⊢ <;> rfl
/-- what a function of the library leaves that returns pure values and makes new blocks alone -/
theorem FnOK.of_below {args : List AV} {res : AV} (hr : pv res = true)
    (h : ∀ (w : World) (G : Gh) (vs : List Value), vs.length = args.length → (∀ (i : Nat) (c : AV) (v : Value), args[i]? = some c → vs[i]? = some v → VR G w [] c v) → WI G w →
      Calls P f vs.toArray w fun e w' => ∃ v, e = .returned v ∧ (∀ G w, VR G w [] res v) ∧ Below w.heap.size w w') : FnOK P f args [] res [] := by
  intro w G ρ vs hl ha hb hw
  have hρ : ρ = [] := List.eq_nil_of_length_eq_zero (by rw [← hb.len]; rfl)
  subst hρ
  refine (h w G vs hl (fun i c v e1 e2 => (ha i c v e1 e2).1) hw).mono ?_
  rintro e w' ⟨v, rfl, hv, hB⟩
  refine ⟨v, G, [], rfl, Below.tr hB hw, Below.wi hB hw, rfl, ⟨rfl, fun id b blk j c h1 => by simp at h1⟩, hv _ _, SpV_nr (pv_nr hr)⟩
end Go.Am
