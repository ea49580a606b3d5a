/- The abstract machine: from a contract to what a row asks for. -/
import Derived.Test.YtnohmijdpmelpaaGreatAm26
import Derived.WalkKit
import Derived.ProofKit
import Derived.OpenShut
import Derived.JoinedCond
import Derived.Carry
import Derived.SliceStrings
import Derived.ChangeMaps5
set_option linter.unusedSectionVars false
set_option linter.unusedVariables false
set_option linter.unusedSimpArgs false
namespace Go.Am
open Go Go.ChangeShapes Go.WideShapes Go.ChangeAt Go.RowKit
variable [Tab]
variable {P : Program} {f : FuncId}

/-- who owns what when the call begins: every old cell is the caller's -/
def G0 (w : World) : Gh := fun b o => if b < w.heap.size then (match w.cell? (mkA b o) with | some v => if v.oneCell' then .frz else .ctx | none => .ctx) else .free
theorem G0_old {w : World} {b : Nat} (h : b < w.heap.size) (o : Nat) : G0 w b o = .frz ∨ G0 w b o = .ctx := by
  unfold G0
  rw [if_pos h]
  split
  · split
    · exact .inl rfl
    · exact .inr rfl
  · exact .inr rfl
theorem G0_frz {w : World} {b o : Nat} {v : Value} (h : w.cell? (mkA b o) = some v) (h1 : v.oneCell' = true) : G0 w b o = .frz := by
  have hb : b < w.heap.size := by
    unfold World.cell? at h
    split at h
    · rename_i e; exact (Array.getElem?_eq_some_iff.1 e).1
    · simp at h
  unfold G0
  rw [if_pos hb, h]
  simp [h1]
/-- the known package variables hold what they are known to hold -/
def TabIn (w : World) : Prop := ∀ b cs, Tab.k b = some cs → ∃ e fz, w.heap[b]? = some (.cells cs e fz)
theorem G0_wi (w : World) (ht : TabIn w) : WI (G0 w) w := by
  refine ⟨fun b o h => ?_, fun b o h => ?_, fun b o v h hc => ?_, fun b cs e => ⟨ht b cs e, fun o => G0_old (by obtain ⟨_, _, h⟩ := ht b cs e; exact (Array.getElem?_eq_some_iff.1 h).1) o⟩⟩
  · by_cases hb : b < w.heap.size
    · rcases G0_old hb o with e | e <;> rw [e] at h <;> simp [Own.mine] at h
    · unfold G0 at h; rw [if_neg hb] at h; simp [Own.mine] at h
  · unfold G0; rw [if_neg (by omega)]
  · by_cases hb : b < w.heap.size
    · unfold G0 at h
      rw [if_pos hb, hc] at h
      simp only at h
      by_cases h1 : v.oneCell' = true
      · exact h1
      · rw [if_neg h1] at h; simp [Own.mine] at h
    · unfold G0 at h; rw [if_neg hb] at h; simp [Own.mine] at h
/-- a law: it returns true and leaves what was there -/
theorem FnOK.law {args : List AV} (h : FnOK P f args [] (.bool true) []) (w : World) (ht0 : TabIn w) (vs : List Value) (hl : vs.length = args.length) (ha : ∀ (i : Nat) (c : AV) (v : Value), args[i]? = some c → vs[i]? = some v → VR (G0 w) w [] c v ∧ nr c = true) :
    Calls P f vs.toArray w fun e w' => e = .returned (.bool true) ∧ Below w.heap.size w w' := by
  refine (h w (G0 w) [] vs hl (fun i c v h1 h2 => ⟨(ha i c v h1 h2).1, SpV_nr (ha i c v h1 h2).2⟩) ⟨rfl, fun id b blk j c h1 => by simp at h1⟩ (G0_wi w ht0)).mono ?_
  rintro e w' ⟨v, G', ρ', rfl, ht, _, _, _, hv, _⟩
  cases hv
  exact ⟨rfl, ht.os, ht.tape, ht.output, ht.size, fun k hk => ht.blk k hk fun o => G0_old hk o⟩

section
variable {H : Type} {enc : TypeId × Value → H}
theorem trodAll_stays (hl : laidOutB P = true) {W W' : World} {sp : Nat → Bool} : ∀ {ts : List TypeId} {vs : List Value} {ds : List (DataW H)} {p : List MemPlace}, (ts.all fun t => P.readableRec t && Nat.blt t P.types.size) = true →
    DataW.TrodAll enc P W 0 (fun _ => true) true ts vs ds p → (∀ x, x ∈ p → W.sameAt W' x ∧ sp x.block = true) → DataW.TrodAll enc P W' 0 sp true ts vs ds p
  | [], vs, ds, p, _, h, _ => by
    obtain ⟨rfl, rfl, rfl⟩ := trodAll_nil h
    exact trodAll_mk0
  | t :: ts, vs, ds, p, ht, h, hp => by
    simp only [List.all_cons, Bool.and_eq_true] at ht
    obtain ⟨v, vs', d, ds', p1, p2, rfl, rfl, rfl, h1, h2⟩ := trodAll_cons h
    exact trodAll_cons_mk (WideElems.Trod_stays hl ht.1.1 (Nat.le_of_ble_eq_true ht.1.2) h1 (fun x hx => (hp x (by simp [hx])).1) (fun x hx => (hp x (by simp [hx])).2))
      (trodAll_stays hl ht.2 h2 fun x hx => hp x (by simp [hx]))
theorem post_law {fn : Func} {s : ChangeSpec} {W W' : World} {args : Array Value} {ds gs : List (DataW H)} {before : List MemPlace} {t : TypeId} (hl : laidOutB P = true) (hW : DataW.Whole enc P fn.params.toList s.vars false W args.toList ds gs before)
    (hv : s.vars = []) (hfn : s.fn H (ds ++ gs) = { results := [.lit (.bool true)], args := ds }) (hres : fn.resultTypes = #[t]) (hb : P.underlying t = some .bool) (hp : (fn.params.toList.all fun t => P.readableRec t && Nat.blt t P.types.size) = true) (hB : Below W.heap.size W W') :
    s.post enc P fn false true false false W args (.bool true) W' := by
  have hlt := hW.lt
  have hW' := hW
  obtain ⟨p, q, hA, hV, rfl, hfz, hnd⟩ := hW
  rw [hv] at hV
  obtain ⟨rfl, rfl⟩ := trodVars_none hV
  refine ⟨ds, [], p ++ [], [], p, [], hW', ?_, ?_, ?_, World.keptBut_mono (fun x hx => hx.elim) (hB.frame fun _ => False), fun h => by cases h⟩
  · rw [hfn, hres]
    exact trodAll_cons_mk (shut_bool hb _) trodAll_mk0
  · rw [hfn]
    exact trodAll_stays hl hp hA fun x hx => ⟨hB.same (hlt x (by simp [hx])), by simpa using hlt x (by simp [hx])⟩
  · rw [hfn, hv]
    rfl
end
end Go.Am
