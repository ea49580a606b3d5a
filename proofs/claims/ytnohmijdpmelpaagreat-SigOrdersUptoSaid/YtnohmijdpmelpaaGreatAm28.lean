/- The abstract machine: a call's arguments, as values. -/
import Derived.Test.YtnohmijdpmelpaaGreatAm27
set_option linter.unusedSectionVars false
set_option linter.unusedVariables false
set_option linter.unusedSimpArgs false
namespace Go.Am
open Go Go.ChangeShapes Go.WideShapes Go.ChangeAt Go.RowKit
variable [Tab]
variable {P : Program} {H : Type} {enc : TypeId × Value → H} {W : World} {base : Nat}

theorem arg_str {r : Reach} {t : TypeId} {v : Value} {d : DataW H} {p : List MemPlace} (ht : P.underlying t = some .string) (hval : Value.okWide P W r base t v) (h : DataW.Trod enc P W 0 (fun _ => true) true t v d p) :
    ∃ l : List UInt8, v = .string ⟨l.toArray⟩ ∧ d = .lit (.string l) ∧ VR (G0 W) W [] (.str l) v := by
  obtain ⟨s, rfl, rfl, rfl, hs⟩ := ChangeMaps.open_string ht hval h
  refine ⟨s.data.toList, ?_, rfl, ?_⟩
  · simp
  · have := VR.str (G := G0 W) (w := W) [] s.data.toList
    simpa using this
theorem arg_int {r : Reach} {t : TypeId} {k : IntKind} {v : Value} {d : DataW H} {p : List MemPlace} (ht : P.underlying t = some (.int k)) (hval : Value.okWide P W r base t v) (h : DataW.Trod enc P W 0 (fun _ => true) true t v d p) :
    ∃ n : Int, v = .int k n ∧ d = .lit (.int k n) ∧ (Lit.int k n).wf = true ∧ VR (G0 W) W [] (.int k n) v := by
  obtain ⟨n, rfl, rfl, rfl, w0⟩ := open_int ht hval h
  exact ⟨n, rfl, rfl, w0, .int ..⟩
theorem arg_bool {r : Reach} {t : TypeId} {v : Value} {d : DataW H} {p : List MemPlace} (ht : P.underlying t = some .bool) (hval : Value.okWide P W r base t v) (h : DataW.Trod enc P W 0 (fun _ => true) true t v d p) :
    ∃ b : Bool, v = .bool b ∧ d = .lit (.bool b) ∧ VR (G0 W) W [] (.bool b) v := by
  obtain ⟨b, rfl, rfl, rfl⟩ := open_bool ht hval h
  exact ⟨b, rfl, rfl, .bool ..⟩
theorem cell_spot {a : Addr} {w : World} {v : Value} (h : w.cell? a = some v) : a = mkA a.block a.off := by
  obtain ⟨b, o, s⟩ := a
  have := World.cell?_spot h
  simp at this; subst this; rfl
theorem arg_bytes {r : Reach} {t e : TypeId} {v : Value} {d : DataW H} {p : List MemPlace} (ht : P.underlying t = some (.slice e)) (he : P.underlying e = some (.int .u8)) (hc : P.cellsOf e = 1)
    (hval : Value.okWide P W r base t v) (h : DataW.Trod enc P W 0 (fun _ => true) true t v d p) :
    ∃ l : List UInt8, VR (G0 W) W [] (.bs l false) v ∧ ((d = .nil ∧ l = []) ∨ ∃ es sp, d = .slice es sp ∧ l.length = es.length) := by
  obtain ⟨a1, len, cap, rfl⟩ := okWide_slice ht hval
  obtain ⟨fuel, hf⟩ := h
  rcases open_ints ht he hc hf with ⟨hcs, hx⟩ | ⟨a, len', cap', zs, hcs, _, hl, hm, hz, hx, hcell, hwz⟩
  · simp [Value.cells] at hcs
    obtain ⟨rfl, rfl, rfl⟩ := hcs
    simp only [Prod.mk.injEq] at hx
    refine ⟨[], .bs _ _ _ _ (.sl _ _ _ _ _ none 0 (fun _ => undef) (Nat.le_refl _) (fun _ => rfl) (fun i h => absurd h (Nat.not_lt_zero _)) (fun b o h => by simp at h) (fun i j c h => absurd h (Nat.not_lt_zero _))), .inl ⟨hx.1, rfl⟩⟩
  · simp [Value.cells] at hcs
    obtain ⟨rfl, rfl, rfl⟩ := hcs
    simp only [Prod.mk.injEq] at hx
    simp only [if_true] at hz
    let l : List UInt8 := (zs.take len).map toB
    have hlen : l.length = len := by simp [l]; omega
    refine ⟨l, ?_, .inr ⟨_, _, hx.1, by rw [hlen]; simp [lits]; omega⟩⟩
    refine .bs _ _ _ _ ?_
    rw [hlen]
    have hb : ∀ i, i < len → 0 ≤ zs.getD i 0 ∧ zs.getD i 0 < 256 := by
      intro i hi
      have hi' : i < zs.length := by omega
      have := hwz (zs.getD i 0) (by rw [List.getD_eq_getElem?_getD, List.getElem?_eq_getElem hi']; exact List.getElem_mem hi')
      generalize zs.getD i 0 = x at this
      simp [Lit.wf, IntKind.min, IntKind.max, IntKind.signed, IntKind.bits] at this
      omega
    have ha : a = mkA a.block a.off := by
      have hok := hval
      simp only [Value.okWide, ht, Cell.okWide, Cell.ok] at hok
      obtain ⟨b, o, sp⟩ := a
      have := hok.2.2.2.1
      simp only at this; subst this; rfl
    by_cases h0 : len = 0
    · subst h0
      have := VR.sl (G := G0 W) (w := W) [] 1 0 (byteEl l) false (some (a.block, a.off)) cap (fun _ => undef) (by omega) (by simp) (fun i h => absurd h (Nat.not_lt_zero _)) (fun b o _ q h => by simp at h) (fun i j c h => absurd h (Nat.not_lt_zero _))
      rw [ha]
      exact this
    · rw [ha]
      refine .sl _ _ _ _ _ (some (a.block, a.off)) cap (fun q => .int .u8 (zs.getD q 0)) hl (by simp) (fun i _ => rfl) (fun b o e q hq => ?_) (fun i j c hi hcj => ?_)
      · simp only [Option.some.injEq, Prod.mk.injEq] at e
        obtain ⟨rfl, rfl⟩ := e
        have h1 := hcell q (by omega)
        rw [ha, mkA_add] at h1
        exact ⟨G0_frz h1 rfl, h1⟩
      · have hj : j = 0 := by
          have := (List.getElem?_eq_some_iff.1 hcj).1
          simpa [byteEl, AV.cells] using this
        subst hj
        simp [byteEl, AV.cells] at hcj
        subst hcj
        have : ((l[i]?.getD 0).toNat : Int) = zs.getD i 0 := by
          simp only [l, List.getElem?_map, List.getElem?_take, if_pos hi]
          have hi' : i < zs.length := by omega
          rw [List.getElem?_eq_getElem hi']
          have := hb i hi
          rw [List.getD_eq_getElem?_getD, List.getElem?_eq_getElem hi'] at this ⊢
          simp only [Option.getD_some, Option.map_some] at this ⊢
          exact toB_val this.1 this.2
        rw [Nat.mul_one, Nat.add_zero, this]
        exact .int ..
theorem arg_strs {r : Reach} {t e : TypeId} {v : Value} {d : DataW H} {p : List MemPlace} (ht : P.underlying t = some (.slice e)) (he : P.underlying e = some .string) (hc : P.cellsOf e = 1)
    (hval : Value.okWide P W r base t v) (h : DataW.Trod enc P W 0 (fun _ => true) true t v d p) :
    ∃ l : List (List UInt8), VR (G0 W) W [] (.sl 1 l.length (fun i => .str (l.getD i [])) false) v ∧ ((d = .nil ∧ l = []) ∨ ∃ sp, d = .slice (l.map fun s => .lit (.string s)) sp) := by
  obtain ⟨a1, len, cap, rfl⟩ := okWide_slice ht hval
  obtain ⟨fuel, hf⟩ := h
  rcases open_strings ht he hc hf with ⟨hcs, hx⟩ | ⟨a, len', cap', ss, hcs, _, hl, hm, hz, hx, hcell, hwz⟩
  · simp [Value.cells] at hcs
    obtain ⟨rfl, rfl, rfl⟩ := hcs
    simp only [Prod.mk.injEq] at hx
    exact ⟨[], .sl _ _ _ _ _ none 0 (fun _ => undef) (Nat.le_refl _) (fun _ => rfl) (fun i h => absurd h (Nat.not_lt_zero _)) (fun b o h => by simp at h) (fun i j c h => absurd h (Nat.not_lt_zero _)), .inl ⟨hx.1, rfl⟩⟩
  · simp [Value.cells] at hcs
    obtain ⟨rfl, rfl, rfl⟩ := hcs
    simp only [Prod.mk.injEq] at hx
    simp only [if_true] at hz
    let l : List (List UInt8) := (ss.take len).map (·.data.toList)
    have hlen : l.length = len := by simp [l]; omega
    have ha : a = mkA a.block a.off := by
      have hok := hval
      simp only [Value.okWide, ht, Cell.okWide, Cell.ok] at hok
      obtain ⟨b, o, sp⟩ := a
      have := hok.2.2.2.1
      simp only at this; subst this; rfl
    refine ⟨l, ?_, .inr ⟨_, by rw [hx.1]; congr 1; simp [l, strs, Function.comp_def]⟩⟩
    rw [hlen, ha]
    refine .sl _ _ _ _ _ (some (a.block, a.off)) cap (fun q => .string (ss.getD q ByteArray.empty)) hl (by simp) (fun i _ => rfl) (fun b o e q hq => ?_) (fun i j c hi hcj => ?_)
    · simp only [Option.some.injEq, Prod.mk.injEq] at e
      obtain ⟨rfl, rfl⟩ := e
      have h1 := hcell q (by omega)
      rw [ha, mkA_add] at h1
      exact ⟨G0_frz h1 rfl, h1⟩
    · have hj : j = 0 := by
        have := (List.getElem?_eq_some_iff.1 hcj).1
        simpa [AV.cells] using this
      subst hj
      simp [AV.cells] at hcj
      subst hcj
      have hi' : i < ss.length := by omega
      have e1 : l[i]?.getD [] = (ss.getD i ByteArray.empty).data.toList := by
        simp only [l, List.getElem?_map, List.getElem?_take, if_pos hi]
        rw [List.getD_eq_getElem?_getD, List.getElem?_eq_getElem hi']; rfl
      rw [Nat.mul_one, Nat.add_zero, e1]
      have := VR.str (G := G0 W) (w := W) [] (ss.getD i ByteArray.empty).data.toList
      simpa using this
end Go.Am
