/- loads, stores and allocations of an item. -/
import Derived.Test.YtfkpdfpnpcdhaaaAm31
import Derived.RangeFuncBox
import Derived.RangeFuncLeaves
import Derived.Shelf.Abstract
import Derived.WalkKit
import Derived.OwnWalkIn
import Derived.TacticsInMore
import Derived.LoopNIn
import Derived.LoopIn
import Derived.Maps.AppendAt
import Derived.Test.YtfkpdfpnpcdhaaaProg
namespace Go.Proofs.LP
open Go Go.RowKit Go.Shelf Go.Am Go.Proofs
set_option linter.unusedVariables false
set_option maxRecDepth 100000
instance (priority := low) noTab : Tab := ⟨fun _ => none⟩
/-- an item's cells -/
def itC (s : ByteArray) (g : Bool) (k : Int) : List Value :=
  [.string s, .bool g, .int .i64 k, .string ⟨#[]⟩, .int .i64 0, .bool false, .bool false, .string ⟨#[]⟩, .int .i64 0, .int .i64 0, .string ⟨#[]⟩, .slice none 0 0, .slice none 0 0, .int .i64 0, .int .i64 0, .string ⟨#[]⟩, .int .i64 0, .int .i64 0, .string ⟨#[]⟩, .slice none 0 0, .slice none 0 0, .bool false]
theorem itC_len (s g k) : (itC s g k).length = 22 := rfl
theorem itC_one (s g k) : ∀ v, v ∈ itC s g k → v.oneCell' = true := by
  intro v hv
  have : (itC s g k).all (·.oneCell') = true := rfl
  exact List.all_eq_true.1 this v hv
/-- a row of an item's cells at a block's start -/
structure IsIt (W : World) (b : Nat) (vs : List Value) : Prop where
  len : vs.length = 22
  cell : ∀ j v, vs[j]? = some v → W.cell? ⟨b, j, none⟩ = some v
  fz : ∀ j, j < 22 → W.frozen? ⟨b, j, none⟩ = false
theorem IsIt.below {W W' : World} {b B : Nat} {vs : List Value} (h : IsIt W b vs) (hb : Below B W W') (hB : b < B) : IsIt W' b vs :=
  ⟨h.len, fun j v e => (hb.cell (p := ⟨b, j, none⟩) hB).trans (h.cell j v e), fun j e => (hb.frozen (p := ⟨b, j, none⟩) hB).trans (h.fz j e)⟩
theorem IsIt.alloc (W : World) {vs : List Value} (h : vs.length = 22) : IsIt (W.alloc (.cells vs.toArray 64)) W.heap.size vs :=
  ⟨h, fun j v e => by have := cell_alloc_new W vs.toArray 64 (0, 0) j; rw [mkA] at this; rw [this]; simpa using e, fun j e => by have := frozen_alloc_new W vs.toArray 64 (0, 0) j; rw [mkA] at this; rw [this]; simp⟩

section
variable {F : Fence} {n : Nat} {P : Program} {ops : Array Oper} {Q : Exit → Act → World → Prop} {a : Act} {w w' : World} {rest : List Oper} {o : Oper}
theorem step_val (hg : o.guard = none) (hab : o.about P w a.eval = none) (hd : ∀ c, o.op ≠ .defer c) {v : Value} (hr : (execOp a.eval o).run P w = .ok (.value v) w') (hK : wpListIn F n P ops Q rest (a.put o.dst v) w') : wpListIn F n P ops Q (o :: rest) a w := by
  refine wpListIn_plain hg fun K hK' => ?_
  unfold Oper.wpIn
  refine ⟨by simp [hab], ?_⟩
  rw [Oper.semAt_plain F _ _ hd, hr]
  exact hK' _ _ hK
theorem step_skp (hg : o.guard = none) (hab : o.about P w a.eval = none) (hd : ∀ c, o.op ≠ .defer c) (hr : (execOp a.eval o).run P w = .ok .skip w') (hK : wpListIn F n P ops Q rest (a.put o.dst undef) w') : wpListIn F n P ops Q (o :: rest) a w := by
  refine wpListIn_plain hg fun K hK' => ?_
  unfold Oper.wpIn
  refine ⟨by simp [hab], ?_⟩
  rw [Oper.semAt_plain F _ _ hd, hr]
  exact hK' _ _ hK
end
section
variable {F : Fence} {n : Nat} {ops : Array Oper} {Q : Exit → Act → World → Prop} {a : Act} {w w' : World} {rest : List Oper} {o : Oper}
theorem isz : szT Try.prog 64 = some 22 := by kernel_rfl
theorem iag : isAggT Try.prog 64 = some true := by kernel_rfl
theorem izr : (Try.prog.info? 64).map (fun i => (i.zero, i.size)) = some (some (.agg (itC ⟨#[]⟩ false 0).toArray), 22) := by kernel_rfl
theorem op_load {x : Operand} {b : Nat} {vs : List Value} (h : IsIt w b vs) (hg : o.guard = none) (hop : o.op = .load 64 x) (hx : a.eval x = .pointer (some ⟨b, 0, none⟩)) (hK : wpListIn F n Try.prog ops Q rest (a.put o.dst (.agg vs.toArray)) w) : wpListIn F n Try.prog ops Q (o :: rest) a w := by
  refine step_val hg (by simp [Oper.about, hop]) (by simp [hop]) (w' := w) ?_ hK
  have := run_loadCells_list (P := Try.prog) w (mkA b 0) vs (fun j v hj => by rw [mkA_add, Nat.zero_add]; exact h.cell j v hj)
  rw [h.len] at this
  simp only [execOp, hop, hx, Instr.loadAt, Instr.sureAddr, Sem.run_bind, Sem.run_pure, Result.andThen_ok, loadVar, run_isAgg iag, if_true, Go.Am.run_sizeOf (P := Try.prog) (w := w) isz]
  have e : (⟨b, 0, none⟩ : Addr) = mkA b 0 := rfl
  rw [e, this]
  rfl
theorem op_store {x y : Operand} {b : Nat} {vs xs : List Value} (h : IsIt w b vs) (hl : xs.length = 22) (h1 : ∀ v, v ∈ xs → v.oneCell' = true) (hg : o.guard = none) (hop : o.op = .store 64 x y) (hx : a.eval x = .pointer (some ⟨b, 0, none⟩)) (hy : a.eval y = .agg xs.toArray)
    (hK : ∀ w', IsIt w' b xs → (∀ B, B ≤ b → Below B w w') → w'.heap.size = w.heap.size → (∀ b', b' ≠ b → w'.heap[b']? = w.heap[b']?) → wpListIn F n Try.prog ops Q rest (a.put o.dst undef) w') : wpListIn F n Try.prog ops Q (o :: rest) a w := by
  have hsome : ∀ j, j < xs.length → (w.cell? (mkA b (0 + j))).isSome = true := fun j hj => by
    rw [Nat.zero_add]
    have hj' : j < vs.length := by rw [h.len]; omega
    have := h.cell j vs[j] (List.getElem?_eq_getElem hj')
    show (w.cell? ⟨b, j, none⟩).isSome = true
    rw [this]; rfl
  have hfz : ∀ j, j < xs.length → w.frozen? (mkA b (0 + j)) = false := fun j hj => by rw [Nat.zero_add]; exact h.fz j (by omega)
  obtain ⟨f1, f2, f3, f4, f5⟩ := setCells_fix b xs 0 w
  refine step_skp hg (by simp [Oper.about, hop]) (by simp [hop]) (w' := w.setCells b 0 xs) ?_ (hK _ ⟨hl, fun j v e => ?_, fun j e => ?_⟩ (fun B hB => ⟨f1, f2, f3, by rw [f4]; exact Nat.le_refl _, fun k hk => f5 k (by omega)⟩) f4 f5)
  · have := run_storeCells_cells (P := Try.prog) b 0 xs 0 w hsome hfz h1
    simp only [execOp, hop, hx, hy, Instr.storeAt, Instr.sureAddr, Sem.run_bind, Sem.run_pure, Result.andThen_ok, storeVar, Go.Am.run_sizeOf (P := Try.prog) (w := w) isz]
    have e : (⟨b, 0, none⟩ : Addr) = mkA b 0 := rfl
    rw [e]
    have this' : (storeCells (mkA b 0) xs).run Try.prog w = .ok () (w.setCells b 0 xs) := this
    simp [hl, Value.cells, this']
  · have hj := (List.getElem?_eq_some_iff.1 e).1
    have := World.cell?_setCells_in b xs 0 w hsome j hj
    rw [Nat.zero_add] at this
    rw [this, ← e, List.getElem?_eq_getElem hj]
  · rw [World.frozen?_setCells]; exact h.fz j e
theorem op_alloc (hg : o.guard = none) (hop : o.op = .alloc 64) (hK : ∀ w', w'.heap.size = w.heap.size + 1 → IsIt w' w.heap.size (itC ⟨#[]⟩ false 0) → Below w.heap.size w w' → w' = w.alloc (.cells (itC ⟨#[]⟩ false 0).toArray 64) → wpListIn F n Try.prog ops Q rest (a.put o.dst (.pointer (some ⟨w.heap.size, 0, none⟩))) w') : wpListIn F n Try.prog ops Q (o :: rest) a w := by
  refine step_val hg (by simp [Oper.about, hop]) (by simp [hop]) (w' := w.alloc (.cells (itC ⟨#[]⟩ false 0).toArray 64)) ?_ (hK _ (by simp [alloc_heap]) (IsIt.alloc w rfl) ((Below.refl _ w).alloc (Nat.le_refl _) _) rfl)
  obtain ⟨i, h1, h2⟩ := Option.map_eq_some_iff.1 izr
  simp only [Prod.mk.injEq] at h2
  simp [execOp, hop, Instr.alloc, zeroValue, run_ti (P := Try.prog) (w := w) h1, h2.1, newVar, newRow, Value.cells]
end
end Go.Proofs.LP
