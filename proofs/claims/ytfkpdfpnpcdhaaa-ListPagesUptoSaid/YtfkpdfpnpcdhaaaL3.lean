/- list.items as a sequence. -/
import Derived.Test.YtfkpdfpnpcdhaaaL2
namespace Go.Proofs.LP
open Go Go.RowKit Go.Shelf Go.Proofs
set_option linter.unusedVariables false
set_option linter.unusedSimpArgs false
attribute [local go_sem] Oper.semAt_some
theorem Kx.set {c d n : Nat} {A B : World} (h : Kx c d n A B) (v : Value) : Kx c d n A (B.setCell ⟨c, 0, none⟩ v) :=
  h.trans ⟨rfl, rfl, rfl, (KeepsWalks.setCell B _ v).size, fun k _ hk _ => Below.heap_setCell _ _ _ k hk⟩
theorem Kx.set2 {c d n : Nat} {A B : World} (h : Kx c d n A B) (v : Value) : Kx c d n A (B.setCell ⟨d, 0, none⟩ v) :=
  h.trans ⟨rfl, rfl, rfl, (KeepsWalks.setCell B _ v).size, fun k _ _ hk => Below.heap_setCell _ _ _ k hk⟩
theorem Boxed.setOther {W : World} {B C : Nat} {t : TypeId} {v : Value} (h : Boxed W B t v) (x : Value) (hne : B ≠ C) : Boxed (W.setCell ⟨C, 0, none⟩ x) B t v :=
  (Below.heap_setCell _ _ _ B hne).trans h
theorem boxApp {W w1 : World} {N B d : Nat} {t e : TypeId} {size : Nat} {v v' : Value} {k m : Nat} {xs ys : List Value} {tmp : Obj}
    (hv : Boxed W B t v) (hte : t ≠ e) (hrow : W.ownsRow N e size v k xs) (hN : N ≤ W.heap.size)
    (hown' : w1.ownsRow N e size v' m ys) (hgrow : (W.alloc tmp).grownBy w1 v.ownBlock) :
    Boxed w1 B t v ∧ Boxed (w1.setCell ⟨B, 0, none⟩ v') B t v' ∧ (w1.setCell ⟨B, 0, none⟩ v').ownsRow N e size v' m ys ∧ KeepsOthers W (w1.setCell ⟨B, 0, none⟩ v') ∧ Kx B d N W (w1.setCell ⟨B, 0, none⟩ v') ∧
    (∀ C u x, Boxed W C u x → u ≠ e → C ≠ B → Boxed (w1.setCell ⟨B, 0, none⟩ v') C u x) := by
  have hv1 : Boxed w1 B t v := (hv.alloc tmp).kept hgrow (hv.not_row hte hrow)
  refine ⟨hv1, hv1.set v', hown'.kept (grownBy_setCell' w1 B v') (.inr (hv1.not_row hte hown').symm), ?_, ?_, fun C u x hC hu hne => Boxed.setOther ((hC.alloc tmp).kept hgrow (hC.not_row hu hrow)) _ hne⟩
  · refine ((KeepsOthers.alloc W tmp).trans (KeepsOthers.of_grownBy hgrow fun j o ej hj => ?_)).trans (KeepsOthers.setCell _ _ _)
    rcases (hrow.alloc tmp).2 with ⟨rfl, _⟩ | ⟨g, cap, cur, rfl, _, hgb, _⟩
    · simp [Value.ownBlock] at ej
    · obtain rfl : g = j := by simpa [Value.ownBlock] using ej
      rw [hgb] at hj; cases hj; rfl
  · refine Kx.set (Below.kx (((Below.refl N W).alloc hN tmp).grown hgrow (by simp; omega) fun j ej => ?_)) v'
    rcases hrow.2 with ⟨rfl, _⟩ | ⟨g, cap, cur, rfl, hb, _, _⟩
    · simp [Value.ownBlock] at ej
    · obtain rfl : g = j := by simpa [Value.ownBlock] using ej
      exact hb
theorem u45 : Try.prog.underlying 45 = some (.slice 64) := by kernel_rfl
theorem inf64 : (Try.prog.info? 64).map (fun i => (i.zero, i.size, Nat.ble i.bytes 4096)) = some (some (.agg (itC ⟨#[]⟩ false 0).toArray), 22, true) := by kernel_rfl
section
variable {F : Fence} {n : Nat} {ops : Array Oper} {Q : Exit → Act → World → Prop} {a : Act} {w w' : World} {rest : List Oper} {o : Oper}
theorem op_build {x : Operand} {s : ByteArray} {g : Bool} {k : Int} (hg : o.guard = none) (hop : o.op = .buildSlice 45 1 #[(0, x)]) (hx : a.eval x = .agg (itC s g k).toArray)
   (hK : wpListIn F n Try.prog ops Q rest (a.put o.dst (.slice (some ⟨w.heap.size, 0, none⟩) 1 1)) (w.alloc (.cells (itC s g k).toArray 64))) : wpListIn F n Try.prog ops Q (o :: rest) a w := by
  refine step_val hg (by simp [Oper.about, hop]) (by simp [hop]) (w' := w.alloc (.cells (itC s g k).toArray 64)) ?_ hK
  obtain ⟨i, h1, h2⟩ := Option.map_eq_some_iff.1 izr
  simp only [Prod.mk.injEq] at h2
  have hf : Instr.fill (fun i => some (i * 22, 22)) ((Array.range (1 * 22)).map ((itC ⟨#[]⟩ false 0).toArray[· % (itC ⟨#[]⟩ false 0).toArray.size]!)) [(0, .agg (itC s g k).toArray)] = some (itC s g k).toArray := by
    have hr : Array.range (1 * 22) = #[0, 1, 2, 3, 4, 5, 6, 7, 8, 9, 10, 11, 12, 13, 14, 15, 16, 17, 18, 19, 20, 21] := by decide
    rw [hr]
    simp [Instr.fill, Value.cells, itC]
  have hf' : Instr.fill (fun i => some (i * 22, 22)) ((Array.range (1 * 22)).map ((Value.agg (itC ⟨#[]⟩ false 0).toArray).cells[· % (Value.agg (itC ⟨#[]⟩ false 0).toArray).cells.size]!)) [(0, .agg (itC s g k).toArray)] = some (itC s g k).toArray := hf
  simp only [execOp, hop, Instr.buildSlice, Sem.run_bind, run_underlying u45, Result.andThen_ok, Go.Am.run_sizeOf (P := Try.prog) (w := w) isz]
  simp only [List.map_toArray, List.map_cons, List.map_nil, hx]
  rw [if_neg (by decide)]
  simp only [Sem.run_bind, Sem.run_pure, Result.andThen_ok]
  rw [if_neg (by decide)]
  simp only [Sem.run_bind, Sem.run_pure, Result.andThen_ok, zeroValue, Go.Am.run_ti (P := Try.prog) (w := w) h1, h2.1, newRow]
  simp [hf']
end
set_option maxRecDepth 100000 in
set_option maxHeartbeats 1000000 in
theorem clip_in (n : Nat) (v : Option Addr) (k cap : Nat) (hk : k ≤ cap) (w : World) :
    CallsIn Fence.wide n Try.prog 56 #[.slice v k cap] w fun e w' => ∃ u, e = .returned (.slice u k k) ∧ (u = v) ∧ w' = w := by
  refine callsIn_of_wp Try.func56 rfl trivial ?_ rfl
  simp only [Try.ntmps56, List.size_toArray, List.length_cons, List.length_nil, Nat.reduceAdd, Nat.reduceSub, Array.replicate_succ, Array.replicate_zero, List.push_toArray, List.append_toArray, List.nil_append, List.cons_append]
  cases v with
  | none =>
    gi_wp2
    go_ret
    exact ⟨_, rfl, rfl, rfl⟩
  | some a =>
    gi_wp2
    go_ret
    exact ⟨_, rfl, rfl, rfl⟩
theorem Kx.low {c d N n : Nat} {A B : World} (h : Kx c d N A B) (h1 : n ≤ N) (hc : n ≤ c) (hd : n ≤ d) : Below n A B :=
  ⟨h.os, h.tape, h.output, h.size, fun k hk => h.block k (by omega) (by omega) (by omega)⟩
theorem kxB {c d : Nat} {w : World} (W : World) (l : Nat) (o o' : Obj) (hl : w.heap.size ≤ l) (h : W.heap[l]? = some o) (_ : o.isCells = false) (_ : o.isWalk = false) : Kx c d w.heap.size W (W.putObj l o') :=
  Below.kx (belowK_b (Nat.le_refl _) W l o o' hl h ‹_› ‹_›)
/-- what the called functions answer, in every later world -/
structure Env (w0 : World) (hp : ByteArray → ByteArray → Bool) (gr : ByteArray → ByteArray → ByteArray → ByteArray × Bool) (names : Nat → ByteArray) (len : Nat) (pre del : ByteArray) : Prop where
  hp : ∀ s p w, Below w0.heap.size w0 w → Calls Try.prog 67 #[.string s, .string p] w fun e w' => e = .returned (.bool (hp s p)) ∧ Below w.heap.size w w'
  gr : ∀ (k : Nat) w, k < len → Below w0.heap.size w0 w → Calls Try.prog 30 #[.string (names k), .string pre, .string del] w fun e w' => e = .returned (.tuple #[.string (gr (names k) pre del).1, .bool (gr (names k) pre del).2]) ∧ Below w.heap.size w w'
theorem Env.mono {w0 w1 : World} {hp gr names len pre del} (h : Env w0 hp gr names len pre del) (hb : Below w0.heap.size w0 w1) : Env w1 hp gr names len pre del :=
  ⟨fun s p w hw => h.hp s p w (hb.trans (hw.mono hb.size)), fun k w hk hw => h.gr k w hk (hb.trans (hw.mono hb.size))⟩
/-- a row of texts, somewhere below -/
def Names (w : World) (N : Nat) (bn : Option Addr) (len : Nat) (names : Nat → ByteArray) : Prop :=
  ∀ i, i < len → ∃ a : Addr, bn = some a ∧ (a.add i).block < N ∧ w.cell? (a.add i) = some (.string (names i))
theorem Names.below {w w' : World} {N bn len names} (h : Names w N bn len names) (hb : Below N w w') : Names w' N bn len names := fun i hi => by
  obtain ⟨a, h1, h2, h3⟩ := h i hi
  exact ⟨a, h1, h2, (hb.cell (p := a.add i) h2).trans h3⟩
section
variable (hp : ByteArray → ByteArray → Bool) (gr : ByteArray → ByteArray → ByteArray → ByteArray × Bool) (out : Nat → Bool) (names : Nat → ByteArray) (pre del mar : ByteArray)
theorem items_stops (n : Nat) (hn : 2 ≤ n) (w0 w : World) (c d B1 B2 B3 : Nat) (hB1 : B1 < w.heap.size ∧ B1 ≠ c ∧ B1 ≠ d) (hB2 : B2 < w.heap.size ∧ B2 ≠ c ∧ B2 ≠ d) (hB3 : B3 < w.heap.size ∧ B3 ≠ c ∧ B3 ≠ d) (hc : w0.heap.size ≤ c) (hd : w0.heap.size ≤ d)
    (h0 : Below w0.heap.size w0 w) (bn : Option Addr) (cap len : Nat) (hlen : len ≤ 16777216) (bo : Array Value) (henv : Env w0 hp gr names len pre del)
    (hOut : ∀ (i : Nat) w, i < len → Below w0.heap.size w0 w → Calls Try.prog 49 (#[.int .i64 i] ++ bo) w fun e w' => e = .returned (.bool (out i)) ∧ Below w.heap.size w w')
    (hN : Names w0 w0.heap.size bn len names)
    (h1 : w.cell? ⟨B1, 0, none⟩ = some (.slice bn len cap)) (q0 : w.cell? ⟨B2, 0, none⟩ = some (.string pre)) (q1 : w.cell? ⟨B2, 1, none⟩ = some (.string del)) (q2 : w.cell? ⟨B2, 2, none⟩ = some (.string mar))
    (h3 : w.cell? ⟨B3, 0, none⟩ = some (.func (.func 49) #[] bo)) :
    SeqStopsK Fence.wide n Try.prog 66 #[.pointer (some ⟨B1, 0, none⟩), .pointer (some ⟨B2, 0, none⟩), .pointer (some ⟨B3, 0, none⟩)] (fun x : It => #[It.val x]) (Kx c d w.heap.size)
      (fun ys => ys = (upto hp gr out names pre del mar len).ys) (fun ys => ys <+: (upto hp gr out names pre del mar len).ys) len w := fun l J Jx W hW hJ hJx hY hJ0 => by
  have lo : ∀ w', Kx c d w.heap.size W w' → Below w0.heap.size w0 w' := fun w' h => (h0.trans (hW.mono h0.size)).trans (h.low h0.size hc hd)
  exact items1_in n hn l B1 B2 B3 w.heap.size c d hB1 hB2 hB3 bn cap len hlen names pre del mar bo J Jx hp gr out W hW.size
    (fun s p w' h => callsIn_wide.2 (henv.hp s p w' (lo w' h))) (fun k w' hk h => callsIn_wide.2 (henv.gr k w' hk (lo w' h))) (fun i w' hi h => callsIn_wide.2 (hOut i w' hi (lo w' h)))
    ((hW.cell (p := ⟨B1, 0, none⟩) hB1.1).trans h1)
    (fun i hi => by
      obtain ⟨a, e1, e2, e3⟩ := hN i hi
      have := h0.size
      exact ⟨a, e1, ⟨by omega, by omega, by omega⟩, ((h0.trans (hW.mono h0.size)).cell (p := a.add i) e2).trans e3⟩)
    ((hW.cell (p := ⟨B2, 0, none⟩) hB2.1).trans q0) ((hW.cell (p := ⟨B2, 1, none⟩) hB2.1).trans q1) ((hW.cell (p := ⟨B2, 2, none⟩) hB2.1).trans q2)
    ((hW.cell (p := ⟨B3, 0, none⟩) hB3.1).trans h3) hJ hY hJ0
end
end Go.Proofs.LP
