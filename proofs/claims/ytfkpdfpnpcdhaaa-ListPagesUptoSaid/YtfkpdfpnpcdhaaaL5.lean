/- list.Page walked. -/
import Derived.Test.YtfkpdfpnpcdhaaaL4
namespace Go.Proofs.LP
open Go Go.RowKit Go.Shelf Go.Proofs
set_option linter.unusedVariables false
set_option linter.unusedSimpArgs false
attribute [local go_sem] Oper.semAt_some
section
variable (hp : ByteArray → ByteArray → Bool) (gr : ByteArray → ByteArray → ByteArray → ByteArray × Bool) (names : Nat → ByteArray) (pre del mar sec : ByteArray) (qb qc : ByteArray) (qd : Int) (mx : Int)
set_option maxRecDepth 100000 in
set_option maxHeartbeats 2000000 in
theorem Page_in (n : Nat) (hn : 6 ≤ n) (w : World) (bn : Option Addr) (cap len : Nat) (hlen : len ≤ 16777216) (henv : Env w hp gr names len pre del) (hN : Names w w.heap.size bn len names) :
    CallsIn Fence.wide n Try.prog 33 #[.slice bn len cap, .agg (quC pre del mar sec qb qc mx qd).toArray] w fun e w' =>
      ∃ v, e = .returned (.tuple #[v, .bool (pgM hp gr (fun i => sle (names i) mar) names pre del mar mx len)]) ∧ IsRow w' w.heap.size v (pgL hp gr (fun i => sle (names i) mar) names pre del mar mx len) ∧ Below w.heap.size w w' := by
  have h1 : 1 ≤ n := by omega
  refine callsIn_of_wp Try.func33 rfl trivial ?_ rfl
  simp only [Try.ntmps33, quC, List.size_toArray, List.length_cons, List.length_nil, Nat.reduceAdd, Nat.reduceSub, Array.replicate_succ, Array.replicate_zero, List.push_toArray, List.append_toArray, List.nil_append, List.cons_append]
  have w48 : Fence.wide.fn 48 := trivial
  have hB : Below w.heap.size w ((w.alloc (.cells #[.slice bn len cap] 29)).alloc (.cells (quC pre del mar sec qb qc mx qd).toArray 44)) := ((Below.refl _ w).alloc (Nat.le_refl _) _).alloc (by simp) _
  have hc1 : ((w.alloc (.cells #[.slice bn len cap] 29)).alloc (.cells (quC pre del mar sec qb qc mx qd).toArray 44)).cell? ⟨w.heap.size, 0, none⟩ = some (.slice bn len cap) := Boxed.cell (t := 29) ((Boxed.new' (by simp)).alloc _)
  have hc2 : ((w.alloc (.cells #[.slice bn len cap] 29)).alloc (.cells (quC pre del mar sec qb qc mx qd).toArray 44)).cell? ⟨w.heap.size + 1, 2, none⟩ = some (.string mar) := by
    rw [World.cell?_alloc_at _ _ _ _ (by simp)]; rfl
  have hN2 : Names ((w.alloc (.cells #[.slice bn len cap] 29)).alloc (.cells (quC pre del mar sec qb qc mx qd).toArray 44)) w.heap.size bn len names := hN.below hB
  have key := page_in hp gr (fun i => sle (names i) mar) names pre del mar sec qb qc qd mx (n - 1) (by omega) _ bn cap len hlen #[.pointer (some ⟨w.heap.size, 0, none⟩), .pointer (some ⟨w.heap.size + 1, 0, none⟩)] (henv.mono hB)
    (fun i w' hi hb => callsIn_wide (n := n - 1) |>.1 (by
      obtain ⟨a, e1, e2, e3⟩ := hN2 i hi
      subst e1
      have hb' := hb.mono (B' := w.heap.size) (by simp; omega)
      exact out_in (n - 1) w.heap.size (w.heap.size + 1) i w' a len cap hlen hi (names i) mar ((hb.cell (p := ⟨w.heap.size, 0, none⟩) (by simp; omega)).trans hc1) ((hb.cell (p := ⟨w.heap.size + 1, 2, none⟩) (by simp)).trans hc2) ((hb'.cell (p := a.add i) e2).trans e3)))
    (fun i hi => by obtain ⟨a, e1, e2, e3⟩ := hN2 i hi; exact ⟨a, e1, by simp; omega, e3⟩)
  simp only [quC] at key hB
  gi_wp2_with (gi_at_call 48; refine key.mono ?_; rintro e w' ⟨v, rfl, hrow, hb⟩; have hb' := hB.trans (hb.mono hB.size))
  go_ret2
  refine ⟨_, rfl, ?_, hb'⟩
  rcases hrow with h | ⟨g, e1, e2, e3⟩
  · exact .inl h
  · exact .inr ⟨g, e1, by simp at e2; omega, e3⟩
end
end Go.Proofs.LP
