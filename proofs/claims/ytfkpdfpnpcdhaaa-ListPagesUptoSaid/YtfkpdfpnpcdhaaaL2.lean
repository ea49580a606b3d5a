/- the small functions of package list. -/
import Derived.Test.YtfkpdfpnpcdhaaaL1
import Derived.RegionIn
import Derived.Shelf.RegionOpen
namespace Go.Proofs.LP
open Go Go.RowKit Go.Shelf Go.Proofs
set_option linter.unusedVariables false
attribute [local go_sem] Oper.semAt_some
attribute [local go_sem] run_sle
set_option maxRecDepth 100000 in
set_option maxHeartbeats 1000000 in
theorem out_in (n m1 m2 : Nat) (i : Nat) (w : World) (a : Addr) (len cap : Nat) (hl : len ≤ 16777216) (hi : i < len) (x mar : ByteArray) (h1 : w.cell? ⟨m1, 0, none⟩ = some (.slice (some a) len cap)) (h2 : w.cell? ⟨m2, 2, none⟩ = some (.string mar)) (h3 : w.cell? (a.add i) = some (.string x)) :
    CallsIn Fence.wide n Try.prog 49 #[.int .i64 i, .pointer (some ⟨m1, 0, none⟩), .pointer (some ⟨m2, 0, none⟩)] w fun e w' => e = .returned (.bool (sle x mar)) ∧ Below w.heap.size w w' := by
  refine callsIn_of_wp Try.func49 rfl trivial ?_ rfl
  simp only [Try.ntmps49, List.size_toArray, List.length_cons, List.length_nil, Nat.reduceAdd, Nat.reduceSub, Array.replicate_succ, Array.replicate_zero, List.push_toArray, List.append_toArray, List.nil_append, List.cons_append]
  gi_wp2
  gi_region
  all_goals (try gi_wp2)
  all_goals go_ret
  all_goals exact ⟨rfl, (Below.refl _ _).drew⟩
/-- a question's cells -/
def quC (pre del mar sec b c : ByteArray) (mx d : Int) : List Value := [.string pre, .string del, .string mar, .string sec, .string b, .string c, .int .i64 mx, .int .i64 d]
set_option maxRecDepth 100000 in
set_option maxHeartbeats 1000000 in
theorem items_in (n : Nat) (v1 v3 : Value) (c1 : v1.oneCell' = true) (c3 : v3.oneCell' = true) (hv1 : v1.cells = #[v1]) (hv3 : v3.cells = #[v3]) (q : Array Value) (w : World) :
    CallsIn Fence.wide n Try.prog 55 #[v1, .agg q, v3] w fun e w' => e = .returned (.func (.func 66) #[] #[.pointer (some ⟨w.heap.size, 0, none⟩), .pointer (some ⟨w.heap.size + 1, 0, none⟩), .pointer (some ⟨w.heap.size + 2, 0, none⟩)]) ∧ w' = ((w.alloc (.cells #[v1] 29)).alloc (.cells q 44)).alloc (.cells #[v3] 87) := by
  refine callsIn_of_wp Try.func55 rfl trivial ?_ rfl
  simp only [Try.ntmps55, List.size_toArray, List.length_cons, List.length_nil, Nat.reduceAdd, Nat.reduceSub, Array.replicate_succ, Array.replicate_zero, List.push_toArray, List.append_toArray, List.nil_append, List.cons_append]
  gi_wp2
  trace_state
  go_ret
  exact ⟨rfl, by simp [hv1, hv3]⟩
end Go.Proofs.LP
