/- The abstract machine: a return that leaves the function's own blocks behind. -/
import Derived.Test.YtnohmijdpmelpaaGreatAm29
set_option linter.unusedSectionVars false
set_option linter.unusedVariables false
set_option linter.unusedSimpArgs false
namespace Go.Am
open Go
variable [Tab]
variable {P : Program} {n k0 : Nat} {fr : Fr} {H : Heap} {f : FuncId} {S : List Item} {res : AV} {H' : Heap}

theorem BR.takeP {G : Gh} {w : World} {ρ : List Nat} {H : Heap} (h : BR G w ρ H) (m : Nat) (hp : (H.take m).all (·.all pf) = true) : BR G w (ρ.take m) (H.take m) := by
  refine ⟨by simp [h.len], fun id b blk j c h1 h2 h3 => ?_⟩
  have hm : id < m := by
    have := (List.getElem?_eq_some_iff.1 h2).1
    simp at this; omega
  have h2' := h2
  rw [List.getElem?_take, if_pos hm] at h1 h2
  obtain ⟨e, v, k1, k2, k3⟩ := h.cell id b blk j c h1 h2 h3
  refine ⟨e, v, k1, k2.pf ?_ _, k3⟩
  rw [List.all_eq_true] at hp
  have := hp blk (List.mem_of_getElem? h2')
  rw [List.all_eq_true] at this
  exact this c (List.mem_of_getElem? h3)
/-- the result is read, the function's own blocks are left -/
theorem Runs.retD {fn : Func} {v : AV} (hf : P.funcs[f]? = some fn) (h : retE P fr H fn.results.toList = some v) (hn : nr v = true) (hq : pfR v = true) (hr : v = res) (hh : H.take k0 = H') (hp : (H.take k0).all (·.all pf) = true) : Runs P f n k0 (.code .ret :: S) fr H res H' := by
  intro b a w G ρ h1 h2 h3 hk h4 cs
  obtain ⟨v', w', G', ρ', frm, s1, s2, s3, t1, t2, t3, t4, t5, t6⟩ := Runs.retH (S := S) (n := n) (k0 := k0) hf h hn hr rfl b a w G ρ h1 h2 h3 hk h4 cs
  subst hr; subst hh
  refine ⟨v', w', G', ρ'.take k0, frm, s1, s2, s3, t1, t2, by rw [List.take_take, Nat.min_self]; exact t3, t4.takeP k0 hp, t5.pfR hq _, t6⟩
end Go.Am
