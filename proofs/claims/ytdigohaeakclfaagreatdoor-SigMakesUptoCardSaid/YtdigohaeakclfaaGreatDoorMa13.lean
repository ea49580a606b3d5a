/- Rows of pairs in memory: a pair more, a pair written. Calls that leave a fresh row of texts. slices.SortFunc's contract laid at this program (the shelf's own, in plain words). slices.SortFunc and slices.Compare at texts. slices.SortFunc at slices of pairs: the row holds the pairs in order. -/
import Derived.Test.YtdigohaeakclfaaGreatDoorMa12
import Derived.RangeFuncBox
import Derived.WalkSpells
import Derived.Test.YtdigohaeakclfaaGreatDoorMa10
import Derived.Shelf.SlSortCmp.NoneTotal
import Derived.Shelf.SlSortCmp.Whole1
import Derived.BigQuiet
import Derived.Deep.QuietTactic
import Derived.Laws.Cover1
import Derived.StillTailTactics
set_option maxRecDepth 100000
set_option linter.unusedVariables false
set_option linter.unusedSimpArgs false
set_option linter.unusedSectionVars false
namespace Go.Proofs.YtdigohaeakclfaaGreatDoor
open Go Go.Am Go.RowKit
def cellsP (l : List Hd) : List Value := l.flatMap fun p => [.string ⟨p.1.toArray⟩, .string ⟨p.2.toArray⟩]
theorem cellsP_cons (p : Hd) (l : List Hd) : cellsP (p :: l) = .string ⟨p.1.toArray⟩ :: .string ⟨p.2.toArray⟩ :: cellsP l := rfl
theorem cellsP_app (l m : List Hd) : cellsP (l ++ m) = cellsP l ++ cellsP m := by simp [cellsP]
theorem cellsP_len : ∀ (l : List Hd), (cellsP l).length = l.length * 2
  | [] => rfl
  | p :: l => by rw [cellsP_cons]; simp only [List.length_cons]; have := cellsP_len l; omega
theorem cellsP_at {A B : List Hd} {y : Hd} {j : Nat} (h : A.length = j) : (cellsP (A ++ y :: B))[j * 2]? = some (.string ⟨y.1.toArray⟩) ∧ (cellsP (A ++ y :: B))[j * 2 + 1]? = some (.string ⟨y.2.toArray⟩) := by
  have hl := cellsP_len A
  rw [cellsP_app, cellsP_cons]
  constructor
  · rw [List.getElem?_append_right (by omega), show j * 2 - (cellsP A).length = 0 by omega]; rfl
  · rw [List.getElem?_append_right (by omega), show j * 2 + 1 - (cellsP A).length = 1 by omega]; rfl
theorem cellsP_get {l : List Hd} {i : Nat} (h : i < l.length) : (cellsP l)[i * 2]? = some (.string ⟨(l.getD i ([], [])).1.toArray⟩) ∧ (cellsP l)[i * 2 + 1]? = some (.string ⟨(l.getD i ([], [])).2.toArray⟩) := by
  have e : l = l.take i ++ l.getD i ([], []) :: l.drop (i + 1) := by
    rw [List.getD_eq_getElem?_getD, List.getElem?_eq_getElem h]
    simp
  have := cellsP_at (A := l.take i) (B := l.drop (i + 1)) (y := l.getD i ([], [])) (j := i) (by rw [List.length_take]; omega)
  rwa [← e] at this
theorem cellsP_set {A B : List Hd} {y z : Hd} {j : Nat} (h : A.length = j) : ((cellsP (A ++ y :: B)).set (j * 2) (.string ⟨z.1.toArray⟩)).set (j * 2 + 1) (.string ⟨z.2.toArray⟩) = cellsP (A ++ z :: B) := by
  have hl := cellsP_len A
  rw [cellsP_app, cellsP_app, cellsP_cons, cellsP_cons]
  rw [List.set_append_right _ _ (by omega), List.set_append_right _ _ (by omega), show j * 2 - (cellsP A).length = 0 by omega, show j * 2 + 1 - (cellsP A).length = 1 by omega]
  rfl
theorem rowG_cell {W : World} {N : Nat} {e : TypeId} {sz g n cap : Nat} {xs : List Value} (h : W.ownsRow N e sz (.slice (some ⟨g, 0, none⟩) n cap) n xs) {j : Nat} {u : Value} (hj : xs[j]? = some u) :
    W.cell? ⟨g, j, none⟩ = some u ∧ W.frozen? ⟨g, j, none⟩ = false ∧ N ≤ g := by
  rcases h.2 with ⟨h0, _⟩ | ⟨g', cap', cur, h0, hg, hc, h1, h2, h3, h4⟩
  · cases h0
  · simp only [Value.slice.injEq, Option.some.injEq, Addr.mk.injEq] at h0
    obtain ⟨⟨rfl, _, _⟩, _, rfl⟩ := h0
    refine ⟨?_, by simp [World.frozen?, hc], hg⟩
    rw [← h4, List.getElem?_take] at hj
    split at hj
    · simp only [World.cell?, hc]; simpa using hj
    · cases hj
theorem rowG_set {W : World} {N : Nat} {e : TypeId} {sz g n cap : Nat} {xs : List Value} (h : W.ownsRow N e sz (.slice (some ⟨g, 0, none⟩) n cap) n xs) (j : Nat) (u : Value) :
    (W.setCell ⟨g, j, none⟩ u).ownsRow N e sz (.slice (some ⟨g, 0, none⟩) n cap) n (xs.set j u) := by
  refine ⟨by rw [List.length_set]; exact h.1, ?_⟩
  rcases h.2 with ⟨h0, _⟩ | ⟨g', cap', cur, h0, hg, hc, h1, h2, h3, h4⟩
  · cases h0
  · simp only [Value.slice.injEq, Option.some.injEq, Addr.mk.injEq] at h0
    obtain ⟨⟨rfl, _, _⟩, _, rfl⟩ := h0
    obtain ⟨hlt, hk⟩ := Array.getElem?_eq_some_iff.1 hc
    refine .inr ⟨g, cap, cur.setIfInBounds j u, rfl, hg, ?_, h1, h2, by simpa using h3, ?_⟩
    · show (W.heap.modify g _)[g]? = _
      rw [Array.getElem?_eq_getElem (by rw [Array.size_modify]; exact hlt), Array.getElem_modify_self, hk]
      rfl
    · rw [Array.toList_setIfInBounds, ← h4, ← List.take_set]
theorem row_base {W : World} {N M : Nat} {e : TypeId} {sz : Nat} {v : Value} {n : Nat} {xs : List Value} (h : W.ownsRow M e sz v n xs) (hM : N ≤ M) : W.ownsRow N e sz v n xs := by
  refine ⟨h.1, ?_⟩
  rcases h.2 with h0 | ⟨g, cap, cur, h1, h2, h3⟩
  · exact .inl h0
  · exact .inr ⟨g, cap, cur, h1, Nat.le_trans hM h2, h3⟩
theorem keepR {w1 W W' : World} {N : Nat} {e : TypeId} {sz : Nat} {v : Value} {n : Nat} {xs : List Value} (h : Below w1.heap.size w1 W ∧ W.ownsRow N e sz v n xs) (h' : Below W.heap.size W W') : Below w1.heap.size w1 W' ∧ W'.ownsRow N e sz v n xs := by
  refine ⟨h.1.trans (h'.mono h.1.size), h.2.1, ?_⟩
  rcases h.2.2 with h0 | ⟨g, cap, cur, h1, h2, h3, h4⟩
  · exact .inl h0
  · exact .inr ⟨g, cap, cur, h1, h2, (h'.block g (Array.getElem?_eq_some_iff.1 h3).1).trans h3, h4⟩
theorem info_parts {t : TypeId} {z : Option Value} {s b : Nat} (h : (Tryz.prog.info? t).map (fun i => (i.zero, i.size, i.bytes)) = some (z, s, b)) : ∃ i, Tryz.prog.info? t = some i ∧ i.zero = z ∧ i.size = s ∧ i.bytes = b := by
  cases hc : Tryz.prog.info? t with
  | none => rw [hc] at h; cases h
  | some i => rw [hc] at h; injection h with h; injection h with h1 h2; injection h2 with h2 h3; exact ⟨i, rfl, h1, h2, h3⟩
theorem i48 : (Tryz.prog.info? 47).map (fun i => (i.zero, i.size, i.bytes)) = some (some (.agg #[.string ⟨#[]⟩, .string ⟨#[]⟩]), 2, 32) := by kernel_rfl
theorem u22 : Tryz.prog.underlying 22 = some (.slice 47) := by kernel_rfl
theorem cell_two (w : World) (a b : Value) (t : TypeId) : ∀ (j : Nat) (u : Value), [a, b][j]? = some u → (w.alloc (.cells #[a, b] t)).cell? ((⟨w.heap.size, 0, none⟩ : Addr).add j) = some u := by
  intro j u hj
  match j, hj with
  | 0, hj => simp at hj; subst hj; simp [Addr.add]
  | 1, hj => simp at hj; subst hj; simp [Addr.add]
theorem cell_two2 (w : World) (p : Obj) (a b : Value) (t : TypeId) : ∀ (j : Nat) (u : Value), [a, b][j]? = some u → ((w.alloc p).alloc (.cells #[a, b] t)).cell? ((⟨w.heap.size + 1, 0, none⟩ : Addr).add j) = some u := by
  intro j u hj
  have := cell_two (w.alloc p) a b t j u hj
  rwa [show (w.alloc p).heap.size = w.heap.size + 1 by simp] at this
theorem hp_new (w : World) (p q : Obj) : ((w.alloc p).alloc q).heap[w.heap.size]? = some p :=
  ((World.grownBy_alloc (w.alloc p) q none).block w.heap.size (by simp) (by simp)).trans (heap_alloc_new w p)
/-- a pair is put behind a row; where it comes to lie is not the block that is asked about -/
theorem app_hd {ops : Array Oper} {rest : List Oper} {o : Oper} {a : Act} {Q : Exit → Act → World → Prop} {W : World} (hgd : o.guard = none) (s x : Operand)
    (ho : o.op = .call { callee := .builtin .append, args := #[s, x], argTypes := #[22, 22] }) (N : Nat) (v : Value) (m : Nat) (xs : List Value) (hs : a.eval s = v)
    (hown : W.ownsRow N 47 2 v m xs) (h0 : m = 0 → v = .slice none 0 0) (ad : Addr) (z : Hd) (hx : a.eval x = .slice (some ad) 1 1)
    (hnews : ∀ (j : Nat) (u : Value), [Value.string ⟨z.1.toArray⟩, Value.string ⟨z.2.toArray⟩][j]? = some u → W.cell? (ad.add j) = some u)
    (hm : m ≤ 3500001) (P : Nat) (hN : N ≤ P) (hP : W.heap[P]? = some (.cells #[.string ⟨z.1.toArray⟩, .string ⟨z.2.toArray⟩] 47 (0, 0))) (hPv : v.ownBlock ≠ some P)
    (h : ∀ g' cap' w', w'.ownsRow N 47 2 (.slice (some ⟨g', 0, none⟩) (m + 1) cap') (m + 1) (xs ++ [.string ⟨z.1.toArray⟩, .string ⟨z.2.toArray⟩]) → g' ≠ P → W.grownBy w' v.ownBlock →
      wpList Tryz.prog ops Q rest (a.put o.dst (.slice (some ⟨g', 0, none⟩) (m + 1) cap')) w') : wpList Tryz.prog ops Q (o :: rest) a W := by
  obtain ⟨i0, hi, hz0, hz1, hz2⟩ := info_parts i48
  have hPs : P < W.heap.size := (Array.getElem?_eq_some_iff.1 hP).1
  have hone : ∀ u ∈ [Value.string ⟨z.1.toArray⟩, Value.string ⟨z.2.toArray⟩], u.oneCell' = true := fun u hu => by simp at hu; rcases hu with rfl | rfl <;> rfl
  rcases Nat.eq_zero_or_pos m with h00 | hpos
  · have hv := h0 h00
    subst h00
    subst hv
    have hxs : xs = [] := List.eq_nil_of_length_eq_zero (by have := hown.1; omega)
    subst hxs
    refine wpList_append_own W hgd s x 22 ho W.heap.size 47 i0 (.agg #[.string ⟨#[]⟩, .string ⟨#[]⟩]) 2 32 u22 hi hz0 hz1 hz2 rfl (by decide) _ 0 [] hs (World.ownsRow_nil _ _ _ _) ad 1 1 _ hx rfl hnews hone (by simp [maxLen]) (by omega) (Nat.le_refl _) ?_
    intro v' w' hown' hgrow _
    obtain ⟨g', cap', rfl⟩ := ownsRow_succ hown'
    refine h g' cap' w' (row_base hown' (by omega)) ?_ hgrow
    have := (rowG_cell hown' (j := 0) (u := .string ⟨z.1.toArray⟩) rfl).2.2
    omega
  · refine wpList_append_own W hgd s x 22 ho N 47 i0 (.agg #[.string ⟨#[]⟩, .string ⟨#[]⟩]) 2 32 u22 hi hz0 hz1 hz2 rfl (by decide) v m xs hs hown ad 1 1 _ hx rfl hnews hone (by simp [maxLen]; omega) (by omega) (by omega) ?_
    intro v' w' hown' hgrow _
    obtain ⟨g', cap', rfl⟩ := ownsRow_succ hown'
    refine h g' cap' w' hown' (fun e => ?_) hgrow
    subst e
    rcases hown'.2 with ⟨h1, _⟩ | ⟨g2, cap2, cur, h1, h2, h3, h4, h5, h6, h7⟩
    · cases h1
    · simp only [Value.slice.injEq, Option.some.injEq, Addr.mk.injEq] at h1
      obtain ⟨⟨rfl, _, _⟩, _, rfl⟩ := h1
      have := hgrow.block g' hPs (fun e => hPv e.symm)
      rw [h3, hP] at this
      simp only [Option.some.injEq, Obj.cells.injEq] at this
      rw [this.1] at h6
      simp at h6
      omega
theorem after_app {w1 w5 w6 : World} {v : Value} {n : Nat} {xs : List Value} {p q : Obj} (B5 : Below w1.heap.size w1 w5 ∧ w5.ownsRow w1.heap.size 47 2 v n xs) (hg : ((w5.alloc p).alloc q).grownBy w6 v.ownBlock) :
    Below w1.heap.size w1 w6 ∧ w6.heap[w5.heap.size]? = some p := by
  have hs := B5.1.size
  constructor
  · exact ((B5.1.alloc hs p).alloc (by simp; omega) q).grown hg (by simp; omega) fun k e => (B5.2.lt k e).1
  · refine (hg.block w5.heap.size (by simp; omega) (fun e => ?_)).trans (hp_new _ _ _)
    have := (B5.2.lt _ e.symm).2
    omega
theorem after_app2 {w1 w5 w6 : World} {v : Value} {n g cg m : Nat} {ys : List Hd} {z : Hd} {q : Obj} (B5 : Below w1.heap.size w1 w5 ∧ w5.ownsRow w1.heap.size 47 2 v n (cellsP ys))
    (ho : w6.ownsRow w1.heap.size 47 2 (.slice (some ⟨g, 0, none⟩) (m + 1) cg) (m + 1) (cellsP ys ++ [.string ⟨z.1.toArray⟩, .string ⟨z.2.toArray⟩])) (hp : g ≠ w5.heap.size)
    (hg : ((w5.alloc (.cells #[.string ⟨z.1.toArray⟩, .string ⟨z.2.toArray⟩] 47)).alloc q).grownBy w6 v.ownBlock) :
    Below w1.heap.size w1 w6 ∧ w6.ownsRow w1.heap.size 47 2 (.slice (some ⟨g, 0, none⟩) (m + 1) cg) (m + 1) (cellsP (ys ++ [z])) ∧ g ≠ w5.heap.size ∧ w6.heap[w5.heap.size]? = some (.cells #[.string ⟨z.1.toArray⟩, .string ⟨z.2.toArray⟩] 47 (0, 0)) := by
  have h := after_app B5 hg
  refine ⟨h.1, ?_, hp, h.2⟩
  rw [cellsP_app]; exact ho
theorem set_other {W : World} {g P j : Nat} (h : g ≠ P) (u : Value) : (W.setCell ⟨g, j, none⟩ u).heap[P]? = W.heap[P]? := by
  show (W.heap.modify g _)[P]? = _
  rw [Array.getElem?_modify, if_neg h]
theorem pcell {W : World} {P : Nat} {a b : Value} (h : W.heap[P]? = some (.cells #[a, b] 47 (0, 0))) : W.cell? ⟨P, 0, none⟩ = some a ∧ W.cell? ⟨P, 1, none⟩ = some b := by
  constructor <;> simp [World.cell?, h]
/-- a pair of the row is written -/
theorem row_put {W : World} {N g n cap : Nat} {A B : List Hd} {y : Hd} (h : W.ownsRow N 47 2 (.slice (some ⟨g, 0, none⟩) n cap) n (cellsP (A ++ y :: B))) {j : Nat} (hj : A.length = j) (z : Hd) :
    ((W.setCell ⟨g, j * 2, none⟩ (.string ⟨z.1.toArray⟩)).setCell ⟨g, j * 2 + 1, none⟩ (.string ⟨z.2.toArray⟩)).ownsRow N 47 2 (.slice (some ⟨g, 0, none⟩) n cap) n (cellsP (A ++ z :: B)) := by
  have := rowG_set (rowG_set h (j * 2) (.string ⟨z.1.toArray⟩)) (j * 2 + 1) (.string ⟨z.2.toArray⟩)
  rwa [cellsP_set hj] at this
/-- what a store asks of the cells of a pair -/
theorem row_cells {W : World} {N g n cap : Nat} {A B : List Hd} {y : Hd} (h : W.ownsRow N 47 2 (.slice (some ⟨g, 0, none⟩) n cap) n (cellsP (A ++ y :: B))) {j : Nat} (hj : A.length = j) :
    W.cell? ⟨g, j * 2, none⟩ = some (.string ⟨y.1.toArray⟩) ∧ W.frozen? ⟨g, j * 2, none⟩ = false ∧ W.cell? ⟨g, j * 2 + 1, none⟩ = some (.string ⟨y.2.toArray⟩) ∧ W.frozen? ⟨g, j * 2 + 1, none⟩ = false ∧ N ≤ g := by
  have h1 := rowG_cell h (cellsP_at (B := B) (y := y) hj).1
  have h2 := rowG_cell h (cellsP_at (B := B) (y := y) hj).2
  exact ⟨h1.1, h1.2.1, h2.1, h2.2.1, h1.2.2⟩
theorem row_heap {W W' : World} {N : Nat} {e : TypeId} {v : Value} {n sz : Nat} {xs : List Value} (h : W.ownsRow N e sz v n xs) (e' : W'.heap = W.heap) : W'.ownsRow N e sz v n xs := by
  unfold World.ownsRow at *
  rw [e']; exact h
theorem below_dn {B : Nat} {w W : World} (h : Below B w W) (n : Nat) : Below B w (W.drewN n) := ⟨h.os, h.tape, h.output, h.size, h.block⟩
theorem row_done {W : World} {N : Nat} {v : Value} {m j : Nat} {ps ys : List Hd} {z : Hd} (hy : m = ps.length ∧ ys = sortP ps ∧ ys.length = m) (hst : stpP ys z j = stpP ys z m) (hj : stpP ys z j = j)
    (h : W.ownsRow N 47 2 v (m + 1) (cellsP (ys.take j ++ z :: ys.drop j))) : W.ownsRow N 47 2 v (ps ++ [z]).length (cellsP (sortP (ps ++ [z]))) := by
  have e : sortP (ps ++ [z]) = ys.take j ++ z :: ys.drop j := by
    rw [sortP_snoc, ← hy.2.1]
    unfold insP
    rw [hy.2.2, ← hst, hj]
  have el : (ps ++ [z]).length = m + 1 := by rw [hy.1]; simp
  rw [e, el]; exact h
theorem row_shift {W : World} {N : Nat} {v : Value} {m i : Nat} {ys : List Hd} (hl : i < ys.length) (h : W.ownsRow N 47 2 v m (cellsP (ys.take (i + 1) ++ ys.getD i ([], []) :: ys.drop (i + 1)))) :
    W.ownsRow N 47 2 v m (cellsP (ys.take i ++ ys.getD i ([], []) :: ys.drop i)) := by
  have e : ys.take (i + 1) ++ ys.getD i ([], []) :: ys.drop (i + 1) = ys.take i ++ ys.getD i ([], []) :: ys.drop i := by
    have e1 : ys.take (i + 1) = ys.take i ++ [ys.getD i ([], [])] := by rw [List.take_add_one, List.getD_eq_getElem?_getD, List.getElem?_eq_getElem hl]; rfl
    have e2 : ys.drop i = ys.getD i ([], []) :: ys.drop (i + 1) := by rw [List.drop_eq_getElem_cons hl, List.getD_eq_getElem?_getD, List.getElem?_eq_getElem hl]; rfl
    rw [e1, e2]; simp
  rw [← e]; exact h
/-- the cells of the pair ahead of the place -/
theorem row_ahead {W : World} {N g n cap i : Nat} {ys : List Hd} {y : Hd} (hl : i < ys.length) (h : W.ownsRow N 47 2 (.slice (some ⟨g, 0, none⟩) n cap) n (cellsP (ys.take (i + 1) ++ y :: ys.drop (i + 1)))) :
    W.cell? ⟨g, i * 2, none⟩ = some (.string ⟨(ys.getD i ([], [])).1.toArray⟩) ∧ W.cell? ⟨g, i * 2 + 1, none⟩ = some (.string ⟨(ys.getD i ([], [])).2.toArray⟩) := by
  have e : ys.take (i + 1) ++ y :: ys.drop (i + 1) = ys.take i ++ ys.getD i ([], []) :: (y :: ys.drop (i + 1)) := by
    have e1 : ys.take (i + 1) = ys.take i ++ [ys.getD i ([], [])] := by rw [List.take_add_one, List.getD_eq_getElem?_getD, List.getElem?_eq_getElem hl]; rfl
    rw [e1]; simp
  rw [e] at h
  have := cellsP_at (A := ys.take i) (B := y :: ys.drop (i + 1)) (y := ys.getD i ([], [])) (j := i) (by rw [List.length_take]; omega)
  exact ⟨(rowG_cell h this.1).1, (rowG_cell h this.2).1⟩
theorem after63 {w1 wr w7 : World} {N : Nat} {v : Value} {n P : Nat} {xs : List Value} {p : Obj} (h : Below w1.heap.size w1 wr ∧ wr.ownsRow N 47 2 v n xs) (hP : wr.heap[P]? = some p) (hB : Below wr.drew.heap.size wr.drew w7) :
    Below w1.heap.size w1 w7 ∧ w7.ownsRow N 47 2 v n xs ∧ w7.heap[P]? = some p := by
  have hB' : Below wr.heap.size wr w7 := ⟨hB.os, hB.tape, hB.output, hB.size, hB.block⟩
  have := keepR h hB'
  exact ⟨this.1, this.2, (hB'.block P (Array.getElem?_eq_some_iff.1 hP).1).trans hP⟩
theorem put_below {w1 W : World} {N g a b : Nat} {u v : Value} (h : Below N w1 W) (hg : N ≤ g) : Below N w1 ((W.setCell ⟨g, a, none⟩ u).setCell ⟨g, b, none⟩ v) :=
  (h.setCell (p := ⟨g, a, none⟩) hg _).setCell (p := ⟨g, b, none⟩) hg _
theorem put_heap {W : World} {g a b P : Nat} {u v : Value} {p : Obj} (h : W.heap[P]? = some p) (hg : g ≠ P) : ((W.setCell ⟨g, a, none⟩ u).setCell ⟨g, b, none⟩ v).heap[P]? = some p :=
  (set_other hg _).trans ((set_other hg _).trans h)
theorem stp_true {ys : List Hd} {z q : Hd} {i : Nat} (hq : q = ys.getD i ([], [])) (h : belowP z q = true) : stpP ys z (i + 1) = stpP ys z i := by
  conv => lhs; unfold stpP
  rw [← hq, if_pos h]
theorem stp_false {ys : List Hd} {z q : Hd} {i : Nat} (hq : q = ys.getD i ([], [])) (h : belowP z q = false) : stpP ys z (i + 1) = i + 1 := by
  conv => lhs; unfold stpP
  rw [← hq, if_neg (by rw [h]; exact Bool.false_ne_true)]
/-- what is joined, as bytes -/
def JN (L : List Hd) (j : Nat) : ByteArray := ⟨(joinN (L.map fmtP) [38] j).toArray⟩
theorem cat_mk (a b : List UInt8) : (⟨a.toArray⟩ : ByteArray) ++ ⟨b.toArray⟩ = ⟨(a ++ b).toArray⟩ := by
  apply ByteArray.ext; simp [ByteArray.data_append]
theorem map_fmt (L : List Hd) (j : Nat) (h : j < L.length) : (L.map fmtP).getD j [] = (L.getD j ([], [])).1 ++ [61] ++ (L.getD j ([], [])).2 := by
  rw [List.getD_eq_getElem?_getD, List.getElem?_map, List.getD_eq_getElem?_getD, List.getElem?_eq_getElem h]; rfl
theorem JN_zero (L : List Hd) : JN L 0 = ⟨#[]⟩ := rfl
theorem JN_first (L : List Hd) (h : 0 < L.length) : JN L 1 = ⟨#[]⟩ ++ ⟨(L.getD 0 ([], [])).1.toArray⟩ ++ ⟨#[61]⟩ ++ ⟨(L.getD 0 ([], [])).2.toArray⟩ := by
  rw [show (⟨#[]⟩ : ByteArray) = ⟨([] : List UInt8).toArray⟩ from rfl, show (⟨#[61]⟩ : ByteArray) = ⟨([61] : List UInt8).toArray⟩ from rfl, cat_mk, cat_mk, cat_mk]
  unfold JN
  rw [joinN_succ, map_fmt L 0 h]
  simp [joinN]
theorem JN_next (L : List Hd) (j : Nat) (h : j < L.length) (hj : 0 < j) : JN L (j + 1) = JN L j ++ ⟨#[38]⟩ ++ ⟨(L.getD j ([], [])).1.toArray⟩ ++ ⟨#[61]⟩ ++ ⟨(L.getD j ([], [])).2.toArray⟩ := by
  rw [show (⟨#[38]⟩ : ByteArray) = ⟨([38] : List UInt8).toArray⟩ from rfl, show (⟨#[61]⟩ : ByteArray) = ⟨([61] : List UInt8).toArray⟩ from rfl]
  unfold JN
  rw [cat_mk, cat_mk, cat_mk, cat_mk, joinN_succ, map_fmt L j h, if_pos hj]
  simp
theorem JN_size (L : List Hd) (j : Nat) (hj : j ≤ L.length) (h : (joinL (L.map fmtP) [38]).length ≤ 80000000000000) : (JN L j).size ≤ 80000000000000 := by
  have := joinN_mono (L.map fmtP) [38] j L.length hj
  have e : joinL (L.map fmtP) [38] = joinN (L.map fmtP) [38] L.length := by unfold joinL; rw [List.length_map]
  rw [e] at h
  show (joinN (L.map fmtP) [38] j).toArray.size ≤ _
  rw [List.size_toArray]; omega
theorem JN_all (L : List Hd) : JN L L.length = ⟨(joinL (L.map fmtP) [38]).toArray⟩ := by
  unfold JN joinL; rw [List.length_map]
end Go.Proofs.YtdigohaeakclfaaGreatDoor
set_option maxRecDepth 100000
set_option linter.unusedVariables false
set_option linter.unusedSimpArgs false
set_option linter.unusedSectionVars false
namespace Go.Proofs.YtdigohaeakclfaaGreatDoor
open Go Go.Am Go.RowKit
/-- who owns what behind a call that leaves a fresh row -/
def frG (G : Gh) (g n : Nat) : Gh := fun b o => if b = g ∧ o < n then .frz else G b o
theorem frG_tr {G : Gh} {w w' : World} {g : Nat} {row : List Value} (hB : Below w.heap.size w w') (hw : WI G w) (hg : w.heap.size ≤ g)
    (hc : ∀ (j : Nat) (u : Value), row[j]? = some u → w'.cell? ⟨g, j, none⟩ = some u ∧ w'.frozen? ⟨g, j, none⟩ = false) : Trans G w (frG G g row.length) w' := by
  have hlt : ∀ b o, (G b o = .frz ∨ G b o = .ctx) → b < w.heap.size := fun b o e => hw.lt (b := b) (o := o) (by rcases e with e | e <;> rw [e] <;> simp)
  refine ⟨hB.os, hB.tape, hB.output, hB.size, fun b o e => ?_, fun b o e => ?_, fun b o e => Below.at_ hB (hlt b o e), fun b hb _ => hB.block b hb, fun b o e1 e2 => ?_⟩
  · unfold frG; split <;> simp [e]
  · unfold frG; rw [if_neg (by rintro ⟨rfl, -⟩; have := hlt _ o (.inr e); omega)]; exact e
  · unfold frG at e2
    split at e2
    · rename_i h
      obtain ⟨rfl, h⟩ := h
      exact (hc o _ (List.getElem?_eq_getElem h)).2
    · exact absurd e2 e1
theorem frG_wi {G : Gh} {w w' : World} {g : Nat} {row : List Value} (hB : Below w.heap.size w w') (hw : WI G w) (hg : w.heap.size ≤ g)
    (hc : ∀ (j : Nat) (u : Value), row[j]? = some u → w'.cell? ⟨g, j, none⟩ = some u ∧ w'.frozen? ⟨g, j, none⟩ = false) (h1 : ∀ v, v ∈ row → v.oneCell' = true) : WI (frG G g row.length) w' := by
  have hw' := Below.wi hB hw
  refine ⟨fun b o e => ?_, fun b o hb => ?_, fun b o v e hv => ?_, hw.tab.trans (frG_tr hB hw hg hc)⟩
  · unfold frG at e
    split at e
    · simp [Own.mine] at e
    · exact hw'.own b o e
  · unfold frG
    rw [if_neg]
    · exact hw'.old b o hb
    · rintro ⟨rfl, h⟩
      have := (hc o _ (List.getElem?_eq_getElem h)).1
      unfold World.cell? at this
      split at this
      · rename_i e; have := (Array.getElem?_eq_some_iff.1 e).1; simp at this; omega
      · simp at this
  · unfold frG at e
    split at e
    · rename_i h
      obtain ⟨rfl, h⟩ := h
      have := (hc o _ (List.getElem?_eq_getElem h)).1
      rw [show mkA b o = ⟨b, o, none⟩ from rfl, this] at hv
      cases hv
      exact h1 _ (List.getElem_mem h)
    · exact hw'.one b o v e hv
theorem nil_br {G : Gh} {w : World} : BR G w [] [] := ⟨rfl, fun id b blk j c h1 => by simp at h1⟩
/-- a row of texts that a call has made, as the machine reads it -/
theorem fresh_strs {G : Gh} {w w' : World} {v : Value} {r : List (List UInt8)} (hw : WI G w) (hrow : w'.ownsRow w.heap.size 9 1 v r.length (sV r)) (hB : Below w.heap.size w w') :
    ∃ G', Trans G w G' w' ∧ WI G' w' ∧ VR G' w' [] (.sl 1 r.length (strEl r) false) v := by
  have hvl : (sV r).length = r.length := by simp [sV]
  have hv1 : ∀ v, v ∈ sV r → v.oneCell' = true := fun v hv => by
    obtain ⟨x, _, rfl⟩ := List.mem_map.1 hv; rfl
  rcases hrow.2 with ⟨rfl, h0⟩ | ⟨g, cap', cur, rfl, hg, hcur, h1, h2, h3, h4⟩
  · refine ⟨G, Below.tr hB hw, Below.wi hB hw, ?_⟩
    rw [h0]
    exact .sl _ _ _ _ _ none 0 (fun _ => undef) (Nat.le_refl _) (fun _ => rfl) (fun i h => absurd h (Nat.not_lt_zero _)) (fun b o h => by simp at h) (fun i j c h => absurd h (Nat.not_lt_zero _))
  · have hcs : ∀ (j : Nat) (u : Value), (sV r)[j]? = some u → w'.cell? ⟨g, j, none⟩ = some u ∧ w'.frozen? ⟨g, j, none⟩ = false := fun j u e => by
      obtain ⟨e1, e2, _⟩ := rowG_cell hrow e; exact ⟨e1, e2⟩
    refine ⟨frG G g (sV r).length, frG_tr hB hw hg hcs, frG_wi hB hw hg hcs hv1, ?_⟩
    refine .sl _ _ _ _ _ (some (g, 0)) cap' (fun q => (sV r).getD q undef) h1 (fun h => by cases h) (fun i hi => rfl) (fun b o hbo q hq => ?_) (fun i j c hi hj => ?_)
    · cases hbo
      have hq' : q < (sV r).length := by omega
      refine ⟨by unfold frG; rw [if_pos ⟨rfl, by omega⟩], ?_⟩
      rw [List.getD_eq_getElem?_getD, List.getElem?_eq_getElem hq', Option.getD_some]
      simpa [mkA] using (hcs q _ (List.getElem?_eq_getElem hq')).1
    · have hj' : j = 0 := by have := (List.getElem?_eq_some_iff.1 hj).1; simp [AV.cells, strEl] at this; omega
      subst hj'
      have : c = .str (r.getD i []) := by simpa [AV.cells, strEl] using hj.symm
      subst this
      rw [Nat.mul_one, Nat.add_zero]
      simp only [sV, List.getD_eq_getElem?_getD, List.getElem?_map, List.getElem?_eq_getElem hi, Option.map_some, Option.getD_some]
      exact .str ..
end Go.Proofs.YtdigohaeakclfaaGreatDoor
namespace Go.Proofs
open Go.Shelf
def Tryz.sort55_ren : Go.Shelf.Ren := ⟨fun | 6 => 103 | 15 => 101 | 14 => 142 | 28 => 139 | 29 => 140 | 20 => 166 | 21 => 167 | 22 => 168 | 23 => 169 | 24 => 170 | 25 => 171 | 26 => 172 | 27 => 173 | 46 => 180 | 47 => 161 | 48 => 162 | 49 => 181 | 50 => 182 | 57 => 187 | n => n, fun | 22 => 138 | 24 => 53 | 25 => 140 | 3 => 3 | 39 => 122 | 0 => 0 | 53 => 141 | 55 => 166 | 4 => 4 | 46 => 159 | 45 => 158 | 50 => 79 | 5 => 5 | 9 => 9 | 66 => 178 | 70 => 182 | 76 => 195 | 77 => 196 | n => n, fun | n => n⟩
theorem Tryz.sort55 : Go.Proofs.SlLaysF.n6 Tryz.prog Tryz.sort55_ren := {
  mixed := by kernel_rfl
  f6 := ⟨Tryz.f103.name, by decide, Tryz.func103.trans (congrArg some (by kernel_rfl))⟩
  f14 := ⟨Tryz.f142.name, by decide, Tryz.func142.trans (congrArg some (by kernel_rfl))⟩
  f15 := Tryz.func101.trans (congrArg some (by kernel_rfl))
  f20 := ⟨Tryz.f166.name, by decide, Tryz.func166.trans (congrArg some (by kernel_rfl))⟩
  f21 := ⟨Tryz.f167.name, by decide, Tryz.func167.trans (congrArg some (by kernel_rfl))⟩
  f22 := ⟨Tryz.f168.name, by decide, Tryz.func168.trans (congrArg some (by kernel_rfl))⟩
  f23 := ⟨Tryz.f169.name, by decide, Tryz.func169.trans (congrArg some (by kernel_rfl))⟩
  f24 := ⟨Tryz.f170.name, by decide, Tryz.func170.trans (congrArg some (by kernel_rfl))⟩
  f25 := ⟨Tryz.f171.name, by decide, Tryz.func171.trans (congrArg some (by kernel_rfl))⟩
  f26 := ⟨Tryz.f172.name, by decide, Tryz.func172.trans (congrArg some (by kernel_rfl))⟩
  f27 := ⟨Tryz.f173.name, by decide, Tryz.func173.trans (congrArg some (by kernel_rfl))⟩
  f28 := Tryz.func139.trans (congrArg some (by kernel_rfl))
  f29 := Tryz.func140.trans (congrArg some (by kernel_rfl))
  f46 := ⟨Tryz.f180.name, by decide, Tryz.func180.trans (congrArg some (by kernel_rfl))⟩
  f47 := Tryz.func161.trans (congrArg some (by kernel_rfl))
  f48 := Tryz.func162.trans (congrArg some (by kernel_rfl))
  f49 := ⟨Tryz.f181.name, by decide, Tryz.func181.trans (congrArg some (by kernel_rfl))⟩
  f50 := ⟨Tryz.f182.name, by decide, Tryz.func182.trans (congrArg some (by kernel_rfl))⟩
  f57 := ⟨Tryz.f187.name, by decide, Tryz.func187.trans (congrArg some (by kernel_rfl))⟩
  t0 := Tryz.underlying0
  a0 := Tryz.isAgg0
  z0 := Tryz.sizeOf0
  v0 := Tryz.zeroValue0
  t3 := Tryz.underlying3
  a3 := Tryz.isAgg3
  z3 := Tryz.sizeOf3
  v3 := Tryz.zeroValue3
  t4 := Tryz.underlying4
  a4 := Tryz.isAgg4
  z4 := Tryz.sizeOf4
  v4 := Tryz.zeroValue4
  t5 := Tryz.underlying5
  a5 := Tryz.isAgg5
  z5 := Tryz.sizeOf5
  v5 := Tryz.zeroValue5
  t9 := Tryz.underlying9
  a9 := Tryz.isAgg9
  z9 := Tryz.sizeOf9
  v9 := Tryz.zeroValue9
  t22 := Tryz.underlying138
  a22 := Tryz.isAgg138
  z22 := Tryz.sizeOf138
  v22 := Tryz.zeroValue138
  a24 := Tryz.isAgg53
  z24 := Tryz.sizeOf53
  t25 := Tryz.underlying140
  a25 := Tryz.isAgg140
  z25 := Tryz.sizeOf140
  v25 := Tryz.zeroValue140
  t39 := Tryz.underlying122
  a39 := Tryz.isAgg122
  z39 := Tryz.sizeOf122
  v39 := Tryz.zeroValue122
  t45 := Tryz.underlying158
  a45 := Tryz.isAgg158
  z45 := Tryz.sizeOf158
  v45 := Tryz.zeroValue158
  t46 := Tryz.underlying159
  a46 := Tryz.isAgg159
  z46 := Tryz.sizeOf159
  v46 := Tryz.zeroValue159
  t50 := Tryz.underlying79
  a50 := Tryz.isAgg79
  z50 := Tryz.sizeOf79
  v50 := Tryz.zeroValue79
  t53 := Tryz.underlying141
  a53 := Tryz.isAgg141
  z53 := Tryz.sizeOf141
  v53 := Tryz.zeroValue141
  t55 := Tryz.underlying166
  a55 := Tryz.isAgg166
  z55 := Tryz.sizeOf166
  v55 := Tryz.zeroValue166
  t66 := Tryz.underlying178
  a66 := Tryz.isAgg178
  z66 := Tryz.sizeOf178
  v66 := Tryz.zeroValue178
  t70 := Tryz.underlying182
  a70 := Tryz.isAgg182
  z70 := Tryz.sizeOf182
  v70 := Tryz.zeroValue182
  t76 := Tryz.underlying195
  a76 := Tryz.isAgg195
  z76 := Tryz.sizeOf195
  v76 := Tryz.zeroValue195
  t77 := Tryz.underlying196
  a77 := Tryz.isAgg196
  z77 := Tryz.sizeOf196
  v77 := Tryz.zeroValue196 }
end Go.Proofs
set_option maxRecDepth 100000
set_option linter.unusedVariables false
set_option linter.unusedSimpArgs false
set_option linter.unusedSectionVars false
namespace Go.Proofs.YtdigohaeakclfaaGreatDoor
open Go Go.Am Go.RowKit
attribute [local go_sem] Oper.semAt_some
def cmpL (a b : List UInt8) : Int := if ltL a b = true then -1 else if a = b then 0 else 1
theorem nan140 (x : ByteArray) (w : World) : Calls Tryz.prog 165 #[.string x] w fun e w' => e = .returned (.bool false) ∧ w' = w := by
  have hx : (x.toList == x.toList) = true := by simp
  go_enter Tryz.func165, Tryz.ntmps165
  go_wp2
  go_ret
  simp
theorem cmp100 (a b : List UInt8) (w : World) : Calls Tryz.prog 143 #[.string ⟨a.toArray⟩, .string ⟨b.toArray⟩] w fun e w' => e = .returned (.int .i64 (cmpL a b)) ∧ w' = w := by
  obtain ⟨A, hA⟩ : ∃ A : ByteArray, A = ⟨a.toArray⟩ := ⟨_, rfl⟩
  obtain ⟨B, hB⟩ : ∃ A : ByteArray, A = ⟨b.toArray⟩ := ⟨_, rfl⟩
  have eA : A.toList = a := by rw [hA]; simp
  have eB : B.toList = b := by rw [hB]; simp
  rw [← hA, ← hB]
  clear hA hB
  have K140 : Hid (∀ x w, Calls Tryz.prog 165 #[.string x] w fun e w' => e = .returned (.bool false) ∧ w' = w) := nan140
  cases h1 : ltL a b with
  | true =>
    have f1 : Op.bytesLess A.toList B.toList = true := by rw [eA, eB]; exact h1
    have hc : Hid (cmpL a b = -1) := by unfold cmpL; rw [if_pos h1]; rfl
    clear eA eB h1
    go_enter Tryz.func143, Tryz.ntmps143
    go_wp2_with (go_at_call 165; refine (K140.out _ _).mono ?_; rintro e w' ⟨rfl, rfl⟩)
    go_ret
    rw [hc.out]; exact ⟨rfl, rfl⟩
  | false =>
    have f1 : Op.bytesLess A.toList B.toList = false := by rw [eA, eB]; exact h1
    by_cases h2 : a = b
    · have f2 : (A.toList == B.toList) = true := by rw [eA, eB, h2]; simp
      have hc : Hid (cmpL a b = 0) := by unfold cmpL; rw [if_neg (by rw [h1]; exact Bool.false_ne_true), if_pos h2]; rfl
      clear eA eB h1 h2
      go_enter Tryz.func143, Tryz.ntmps143
      go_wp2_with (go_at_call 165; refine (K140.out _ _).mono ?_; rintro e w' ⟨rfl, rfl⟩)
      go_ret
      rw [hc.out]; exact ⟨rfl, rfl⟩
    · have f2 : (A.toList == B.toList) = false := by rw [eA, eB, beq_eq_false_iff_ne]; exact h2
      have hc : Hid (cmpL a b = 1) := by unfold cmpL; rw [if_neg (by rw [h1]; exact Bool.false_ne_true), if_neg h2]; rfl
      clear eA eB h1 h2
      go_enter Tryz.func143, Tryz.ntmps143
      go_wp2_with (go_at_call 165; refine (K140.out _ _).mono ?_; rintro e w' ⟨rfl, rfl⟩)
      go_ret
      rw [hc.out]; exact ⟨rfl, rfl⟩
def cmpP (p q : Hd) : Int := if cmpL p.1 q.1 = 0 then cmpL p.2 q.2 else cmpL p.1 q.1
set_option maxHeartbeats 1000000 in
theorem cmp56 (p q : Hd) (b1 b2 : Nat) (W : World) (h1 : W.cell? ⟨b1, 0, none⟩ = some (.string ⟨p.1.toArray⟩)) (h2 : W.cell? ⟨b1, 1, none⟩ = some (.string ⟨p.2.toArray⟩)) (h3 : W.cell? ⟨b2, 0, none⟩ = some (.string ⟨q.1.toArray⟩)) (h4 : W.cell? ⟨b2, 1, none⟩ = some (.string ⟨q.2.toArray⟩)) :
    Calls Tryz.prog 104 #[.slice (some ⟨b1, 0, none⟩) 2 2, .slice (some ⟨b2, 0, none⟩) 2 2] W fun e w' => e = .returned (.int .i64 (cmpP p q)) ∧ w' = W := by
  have KA := cmp100 p.1 q.1
  have KB := cmp100 p.2 q.2
  obtain ⟨r, hr⟩ : ∃ r, r = cmpP p q := ⟨_, rfl⟩
  rw [← hr]
  obtain ⟨c1, hc1⟩ : ∃ c, c = cmpL p.1 q.1 := ⟨_, rfl⟩
  obtain ⟨c2, hc2⟩ : ∃ c, c = cmpL p.2 q.2 := ⟨_, rfl⟩
  have HC : Hid (r = if c1 = 0 then c2 else c1) := by rw [hr, hc1, hc2]; rfl
  rw [← hc1] at KA
  rw [← hc2] at KB
  clear hr hc1 hc2
  generalize (⟨p.1.toArray⟩ : ByteArray) = P1 at *
  generalize (⟨p.2.toArray⟩ : ByteArray) = P2 at *
  generalize (⟨q.1.toArray⟩ : ByteArray) = Q1 at *
  generalize (⟨q.2.toArray⟩ : ByteArray) = Q2 at *
  have KA' : Hid (∀ w, Calls Tryz.prog 143 #[.string P1, .string Q1] w fun e w' => e = .returned (.int .i64 c1) ∧ w' = w) := KA
  have KB' : Hid (∀ w, Calls Tryz.prog 143 #[.string P2, .string Q2] w fun e w' => e = .returned (.int .i64 c2) ∧ w' = w) := KB
  clear KA KB
  go_enter Tryz.func104, Tryz.ntmps104
  go_wp2
  go_loopw [11] (fun v wr => ∃ (i : Nat), v = .int .i64 i ∧ i ≤ 2 ∧ wr = W ∧ (0 < i → c1 = 0) ∧ (1 < i → c2 = 0))
    (fun v _ => match v with | .int _ i => 2 - i.toNat | _ => 0)
  case atStart => exact ⟨0, rfl, by omega, rfl, by omega, by omega⟩
  case round =>
    obtain ⟨i, rfl, hi, rfl, g1, g2⟩ := hrel
    match i, hi with
    | 0, _ =>
      clear g1 g2
      by_cases hz : c1 = 0
      · subst hz
        have HC0 := HC
        clear HC KB'
        go_wp2_with (go_at_call 143; refine (KA'.out _).mono ?_; rintro e w' ⟨rfl, rfl⟩; clear KA')
        exact ⟨⟨1, by simp, by omega, by simp, by simp, by omega⟩, by simp⟩
      · have hb : (c1 != 0) = true := by rw [bne_iff_ne]; exact hz
        have HC0 : Hid (r = c1) := by rw [HC.out, if_neg hz]; rfl
        clear HC KB' hz
        go_wp2_with (go_at_call 143; refine (KA'.out _).mono ?_; rintro e w' ⟨rfl, rfl⟩; clear KA')
        go_ret
        rw [HC0.out]; exact ⟨rfl, rfl⟩
    | 1, _ =>
      have hz := g1 (by omega)
      subst hz
      clear g1 g2 KA'
      by_cases hz : c2 = 0
      · subst hz
        have HC0 := HC
        clear HC
        go_wp2_with (go_at_call 143; refine (KB'.out _).mono ?_; rintro e w' ⟨rfl, rfl⟩; clear KB')
        exact ⟨⟨2, by simp, by omega, by simp, by simp, by simp⟩, by simp⟩
      · have hb : (c2 != 0) = true := by rw [bne_iff_ne]; exact hz
        have HC0 : Hid (r = c2) := by rw [HC.out, if_pos rfl]; rfl
        clear HC hz
        go_wp2_with (go_at_call 143; refine (KB'.out _).mono ?_; rintro e w' ⟨rfl, rfl⟩; clear KB')
        go_ret
        rw [HC0.out]; exact ⟨rfl, rfl⟩
    | 2, _ =>
      have hz := g1 (by omega)
      have hz2 := g2 (by omega)
      subst hz
      subst hz2
      have HC0 : Hid (r = 0) := by rw [HC.out, if_pos rfl]; rfl
      clear g1 g2 KA' KB' HC
      go_wp2
      go_ret
      rw [HC0.out]; exact ⟨rfl, rfl⟩
end Go.Proofs.YtdigohaeakclfaaGreatDoor
set_option maxRecDepth 100000
set_option linter.unusedVariables false
set_option linter.unusedSimpArgs false
namespace Go.Proofs.YtdigohaeakclfaaGreatDoor
open Go Go.Am Go.RowKit Go.Sort
theorem cmpL_neg (a b : List UInt8) : cmpL a b < 0 ↔ ltL a b = true := by
  unfold cmpL
  by_cases h : ltL a b = true
  · rw [if_pos h]; simp [h]
  · rw [if_neg h]; split <;> simp_all
theorem cmpL_zero (a b : List UInt8) : cmpL a b = 0 ↔ a = b := by
  unfold cmpL
  by_cases h : ltL a b = true
  · rw [if_pos h]
    constructor
    · intro e; omega
    · rintro rfl; rw [ltL_irr] at h; cases h
  · rw [if_neg h]; split <;> simp_all
theorem lt_cmpP (p q : Hd) : ltOf cmpP p q = belowP p q := by
  have : (cmpP p q < 0) ↔ belowP p q = true := by
    unfold cmpP
    rw [belP_iff]
    by_cases h : p.1 = q.1
    · rw [if_pos ((cmpL_zero _ _).2 h), cmpL_neg]
      constructor
      · exact fun g => .inr ⟨h, g⟩
      · rintro (g | ⟨_, g⟩)
        · rw [h, ltL_irr] at g; cases g
        · exact g
    · rw [if_neg (fun e => h ((cmpL_zero _ _).1 e)), cmpL_neg]
      constructor
      · exact .inl
      · rintro (g | ⟨e, _⟩)
        · exact g
        · exact absurd e h
  unfold ltOf
  cases hb : belowP p q with
  | true => rw [decide_eq_true (this.2 hb)]
  | false => rw [decide_eq_false (fun e => by rw [this.1 e] at hb; cases hb)]
section
variable {n : Nat} (l : List Hd)
abbrev cfI (l : List Hd) (n : Nat) (i j : Fin n) : Int := cmpP (l.getD i.val ([], [])) (l.getD j.val ([], []))
theorem ltI (i j : Fin n) : ltOf (cfI l n) i j = belowP (l.getD i.val ([], [])) (l.getD j.val ([], [])) := lt_cmpP _ _
theorem swoI : SWO (ltOf (cfI l n)) where
  irrefl x := by rw [ltI]; exact belP_irr _
  trans x y z h1 h2 := by rw [ltI] at *; exact belP_tr h1 h2
  ntrans x y z h1 h2 := by rw [ltI] at *; exact belP_ntr h1 h2
end
theorem sortWorld_heap {α : Type} [Inhabited α] (enc : α → Value) (w : World) (blk m : Nat) (dk : Array α) (os : Array Obj) {k : Nat} (hk : k < w.heap.size) (hb : k ≠ blk) : (sortWorld enc w blk 0 m dk os).heap[k]? = w.heap[k]? := by
  unfold sortWorld
  rw [heap_grow_old _ _ (by rw [size_putRow]; exact hk)]
  show (w.heap.modify blk _)[k]? = _
  rw [Array.getElem?_modify, if_neg (fun e => hb e.symm)]
theorem sortWorld_grown {α : Type} [Inhabited α] (enc : α → Value) (w : World) (blk m : Nat) (dk : Array α) (os : Array Obj) : w.grownBy (sortWorld enc w blk 0 m dk os) (some blk) := by
  refine ⟨rfl, rfl, rfl, ?_, fun k hk hb => sortWorld_heap enc w blk m dk os hk (fun e => hb (by rw [e]))⟩
  unfold sortWorld grow
  simp
theorem all_fin {n : Nat} (l : List Hd) (hn : l.length = n) : (List.ofFn (fun i : Fin n => i)).map (fun i => l.getD i.val ([], [])) = l := by
  apply List.ext_getElem
  · simp [hn]
  · intro i h1 h2
    simp [List.getD_eq_getElem?_getD, List.getElem?_eq_getElem h2]
set_option maxHeartbeats 1000000 in
theorem sort55 {W : World} {g cap n : Nat} {ty : TypeId} {bs : Nat → Nat} {l : List Hd} (hn : l.length = n) (hpos : 0 < n) (hsz : n < 4611686018427387904)
    (hc : ∀ j, j < n → W.cell? ⟨g, j, none⟩ = some (.slice (some ⟨bs j, 0, none⟩) 2 2) ∧ W.frozen? ⟨g, j, none⟩ = false)
    (hb : ∀ j, j < n → bs j ≠ g ∧ W.heap[bs j]? = some (.cells #[.string ⟨(l.getD j ([], [])).1.toArray⟩, .string ⟨(l.getD j ([], [])).2.toArray⟩] ty (0, 0))) :
    Calls Tryz.prog 103 #[.slice (some ⟨g, 0, none⟩) n cap, .func (.func 104) #[] #[]] W fun e w' => e = .returned (.tuple #[]) ∧ W.grownBy w' (some g) ∧ ∃ bs' : Nat → Nat,
      ∀ j, j < n → w'.cell? ⟨g, j, none⟩ = some (.slice (some ⟨bs' j, 0, none⟩) 2 2) ∧ w'.heap[bs' j]? = some (.cells #[.string ⟨((sortP l).getD j ([], [])).1.toArray⟩, .string ⟨((sortP l).getD j ([], [])).2.toArray⟩] ty (0, 0)) := by
  letI : Inhabited (Fin n) := ⟨⟨0, hpos⟩⟩
  obtain ⟨enc, henc⟩ : ∃ enc : Fin n → Value, enc = fun i => .slice (some ⟨bs i.val, 0, none⟩) 2 2 := ⟨_, rfl⟩
  obtain ⟨d, hd⟩ : ∃ d : Array (Fin n), d = Array.ofFn fun i => i := ⟨_, rfl⟩
  have hds : d.size = n := by rw [hd]; simp
  have hdj : ∀ j (h : j < n), d[j]! = ⟨j, h⟩ := fun j h => by
    rw [getElem!_pos d j (by rw [hds]; exact h)]
    simp [hd]
  have eg : ∀ args w, (callFunc 104 args).run Tryz.prog w = .ok (.enter 104 args) w := enters_of Tryz.func104 (by kernel_rfl) rfl
  have hH : Holds enc W g 0 d := fun j hj => by
    rw [hds] at hj
    rw [hdj j hj, henc, Nat.zero_add]
    exact hc j hj
  have hg : g < W.heap.size := World.block_lt_of_cell? _ _ (hc 0 hpos).1
  have hcmp : CmpLays1 Tryz.prog 104 #[] enc (cfI l n) g 0 d.size W := by
    intro m os dk hdk x y
    have cell : ∀ i : Fin n, (sortWorld enc W g 0 m dk os).cell? ⟨bs i.val, 0, none⟩ = some (.string ⟨(l.getD i.val ([], [])).1.toArray⟩) ∧ (sortWorld enc W g 0 m dk os).cell? ⟨bs i.val, 1, none⟩ = some (.string ⟨(l.getD i.val ([], [])).2.toArray⟩) := fun i => by
      have h := hb i.val i.isLt
      have h2 := (sortWorld_heap enc W g m dk os (Array.getElem?_eq_some_iff.1 h.2).1 h.1).trans h.2
      constructor <;> simp [World.cell?, h2]
    have := cmp56 (l.getD x.val ([], [])) (l.getD y.val ([], [])) (bs x.val) (bs y.val) _ (cell x).1 (cell x).2 (cell y).1 (cell y).2
    rw [henc] at this ⊢
    refine this.mono ?_
    rintro e w' ⟨rfl, rfl⟩
    exact ⟨rfl, 0, #[], by simp [grow, World.drewN]⟩
  have key := Any.slices_SortFunc Tryz.sort55 enc (fun i => by rw [henc]; rfl) (cfI l n) (swoI l) 104 #[] g 0 cap d W eg hcmp hH hg (by rw [hds]; exact hsz)
  rw [hds] at key
  refine Calls.mono key ?_
  rintro e w' ⟨rfl, d', k, os, hp, hs, rfl⟩
  refine ⟨rfl, sortWorld_grown enc W g k d' os, fun j => bs (d'[j]!).val, fun j hj => ?_⟩
  have hds' : d'.size = n := hp.1.trans hds
  have hHp := holds_putRow enc (Sort.ahead W k) g 0 d d' (fun j hj => hH j hj) (by rw [hds', hds])
  have hcell : (sortWorld enc W g 0 k d' os).cell? ⟨g, j, none⟩ = some (enc d'[j]!) := by
    have h := (hHp j (by rw [hds']; exact hj)).1
    rw [Nat.zero_add] at h
    unfold sortWorld
    rw [World.cell?_of_block (heap_grow_old _ _ (by rw [size_putRow]; exact hg))]
    exact h
  have hl' : (d'.toList.map fun i => l.getD i.val ([], [])) = sortP l := by
    refine sorts ?_ ?_
    · have h := hp.2.2
      have x1 : d'.extract 0 n = d' := Array.extract_eq_self_of_le (by rw [hds']; exact Nat.le_refl _)
      have x2 : d.extract 0 n = d := Array.extract_eq_self_of_le (by rw [hds]; exact Nat.le_refl _)
      rw [x1, x2] at h
      have h2 := h.map fun i : Fin n => l.getD i.val ([], [])
      rw [hd, Array.toList_ofFn, all_fin l hn] at h2
      exact h2
    · rw [List.pairwise_iff_getElem]
      intro i j hi hj hij
      rw [List.length_map, Array.length_toList, hds'] at hi hj
      have h := hs i j (Nat.zero_le _) hij hj
      rw [ltI, getElem!_pos d' i (by rw [hds']; exact hi), getElem!_pos d' j (by rw [hds']; exact hj)] at h
      simp only [List.getElem_map, Array.getElem_toList]
      exact h
  have hval : l.getD (d'[j]!).val ([], []) = (sortP l).getD j ([], []) := by
    rw [← hl', List.getD_eq_getElem?_getD (l := List.map _ _), List.getElem?_map, Array.getElem?_toList, Array.getElem?_eq_getElem (by rw [hds']; exact hj), getElem!_pos d' j (by rw [hds']; exact hj)]
    rfl
  refine ⟨by rw [hcell, henc], ?_⟩
  have h := hb (d'[j]!).val (d'[j]!).isLt
  rw [← hval]
  exact (sortWorld_heap enc W g k d' os (Array.getElem?_eq_some_iff.1 h.2).1 h.1).trans h.2
end Go.Proofs.YtdigohaeakclfaaGreatDoor
set_option maxRecDepth 100000
set_option linter.unusedVariables false
set_option linter.unusedSimpArgs false
set_option linter.unusedSectionVars false
namespace Go.Proofs.YtdigohaeakclfaaGreatDoor
open Go Go.Am Go.RowKit
attribute [local go_sem] Oper.semAt_some
theorem tl_mk (l : List UInt8) : (⟨l.toArray⟩ : ByteArray).toList = l := by simp [ByteArray.toList_eq]
theorem cP_cons (pre : Bool) (p : Hd) (r : List Hd) : cPairs pre (p :: r) = if pre = true ∧ p.1 = xsig then cPairs pre r else match unescL p.1, unescL p.2 with
    | some a, some b => (cPairs pre r).map ((escL a false, escL b false) :: ·)
    | _, _ => none := by
  conv => lhs; unfold cPairs
  split <;> rfl
theorem cP_app (pre : Bool) : ∀ (l m : List Hd), cPairs pre (l ++ m) = (cPairs pre l).bind fun a => (cPairs pre m).map (a ++ ·)
  | [], m => by
    have : cPairs pre [] = some [] := by unfold cPairs; rfl
    cases h : cPairs pre m <;> simp [this, h]
  | p :: l, m => by
    have ih := cP_app pre l m
    rw [List.cons_append, cP_cons, cP_cons]
    split
    · exact ih
    · split
      · rw [ih]
        cases h1 : cPairs pre l with
        | none => rfl
        | some a => cases h2 : cPairs pre m <;> simp
      · rfl
theorem take_snoc {α : Type} {l : List α} {k : Nat} (d : α) (h : k < l.length) : l.take (k + 1) = l.take k ++ [l.getD k d] := by
  rw [List.take_add_one, List.getD_eq_getElem?_getD, List.getElem?_eq_getElem h]; rfl
theorem cP_snoc {pre : Bool} {l : List Hd} {k : Nat} {ps : List Hd} {x : Hd} (h : cPairs pre (l.take k) = some ps) (hk : k < l.length) (hx : x = l.getD k ([], [])) : cPairs pre (l.take (k + 1)) = (cPairs pre [x]).map (ps ++ ·) := by
  rw [take_snoc ([], []) hk, cP_app, h, hx]; rfl
theorem cP_none {pre : Bool} {l : List Hd} {k : Nat} {ps : List Hd} {x : Hd} (h : cPairs pre (l.take k) = some ps) (hk : k < l.length) (hx : x = l.getD k ([], [])) (hn : cPairs pre [x] = none) : cPairs pre l = none := by
  have e : l = l.take (k + 1) ++ l.drop (k + 1) := (List.take_append_drop _ _).symm
  rw [e, cP_app, cP_snoc h hk hx, hn]; rfl
theorem cP_nil (pre : Bool) : cPairs pre [] = some [] := by unfold cPairs; rfl
theorem cP_skip {x : Hd} (h : x.1 = xsig) : cPairs true [x] = some [] := by rw [cP_cons, if_pos ⟨rfl, h⟩, cP_nil]
theorem cP_two {pre : Bool} {x : Hd} (h : ¬ (pre = true ∧ x.1 = xsig)) {a b : List UInt8} (ha : unescL x.1 = some a) (hb : unescL x.2 = some b) : cPairs pre [x] = some [(escL a false, escL b false)] := by
  rw [cP_cons, if_neg h, ha, hb, cP_nil]; rfl
theorem cP_bad {pre : Bool} {x : Hd} (h : ¬ (pre = true ∧ x.1 = xsig)) (hb : unescL x.1 = none ∨ unescL x.2 = none) : cPairs pre [x] = none := by
  rw [cP_cons, if_neg h]
  rcases hb with e | e
  · rw [e]
  · rw [e]; rcases unescL x.1 with _ | y <;> rfl
theorem cP_len {pre : Bool} {l ps : List Hd} (h : cPairs pre l = some ps) : ps.length ≤ l.length := by
  obtain ⟨B, hB⟩ : ∃ B, ∀ p ∈ l, p.1.length ≤ B ∧ p.2.length ≤ B := by
    clear h
    induction l with
    | nil => exact ⟨0, by simp⟩
    | cons q l ih =>
      obtain ⟨B, hB⟩ := ih
      refine ⟨B + q.1.length + q.2.length, fun p hp => ?_⟩
      rcases List.mem_cons.1 hp with rfl | hp
      · omega
      · have := hB p hp; omega
  exact (cPairs_part pre B l ps hB h).1
set_option maxHeartbeats 4000000 in
theorem rq_core (T : ByteArray) (pre : Bool) (l : List Hd) (n : Nat) (hn : Hid (l.length = n)) (path : ByteArray) (hl : n ≤ 3500001) (hp : Hid (∀ p ∈ l, p.1.length ≤ 3500000 ∧ p.2.length ≤ 3500000))
    (K23 : Hid (∀ w, Calls Tryz.prog 41 #[.string T] w fun e w' => ∃ v, e = .returned (.tuple #[.string path, v]) ∧ HdAt w' v l ∧ Below w.heap.size w w')) (res : Option (List UInt8)) (hres : Hid (res = (cPairs pre l).map fun ps => joinL ((sortP ps).map fmtP) [38])) (w : World) :
    Calls Tryz.prog 73 #[.string T, .bool pre] w fun e w' => e = .returned (.tuple #[.string ⟨(res.getD []).toArray⟩, .bool res.isSome]) ∧ Below w.heap.size w w' := by
  go_enter Tryz.func73, Tryz.ntmps73
  go_wp2_with (go_at_call 41; refine (K23.out w).mono ?_; rintro e w1 ⟨v, rfl, hH, hB1⟩; obtain ⟨base, cap, rfl, hb0, hc⟩ := hH; rw [hn.out] at hb0 hc ⊢; have HH : Hid ((base = none → n = 0) ∧ (∀ b o, base = some (b, o) → ∀ i, i < n → w1.cell? (mkA b (o + i * 2)) = some (.string ⟨(l.getD i ([], [])).1.toArray⟩) ∧ w1.cell? (mkA b (o + i * 2 + 1)) = some (.string ⟨(l.getD i ([], [])).2.toArray⟩)) ∧ Below w.heap.size w w1) := ⟨hb0, hc, hB1⟩; clear hb0 hc hB1; obtain ⟨bn, hbn⟩ : ∃ bn : Option Addr, bn = base.map fun p => mkA p.1 p.2 := ⟨_, rfl⟩; rw [← hbn]; have HBN : Hid (bn = base.map fun p => mkA p.1 p.2) := hbn; clear hbn)
  go_loopw [8, 9] (fun v i wr => ∃ (k : Nat) (ps : List Hd), i = .int .i64 k ∧ k ≤ n ∧ cPairs pre (l.take k) = some ps ∧ wr.ownsRow w1.heap.size 47 2 v ps.length (cellsP (sortP ps)) ∧ (ps.length = 0 → v = .slice none 0 0) ∧ Below w1.heap.size w1 wr)
    (fun _ i _ => match i with | .int _ k => n - k.toNat | _ => 0)
  case atStart => exact ⟨0, [], rfl, Nat.zero_le _, rfl, World.ownsRow_nil _ _ _ _, fun _ => rfl, Below.refl _ _⟩
  case round =>
    obtain ⟨k, ps, rfl, hk, hps, hrow, hz0, hB⟩ := hrel
    by_cases hk2 : k < n
    · obtain ⟨b, o, hbo⟩ : ∃ b o, base = some (b, o) := by
        cases base with
        | none => have := HH.out.1 rfl; omega
        | some p => exact ⟨p.1, p.2, rfl⟩
      have hbn : bn = some ⟨b, o, none⟩ := by rw [HBN.out, hbo]; rfl
      subst hbn
      obtain ⟨g1, g2⟩ := HH.out.2.1 b o hbo k hk2
      have c1 : wr.cell? ⟨b, o + k * 2, none⟩ = _ := (hB.cell (p := mkA b (o + k * 2)) (World.block_lt_of_cell? _ _ g1)).trans g1
      have c2 : wr.cell? ⟨b, o + k * 2 + 1, none⟩ = _ := (hB.cell (p := mkA b (o + k * 2 + 1)) (World.block_lt_of_cell? _ _ g2)).trans g2
      obtain ⟨x, hx⟩ : ∃ x, x = l.getD k ([], []) := ⟨_, rfl⟩
      rw [← hx] at g1 g2 c1 c2
      have hxm : x ∈ l := by rw [hx, List.getD_eq_getElem?_getD, List.getElem?_eq_getElem (show k < l.length by rw [hn.out]; exact hk2)]; exact List.getElem_mem _
      have hxl := hp.out x hxm
      obtain ⟨X1, hX1⟩ : ∃ X : ByteArray, X = ⟨x.1.toArray⟩ := ⟨_, rfl⟩
      obtain ⟨X2, hX2⟩ : ∃ X : ByteArray, X = ⟨x.2.toArray⟩ := ⟨_, rfl⟩
      have KA := k24 x.1 (by omega)
      have KB := k24 x.2 (by omega)
      rw [← hX1] at g1 c1 KA
      rw [← hX2] at g2 c2 KB
      obtain ⟨Y1, hY1⟩ : ∃ X : ByteArray, X = ⟨((unescL x.1).getD []).toArray⟩ := ⟨_, rfl⟩
      obtain ⟨Y2, hY2⟩ : ∃ X : ByteArray, X = ⟨((unescL x.2).getD []).toArray⟩ := ⟨_, rfl⟩
      rw [← hY1] at KA
      rw [← hY2] at KB
      have KA' : Hid (∀ w, Calls Tryz.prog 72 #[.string X1] w fun e w' => e = .returned (.tuple #[.string Y1, .bool (unescL x.1).isSome]) ∧ Below w.heap.size w w') := KA
      have KB' : Hid (∀ w, Calls Tryz.prog 72 #[.string X2] w fun e w' => e = .returned (.tuple #[.string Y2, .bool (unescL x.2).isSome]) ∧ Below w.heap.size w w') := KB
      have HX : Hid (X1 = ⟨x.1.toArray⟩ ∧ X2 = ⟨x.2.toArray⟩ ∧ Y1 = ⟨((unescL x.1).getD []).toArray⟩ ∧ Y2 = ⟨((unescL x.2).getD []).toArray⟩ ∧ x = l.getD k ([], []) ∧ x ∈ l ∧ x.1.length ≤ 3500000 ∧ x.2.length ≤ 3500000) := ⟨hX1, hX2, hY1, hY2, hx, hxm, hxl.1, hxl.2⟩
      have HG : Hid (w1.cell? (mkA b (o + k * 2)) = some (.string X1) ∧ w1.cell? (mkA b (o + k * 2 + 1)) = some (.string X2)) := ⟨g1, g2⟩
      have HZ0 : Hid (ps.length = 0 → u8 = .slice none 0 0) := hz0
      clear hz0
      have HR : Hid (cPairs pre (l.take k) = some ps ∧ wr.ownsRow w1.heap.size 47 2 u8 ps.length (cellsP (sortP ps)) ∧ Below w1.heap.size w1 wr) := ⟨hps, hrow, hB⟩
      clear hX1 hX2 hY1 hY2 hx hxm hxl KA KB g1 g2 hps hrow hB hbo
      have CW : Hid (∀ W, Below w1.heap.size w1 W → W.cell? ⟨b, o + k * 2, none⟩ = some (.string X1) ∧ W.cell? ⟨b, o + k * 2 + 1, none⟩ = some (.string X2)) := fun W h => ⟨(h.cell (p := mkA b (o + k * 2)) (World.block_lt_of_cell? _ _ HG.out.1)).trans HG.out.1, (h.cell (p := mkA b (o + k * 2 + 1)) (World.block_lt_of_cell? _ _ HG.out.2)).trans HG.out.2⟩
      clear c2
      by_cases hsk : pre = true ∧ x.1 = xsig
      · obtain ⟨rfl, hx1⟩ := hsk
        have hX1 : X1 = ⟨#[88, 45, 65, 109, 122, 45, 83, 105, 103, 110, 97, 116, 117, 114, 101]⟩ := by rw [HX.out.1, hx1]; rfl
        have HS : Hid (x.1 = xsig) := hx1
        clear hx1
        subst hX1
        generalize (unescL x.1).isSome = b1 at *
        generalize (unescL x.2).isSome = b2 at *
        go_wp2_with first
          | (go_at_call 72; refine (KA'.out wr).mono ?_; rintro e w2 ⟨rfl, hB2⟩; have B2 : Hid (Below w1.heap.size w1 w2 ∧ w2.ownsRow w1.heap.size 47 2 u8 ps.length (cellsP (sortP ps))) := keepR ⟨HR.out.2.2, HR.out.2.1⟩ hB2; have c2 := (CW.out w2 B2.out.1).2; clear hB2 KA')
          | (go_at_call 72; refine (KB'.out w2).mono ?_; rintro e w3 ⟨rfl, hB3⟩; have B3 : Hid (Below w1.heap.size w1 w3 ∧ w3.ownsRow w1.heap.size 47 2 u8 ps.length (cellsP (sortP ps))) := keepR B2.out hB3; have c3 := (CW.out w3 B3.out.1).1; clear hB3 KB')
        exact ⟨⟨k + 1, ps, by simp, by omega, by rw [cP_snoc HR.out.1 (by rw [hn.out]; exact hk2) HX.out.2.2.2.2.1, cP_skip HS.out]; simp, B3.out.2, HZ0.out, B3.out.1⟩, by simp; omega⟩
      · have HN : Hid (¬ (pre = true ∧ x.1 = xsig)) := hsk
        have hX1 : pre = true → (X1.toList == [88, 45, 65, 109, 122, 45, 83, 105, 103, 110, 97, 116, 117, 114, 101]) = false := fun e => by
          rw [HX.out.1, tl_mk, beq_eq_false_iff_ne]
          exact fun h => hsk ⟨e, h⟩
        clear hsk
        have hd : pre = false ∨ (pre = true ∧ (X1.toList == [88, 45, 65, 109, 122, 45, 83, 105, 103, 110, 97, 116, 117, 114, 101]) = false) := by
          cases pre with
          | false => exact .inl rfl
          | true => exact .inr ⟨rfl, hX1 rfl⟩
        clear hX1
        cases ea : unescL x.1 with
        | none =>
          have HE : Hid (res = none) := by
            have := cP_none HR.out.1 (by rw [hn.out]; exact hk2) HX.out.2.2.2.2.1 (cP_bad HN.out (.inl ea))
            have e := hres.out
            rw [this] at e; exact e
          have KA2 : Hid (∀ w, Calls Tryz.prog 72 #[.string X1] w fun e w' => e = .returned (.tuple #[.string Y1, .bool false]) ∧ Below w.heap.size w w') := by rw [ea] at KA'; exact KA'
          clear KA'
          obtain ⟨b2, hb2⟩ : ∃ b, b = (unescL x.2).isSome := ⟨_, rfl⟩
          have KB2 : Hid (∀ w, Calls Tryz.prog 72 #[.string X2] w fun e w' => e = .returned (.tuple #[.string Y2, .bool b2]) ∧ Below w.heap.size w w') := by rw [hb2]; exact KB'
          clear KB'
          clear hb2
          clear ea
          rcases hd with rfl | ⟨rfl, hX⟩
          all_goals
            go_wp2_with first
              | (go_at_call 72; refine (KA2.out wr).mono ?_; rintro e w2 ⟨rfl, hB2⟩; have B2 : Hid (Below w1.heap.size w1 w2 ∧ w2.ownsRow w1.heap.size 47 2 u8 ps.length (cellsP (sortP ps))) := keepR ⟨HR.out.2.2, HR.out.2.1⟩ hB2; have c2 := (CW.out w2 B2.out.1).2; clear hB2 KA2)
              | (go_at_call 72; refine (KB2.out w2).mono ?_; rintro e w3 ⟨rfl, hB3⟩; have B3 : Hid (Below w1.heap.size w1 w3 ∧ w3.ownsRow w1.heap.size 47 2 u8 ps.length (cellsP (sortP ps))) := keepR B2.out hB3; have c3 := (CW.out w3 B3.out.1).1; clear hB3 KB2)
            go_ret2
            rw [HE.out]
            exact ⟨rfl, HH.out.2.2.trans (B3.out.1.mono HH.out.2.2.size)⟩
        | some ta =>
          cases eb : unescL x.2 with
          | none =>
            have HE : Hid (res = none) := by
              have := cP_none HR.out.1 (by rw [hn.out]; exact hk2) HX.out.2.2.2.2.1 (cP_bad HN.out (.inr eb))
              have e := hres.out
              rw [this] at e; exact e
            have KA2 : Hid (∀ w, Calls Tryz.prog 72 #[.string X1] w fun e w' => e = .returned (.tuple #[.string Y1, .bool true]) ∧ Below w.heap.size w w') := by rw [ea] at KA'; exact KA'
            clear KA'
            have KB2 : Hid (∀ w, Calls Tryz.prog 72 #[.string X2] w fun e w' => e = .returned (.tuple #[.string Y2, .bool false]) ∧ Below w.heap.size w w') := by rw [eb] at KB'; exact KB'
            clear KB'
            clear ea eb
            rcases hd with rfl | ⟨rfl, hX⟩
            all_goals
              go_wp2_with first
                | (go_at_call 72; refine (KA2.out wr).mono ?_; rintro e w2 ⟨rfl, hB2⟩; have B2 : Hid (Below w1.heap.size w1 w2 ∧ w2.ownsRow w1.heap.size 47 2 u8 ps.length (cellsP (sortP ps))) := keepR ⟨HR.out.2.2, HR.out.2.1⟩ hB2; have c2 := (CW.out w2 B2.out.1).2; clear hB2 KA2)
                | (go_at_call 72; refine (KB2.out w2).mono ?_; rintro e w3 ⟨rfl, hB3⟩; have B3 : Hid (Below w1.heap.size w1 w3 ∧ w3.ownsRow w1.heap.size 47 2 u8 ps.length (cellsP (sortP ps))) := keepR B2.out hB3; have c3 := (CW.out w3 B3.out.1).1; clear hB3 KB2)
              go_ret2
              rw [HE.out]
              exact ⟨rfl, HH.out.2.2.trans (B3.out.1.mono HH.out.2.2.size)⟩
          | some tb =>
            have KA2 : Hid (∀ w, Calls Tryz.prog 72 #[.string X1] w fun e w' => e = .returned (.tuple #[.string Y1, .bool true]) ∧ Below w.heap.size w w') := by rw [ea] at KA'; exact KA'
            have KB2 : Hid (∀ w, Calls Tryz.prog 72 #[.string X2] w fun e w' => e = .returned (.tuple #[.string Y2, .bool true]) ∧ Below w.heap.size w w') := by rw [eb] at KB'; exact KB'
            clear KA' KB'
            obtain ⟨z, hz⟩ : ∃ z : Hd, z = (escL ta false, escL tb false) := ⟨_, rfl⟩
            have hta := unesc_le ea
            have htb := unesc_le eb
            have hxl := HX.out.2.2.2.2.2.2
            have KC : Hid (∀ w, Calls Tryz.prog 44 #[.string Y1, .bool false] w fun e w' => e = .returned (.string ⟨z.1.toArray⟩) ∧ Below w.heap.size w w') := by
              rw [HX.out.2.2.1, ea, hz]; exact k26 ta false (by omega)
            have KD : Hid (∀ w, Calls Tryz.prog 44 #[.string Y2, .bool false] w fun e w' => e = .returned (.string ⟨z.2.toArray⟩) ∧ Below w.heap.size w w') := by
              rw [HX.out.2.2.2.1, eb, hz]; exact k26 tb false (by omega)
            have hcp : cPairs pre (l.take (k + 1)) = some (ps ++ [(escL ta false, escL tb false)]) := by
              rw [cP_snoc HR.out.1 (by rw [hn.out]; exact hk2) HX.out.2.2.2.2.1, cP_two HN.out ea eb]; rfl
            have hpl : ps.length ≤ 3500001 := by
              have := cP_len HR.out.1
              rw [List.length_take] at this; omega
            have HZ : Hid (cPairs pre (l.take (k + 1)) = some (ps ++ [z])) := by rw [hz]; exact hcp
            obtain ⟨m, hm⟩ : ∃ m, m = ps.length := ⟨_, rfl⟩
            obtain ⟨ys, hys⟩ : ∃ ys, ys = sortP ps := ⟨_, rfl⟩
            have hym : ys.length = m := by rw [hys, sortP_len, hm]
            have HZ0 : Hid (m = 0 → u8 = .slice none 0 0) := fun e => HZ0.out (hm ▸ e)
            have HO : Hid (wr.ownsRow w1.heap.size 47 2 u8 m (cellsP ys)) := by rw [hm, hys]; exact HR.out.2.1
            have HY : Hid (m = ps.length ∧ ys = sortP ps ∧ ys.length = m) := ⟨hm, hys, hym⟩
            have hml : m ≤ 3500001 := by omega
            obtain ⟨u, cu, rfl⟩ : ∃ u c, u8 = Value.slice u m c := by
              rcases HO.out.2 with ⟨h, h0⟩ | ⟨g, cp, cur, h, _⟩
              · exact ⟨none, 0, by rw [h, h0]⟩
              · exact ⟨_, _, h⟩
            have HZ0 : Hid (m = 0 → Value.slice u m cu = .slice none 0 0) := HZ0
            clear ea eb hta htb hxl hcp hpl hz hm hys hym
            rcases hd with rfl | ⟨rfl, hX⟩
            all_goals
              go_wp2_with first
                | (go_at_call 72; refine (KA2.out wr).mono ?_; rintro e w2 ⟨rfl, hB2⟩; have B2 : Hid (Below w1.heap.size w1 w2 ∧ w2.ownsRow w1.heap.size 47 2 (.slice u m cu) m (cellsP ys)) := keepR ⟨HR.out.2.2, HO.out⟩ hB2; have c2 := (CW.out w2 B2.out.1).2; clear hB2 KA2)
                | (go_at_call 72; refine (KB2.out w2).mono ?_; rintro e w3 ⟨rfl, hB3⟩; have B3 : Hid (Below w1.heap.size w1 w3 ∧ w3.ownsRow w1.heap.size 47 2 (.slice u m cu) m (cellsP ys)) := keepR B2.out hB3; have c3 := (CW.out w3 B3.out.1).1; clear hB3 KB2)
                | (go_at_call 44; refine (KC.out w3).mono ?_; rintro e w4 ⟨rfl, hB4⟩; have B4 : Hid (Below w1.heap.size w1 w4 ∧ w4.ownsRow w1.heap.size 47 2 (.slice u m cu) m (cellsP ys)) := keepR B3.out hB4; clear hB4 KC)
                | (go_at_call 44; refine (KD.out w4).mono ?_; rintro e w5 ⟨rfl, hB5⟩; have B5 : Hid (Below w1.heap.size w1 w5 ∧ w5.ownsRow w1.heap.size 47 2 (.slice u m cu) m (cellsP ys)) := keepR B4.out hB5; clear hB5 KD)
                | (at_builtin; refine app_hd rfl _ _ rfl w1.heap.size (.slice u m cu) m (cellsP ys) rfl ((B5.out.2.alloc _).alloc _) HZ0.out _ z rfl (cell_two2 _ _ _ _ _) hml w5.heap.size B5.out.1.size (hp_new _ _ _) (fun e => by have := (B5.out.2.lt _ e).2; omega) ?_
                   intro g cg w6 hown6 hgP hgrow; go_must (have H6 : Hid (Below w1.heap.size w1 w6 ∧ w6.ownsRow w1.heap.size 47 2 (.slice (some ⟨g, 0, none⟩) (m + 1) cg) (m + 1) (cellsP (ys ++ [z])) ∧ g ≠ w5.heap.size ∧ w6.heap[w5.heap.size]? = some (.cells #[.string ⟨z.1.toArray⟩, .string ⟨z.2.toArray⟩] 47 (0, 0))) := after_app2 B5.out hown6 hgP hgrow); clear hown6 hgP hgrow)
              go_loopw [15] (fun v wr2 => ∃ (j : Nat) (y : Hd), v = .int .i64 j ∧ j ≤ m ∧ stpP ys z j = stpP ys z m ∧ wr2.ownsRow w1.heap.size 47 2 (.slice (some ⟨g, 0, none⟩) (m + 1) cg) (m + 1) (cellsP (ys.take j ++ y :: ys.drop j)) ∧ Below w1.heap.size w1 wr2 ∧ wr2.heap[w5.heap.size]? = some (.cells #[.string ⟨z.1.toArray⟩, .string ⟨z.2.toArray⟩] 47 (0, 0)))
                (fun v _ => match v with | .int _ j => j.toNat | _ => 0)
              case atStart =>
                refine ⟨m, z, rfl, Nat.le_refl _, rfl, ?_, H6.out.1, H6.out.2.2.2⟩
                rw [List.take_of_length_le (by rw [HY.out.2.2]; exact Nat.le_refl _), List.drop_eq_nil_of_le (by rw [HY.out.2.2]; exact Nat.le_refl _)]
                exact H6.out.2.1
              case round =>
                obtain ⟨j, y, rfl, hj, hst, hro, hB2, hP2⟩ := hrel
                have hjl : (ys.take j).length = j := by rw [List.length_take, HY.out.2.2]; omega
                obtain ⟨d1, d2, d3, d4, d5⟩ := row_cells hro hjl
                obtain ⟨p1, p2⟩ := pcell hP2
                have hfin := row_put hro hjl z
                have HB2 : Hid (Below w1.heap.size w1 wr ∧ wr.ownsRow w1.heap.size 47 2 (.slice (some ⟨g, 0, none⟩) (m + 1) cg) (m + 1) (cellsP (ys.take j ++ y :: ys.drop j)) ∧ w1.heap.size ≤ g ∧ stpP ys z j = stpP ys z m ∧ (ys.take j).length = j) := ⟨hB2, hro, d5, hst, hjl⟩
                have HF : Hid (((wr.setCell ⟨g, j * 2, none⟩ (.string ⟨z.1.toArray⟩)).setCell ⟨g, j * 2 + 1, none⟩ (.string ⟨z.2.toArray⟩)).ownsRow w1.heap.size 47 2 (.slice (some ⟨g, 0, none⟩) (m + 1) cg) (m + 1) (cellsP (ys.take j ++ z :: ys.drop j))) := hfin
                have HP2 : Hid (wr.heap[w5.heap.size]? = some (.cells #[.string ⟨z.1.toArray⟩, .string ⟨z.2.toArray⟩] 47 (0, 0))) := hP2
                clear hB2 hro d5 hst hjl hfin hP2
                cases j with
                | zero =>
                  simp only [Nat.zero_mul, Nat.zero_add] at d1 d2 d3 d4
                  go_wp2
                  go_quiet (fail)
                  go_wp2
                  refine ⟨⟨k + 1, ps ++ [z], by simp, by omega, HZ.out, row_heap (row_done HY.out HB2.out.2.2.2.1 rfl HF.out) rfl, by simp, ((below_dn HB2.out.1 _).setCell (p := ⟨g, 0, none⟩) HB2.out.2.2.1 _).setCell (p := ⟨g, 1, none⟩) HB2.out.2.2.1 _⟩, by simp; omega⟩
                | succ i =>
                  have hil : i < ys.length := by rw [HY.out.2.2]; omega
                  obtain ⟨q, hq⟩ : ∃ q, q = ys.getD i ([], []) := ⟨_, rfl⟩
                  have e12 := row_ahead hil HB2.out.2.1
                  rw [← hq] at e12
                  obtain ⟨e1, e2⟩ := e12
                  have hi1 : wrap64 (((i : Int) + 1) - 1) = (i : Int) := by unfold wrap64; omega
                  have hw : IntKind.i64.wrap (i : Int) = i := by simp [IntKind.wrap, IntKind.bits, IntKind.signed]; omega
                  have him : (i : Int) < (m : Int) + 1 := by omega
                  have HQ : Hid (q = ys.getD i ([], []) ∧ i < ys.length) := ⟨hq, hil⟩
                  clear d1 d2 d3 d4 hil hq
                  have KQ := fun W => k63 z q W
                  cases hcm : belowP z q with
                  | true =>
                    rw [hcm] at KQ
                    have HC : Hid (belowP z q = true) := hcm
                    have KQ : Hid (∀ W, Calls Tryz.prog 113 #[.agg #[.string ⟨z.1.toArray⟩, .string ⟨z.2.toArray⟩], .agg #[.string ⟨q.1.toArray⟩, .string ⟨q.2.toArray⟩]] W fun e w' => e = .returned (.bool true) ∧ Below W.heap.size W w') := KQ
                    clear hcm
                    go_wp2
                    go_still_tail 9, (by kernel_rfl)
                    change wpList _ _ _ _ _ wr.drew
                    go_wp2_with (go_at_call 113; refine (KQ.out wr.drew).mono ?_; rintro e w7 ⟨rfl, hB7⟩; have H7 : Hid (Below w1.heap.size w1 w7 ∧ w7.ownsRow w1.heap.size 47 2 (.slice (some ⟨g, 0, none⟩) (m + 1) cg) (m + 1) (cellsP (ys.take (i + 1) ++ y :: ys.drop (i + 1))) ∧ w7.heap[w5.heap.size]? = some (.cells #[.string ⟨z.1.toArray⟩, .string ⟨z.2.toArray⟩] 47 (0, 0))) := after63 ⟨HB2.out.1, HB2.out.2.1⟩ HP2.out hB7; clear hB7 e1 e2 p1 p2 KQ; obtain ⟨d1, d2, d3, d4, _⟩ := row_cells H7.out.2.1 HB2.out.2.2.2.2; have e12 := row_ahead HQ.out.2 H7.out.2.1; rw [← HQ.out.1] at e12; obtain ⟨e1, e2⟩ := e12; obtain ⟨p1, p2⟩ := pcell H7.out.2.2)
                    refine ⟨⟨i, q, rfl, by omega, (stp_true HQ.out.1 HC.out).symm.trans HB2.out.2.2.2.1, ?_, put_below H7.out.1 HB2.out.2.2.1, put_heap H7.out.2.2 H6.out.2.2.1⟩, by simp⟩
                    have := row_put H7.out.2.1 HB2.out.2.2.2.2 q
                    rw [HQ.out.1] at this ⊢
                    exact row_shift HQ.out.2 this
                  | false =>
                    rw [hcm] at KQ
                    have HC : Hid (belowP z q = false) := hcm
                    have KQ : Hid (∀ W, Calls Tryz.prog 113 #[.agg #[.string ⟨z.1.toArray⟩, .string ⟨z.2.toArray⟩], .agg #[.string ⟨q.1.toArray⟩, .string ⟨q.2.toArray⟩]] W fun e w' => e = .returned (.bool false) ∧ Below W.heap.size W w') := KQ
                    clear hcm
                    go_wp2
                    go_still_tail 9, (by kernel_rfl)
                    change wpList _ _ _ _ _ wr.drew
                    go_wp2_with (go_at_call 113; refine (KQ.out wr.drew).mono ?_; rintro e w7 ⟨rfl, hB7⟩; have H7 : Hid (Below w1.heap.size w1 w7 ∧ w7.ownsRow w1.heap.size 47 2 (.slice (some ⟨g, 0, none⟩) (m + 1) cg) (m + 1) (cellsP (ys.take (i + 1) ++ y :: ys.drop (i + 1))) ∧ w7.heap[w5.heap.size]? = some (.cells #[.string ⟨z.1.toArray⟩, .string ⟨z.2.toArray⟩] 47 (0, 0))) := after63 ⟨HB2.out.1, HB2.out.2.1⟩ HP2.out hB7; clear hB7 e1 e2 p1 p2 KQ; obtain ⟨d1, d2, d3, d4, _⟩ := row_cells H7.out.2.1 HB2.out.2.2.2.2; have e12 := row_ahead HQ.out.2 H7.out.2.1; rw [← HQ.out.1] at e12; obtain ⟨e1, e2⟩ := e12; obtain ⟨p1, p2⟩ := pcell H7.out.2.2)
                    exact ⟨⟨k + 1, ps ++ [z], by simp, by omega, HZ.out, row_done HY.out HB2.out.2.2.2.1 (stp_false HQ.out.1 HC.out) (row_put H7.out.2.1 HB2.out.2.2.2.2 z), by simp, put_below H7.out.1 HB2.out.2.2.1⟩, by simp; omega⟩
    · have hkn : k = n := by omega
      subst hkn
      have hps' : cPairs pre l = some ps := by
        have := hps
        rwa [List.take_of_length_le (by rw [hn.out]; exact Nat.le_refl _)] at this
      have hbd := cPairs_part pre 3500000 l ps hp.out hps'
      obtain ⟨L, hL⟩ : ∃ L, L = sortP ps := ⟨_, rfl⟩
      have hLl : L.length = ps.length := by rw [hL, sortP_len]
      have hLb : ∀ q ∈ L, q.1.length ≤ 10500000 ∧ q.2.length ≤ 10500000 := fun q hq => by
        have := hbd.2 q ((sortP_perm ps).mem_iff.1 (hL ▸ hq)); omega
      have hjb := join_bd L (by rw [hLl]; have := hbd.1; rw [hn.out] at this; omega) hLb
      have hres' : res = some (joinL (L.map fmtP) [38]) := by
        have := hres.out
        rw [hps'] at this; rw [this, hL]; rfl
      obtain ⟨m, hm⟩ : ∃ m, m = ps.length := ⟨_, rfl⟩
      have hml : m ≤ 3500001 := by have := hbd.1; rw [hn.out] at this; omega
      have HR : Hid (wr.ownsRow w1.heap.size 47 2 u8 m (cellsP L) ∧ Below w1.heap.size w1 wr ∧ L.length = m ∧ (∀ q ∈ L, q.1.length ≤ 10500000 ∧ q.2.length ≤ 10500000) ∧ (joinL (L.map fmtP) [38]).length ≤ 80000000000000 ∧ res = some (joinL (L.map fmtP) [38])) := ⟨by rw [hm, hL]; exact hrow, hB, by rw [hLl, hm], hLb, hjb, hres'⟩
      obtain ⟨u, cu, rfl⟩ : ∃ u c, u8 = Value.slice u m c := by
        rcases HR.out.1.2 with ⟨h, h0⟩ | ⟨g, cp, cur, h, _⟩
        · exact ⟨none, 0, by rw [h, h0]⟩
        · exact ⟨_, _, h⟩
      clear hps hps' hbd hL hLl hLb hjb hres' hm hrow hz0 hB hk hk2
      go_wp2
      go_loopw [16, 17] (fun s v wx => ∃ (j : Nat), v = .int .i64 j ∧ s = .string (JN L j) ∧ j ≤ m ∧ wx.ownsRow w1.heap.size 47 2 (.slice u m cu) m (cellsP L) ∧ Below w1.heap.size w1 wx)
        (fun _ v _ => match v with | .int _ j => m - j.toNat | _ => 0)
      case atStart => exact ⟨0, rfl, rfl, Nat.zero_le _, HR.out.1, HR.out.2.1⟩
      case round =>
        obtain ⟨j, rfl, rfl, hjm, hro, hB2⟩ := hrel
        by_cases hj : j < m
        · obtain ⟨g, o2, hu⟩ : ∃ g o2, u = some ⟨g, o2, none⟩ := by
            rcases hro.2 with ⟨h, h0⟩ | ⟨g, cp, cur, h, _⟩
            · omega
            · cases h; exact ⟨g, 0, rfl⟩
          have ho2 : o2 = 0 := by
            rcases hro.2 with ⟨h, h0⟩ | ⟨g', cp, cur, h, _⟩
            · omega
            · rw [hu] at h; simp at h; exact h.1.2
          subst ho2
          subst hu
          have hjL : j < L.length := by rw [HR.out.2.2.1]; exact hj
          obtain ⟨q, hq⟩ : ∃ q, q = L.getD j ([], []) := ⟨_, rfl⟩
          have e12 := cellsP_get hjL
          rw [← hq] at e12
          have e1 := (rowG_cell hro e12.1).1
          have e2 := (rowG_cell hro e12.2).1
          have hqm : q ∈ L := by rw [hq, List.getD_eq_getElem?_getD, List.getElem?_eq_getElem hjL]; exact List.getElem_mem _
          have hqs := HR.out.2.2.2.1 q hqm
          have hS := JN_size L j (by omega) HR.out.2.2.2.2.1
          obtain ⟨Q1, hQ1⟩ : ∃ Q : ByteArray, Q = ⟨q.1.toArray⟩ := ⟨_, rfl⟩
          obtain ⟨Q2, hQ2⟩ : ∃ Q : ByteArray, Q = ⟨q.2.toArray⟩ := ⟨_, rfl⟩
          have hs1 : Q1.size ≤ 10500000 := by rw [hQ1]; show q.1.toArray.size ≤ _; rw [List.size_toArray]; exact hqs.1
          have hs2 : Q2.size ≤ 10500000 := by rw [hQ2]; show q.2.toArray.size ≤ _; rw [List.size_toArray]; exact hqs.2
          rw [← hQ1] at e1
          rw [← hQ2] at e2
          have HB2 : Hid (wr.ownsRow w1.heap.size 47 2 (.slice (some ⟨g, 0, none⟩) m cu) m (cellsP L) ∧ Below w1.heap.size w1 wr) := ⟨hro, hB2⟩
          clear hro hB2 e12 hqm hqs
          cases j with
          | zero =>
            have hN := JN_first L hjL
            rw [← hq, ← hQ1, ← hQ2] at hN
            have HN : Hid (JN L 1 = ⟨#[]⟩ ++ Q1 ++ ⟨#[61]⟩ ++ Q2) := hN
            simp only [Nat.zero_mul, Nat.zero_add] at e1 e2
            clear hN hq hQ1 hQ2 hjL
            have hz := JN_zero L
            rw [hz]
            clear hz hS
            go_wp2
            go_quiet (fail)
            go_wp2
            exact ⟨⟨1, by simp, by rw [HN.out], by omega, row_heap HB2.out.1 rfl, below_dn HB2.out.2 _⟩, by simp; omega⟩
          | succ i =>
            have hN := JN_next L (i + 1) hjL (Nat.succ_pos i)
            rw [← hq, ← hQ1, ← hQ2] at hN
            obtain ⟨S, hSd⟩ : ∃ S, S = JN L (i + 1) := ⟨_, rfl⟩
            rw [← hSd] at hN hS
            rw [← hSd]
            have HN : Hid (JN L (i + 1 + 1) = S ++ ⟨#[38]⟩ ++ Q1 ++ ⟨#[61]⟩ ++ Q2) := hN
            clear hN hq hQ1 hQ2 hjL hSd
            go_wp2
            go_quiet (fail)
            go_wp2
            exact ⟨⟨i + 1 + 1, by simp, by rw [HN.out], by omega, row_heap HB2.out.1 rfl, below_dn HB2.out.2 _⟩, by simp; omega⟩
        · have hjm2 : j = m := by omega
          subst hjm2
          have HE : Hid (JN L j = ⟨(joinL (L.map fmtP) [38]).toArray⟩ ∧ Below w1.heap.size w1 wr) := ⟨by rw [← HR.out.2.2.1]; exact JN_all L, hB2⟩
          clear hro hB2
          generalize JN L j = S at *
          go_wp2
          go_ret2
          rw [HR.out.2.2.2.2.2, HE.out.1]
          exact ⟨rfl, HH.out.2.2.trans (HE.out.2.mono HH.out.2.2.size)⟩
end Go.Proofs.YtdigohaeakclfaaGreatDoor
