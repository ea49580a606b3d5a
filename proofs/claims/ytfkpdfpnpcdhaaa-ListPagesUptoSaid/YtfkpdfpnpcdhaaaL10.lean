/- Rising walked. -/
import Derived.Test.YtfkpdfpnpcdhaaaL9
import Derived.BigQuiet
import Derived.Deep.QuietTactic
import Derived.WalkSpells
namespace Go.Proofs.LP
open Go Go.RowKit Go.Shelf Go.Proofs
set_option linter.unusedVariables false
set_option linter.unusedSimpArgs false
set_option linter.unusedSectionVars false
attribute [local go_sem] Oper.semAt_some
theorem run_sgt (x y : ByteArray) (w : World) : (binOp .gtr 9 (.string x) (.string y)).run Try.prog w = .ok (.bool (!sle x y)) w := by
  simp [binOp, Op.stringOp, sle]
attribute [local go_sem] run_sgt
/-- the place at which 'x' comes to stand in 'l', looked for from place 'k' down -/
def stp34 (l : List (List UInt8)) (x : List UInt8) : Nat → Nat
  | 0 => 0
  | k + 1 => if sleL (l.getD k []) x then k + 1 else stp34 l x k
theorem stp34_le (l : List (List UInt8)) (x : List UInt8) : ∀ k, stp34 l x k ≤ k
  | 0 => Nat.le_refl _
  | k + 1 => by unfold stp34; split; exact Nat.le_refl _; exact Nat.le_succ_of_le (stp34_le l x k)
def insL (l : List (List UInt8)) (x : List UInt8) : List (List UInt8) := l.take (stp34 l x l.length) ++ x :: l.drop (stp34 l x l.length)
/-- texts that rise, out of any -/
def risL (l : List (List UInt8)) : List (List UInt8) := l.foldl insL []
theorem insL_len (l : List (List UInt8)) (x : List UInt8) : (insL l x).length = l.length + 1 := by
  have := stp34_le l x l.length
  simp [insL]; omega
theorem risL_snoc (l : List (List UInt8)) (x : List UInt8) : risL (l ++ [x]) = insL (risL l) x := by simp [risL]
theorem foldl_len (l : List (List UInt8)) : ∀ a : List (List UInt8), (l.foldl insL a).length = a.length + l.length := by
  induction l with
  | nil => intro a; rfl
  | cons x l ih => intro a; rw [List.foldl_cons, ih, insL_len]; simp; omega
theorem risL_len (l : List (List UInt8)) : (risL l).length = l.length := by
  rw [risL, foldl_len]; simp
def vals (l : List (List UInt8)) : List Value := l.map fun x => .string (toB x)
theorem row_cell {W : World} {N : Nat} {e : TypeId} {g n cap : Nat} {xs : List Value} (h : W.ownsRow N e 1 (.slice (some ⟨g, 0, none⟩) n cap) n xs) {j : Nat} {u : Value} (hj : xs[j]? = some u) :
    W.cell? ⟨g, j, none⟩ = some u ∧ W.frozen? ⟨g, j, none⟩ = false ∧ N ≤ g := by
  rcases h.2 with ⟨h0, _⟩ | ⟨g', cap', cur, h0, hg, hc, h1, h2, h3, h4⟩
  · cases h0
  · simp only [Value.slice.injEq, Option.some.injEq, Addr.mk.injEq] at h0
    obtain ⟨⟨rfl, _, _⟩, _, rfl⟩ := h0
    refine ⟨?_, by simp [World.frozen?, hc], hg⟩
    rw [← h4, List.getElem?_take] at hj
    split at hj
    · simp only [World.cell?, hc]; simpa using hj
    · cases hj
theorem row_set {W : World} {N : Nat} {e : TypeId} {g n cap : Nat} {xs : List Value} (h : W.ownsRow N e 1 (.slice (some ⟨g, 0, none⟩) n cap) n xs) {j : Nat} (hj : j < n) (u : Value) :
    (W.setCell ⟨g, j, none⟩ u).ownsRow N e 1 (.slice (some ⟨g, 0, none⟩) n cap) n (xs.set j u) := by
  refine ⟨by rw [List.length_set]; exact h.1, ?_⟩
  rcases h.2 with ⟨h0, _⟩ | ⟨g', cap', cur, h0, hg, hc, h1, h2, h3, h4⟩
  · cases h0
  · simp only [Value.slice.injEq, Option.some.injEq, Addr.mk.injEq] at h0
    obtain ⟨⟨rfl, _, _⟩, _, rfl⟩ := h0
    obtain ⟨hlt, hk⟩ := Array.getElem?_eq_some_iff.1 hc
    refine .inr ⟨g, cap, cur.setIfInBounds j u, rfl, hg, ?_, h1, h2, by simpa using h3, ?_⟩
    · show (W.heap.modify g _)[g]? = _
      rw [Array.getElem?_eq_getElem (by rw [Array.size_modify]; exact hlt), Array.getElem_modify_self, hk]
      rfl
    · rw [Array.toList_setIfInBounds, ← h4, ← List.take_set]
theorem row_heap {W W' : World} {N : Nat} {e : TypeId} {v : Value} {n sz : Nat} {xs : List Value} (h : W.ownsRow N e sz v n xs) (e' : W'.heap = W.heap) : W'.ownsRow N e sz v n xs := by
  unfold World.ownsRow at *
  rw [e']; exact h
theorem below_dn {B : Nat} {w W : World} (h : Below B w W) (n : Nat) : Below B w (W.drewN n) := ⟨h.os, h.tape, h.output, h.size, h.block⟩
theorem vals_at (l : List (List UInt8)) (j : Nat) (h : j < l.length) : (vals l)[j]? = some (.string (toB (l.getD j []))) := by
  simp [vals, List.getD_eq_getElem?_getD, List.getElem?_eq_getElem h]
theorem i9 : (Try.prog.info? 9).map (fun i => (i.zero, i.size, i.bytes)) = some (some (.string ⟨#[]⟩), 1, 16) := by kernel_rfl
set_option maxRecDepth 100000 in
set_option maxHeartbeats 4000000 in
theorem rising_in (l : List (List UInt8)) (hl : l.length ≤ 1048576) (w : World) (bn : Option Addr) (cap : Nat) (hN : Names w w.heap.size bn l.length (fun i => toB (l.getD i []))) :
    Calls Try.prog 34 #[.slice bn l.length cap] w fun e w' => ∃ v, e = .returned v ∧ w'.ownsRow w.heap.size 9 1 v l.length (vals (risL l)) ∧ Below w.heap.size w w' := by
  obtain ⟨i0, hi, hz0, hz1, hz2⟩ := info_parts i9
  go_enter Try.func34, Try.ntmps34
  go_wp2
  go_loopw [3, 4] (fun v i wr => ∃ (k : Nat), i = .int .i64 k ∧ k ≤ l.length ∧ wr.ownsRow w.heap.size 9 1 v k (vals (risL (l.take k))) ∧ Below w.heap.size w wr)
    (fun _ i _ => match i with | .int _ k => l.length - k.toNat | _ => 0)
  case atStart => exact ⟨0, rfl, Nat.zero_le _, World.ownsRow_nil _ _ _ _, Below.refl _ _⟩
  case round =>
    obtain ⟨k, rfl, hk, hrow, hB⟩ := hrel
    by_cases hk2 : k < l.length
    · obtain ⟨a, rfl, ha, hna⟩ := hN k hk2
      have hna' := (hB.cell (p := a.add k) ha).trans hna
      have hsz := hB.size
      have hlk : (risL (l.take k)).length = k := by rw [risL_len, List.length_take]; omega
      have hnx : vals (risL (l.take (k + 1))) = vals (insL (risL (l.take k)) (l.getD k [])) := by
        rw [show l.take (k + 1) = l.take k ++ [l.getD k []] by rw [List.take_add_one, List.getD_eq_getElem?_getD, List.getElem?_eq_getElem hk2]; rfl, risL_snoc]
      simp only at hna'
      generalize hx : l.getD k [] = x at hna' hnx
      generalize hys : risL (l.take k) = ys at hrow hlk hnx
      clear hna hx
      have hw : wrap64 ((k : Int) + 1) = ((k + 1 : Nat) : Int) := by unfold wrap64; omega
      obtain ⟨u, c, rfl⟩ : ∃ u c, u3 = Value.slice u k c := by
        rcases hrow.2 with ⟨h, h0⟩ | ⟨g, cp, cur, h, _⟩
        · exact ⟨none, 0, by rw [h, h0]⟩
        · exact ⟨_, _, h⟩
      go_wp2_with (at_builtin; refine wpList_append_own _ rfl _ _ 29 rfl w.heap.size 9 i0 (.string ⟨#[]⟩) 1 16 Try.underlying29 hi hz0 hz1 hz2 rfl (by decide) _ _ _ rfl (hrow.alloc _) ⟨wr.heap.size, 0, none⟩ 1 1 [.string (toB x)] rfl rfl (cell_one_new _ _ _) (by simp [Value.oneCell']) (by simp [maxLen]; omega) (by omega) (by simp; omega) ?_
                   intro v' w1 hown' hgrow _; obtain ⟨g', cap', rfl⟩ := ownsRow_succ hown')
      have hBw : Below w.heap.size w w1 := by
        have := (((Below.refl w.heap.size wr).alloc hsz _).grown hgrow (by simp; omega) (fun q ej => (hrow.lt q ej).1))
        exact hB.trans this
      go_loopw [5] (fun v wr2 => ∃ (j : Nat) (y : List UInt8), v = .int .i64 j ∧ j ≤ k ∧ stp34 ys x j = stp34 ys x k ∧ wr2.ownsRow w.heap.size 9 1 (.slice (some ⟨g', 0, none⟩) (k + 1) cap') (k + 1) (vals (ys.take j ++ y :: ys.drop j)) ∧ Below w.heap.size w wr2)
        (fun v _ => match v with | .int _ j => j.toNat | _ => 0)
      case atStart =>
        refine ⟨k, x, rfl, Nat.le_refl _, rfl, ?_, hBw⟩
        have e : vals (ys.take k ++ x :: ys.drop k) = vals ys ++ [.string (toB x)] := by
          rw [List.take_of_length_le (by omega), List.drop_eq_nil_of_le (by omega)]; simp [vals]
        rw [e]; exact hown'
      case round =>
        obtain ⟨j, y, rfl, hj, hst, hro, hB2⟩ := hrel
        have hna2 := (hB2.cell (p := a.add k) ha).trans (((hB.cell (p := a.add k) ha).symm).trans hna')
        clear hna'
        have hjl : j ≤ ys.length := by omega
        obtain ⟨c1, c2, c3⟩ := row_cell hro (j := j) (u := .string (toB y)) (by rw [vals_at _ _ (by simp; omega)]; simp [List.getElem_append, List.getD_eq_getElem?_getD, hjl])
        have hset : (vals (ys.take j ++ y :: ys.drop j)).set j (.string (toB x)) = vals (ys.take j ++ x :: ys.drop j) := by
          unfold vals
          rw [← List.map_set]
          congr 1
          rw [List.set_append_right _ _ (by simp; omega), List.length_take, Nat.min_eq_left hjl, Nat.sub_self]; rfl
        have hfin := row_set hro (j := j) (by omega) (.string (toB x))
        rw [hset] at hfin
        cases j with
        | zero =>
          have hz : vals (ys.take 0 ++ x :: ys.drop 0) = vals (insL ys x) := by
            have : stp34 ys x ys.length = 0 := by rw [hlk, ← hst]; rfl
            rw [insL, this]
          rw [hz, ← hnx] at hfin
          clear hset hz hro hst hnx
          go_wp2
          go_quiet (fail)
          go_wp2
          exact ⟨⟨k + 1, by simp, by omega, row_heap hfin rfl, (below_dn hB2 _).setCell (p := ⟨g', 0, none⟩) c3 _⟩, by simp; omega⟩
        | succ i =>
          have hli : (vals (ys.take (i + 1) ++ y :: ys.drop (i + 1)))[i]? = some (.string (toB (ys.getD i []))) := by
            rw [vals_at _ _ (by simp; omega)]
            congr 3
            rw [List.getD_eq_getElem?_getD, List.getElem?_append_left (by simp; omega), List.getElem?_take, if_pos (by omega), List.getD_eq_getElem?_getD]
          obtain ⟨d1, d2, _⟩ := row_cell hro (j := i) hli
          have hi1 : wrap64 (((i : Int) + 1) - 1) = (i : Int) := by unfold wrap64; omega
          have hcmp : sle (toB (ys.getD i [])) (toB x) = sleL (ys.getD i []) x := by letI : MM := ⟨0⟩; exact sle_toB _ _
          cases hs : sleL (ys.getD i []) x with
          | true =>
            rw [hs] at hcmp
            have hz : vals (ys.take (i + 1) ++ x :: ys.drop (i + 1)) = vals (insL ys x) := by
              have : stp34 ys x ys.length = i + 1 := by rw [hlk, ← hst]; unfold stp34; rw [if_pos hs]
              rw [insL, this]
            rw [hz, ← hnx] at hfin
            clear hset hz hro hst hnx hli hs
            generalize ys.getD i [] = z at d1 hcmp
            go_wp2
            go_quiet (fail)
            go_wp2
            exact ⟨⟨k + 1, by simp, by omega, row_heap hfin rfl, (below_dn hB2 _).setCell (p := ⟨g', i + 1, none⟩) c3 _⟩, by simp; omega⟩
          | false =>
            rw [hs] at hcmp
            have hst2 : stp34 ys x i = stp34 ys x k := by rw [← hst]; conv => rhs; unfold stp34; rw [if_neg (by rw [hs]; exact Bool.false_ne_true)]
            have hset2 : (vals (ys.take (i + 1) ++ y :: ys.drop (i + 1))).set (i + 1) (.string (toB (ys.getD i []))) = vals (ys.take i ++ ys.getD i [] :: ys.drop i) := by
              unfold vals
              have e1 : ys.take (i + 1) = ys.take i ++ [ys.getD i []] := by rw [List.take_add_one, List.getD_eq_getElem?_getD, List.getElem?_eq_getElem (show i < ys.length by omega)]; rfl
              have e2 : ys.drop i = ys.getD i [] :: ys.drop (i + 1) := by rw [List.drop_eq_getElem_cons (show i < ys.length by omega), List.getD_eq_getElem?_getD, List.getElem?_eq_getElem (show i < ys.length by omega)]; rfl
              have hl1 : (ys.take i).length = i := by rw [List.length_take]; omega
              rw [← List.map_set]
              congr 1
              rw [List.set_append_right _ _ (by simp; omega), List.length_take, Nat.min_eq_left hjl, Nat.sub_self, e1, e2]
              simp
            have hro2 := row_set hro (j := i + 1) (by omega) (.string (toB (ys.getD i [])))
            rw [hset2] at hro2
            clear hset hset2 hro hst hnx hli hs hfin
            generalize ys.getD i [] = z at d1 hcmp hro2
            go_wp2
            go_quiet (fail)
            go_wp2
            exact ⟨⟨i, z, rfl, by omega, hst2, row_heap hro2 rfl, (below_dn hB2 _).setCell (p := ⟨g', i + 1, none⟩) c3 _⟩, by simp⟩
    · go_wp2
      have : k = l.length := by omega
      subst this
      go_ret
      exact ⟨_, rfl, by simpa using hrow, hB⟩
end Go.Proofs.LP
