/- Pairs in memory, and rows of them. -/
import Derived.Test.YtnohmijdpmelpaaGreatText
import Derived.RangeFuncBox
import Derived.WalkSpells
set_option maxRecDepth 100000
set_option linter.unusedVariables false
set_option linter.unusedSimpArgs false
namespace Go.Proofs.YtnohmijdpmelpaaGreat
open Go Go.Am Go.RowKit
theorem a1 {G : Gh} {w : World} {c : AV} {v : Value} (h : VR G w [] c v) (hn : nr c = true) : ∀ (i : Nat) (c' : AV) (x : Value), [c][i]? = some c' → [v][i]? = some x → VR G w [] c' x ∧ nr c' = true
  | 0, c', x, h1, h2 => by simp at h1 h2; subst h1; subst h2; exact ⟨h, hn⟩
  | i + 1, c', x, h1, _ => by simp at h1
theorem a2 {G : Gh} {w : World} {c d : AV} {v u : Value} (h : VR G w [] c v) (hn : nr c = true) (h' : VR G w [] d u) (hn' : nr d = true) : ∀ (i : Nat) (c' : AV) (x : Value), [c, d][i]? = some c' → [v, u][i]? = some x → VR G w [] c' x ∧ nr c' = true
  | 0, c', x, h1, h2 => by simp at h1 h2; subst h1; subst h2; exact ⟨h, hn⟩
  | 1, c', x, h1, h2 => by simp at h1 h2; subst h1; subst h2; exact ⟨h', hn'⟩
  | i + 2, c', x, h1, _ => by simp at h1
abbrev hdV (p : Hd) : Value := .agg #[.string ⟨p.1.toArray⟩, .string ⟨p.2.toArray⟩]
theorem vr_hd (G : Gh) (w : World) (p : Hd) : VR G w [] (.agg [.str p.1, .str p.2]) (hdV p) :=
  .agg _ _ [.string ⟨p.1.toArray⟩, .string ⟨p.2.toArray⟩] rfl fun q c v h1 h2 => by
    match q, h1, h2 with
    | 0, h1, h2 => simp at h1 h2; subst h1; subst h2; exact .str ..
    | 1, h1, h2 => simp at h1 h2; subst h1; subst h2; exact .str ..
    | q + 2, h1, _ => simp at h1
theorem tup2 {G : Gh} {w : World} {a b : AV} {u : Value} (h : VR G w [] (.tup [a, b]) u) : ∃ x y, u = .tuple #[x, y] ∧ VR G w [] a x ∧ VR G w [] b y := by
  obtain ⟨us, rfl, hl, hv⟩ := h.tup_inv
  match us, hl with
  | [x, y], _ => exact ⟨x, y, rfl, hv 0 _ x rfl rfl, hv 1 _ y rfl rfl⟩
theorem kit_sb {f : FuncId} {args : List AV} {vs : List Value} {s : List UInt8} {b : Bool} (h : FnOK Tryz.prog f args [] (.tup [.str s, .bool b]) []) (hl : vs.length = args.length)
    (ha : ∀ (G : Gh) (w : World) (i : Nat) (c : AV) (v : Value), args[i]? = some c → vs[i]? = some v → VR G w [] c v ∧ nr c = true) (w : World) :
    Calls Tryz.prog f vs.toArray w fun e w' => e = .returned (.tuple #[.string ⟨s.toArray⟩, .bool b]) ∧ Below w.heap.size w w' := by
  refine (fn_kit h w (fun _ _ => False) (fun b o u h => h.elim) vs hl (fun i c v h1 h2 => ha _ _ i c v h1 h2)).mono ?_
  rintro e w' ⟨u, G', rfl, hr, hB, h3, h4⟩
  obtain ⟨x, y, rfl, hx, hy⟩ := tup2 hr
  rw [hx.str_inv, hy.bool_inv]
  exact ⟨rfl, hB⟩
theorem kit_s {f : FuncId} {args : List AV} {vs : List Value} {s : List UInt8} (h : FnOK Tryz.prog f args [] (.str s) []) (hl : vs.length = args.length)
    (ha : ∀ (G : Gh) (w : World) (i : Nat) (c : AV) (v : Value), args[i]? = some c → vs[i]? = some v → VR G w [] c v ∧ nr c = true) (w : World) :
    Calls Tryz.prog f vs.toArray w fun e w' => e = .returned (.string ⟨s.toArray⟩) ∧ Below w.heap.size w w' := by
  refine (fn_kit h w (fun _ _ => False) (fun b o u h => h.elim) vs hl (fun i c v h1 h2 => ha _ _ i c v h1 h2)).mono ?_
  rintro e w' ⟨u, G', rfl, hr, hB, h3, h4⟩
  rw [hr.str_inv]
  exact ⟨rfl, hB⟩
theorem kit_b {f : FuncId} {args : List AV} {vs : List Value} {b : Bool} (h : FnOK Tryz.prog f args [] (.bool b) []) (hl : vs.length = args.length)
    (ha : ∀ (G : Gh) (w : World) (i : Nat) (c : AV) (v : Value), args[i]? = some c → vs[i]? = some v → VR G w [] c v ∧ nr c = true) (w : World) :
    Calls Tryz.prog f vs.toArray w fun e w' => e = .returned (.bool b) ∧ Below w.heap.size w w' := by
  refine (fn_kit h w (fun _ _ => False) (fun b o u h => h.elim) vs hl (fun i c v h1 h2 => ha _ _ i c v h1 h2)).mono ?_
  rintro e w' ⟨u, G', rfl, hr, hB, h3, h4⟩
  rw [hr.bool_inv]
  exact ⟨rfl, hB⟩
/-- pairs in memory -/
def HdAt (w : World) (v : Value) (l : List Hd) : Prop := ∃ (base : Option (Nat × Nat)) (cap : Nat), v = .slice (base.map fun p => mkA p.1 p.2) l.length cap ∧ (base = none → l.length = 0) ∧
  ∀ b o, base = some (b, o) → ∀ i, i < l.length → w.cell? (mkA b (o + i * 2)) = some (.string ⟨(l.getD i ([], [])).1.toArray⟩) ∧ w.cell? (mkA b (o + i * 2 + 1)) = some (.string ⟨(l.getD i ([], [])).2.toArray⟩)
theorem hdAt_of {G : Gh} {w : World} {ρ : List Nat} {l : List Hd} {o : Bool} {v : Value} (h : VR G w ρ (.sl 2 l.length (hdEl l) o) v) : HdAt w v l := by
  obtain ⟨base, cap, vs, rfl, e1, e2, e3, e4, e5⟩ := h.sl_inv
  refine ⟨base, cap, rfl, fun e => by have := e2 e; omega, fun b o hb i hi => ?_⟩
  have c0 := e4 b o hb (i * 2) (by omega)
  have c1 := e4 b o hb (i * 2 + 1) (by omega)
  have v0 := e5 i 0 (.str (l.getD i ([], [])).1) hi rfl
  have v1 := e5 i 1 (.str (l.getD i ([], [])).2) hi rfl
  rw [Nat.add_zero] at v0
  refine ⟨?_, ?_⟩
  · rw [c0.2, v0.str_inv]
  · rw [Nat.add_assoc, c1.2, v1.str_inv]
theorem HdAt.below {N : Nat} {w w' : World} {v : Value} {l : List Hd} (h : HdAt w v l) (hN : w.heap.size ≤ N) (hb : Below N w w') : HdAt w' v l := by
  obtain ⟨base, cap, h1, h2, h3⟩ := h
  refine ⟨base, cap, h1, h2, fun b o e i hi => ?_⟩
  obtain ⟨c0, c1⟩ := h3 b o e i hi
  exact ⟨(hb.cell (p := mkA b (o + i * 2)) (Nat.lt_of_lt_of_le (World.block_lt_of_cell? _ _ c0) hN)).trans c0, (hb.cell (p := mkA b (o + i * 2 + 1)) (Nat.lt_of_lt_of_le (World.block_lt_of_cell? _ _ c1) hN)).trans c1⟩
theorem k24 (s : List UInt8) (hs : s.length ≤ 16777214) (w : World) : Calls Tryz.prog 24 #[.string ⟨s.toArray⟩] w fun e w' => e = .returned (.tuple #[.string ⟨((unescL s).getD []).toArray⟩, .bool (unescL s).isSome]) ∧ Below w.heap.size w w' :=
  kit_sb (vs := [.string ⟨s.toArray⟩]) (runesc_ok s hs) rfl (fun G w => a1 (.str ..) rfl) w
theorem k18 (s : List UInt8) (sl : Bool) (hs : s.length ≤ 16777214) (w : World) : Calls Tryz.prog 18 #[.string ⟨s.toArray⟩, .bool sl] w fun e w' => e = .returned (.tuple #[.string ⟨(escL ((unescL s).getD []) sl).toArray⟩, .bool (unescL s).isSome]) ∧ Below w.heap.size w w' :=
  kit_sb (vs := [.string ⟨s.toArray⟩, .bool sl]) (escaped_ok s sl hs) rfl (fun G w => a2 (.str ..) rfl (.bool ..) rfl) w
theorem k26 (s : List UInt8) (sl : Bool) (hs : s.length ≤ 16777216) (w : World) : Calls Tryz.prog 26 #[.string ⟨s.toArray⟩, .bool sl] w fun e w' => e = .returned (.string ⟨(escL s sl).toArray⟩) ∧ Below w.heap.size w w' :=
  kit_s (vs := [.string ⟨s.toArray⟩, .bool sl]) (resc_ok s sl hs) rfl (fun G w => a2 (.str ..) rfl (.bool ..) rfl) w
theorem k63 (a b : Hd) (w : World) : Calls Tryz.prog 63 #[hdV a, hdV b] w fun e w' => e = .returned (.bool (belowP a b)) ∧ Below w.heap.size w w' :=
  kit_b (vs := [hdV a, hdV b]) (below_ok a b) rfl (fun G w => a2 (vr_hd ..) rfl (vr_hd ..) rfl) w
theorem k23 (t : List UInt8) (ht : t.length ≤ 8388608) (w : World) : Calls Tryz.prog 23 #[.string ⟨t.toArray⟩] w fun e w' => ∃ v, e = .returned (.tuple #[.string ⟨(queryP t).toArray⟩, v]) ∧ HdAt w' v (queryQ t) ∧ Below w.heap.size w w' := by
  refine (fn_kit (rquery_ok t ht) w (fun _ _ => False) (fun b o u h => h.elim) [.string ⟨t.toArray⟩] rfl (a1 (.str ..) rfl)).mono ?_
  rintro e w' ⟨u, G', rfl, hr, hB, h3, h4⟩
  obtain ⟨x, y, rfl, hx, hy⟩ := tup2 hr
  rw [hx.str_inv]
  exact ⟨y, rfl, hdAt_of hy, hB⟩
end Go.Proofs.YtnohmijdpmelpaaGreat
set_option maxRecDepth 100000
set_option linter.unusedVariables false
set_option linter.unusedSimpArgs false
set_option linter.unusedSectionVars false
namespace Go.Proofs.YtnohmijdpmelpaaGreat
open Go Go.Am Go.RowKit
def cellsP (l : List Hd) : List Value := l.flatMap fun p => [.string ⟨p.1.toArray⟩, .string ⟨p.2.toArray⟩]
theorem cellsP_cons (p : Hd) (l : List Hd) : cellsP (p :: l) = .string ⟨p.1.toArray⟩ :: .string ⟨p.2.toArray⟩ :: cellsP l := rfl
theorem cellsP_app (l m : List Hd) : cellsP (l ++ m) = cellsP l ++ cellsP m := by simp [cellsP]
theorem cellsP_len : ∀ (l : List Hd), (cellsP l).length = l.length * 2
  | [] => rfl
  | p :: l => by rw [cellsP_cons]; simp only [List.length_cons]; have := cellsP_len l; omega
theorem cellsP_at {A B : List Hd} {y : Hd} {j : Nat} (h : A.length = j) : (cellsP (A ++ y :: B))[j * 2]? = some (.string ⟨y.1.toArray⟩) ∧ (cellsP (A ++ y :: B))[j * 2 + 1]? = some (.string ⟨y.2.toArray⟩) := by
  have hl := cellsP_len A
  rw [cellsP_app, cellsP_cons]
  constructor
  · rw [List.getElem?_append_right (by omega), show j * 2 - (cellsP A).length = 0 by omega]; rfl
  · rw [List.getElem?_append_right (by omega), show j * 2 + 1 - (cellsP A).length = 1 by omega]; rfl
theorem cellsP_get {l : List Hd} {i : Nat} (h : i < l.length) : (cellsP l)[i * 2]? = some (.string ⟨(l.getD i ([], [])).1.toArray⟩) ∧ (cellsP l)[i * 2 + 1]? = some (.string ⟨(l.getD i ([], [])).2.toArray⟩) := by
  have e : l = l.take i ++ l.getD i ([], []) :: l.drop (i + 1) := by
    rw [List.getD_eq_getElem?_getD, List.getElem?_eq_getElem h]
    simp
  have := cellsP_at (A := l.take i) (B := l.drop (i + 1)) (y := l.getD i ([], [])) (j := i) (by rw [List.length_take]; omega)
  rwa [← e] at this
theorem cellsP_set {A B : List Hd} {y z : Hd} {j : Nat} (h : A.length = j) : ((cellsP (A ++ y :: B)).set (j * 2) (.string ⟨z.1.toArray⟩)).set (j * 2 + 1) (.string ⟨z.2.toArray⟩) = cellsP (A ++ z :: B) := by
  have hl := cellsP_len A
  rw [cellsP_app, cellsP_app, cellsP_cons, cellsP_cons]
  rw [List.set_append_right _ _ (by omega), List.set_append_right _ _ (by omega), show j * 2 - (cellsP A).length = 0 by omega, show j * 2 + 1 - (cellsP A).length = 1 by omega]
  rfl
theorem rowG_cell {W : World} {N : Nat} {e : TypeId} {sz g n cap : Nat} {xs : List Value} (h : W.ownsRow N e sz (.slice (some ⟨g, 0, none⟩) n cap) n xs) {j : Nat} {u : Value} (hj : xs[j]? = some u) :
    W.cell? ⟨g, j, none⟩ = some u ∧ W.frozen? ⟨g, j, none⟩ = false ∧ N ≤ g := by
  rcases h.2 with ⟨h0, _⟩ | ⟨g', cap', cur, h0, hg, hc, h1, h2, h3, h4⟩
  · cases h0
  · simp only [Value.slice.injEq, Option.some.injEq, Addr.mk.injEq] at h0
    obtain ⟨⟨rfl, _, _⟩, _, rfl⟩ := h0
    refine ⟨?_, by simp [World.frozen?, hc], hg⟩
    rw [← h4, List.getElem?_take] at hj
    split at hj
    · simp only [World.cell?, hc]; simpa using hj
    · cases hj
theorem rowG_set {W : World} {N : Nat} {e : TypeId} {sz g n cap : Nat} {xs : List Value} (h : W.ownsRow N e sz (.slice (some ⟨g, 0, none⟩) n cap) n xs) (j : Nat) (u : Value) :
    (W.setCell ⟨g, j, none⟩ u).ownsRow N e sz (.slice (some ⟨g, 0, none⟩) n cap) n (xs.set j u) := by
  refine ⟨by rw [List.length_set]; exact h.1, ?_⟩
  rcases h.2 with ⟨h0, _⟩ | ⟨g', cap', cur, h0, hg, hc, h1, h2, h3, h4⟩
  · cases h0
  · simp only [Value.slice.injEq, Option.some.injEq, Addr.mk.injEq] at h0
    obtain ⟨⟨rfl, _, _⟩, _, rfl⟩ := h0
    obtain ⟨hlt, hk⟩ := Array.getElem?_eq_some_iff.1 hc
    refine .inr ⟨g, cap, cur.setIfInBounds j u, rfl, hg, ?_, h1, h2, by simpa using h3, ?_⟩
    · show (W.heap.modify g _)[g]? = _
      rw [Array.getElem?_eq_getElem (by rw [Array.size_modify]; exact hlt), Array.getElem_modify_self, hk]
      rfl
    · rw [Array.toList_setIfInBounds, ← h4, ← List.take_set]
theorem row_base {W : World} {N M : Nat} {e : TypeId} {sz : Nat} {v : Value} {n : Nat} {xs : List Value} (h : W.ownsRow M e sz v n xs) (hM : N ≤ M) : W.ownsRow N e sz v n xs := by
  refine ⟨h.1, ?_⟩
  rcases h.2 with h0 | ⟨g, cap, cur, h1, h2, h3⟩
  · exact .inl h0
  · exact .inr ⟨g, cap, cur, h1, Nat.le_trans hM h2, h3⟩
theorem keepR {w1 W W' : World} {N : Nat} {e : TypeId} {sz : Nat} {v : Value} {n : Nat} {xs : List Value} (h : Below w1.heap.size w1 W ∧ W.ownsRow N e sz v n xs) (h' : Below W.heap.size W W') : Below w1.heap.size w1 W' ∧ W'.ownsRow N e sz v n xs := by
  refine ⟨h.1.trans (h'.mono h.1.size), h.2.1, ?_⟩
  rcases h.2.2 with h0 | ⟨g, cap, cur, h1, h2, h3, h4⟩
  · exact .inl h0
  · exact .inr ⟨g, cap, cur, h1, h2, (h'.block g (Array.getElem?_eq_some_iff.1 h3).1).trans h3, h4⟩
theorem info_parts {t : TypeId} {z : Option Value} {s b : Nat} (h : (Tryz.prog.info? t).map (fun i => (i.zero, i.size, i.bytes)) = some (z, s, b)) : ∃ i, Tryz.prog.info? t = some i ∧ i.zero = z ∧ i.size = s ∧ i.bytes = b := by
  cases hc : Tryz.prog.info? t with
  | none => rw [hc] at h; cases h
  | some i => rw [hc] at h; injection h with h; injection h with h1 h2; injection h2 with h2 h3; exact ⟨i, rfl, h1, h2, h3⟩
theorem i48 : (Tryz.prog.info? 48).map (fun i => (i.zero, i.size, i.bytes)) = some (some (.agg #[.string ⟨#[]⟩, .string ⟨#[]⟩]), 2, 32) := by kernel_rfl
theorem u22 : Tryz.prog.underlying 22 = some (.slice 48) := by kernel_rfl
theorem cell_two (w : World) (a b : Value) (t : TypeId) : ∀ (j : Nat) (u : Value), [a, b][j]? = some u → (w.alloc (.cells #[a, b] t)).cell? ((⟨w.heap.size, 0, none⟩ : Addr).add j) = some u := by
  intro j u hj
  match j, hj with
  | 0, hj => simp at hj; subst hj; simp [Addr.add]
  | 1, hj => simp at hj; subst hj; simp [Addr.add]
theorem cell_two2 (w : World) (p : Obj) (a b : Value) (t : TypeId) : ∀ (j : Nat) (u : Value), [a, b][j]? = some u → ((w.alloc p).alloc (.cells #[a, b] t)).cell? ((⟨w.heap.size + 1, 0, none⟩ : Addr).add j) = some u := by
  intro j u hj
  have := cell_two (w.alloc p) a b t j u hj
  rwa [show (w.alloc p).heap.size = w.heap.size + 1 by simp] at this
theorem hp_new (w : World) (p q : Obj) : ((w.alloc p).alloc q).heap[w.heap.size]? = some p :=
  ((World.grownBy_alloc (w.alloc p) q none).block w.heap.size (by simp) (by simp)).trans (heap_alloc_new w p)
/-- a pair is put behind a row; where it comes to lie is not the block that is asked about -/
theorem app_hd {ops : Array Oper} {rest : List Oper} {o : Oper} {a : Act} {Q : Exit → Act → World → Prop} {W : World} (hgd : o.guard = none) (s x : Operand)
    (ho : o.op = .call { callee := .builtin .append, args := #[s, x], argTypes := #[22, 22] }) (N : Nat) (v : Value) (m : Nat) (xs : List Value) (hs : a.eval s = v)
    (hown : W.ownsRow N 48 2 v m xs) (h0 : m = 0 → v = .slice none 0 0) (ad : Addr) (z : Hd) (hx : a.eval x = .slice (some ad) 1 1)
    (hnews : ∀ (j : Nat) (u : Value), [Value.string ⟨z.1.toArray⟩, Value.string ⟨z.2.toArray⟩][j]? = some u → W.cell? (ad.add j) = some u)
    (hm : m ≤ 2097153) (P : Nat) (hN : N ≤ P) (hP : W.heap[P]? = some (.cells #[.string ⟨z.1.toArray⟩, .string ⟨z.2.toArray⟩] 48 (0, 0))) (hPv : v.ownBlock ≠ some P)
    (h : ∀ g' cap' w', w'.ownsRow N 48 2 (.slice (some ⟨g', 0, none⟩) (m + 1) cap') (m + 1) (xs ++ [.string ⟨z.1.toArray⟩, .string ⟨z.2.toArray⟩]) → g' ≠ P → W.grownBy w' v.ownBlock →
      wpList Tryz.prog ops Q rest (a.put o.dst (.slice (some ⟨g', 0, none⟩) (m + 1) cap')) w') : wpList Tryz.prog ops Q (o :: rest) a W := by
  obtain ⟨i0, hi, hz0, hz1, hz2⟩ := info_parts i48
  have hPs : P < W.heap.size := (Array.getElem?_eq_some_iff.1 hP).1
  have hone : ∀ u ∈ [Value.string ⟨z.1.toArray⟩, Value.string ⟨z.2.toArray⟩], u.oneCell' = true := fun u hu => by simp at hu; rcases hu with rfl | rfl <;> rfl
  rcases Nat.eq_zero_or_pos m with h00 | hpos
  · have hv := h0 h00
    subst h00
    subst hv
    have hxs : xs = [] := List.eq_nil_of_length_eq_zero (by have := hown.1; omega)
    subst hxs
    refine wpList_append_own W hgd s x 22 ho W.heap.size 48 i0 (.agg #[.string ⟨#[]⟩, .string ⟨#[]⟩]) 2 32 u22 hi hz0 hz1 hz2 rfl (by decide) _ 0 [] hs (World.ownsRow_nil _ _ _ _) ad 1 1 _ hx rfl hnews hone (by simp [maxLen]) (by omega) (Nat.le_refl _) ?_
    intro v' w' hown' hgrow _
    obtain ⟨g', cap', rfl⟩ := ownsRow_succ hown'
    refine h g' cap' w' (row_base hown' (by omega)) ?_ hgrow
    have := (rowG_cell hown' (j := 0) (u := .string ⟨z.1.toArray⟩) rfl).2.2
    omega
  · refine wpList_append_own W hgd s x 22 ho N 48 i0 (.agg #[.string ⟨#[]⟩, .string ⟨#[]⟩]) 2 32 u22 hi hz0 hz1 hz2 rfl (by decide) v m xs hs hown ad 1 1 _ hx rfl hnews hone (by simp [maxLen]; omega) (by omega) (by omega) ?_
    intro v' w' hown' hgrow _
    obtain ⟨g', cap', rfl⟩ := ownsRow_succ hown'
    refine h g' cap' w' hown' (fun e => ?_) hgrow
    subst e
    rcases hown'.2 with ⟨h1, _⟩ | ⟨g2, cap2, cur, h1, h2, h3, h4, h5, h6, h7⟩
    · cases h1
    · simp only [Value.slice.injEq, Option.some.injEq, Addr.mk.injEq] at h1
      obtain ⟨⟨rfl, _, _⟩, _, rfl⟩ := h1
      have := hgrow.block g' hPs (fun e => hPv e.symm)
      rw [h3, hP] at this
      simp only [Option.some.injEq, Obj.cells.injEq] at this
      rw [this.1] at h6
      simp at h6
      omega
theorem after_app {w1 w5 w6 : World} {v : Value} {n : Nat} {xs : List Value} {p q : Obj} (B5 : Below w1.heap.size w1 w5 ∧ w5.ownsRow w1.heap.size 48 2 v n xs) (hg : ((w5.alloc p).alloc q).grownBy w6 v.ownBlock) :
    Below w1.heap.size w1 w6 ∧ w6.heap[w5.heap.size]? = some p := by
  have hs := B5.1.size
  constructor
  · exact ((B5.1.alloc hs p).alloc (by simp; omega) q).grown hg (by simp; omega) fun k e => (B5.2.lt k e).1
  · refine (hg.block w5.heap.size (by simp; omega) (fun e => ?_)).trans (hp_new _ _ _)
    have := (B5.2.lt _ e.symm).2
    omega
theorem after_app2 {w1 w5 w6 : World} {v : Value} {n g cg m : Nat} {ys : List Hd} {z : Hd} {q : Obj} (B5 : Below w1.heap.size w1 w5 ∧ w5.ownsRow w1.heap.size 48 2 v n (cellsP ys))
    (ho : w6.ownsRow w1.heap.size 48 2 (.slice (some ⟨g, 0, none⟩) (m + 1) cg) (m + 1) (cellsP ys ++ [.string ⟨z.1.toArray⟩, .string ⟨z.2.toArray⟩])) (hp : g ≠ w5.heap.size)
    (hg : ((w5.alloc (.cells #[.string ⟨z.1.toArray⟩, .string ⟨z.2.toArray⟩] 48)).alloc q).grownBy w6 v.ownBlock) :
    Below w1.heap.size w1 w6 ∧ w6.ownsRow w1.heap.size 48 2 (.slice (some ⟨g, 0, none⟩) (m + 1) cg) (m + 1) (cellsP (ys ++ [z])) ∧ g ≠ w5.heap.size ∧ w6.heap[w5.heap.size]? = some (.cells #[.string ⟨z.1.toArray⟩, .string ⟨z.2.toArray⟩] 48 (0, 0)) := by
  have h := after_app B5 hg
  refine ⟨h.1, ?_, hp, h.2⟩
  rw [cellsP_app]; exact ho
theorem set_other {W : World} {g P j : Nat} (h : g ≠ P) (u : Value) : (W.setCell ⟨g, j, none⟩ u).heap[P]? = W.heap[P]? := by
  show (W.heap.modify g _)[P]? = _
  rw [Array.getElem?_modify, if_neg h]
theorem pcell {W : World} {P : Nat} {a b : Value} (h : W.heap[P]? = some (.cells #[a, b] 48 (0, 0))) : W.cell? ⟨P, 0, none⟩ = some a ∧ W.cell? ⟨P, 1, none⟩ = some b := by
  constructor <;> simp [World.cell?, h]
/-- a pair of the row is written -/
theorem row_put {W : World} {N g n cap : Nat} {A B : List Hd} {y : Hd} (h : W.ownsRow N 48 2 (.slice (some ⟨g, 0, none⟩) n cap) n (cellsP (A ++ y :: B))) {j : Nat} (hj : A.length = j) (z : Hd) :
    ((W.setCell ⟨g, j * 2, none⟩ (.string ⟨z.1.toArray⟩)).setCell ⟨g, j * 2 + 1, none⟩ (.string ⟨z.2.toArray⟩)).ownsRow N 48 2 (.slice (some ⟨g, 0, none⟩) n cap) n (cellsP (A ++ z :: B)) := by
  have := rowG_set (rowG_set h (j * 2) (.string ⟨z.1.toArray⟩)) (j * 2 + 1) (.string ⟨z.2.toArray⟩)
  rwa [cellsP_set hj] at this
/-- what a store asks of the cells of a pair -/
theorem row_cells {W : World} {N g n cap : Nat} {A B : List Hd} {y : Hd} (h : W.ownsRow N 48 2 (.slice (some ⟨g, 0, none⟩) n cap) n (cellsP (A ++ y :: B))) {j : Nat} (hj : A.length = j) :
    W.cell? ⟨g, j * 2, none⟩ = some (.string ⟨y.1.toArray⟩) ∧ W.frozen? ⟨g, j * 2, none⟩ = false ∧ W.cell? ⟨g, j * 2 + 1, none⟩ = some (.string ⟨y.2.toArray⟩) ∧ W.frozen? ⟨g, j * 2 + 1, none⟩ = false ∧ N ≤ g := by
  have h1 := rowG_cell h (cellsP_at (B := B) (y := y) hj).1
  have h2 := rowG_cell h (cellsP_at (B := B) (y := y) hj).2
  exact ⟨h1.1, h1.2.1, h2.1, h2.2.1, h1.2.2⟩
theorem row_heap {W W' : World} {N : Nat} {e : TypeId} {v : Value} {n sz : Nat} {xs : List Value} (h : W.ownsRow N e sz v n xs) (e' : W'.heap = W.heap) : W'.ownsRow N e sz v n xs := by
  unfold World.ownsRow at *
  rw [e']; exact h
theorem below_dn {B : Nat} {w W : World} (h : Below B w W) (n : Nat) : Below B w (W.drewN n) := ⟨h.os, h.tape, h.output, h.size, h.block⟩
theorem row_done {W : World} {N : Nat} {v : Value} {m j : Nat} {ps ys : List Hd} {z : Hd} (hy : m = ps.length ∧ ys = sortP ps ∧ ys.length = m) (hst : stpP ys z j = stpP ys z m) (hj : stpP ys z j = j)
    (h : W.ownsRow N 48 2 v (m + 1) (cellsP (ys.take j ++ z :: ys.drop j))) : W.ownsRow N 48 2 v (ps ++ [z]).length (cellsP (sortP (ps ++ [z]))) := by
  have e : sortP (ps ++ [z]) = ys.take j ++ z :: ys.drop j := by
    rw [sortP_snoc, ← hy.2.1]
    unfold insP
    rw [hy.2.2, ← hst, hj]
  have el : (ps ++ [z]).length = m + 1 := by rw [hy.1]; simp
  rw [e, el]; exact h
theorem row_shift {W : World} {N : Nat} {v : Value} {m i : Nat} {ys : List Hd} (hl : i < ys.length) (h : W.ownsRow N 48 2 v m (cellsP (ys.take (i + 1) ++ ys.getD i ([], []) :: ys.drop (i + 1)))) :
    W.ownsRow N 48 2 v m (cellsP (ys.take i ++ ys.getD i ([], []) :: ys.drop i)) := by
  have e : ys.take (i + 1) ++ ys.getD i ([], []) :: ys.drop (i + 1) = ys.take i ++ ys.getD i ([], []) :: ys.drop i := by
    have e1 : ys.take (i + 1) = ys.take i ++ [ys.getD i ([], [])] := by rw [List.take_add_one, List.getD_eq_getElem?_getD, List.getElem?_eq_getElem hl]; rfl
    have e2 : ys.drop i = ys.getD i ([], []) :: ys.drop (i + 1) := by rw [List.drop_eq_getElem_cons hl, List.getD_eq_getElem?_getD, List.getElem?_eq_getElem hl]; rfl
    rw [e1, e2]; simp
  rw [← e]; exact h
/-- the cells of the pair ahead of the place -/
theorem row_ahead {W : World} {N g n cap i : Nat} {ys : List Hd} {y : Hd} (hl : i < ys.length) (h : W.ownsRow N 48 2 (.slice (some ⟨g, 0, none⟩) n cap) n (cellsP (ys.take (i + 1) ++ y :: ys.drop (i + 1)))) :
    W.cell? ⟨g, i * 2, none⟩ = some (.string ⟨(ys.getD i ([], [])).1.toArray⟩) ∧ W.cell? ⟨g, i * 2 + 1, none⟩ = some (.string ⟨(ys.getD i ([], [])).2.toArray⟩) := by
  have e : ys.take (i + 1) ++ y :: ys.drop (i + 1) = ys.take i ++ ys.getD i ([], []) :: (y :: ys.drop (i + 1)) := by
    have e1 : ys.take (i + 1) = ys.take i ++ [ys.getD i ([], [])] := by rw [List.take_add_one, List.getD_eq_getElem?_getD, List.getElem?_eq_getElem hl]; rfl
    rw [e1]; simp
  rw [e] at h
  have := cellsP_at (A := ys.take i) (B := y :: ys.drop (i + 1)) (y := ys.getD i ([], [])) (j := i) (by rw [List.length_take]; omega)
  exact ⟨(rowG_cell h this.1).1, (rowG_cell h this.2).1⟩
theorem after63 {w1 wr w7 : World} {N : Nat} {v : Value} {n P : Nat} {xs : List Value} {p : Obj} (h : Below w1.heap.size w1 wr ∧ wr.ownsRow N 48 2 v n xs) (hP : wr.heap[P]? = some p) (hB : Below wr.drew.heap.size wr.drew w7) :
    Below w1.heap.size w1 w7 ∧ w7.ownsRow N 48 2 v n xs ∧ w7.heap[P]? = some p := by
  have hB' : Below wr.heap.size wr w7 := ⟨hB.os, hB.tape, hB.output, hB.size, hB.block⟩
  have := keepR h hB'
  exact ⟨this.1, this.2, (hB'.block P (Array.getElem?_eq_some_iff.1 hP).1).trans hP⟩
theorem put_below {w1 W : World} {N g a b : Nat} {u v : Value} (h : Below N w1 W) (hg : N ≤ g) : Below N w1 ((W.setCell ⟨g, a, none⟩ u).setCell ⟨g, b, none⟩ v) :=
  (h.setCell (p := ⟨g, a, none⟩) hg _).setCell (p := ⟨g, b, none⟩) hg _
theorem put_heap {W : World} {g a b P : Nat} {u v : Value} {p : Obj} (h : W.heap[P]? = some p) (hg : g ≠ P) : ((W.setCell ⟨g, a, none⟩ u).setCell ⟨g, b, none⟩ v).heap[P]? = some p :=
  (set_other hg _).trans ((set_other hg _).trans h)
theorem stp_true {ys : List Hd} {z q : Hd} {i : Nat} (hq : q = ys.getD i ([], [])) (h : belowP z q = true) : stpP ys z (i + 1) = stpP ys z i := by
  conv => lhs; unfold stpP
  rw [← hq, if_pos h]
theorem stp_false {ys : List Hd} {z q : Hd} {i : Nat} (hq : q = ys.getD i ([], [])) (h : belowP z q = false) : stpP ys z (i + 1) = i + 1 := by
  conv => lhs; unfold stpP
  rw [← hq, if_neg (by rw [h]; exact Bool.false_ne_true)]
/-- what is joined, as bytes -/
def JN (L : List Hd) (j : Nat) : ByteArray := ⟨(joinN (L.map fmtP) [38] j).toArray⟩
theorem cat_mk (a b : List UInt8) : (⟨a.toArray⟩ : ByteArray) ++ ⟨b.toArray⟩ = ⟨(a ++ b).toArray⟩ := by
  apply ByteArray.ext; simp [ByteArray.data_append]
theorem map_fmt (L : List Hd) (j : Nat) (h : j < L.length) : (L.map fmtP).getD j [] = (L.getD j ([], [])).1 ++ [61] ++ (L.getD j ([], [])).2 := by
  rw [List.getD_eq_getElem?_getD, List.getElem?_map, List.getD_eq_getElem?_getD, List.getElem?_eq_getElem h]; rfl
theorem JN_zero (L : List Hd) : JN L 0 = ⟨#[]⟩ := rfl
theorem JN_first (L : List Hd) (h : 0 < L.length) : JN L 1 = ⟨#[]⟩ ++ ⟨(L.getD 0 ([], [])).1.toArray⟩ ++ ⟨#[61]⟩ ++ ⟨(L.getD 0 ([], [])).2.toArray⟩ := by
  rw [show (⟨#[]⟩ : ByteArray) = ⟨([] : List UInt8).toArray⟩ from rfl, show (⟨#[61]⟩ : ByteArray) = ⟨([61] : List UInt8).toArray⟩ from rfl, cat_mk, cat_mk, cat_mk]
  unfold JN
  rw [joinN_succ, map_fmt L 0 h]
  simp [joinN]
theorem JN_next (L : List Hd) (j : Nat) (h : j < L.length) (hj : 0 < j) : JN L (j + 1) = JN L j ++ ⟨#[38]⟩ ++ ⟨(L.getD j ([], [])).1.toArray⟩ ++ ⟨#[61]⟩ ++ ⟨(L.getD j ([], [])).2.toArray⟩ := by
  rw [show (⟨#[38]⟩ : ByteArray) = ⟨([38] : List UInt8).toArray⟩ from rfl, show (⟨#[61]⟩ : ByteArray) = ⟨([61] : List UInt8).toArray⟩ from rfl]
  unfold JN
  rw [cat_mk, cat_mk, cat_mk, cat_mk, joinN_succ, map_fmt L j h, if_pos hj]
  simp
theorem JN_size (L : List Hd) (j : Nat) (hj : j ≤ L.length) (h : (joinL (L.map fmtP) [38]).length ≤ 35184372088832) : (JN L j).size ≤ 35184372088832 := by
  have := joinN_mono (L.map fmtP) [38] j L.length hj
  have e : joinL (L.map fmtP) [38] = joinN (L.map fmtP) [38] L.length := by unfold joinL; rw [List.length_map]
  rw [e] at h
  show (joinN (L.map fmtP) [38] j).toArray.size ≤ _
  rw [List.size_toArray]; omega
theorem JN_all (L : List Hd) : JN L L.length = ⟨(joinL (L.map fmtP) [38]).toArray⟩ := by
  unfold JN joinL; rw [List.length_map]
end Go.Proofs.YtnohmijdpmelpaaGreat
