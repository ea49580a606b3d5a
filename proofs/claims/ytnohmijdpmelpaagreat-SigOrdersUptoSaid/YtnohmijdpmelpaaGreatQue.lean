/- What sig.query keeps in memory. -/
import Derived.Test.YtnohmijdpmelpaaGreatSort
import Derived.Test.YtnohmijdpmelpaaGreatRow
import Derived.Test.YtnohmijdpmelpaaGreatRqw
import Derived.Test.YtnohmijdpmelpaaGreatJoin
import Derived.Deep.RegionLaw
set_option maxRecDepth 100000
set_option linter.unusedVariables false
set_option linter.unusedSimpArgs false
namespace Go.Proofs.YtnohmijdpmelpaaGreat
open Go Go.Am Go.RowKit
abbrev slV (b : Nat) : Value := .slice (some ⟨b, 0, none⟩) 2 2
abbrev pairO (p : Hd) : Obj := .cells #[.string ⟨p.1.toArray⟩, .string ⟨p.2.toArray⟩] 9 (0, 0)
structure St (w W : World) (v : Value) (ps : List Hd) (bs : List Nat) : Prop where
  below : Below w.heap.size w W
  row : W.ownsRow w.heap.size 26 1 v ps.length (bs.map slV)
  len : bs.length = ps.length
  at_ : ∀ j, j < ps.length → W.heap[bs.getD j 0]? = some (pairO (ps.getD j ([], [])))
theorem St.start (w : World) : St w w (.slice none 0 0) [] [] := ⟨Below.refl _ _, World.ownsRow_nil _ _ _ _, rfl, fun j h => by simp at h⟩
theorem own_keep {W W' : World} {N : Nat} {e : TypeId} {sz : Nat} {v : Value} {n : Nat} {xs : List Value} (h : W.ownsRow N e sz v n xs) (h' : Below W.heap.size W W') : W'.ownsRow N e sz v n xs := by
  refine ⟨h.1, ?_⟩
  rcases h.2 with h0 | ⟨g, cap, cur, h1, h2, h3, h4⟩
  · exact .inl h0
  · exact .inr ⟨g, cap, cur, h1, h2, (h'.block g (Array.getElem?_eq_some_iff.1 h3).1).trans h3, h4⟩
theorem St.keep {w W W' : World} {v : Value} {ps : List Hd} {bs : List Nat} (h : St w W v ps bs) (h' : Below W.heap.size W W') : St w W' v ps bs :=
  ⟨h.below.trans (h'.mono h.below.size), own_keep h.row h', h.len, fun j hj => (h'.block _ (Array.getElem?_eq_some_iff.1 (h.at_ j hj)).1).trans (h.at_ j hj)⟩
theorem St.alloc {w W : World} {v : Value} {ps : List Hd} {bs : List Nat} (h : St w W v ps bs) (o : Obj) : St w (W.alloc o) v ps bs := h.keep ((Below.refl _ W).alloc (Nat.le_refl _) o)
/-- the row is another block than a pair's -/
theorem St.apart {w W : World} {v : Value} {ps : List Hd} {bs : List Nat} (h : St w W v ps bs) {j : Nat} (hj : j < ps.length) : v.ownBlock ≠ some (bs.getD j 0) := fun e => by
  rcases h.row.2 with ⟨rfl, _⟩ | ⟨g, cap, cur, rfl, h2, h3, h4⟩
  · cases e
  · have e' : g = bs.getD j 0 := by simpa [Value.ownBlock] using e
    have := h.at_ j hj
    rw [← e', h3] at this
    simp at this
theorem St.app {w w3 w4 : World} {v v' : Value} {ps : List Hd} {bs : List Nat} {z : Hd} {q : Obj} (h : St w w3 v ps bs) (ho : w4.ownsRow w.heap.size 26 1 v' (ps.length + 1) (bs.map slV ++ [slV w3.heap.size]))
    (hg : ((w3.alloc (pairO z)).alloc q).grownBy w4 v.ownBlock) : St w w4 v' (ps ++ [z]) (bs ++ [w3.heap.size]) := by
  have hs := h.below.size
  have hlt := fun k e => h.row.lt k e
  refine ⟨?_, by simpa using ho, by simp [h.len], fun j hj => ?_⟩
  · exact ((h.below.alloc hs _).alloc (by simp; omega) q).grown hg (by simp; omega) fun k e => (hlt k e).1
  · rw [List.length_append] at hj
    simp only [List.length_cons, List.length_nil] at hj
    by_cases hjl : j < ps.length
    · have e1 : (bs ++ [w3.heap.size]).getD j 0 = bs.getD j 0 := by simp [List.getD_eq_getElem?_getD, List.getElem?_append_left (show j < bs.length by rw [h.len]; exact hjl)]
      have e2 : (ps ++ [z]).getD j ([], []) = ps.getD j ([], []) := by simp [List.getD_eq_getElem?_getD, List.getElem?_append_left hjl]
      rw [e1, e2]
      have ha := ((h.alloc (pairO z)).alloc q).at_ j hjl
      exact (hg.block _ (Array.getElem?_eq_some_iff.1 ha).1 (fun e => h.apart hjl e.symm)).trans ha
    · have hje : j = ps.length := by omega
      subst hje
      have e1 : (bs ++ [w3.heap.size]).getD ps.length 0 = w3.heap.size := by simp [List.getD_eq_getElem?_getD, List.getElem?_append_right (show bs.length ≤ ps.length by rw [h.len]; exact Nat.le_refl _), h.len]
      have e2 : (ps ++ [z]).getD ps.length ([], []) = z := by simp [List.getD_eq_getElem?_getD]
      rw [e1, e2]
      refine (hg.block w3.heap.size (by simp; omega) (fun e => ?_)).trans (hp_new _ _ _)
      have := (hlt _ e.symm).2
      omega
theorem i26 : (Tryz.prog.info? 26).map (fun i => (i.zero, i.size, i.bytes)) = some (some (.slice none 0 0), 1, 24) := by kernel_rfl
theorem u90 : Tryz.prog.underlying 90 = some (.slice 26) := by kernel_rfl
theorem i9 : (Tryz.prog.info? 9).map (fun i => (i.zero, i.size, i.bytes)) = some (some (.string ⟨#[]⟩), 1, 16) := by kernel_rfl
theorem u26 : Tryz.prog.underlying 26 = some (.slice 9) := by kernel_rfl
theorem cell_one (w : World) (x : Value) (t : TypeId) : ∀ (j : Nat) (u : Value), [x][j]? = some u → (w.alloc (.cells #[x] t)).cell? ((⟨w.heap.size, 0, none⟩ : Addr).add j) = some u := by
  intro j u hj
  match j, hj with
  | 0, hj => simp at hj; subst hj; simp [Addr.add]
theorem cell_one2 (w : World) (p : Obj) (x : Value) (t : TypeId) : ∀ (j : Nat) (u : Value), [x][j]? = some u → ((w.alloc p).alloc (.cells #[x] t)).cell? ((⟨w.heap.size + 1, 0, none⟩ : Addr).add j) = some u := by
  intro j u hj
  have := cell_one (w.alloc p) x t j u hj
  rwa [show (w.alloc p).heap.size = w.heap.size + 1 by simp] at this
theorem newcell {W W' : World} {a b : Value} {t : TypeId} (h : Below (W.alloc (.cells #[a, b] t)).heap.size (W.alloc (.cells #[a, b] t)) W') : W'.cell? ⟨W.heap.size, 0, none⟩ = some a ∧ W'.cell? ⟨W.heap.size, 1, none⟩ = some b := by
  have := (h.block W.heap.size (by simp)).trans (heap_alloc_new W (.cells #[a, b] t))
  constructor <;> simp [World.cell?, this]
theorem onecell {W W' : World} {a b : Nat} {v : Value} (h : W.cell? ⟨a, b, none⟩ = some v) (h' : Below W.heap.size W W') : W'.cell? ⟨a, b, none⟩ = some v := (h'.cell (p := ⟨a, b, none⟩) (World.block_lt_of_cell? _ _ h)).trans h
/-- a text is put behind a row of texts, within a region that draws -/
theorem step_app_str {ops : Array Oper} {o : Oper} {a : Act} {w : World} {K : Act → World → Prop} {Q : Exit → Act → World → Prop} {E : Prop} (hg : o.guard = none) (s x : Operand)
    (ho : o.op = .call { callee := .builtin .append, args := #[s, x], argTypes := #[26, 26] }) (N : Nat) (v : Value) (n : Nat) (xs : List Value) (hs : a.eval s = v) (hown : w.ownsRow N 9 1 v n xs)
    (ad : Addr) (S : ByteArray) (hx : a.eval x = .slice (some ad) 1 1) (hnews : ∀ (j : Nat) (u : Value), [Value.string S][j]? = some u → w.cell? (ad.add j) = some u) (hn : n ≤ 2097153) (hbase : N ≤ w.heap.size)
    (h : ∀ v' w', w'.ownsRow N 9 1 v' (n + 1) (xs ++ [.string S]) → w.grownBy w' v.ownBlock → K (a.put o.dst v') w') :
    if Region.wanted o (yielded ops a.tmps) = true then Oper.wp Tryz.prog o a w K Q else E := by
  have hw : Region.wanted o (yielded ops a.tmps) = true := by simp [Region.wanted, hg]
  rw [if_pos hw]
  obtain ⟨i0, hi, hz0, hz1, hz2⟩ := info_parts i9
  exact wp_append_own w s x 26 ho N 9 i0 (.string ⟨#[]⟩) 1 16 u26 hi hz0 hz1 hz2 rfl (by decide) v n xs hs hown ad 1 1 [.string S] hx rfl hnews (fun u hu => by simp at hu; subst hu; rfl) (by simp [maxLen]; omega) (by omega) hbase (fun v' w' h1 h2 _ => h v' w' h1 h2)
theorem step_out {ops : Array Oper} {o : Oper} {a : Act} {w5 wr : World} {K : Act → World → Prop} {Q : Exit → Act → World → Prop} {E : Prop} (hg : o.guard = none) (s x : Operand)
    (ho : o.op = .call { callee := .builtin .append, args := #[s, x], argTypes := #[26, 26] }) (v : Value) (j : Nat) (L : List Hd) (q : Hd) (S : ByteArray) (hs : a.eval s = v)
    (hB : wr.ownsRow w5.heap.size 9 1 v j (sV ((L.take j).map fmtP)) ∧ Below w5.heap.size w5 wr ∧ q = L.getD j ([], []) ∧ j < L.length) (HQ : ⟨(fmtP q).toArray⟩ = S) (hn : j ≤ 2097153)
    (hx : a.eval x = .slice (some ⟨wr.heap.size, 0, none⟩) 1 1)
    (h : ∀ v' w', w'.ownsRow w5.heap.size 9 1 v' (j + 1) (sV ((L.take (j + 1)).map fmtP)) → Below w5.heap.size w5 w' → K (a.put o.dst v') w') :
    if Region.wanted o (yielded ops a.tmps) = true then Oper.wp Tryz.prog o a (wr.alloc (.cells #[.string S] 9)).drew K Q else E := by
  have hz := hB.2.1.size
  have hrow : (wr.alloc (.cells #[.string S] 9)).drew.ownsRow w5.heap.size 9 1 v j (sV ((L.take j).map fmtP)) := row_heap (hB.1.alloc _) rfl
  refine step_app_str hg s x ho w5.heap.size v j _ hs hrow ⟨wr.heap.size, 0, none⟩ S hx (fun i u hi => by
    have := cell_one wr (.string S) 9 i u hi
    exact this) hn (by show _ ≤ (wr.alloc _).heap.size; simp; omega) ?_
  intro v' w' h1 h2
  have e : sV ((L.take (j + 1)).map fmtP) = sV ((L.take j).map fmtP) ++ [.string S] := by
    rw [take_snoc ([], []) hB.2.2.2, ← hB.2.2.1, ← HQ]
    simp [sV]
  refine h v' w' (by rw [e]; exact h1) ?_
  have hb : Below w5.heap.size w5 (wr.alloc (.cells #[.string S] 9)).drew := below_drew (hB.2.1.alloc hz _)
  exact hb.grown h2 (by show _ ≤ (wr.alloc _).heap.size; simp; omega) fun k e => (hrow.lt k e).1
theorem slAt_row {W : World} {N : Nat} {e : TypeId} {v : Value} {n : Nat} {xs : List Value} (h : W.ownsRow N e 1 v n xs) : SlAt W v xs := by
  have hl : xs.length = n := by have := h.1; omega
  rcases h.2 with ⟨rfl, h0⟩ | ⟨g, cap, cur, rfl, h2, h3, h4, h5⟩
  · refine ⟨none, 0, by rw [hl, h0]; rfl, by omega, (fun _ => rfl), fun b o e => by cases e⟩
  · refine ⟨some (g, 0), cap, by rw [hl]; rfl, by omega, (fun e => by cases e), fun b o e q u hu => ?_⟩
    cases e
    rw [Nat.zero_add]
    exact (rowG_cell h hu).1
/-- a slice of a pair is put behind the row -/
theorem app_sl {ops : Array Oper} {rest : List Oper} {o : Oper} {a : Act} {Q : Exit → Act → World → Prop} {w w3 : World} (hgd : o.guard = none) (s x : Operand)
    (ho : o.op = .call { callee := .builtin .append, args := #[s, x], argTypes := #[90, 90] }) (v : Value) (ps : List Hd) (bs : List Nat) (z : Hd) (hs : a.eval s = v)
    (hst : St w w3 v ps bs) (hx : a.eval x = .slice (some ⟨w3.heap.size + 1, 0, none⟩) 1 1) (hm : ps.length ≤ 2097153)
    (h : ∀ v' w', St w w' v' (ps ++ [z]) (bs ++ [w3.heap.size]) → wpList Tryz.prog ops Q rest (a.put o.dst v') w') :
    wpList Tryz.prog ops Q (o :: rest) a ((w3.alloc (pairO z)).alloc (.cells #[slV w3.heap.size] 26)) := by
  obtain ⟨i0, hi, hz0, hz1, hz2⟩ := info_parts i26
  have hsz := hst.below.size
  refine wpList_append_own _ hgd s x 90 ho w.heap.size 26 i0 (.slice none 0 0) 1 24 u90 hi hz0 hz1 hz2 rfl (by decide) v ps.length (bs.map slV) hs ((hst.row.alloc _).alloc _) ⟨w3.heap.size + 1, 0, none⟩ 1 1 [slV w3.heap.size] hx rfl (cell_one2 _ _ _ _) (fun u hu => by simp at hu; subst hu; rfl) (by simp [maxLen]; omega) (by omega) (by simp; omega) ?_
  intro v' w' hown' hgrow _
  exact h v' w' (hst.app hown' hgrow)
theorem sort_st {w W : World} {u : Option Addr} {cu m : Nat} {ps : List Hd} {bs : List Nat} (h : St w W (.slice u m cu) ps bs) (hm : ps.length = m) (hm2 : m ≤ 2097153) :
    Calls Tryz.prog 55 #[.slice u m cu, .func (.func 56) #[] #[]] W fun e w' => e = .returned (.tuple #[]) ∧ Below w.heap.size w w' ∧ ∃ (g : Nat) (bs' : Nat → Nat), (0 < m → u = some ⟨g, 0, none⟩) ∧
      ∀ j, j < m → w'.cell? ⟨g, j, none⟩ = some (slV (bs' j)) ∧ w'.cell? ⟨bs' j, 0, none⟩ = some (.string ⟨((sortP ps).getD j ([], [])).1.toArray⟩) ∧ w'.cell? ⟨bs' j, 1, none⟩ = some (.string ⟨((sortP ps).getD j ([], [])).2.toArray⟩) := by
  by_cases h0 : m = 0
  · subst h0
    have L := Tryz.sort55
    have key := AnyF.slices_SortFunc_none (P := Tryz.prog) (ρ := Tryz.sort55_ren) { L with } u cu (.func (.func 56) #[] #[]) W
    refine Calls.mono key ?_
    rintro e w' ⟨rfl, rfl⟩
    exact ⟨rfl, h.below, 0, fun _ => 0, fun h => by omega, fun j h => by omega⟩
  · rcases h.row.2 with ⟨_, h1⟩ | ⟨g, cap, cur, h1, h2, h3, h4⟩
    · omega
    · simp only [Value.slice.injEq] at h1
      obtain ⟨rfl, _, rfl⟩ := h1
      subst hm
      have key := sort55 (W := W) (g := g) (cap := cu) (n := ps.length) (ty := 9) (bs := fun j => bs.getD j 0) (l := ps) rfl (by omega) (by omega)
        (fun j hj => by
          have := rowG_cell h.row (j := j) (u := slV (bs.getD j 0)) (by
            rw [List.getElem?_map, List.getElem?_eq_getElem (show j < bs.length by rw [h.len]; exact hj), List.getD_eq_getElem?_getD, List.getElem?_eq_getElem (show j < bs.length by rw [h.len]; exact hj)]; rfl)
          exact ⟨this.1, this.2.1⟩)
        (fun j hj => ⟨fun e => h.apart hj (by rw [← e]; rfl), h.at_ j hj⟩)
      refine Calls.mono key ?_
      rintro e w' ⟨rfl, hg, bs', hb'⟩
      have hgl : w.heap.size ≤ g := h2
      refine ⟨rfl, h.below.grown hg h.below.size (fun k e => by cases e; exact hgl), g, bs', fun _ => rfl, fun j hj => ?_⟩
      obtain ⟨a, b⟩ := hb' j hj
      refine ⟨a, ?_, ?_⟩ <;> simp [World.cell?, b]
end Go.Proofs.YtnohmijdpmelpaaGreat
