/- strings.Join, at slices in memory, and as a contract of the machine. What sig.query keeps in memory: a row of slices, each of a pair in a block of its own. slices.Clone at pairs and at bytes. The shelf's contracts of slices.Sort and slices.Compact at texts. sig.all, walked: the names of headers, rising, each once. sig.query, walked. -/
import Derived.Test.YtdigohaeakclfaaGreatDoorMa12
import Derived.Test.YtdigohaeakclfaaGreatDoorMa13
import Derived.Deep.RegionLaw
import Derived.WalkSpells
import Derived.Shelf.Slices.Clone
import Derived.Test.YtdigohaeakclfaaGreatDoorMa07
import Derived.Shelf.Sort.Plain
import Derived.Shelf.Slices.CompactS
import Derived.Shelf.Slices.In.SortNone
import Derived.Sort.OwnSorted
import Derived.Lib.OwnBridge
import Derived.BigQuiet
import Derived.Deep.QuietTactic
set_option maxRecDepth 100000
set_option linter.unusedVariables false
set_option linter.unusedSimpArgs false
namespace Go.Proofs.YtdigohaeakclfaaGreatDoor
open Go Go.Am Go.RowKit
theorem join_snoc (x : List UInt8) (r : List (List UInt8)) (y sep : List UInt8) : Lib.join (x :: (r ++ [y])) sep = Lib.join (x :: r) sep ++ sep ++ y := by
  rw [Lib.join_cons, Lib.join_cons]
  simp [Lib.joinTail]
theorem joinN_lib (l : List (List UInt8)) (sep : List UInt8) : ∀ i, i ≤ l.length → joinN l sep i = Lib.join (l.take i) sep
  | 0, _ => rfl
  | i + 1, h => by
    have ih := joinN_lib l sep i (by omega)
    have hi : i < l.length := h
    rw [joinN_succ, ih, List.take_add_one, List.getElem?_eq_getElem hi, List.getD_eq_getElem?_getD, List.getElem?_eq_getElem hi]
    simp only [Option.toList_some, Option.getD_some]
    cases i with
    | zero => simp [Lib.join_nil, Lib.join_one]
    | succ j =>
      rw [if_pos (Nat.succ_pos j)]
      match l, h with
      | x :: r, h =>
        rw [List.take_succ_cons, List.cons_append, join_snoc]
theorem joinL_lib (l : List (List UInt8)) (sep : List UInt8) : joinL l sep = Lib.join l sep := by
  have := joinN_lib l sep l.length (Nat.le_refl _)
  rwa [List.take_length] at this
theorem join_at (l : List (List UInt8)) (sep : List UInt8) (w : World) (v : Value) (h : SlAt w v (sV l)) (hl : l.length ≤ 140737488355328) (hj : (joinL l sep).length ≤ 140737488355328) :
    Calls Tryz.prog 26 #[v, .string ⟨sep.toArray⟩] w fun e w' => e = .returned (.string ⟨(joinL l sep).toArray⟩) ∧ Below w.heap.size w w' := by
  obtain ⟨base, cap, rfl, h2, h3, h4⟩ := h
  rw [sV_len] at h2 ⊢
  by_cases h0 : l.length = 0
  · have hl0 : l = [] := List.eq_nil_of_length_eq_zero h0
    subst hl0
    refine (Tryz.strings_Join_none _ cap ⟨sep.toArray⟩ w).mono ?_
    rintro e w' ⟨rfl, rfl⟩
    exact ⟨rfl, Below.refl _ _⟩
  · cases base with
    | none => have := h3 rfl; rw [this] at h2; omega
    | some p =>
      obtain ⟨b, o⟩ := p
      have hcells : ∀ (j : Nat) x, (l.map fun s => (⟨s.toArray⟩ : ByteArray))[j]? = some x → w.cell? ⟨b, o + j, none⟩ = some (.string x) := fun j x hx => by
        rw [List.getElem?_map] at hx
        cases e : l[j]? with
        | none => rw [e] at hx; cases hx
        | some s =>
          rw [e] at hx
          cases hx
          exact h4 b o rfl j _ (by unfold sV; rw [List.getElem?_map, e]; rfl)
      have e1 : (l.map fun s => (⟨s.toArray⟩ : ByteArray)).map (·.data.toList) = l := by
        rw [List.map_map]
        exact (List.map_congr_left fun s _ => rfl).trans (List.map_id l)
      have hb : b < w.heap.size := World.block_lt_of_cell? _ _ (hcells 0 ⟨(l.getD 0 []).toArray⟩ (by rw [List.getElem?_map, List.getD_eq_getElem?_getD, List.getElem?_eq_getElem (show 0 < l.length by omega)]; rfl))
      have key := Tryz.strings_Join b o cap (l.map fun s => (⟨s.toArray⟩ : ByteArray)) ⟨sep.toArray⟩ w hcells hb (by rw [List.length_map]; exact hl) (by rw [List.length_map]; exact h2) (by rw [e1]; show (Lib.join l sep).length ≤ _; rw [← joinL_lib]; exact hj)
      rw [e1, List.length_map] at key
      refine Calls.mono key ?_
      rintro e w' ⟨rfl, hB⟩
      refine ⟨?_, hB⟩
      show Ending.returned (.string ⟨(Lib.join l sep).toArray⟩) = _
      rw [← joinL_lib]
theorem join_ok (l : List (List UInt8)) (sep : List UInt8) (hl : l.length ≤ 16777216) (hj : (joinL l sep).length ≤ 140737488355328) : FnOK Tryz.prog 26 [.sl 1 l.length (strEl l) false, .str sep] [] (.str (joinL l sep)) [] := by
  refine FnOK.of_below rfl fun w G vs hlen ha hw => ?_
  obtain ⟨v0, v1, rfl⟩ : ∃ v0 v1, vs = [v0, v1] := by
    match vs, hlen with
    | [v0, v1], _ => exact ⟨v0, v1, rfl⟩
  have h0 := ha 0 _ v0 rfl rfl
  have h1 := (ha 1 _ v1 rfl rfl).str_inv
  subst h1
  obtain ⟨base, cap, us, rfl, e1, e2, e3, e4, e5⟩ := h0.sl_inv
  refine (join_at l sep w _ ⟨base, cap, by rw [sV_len], by rw [sV_len]; exact e1, e2, fun b o hb q u hu => ?_⟩ (by omega) hj).mono ?_
  · have hq : q < l.length := by have := (List.getElem?_eq_some_iff.1 hu).1; rwa [sV_len] at this
    have c := (e4 b o hb q (by omega)).2
    have hv := (e5 q 0 (.str (l.getD q [])) hq rfl).str_inv
    rw [show q * 1 + 0 = q by omega] at hv
    rw [c, hv, ← hu]
    unfold sV
    rw [List.getElem?_map, List.getD_eq_getElem?_getD, List.getElem?_eq_getElem hq]; rfl
  · rintro e w' ⟨rfl, hB⟩
    exact ⟨_, rfl, fun G w => .str .., hB⟩
end Go.Proofs.YtdigohaeakclfaaGreatDoor
set_option maxRecDepth 100000
set_option linter.unusedVariables false
set_option linter.unusedSimpArgs false
namespace Go.Proofs.YtdigohaeakclfaaGreatDoor
open Go Go.Am Go.RowKit
abbrev slV (b : Nat) : Value := .slice (some ⟨b, 0, none⟩) 2 2
abbrev pairO (p : Hd) : Obj := .cells #[.string ⟨p.1.toArray⟩, .string ⟨p.2.toArray⟩] 9 (0, 0)
structure St (w W : World) (v : Value) (ps : List Hd) (bs : List Nat) : Prop where
  below : Below w.heap.size w W
  row : W.ownsRow w.heap.size 53 1 v ps.length (bs.map slV)
  len : bs.length = ps.length
  at_ : ∀ j, j < ps.length → W.heap[bs.getD j 0]? = some (pairO (ps.getD j ([], [])))
theorem St.start (w : World) : St w w (.slice none 0 0) [] [] := ⟨Below.refl _ _, World.ownsRow_nil _ _ _ _, rfl, fun j h => by simp at h⟩
theorem own_keep {W W' : World} {N : Nat} {e : TypeId} {sz : Nat} {v : Value} {n : Nat} {xs : List Value} (h : W.ownsRow N e sz v n xs) (h' : Below W.heap.size W W') : W'.ownsRow N e sz v n xs := by
  refine ⟨h.1, ?_⟩
  rcases h.2 with h0 | ⟨g, cap, cur, h1, h2, h3, h4⟩
  · exact .inl h0
  · exact .inr ⟨g, cap, cur, h1, h2, (h'.block g (Array.getElem?_eq_some_iff.1 h3).1).trans h3, h4⟩
theorem St.keep {w W W' : World} {v : Value} {ps : List Hd} {bs : List Nat} (h : St w W v ps bs) (h' : Below W.heap.size W W') : St w W' v ps bs :=
  ⟨h.below.trans (h'.mono h.below.size), own_keep h.row h', h.len, fun j hj => (h'.block _ (Array.getElem?_eq_some_iff.1 (h.at_ j hj)).1).trans (h.at_ j hj)⟩
theorem St.alloc {w W : World} {v : Value} {ps : List Hd} {bs : List Nat} (h : St w W v ps bs) (o : Obj) : St w (W.alloc o) v ps bs := h.keep ((Below.refl _ W).alloc (Nat.le_refl _) o)
/-- the row is another block than a pair's -/
theorem St.apart {w W : World} {v : Value} {ps : List Hd} {bs : List Nat} (h : St w W v ps bs) {j : Nat} (hj : j < ps.length) : v.ownBlock ≠ some (bs.getD j 0) := fun e => by
  rcases h.row.2 with ⟨rfl, _⟩ | ⟨g, cap, cur, rfl, h2, h3, h4⟩
  · cases e
  · have e' : g = bs.getD j 0 := by simpa [Value.ownBlock] using e
    have := h.at_ j hj
    rw [← e', h3] at this
    simp at this
theorem St.app {w w3 w4 : World} {v v' : Value} {ps : List Hd} {bs : List Nat} {z : Hd} {q : Obj} (h : St w w3 v ps bs) (ho : w4.ownsRow w.heap.size 53 1 v' (ps.length + 1) (bs.map slV ++ [slV w3.heap.size]))
    (hg : ((w3.alloc (pairO z)).alloc q).grownBy w4 v.ownBlock) : St w w4 v' (ps ++ [z]) (bs ++ [w3.heap.size]) := by
  have hs := h.below.size
  have hlt := fun k e => h.row.lt k e
  refine ⟨?_, by simpa using ho, by simp [h.len], fun j hj => ?_⟩
  · exact ((h.below.alloc hs _).alloc (by simp; omega) q).grown hg (by simp; omega) fun k e => (hlt k e).1
  · rw [List.length_append] at hj
    simp only [List.length_cons, List.length_nil] at hj
    by_cases hjl : j < ps.length
    · have e1 : (bs ++ [w3.heap.size]).getD j 0 = bs.getD j 0 := by simp [List.getD_eq_getElem?_getD, List.getElem?_append_left (show j < bs.length by rw [h.len]; exact hjl)]
      have e2 : (ps ++ [z]).getD j ([], []) = ps.getD j ([], []) := by simp [List.getD_eq_getElem?_getD, List.getElem?_append_left hjl]
      rw [e1, e2]
      have ha := ((h.alloc (pairO z)).alloc q).at_ j hjl
      exact (hg.block _ (Array.getElem?_eq_some_iff.1 ha).1 (fun e => h.apart hjl e.symm)).trans ha
    · have hje : j = ps.length := by omega
      subst hje
      have e1 : (bs ++ [w3.heap.size]).getD ps.length 0 = w3.heap.size := by simp [List.getD_eq_getElem?_getD, List.getElem?_append_right (show bs.length ≤ ps.length by rw [h.len]; exact Nat.le_refl _), h.len]
      have e2 : (ps ++ [z]).getD ps.length ([], []) = z := by simp [List.getD_eq_getElem?_getD]
      rw [e1, e2]
      refine (hg.block w3.heap.size (by simp; omega) (fun e => ?_)).trans (hp_new _ _ _)
      have := (hlt _ e.symm).2
      omega
theorem i26 : (Tryz.prog.info? 53).map (fun i => (i.zero, i.size, i.bytes)) = some (some (.slice none 0 0), 1, 24) := by kernel_rfl
theorem u90 : Tryz.prog.underlying 138 = some (.slice 53) := by kernel_rfl
theorem i9 : (Tryz.prog.info? 9).map (fun i => (i.zero, i.size, i.bytes)) = some (some (.string ⟨#[]⟩), 1, 16) := by kernel_rfl
theorem u26 : Tryz.prog.underlying 53 = some (.slice 9) := by kernel_rfl
theorem cell_one (w : World) (x : Value) (t : TypeId) : ∀ (j : Nat) (u : Value), [x][j]? = some u → (w.alloc (.cells #[x] t)).cell? ((⟨w.heap.size, 0, none⟩ : Addr).add j) = some u := by
  intro j u hj
  match j, hj with
  | 0, hj => simp at hj; subst hj; simp [Addr.add]
theorem cell_one2 (w : World) (p : Obj) (x : Value) (t : TypeId) : ∀ (j : Nat) (u : Value), [x][j]? = some u → ((w.alloc p).alloc (.cells #[x] t)).cell? ((⟨w.heap.size + 1, 0, none⟩ : Addr).add j) = some u := by
  intro j u hj
  have := cell_one (w.alloc p) x t j u hj
  rwa [show (w.alloc p).heap.size = w.heap.size + 1 by simp] at this
theorem newcell {W W' : World} {a b : Value} {t : TypeId} (h : Below (W.alloc (.cells #[a, b] t)).heap.size (W.alloc (.cells #[a, b] t)) W') : W'.cell? ⟨W.heap.size, 0, none⟩ = some a ∧ W'.cell? ⟨W.heap.size, 1, none⟩ = some b := by
  have := (h.block W.heap.size (by simp)).trans (heap_alloc_new W (.cells #[a, b] t))
  constructor <;> simp [World.cell?, this]
/-- a text is put behind a row of texts, within a region that draws -/
theorem step_app_str {ops : Array Oper} {o : Oper} {a : Act} {w : World} {K : Act → World → Prop} {Q : Exit → Act → World → Prop} {E : Prop} (hg : o.guard = none) (s x : Operand)
    (ho : o.op = .call { callee := .builtin .append, args := #[s, x], argTypes := #[53, 53] }) (N : Nat) (v : Value) (n : Nat) (xs : List Value) (hs : a.eval s = v) (hown : w.ownsRow N 9 1 v n xs)
    (ad : Addr) (S : ByteArray) (hx : a.eval x = .slice (some ad) 1 1) (hnews : ∀ (j : Nat) (u : Value), [Value.string S][j]? = some u → w.cell? (ad.add j) = some u) (hn : n ≤ 3500001) (hbase : N ≤ w.heap.size)
    (h : ∀ v' w', w'.ownsRow N 9 1 v' (n + 1) (xs ++ [.string S]) → w.grownBy w' v.ownBlock → K (a.put o.dst v') w') :
    if Region.wanted o (yielded ops a.tmps) = true then Oper.wp Tryz.prog o a w K Q else E := by
  have hw : Region.wanted o (yielded ops a.tmps) = true := by simp [Region.wanted, hg]
  rw [if_pos hw]
  obtain ⟨i0, hi, hz0, hz1, hz2⟩ := info_parts i9
  exact wp_append_own w s x 53 ho N 9 i0 (.string ⟨#[]⟩) 1 16 u26 hi hz0 hz1 hz2 rfl (by decide) v n xs hs hown ad 1 1 [.string S] hx rfl hnews (fun u hu => by simp at hu; subst hu; rfl) (by simp [maxLen]; omega) (by omega) hbase (fun v' w' h1 h2 _ => h v' w' h1 h2)
theorem step_out {ops : Array Oper} {o : Oper} {a : Act} {w5 wr : World} {K : Act → World → Prop} {Q : Exit → Act → World → Prop} {E : Prop} (hg : o.guard = none) (s x : Operand)
    (ho : o.op = .call { callee := .builtin .append, args := #[s, x], argTypes := #[53, 53] }) (v : Value) (j : Nat) (L : List Hd) (q : Hd) (S : ByteArray) (hs : a.eval s = v)
    (hB : wr.ownsRow w5.heap.size 9 1 v j (sV ((L.take j).map fmtP)) ∧ Below w5.heap.size w5 wr ∧ q = L.getD j ([], []) ∧ j < L.length) (HQ : ⟨(fmtP q).toArray⟩ = S) (hn : j ≤ 3500001)
    (hx : a.eval x = .slice (some ⟨wr.heap.size, 0, none⟩) 1 1)
    (h : ∀ v' w', w'.ownsRow w5.heap.size 9 1 v' (j + 1) (sV ((L.take (j + 1)).map fmtP)) → Below w5.heap.size w5 w' → K (a.put o.dst v') w') :
    if Region.wanted o (yielded ops a.tmps) = true then Oper.wp Tryz.prog o a (wr.alloc (.cells #[.string S] 9)).drew K Q else E := by
  have hz := hB.2.1.size
  have hrow : (wr.alloc (.cells #[.string S] 9)).drew.ownsRow w5.heap.size 9 1 v j (sV ((L.take j).map fmtP)) := row_heap (hB.1.alloc _) rfl
  refine step_app_str hg s x ho w5.heap.size v j _ hs hrow ⟨wr.heap.size, 0, none⟩ S hx (fun i u hi => by
    have := cell_one wr (.string S) 9 i u hi
    exact this) hn (by show _ ≤ (wr.alloc _).heap.size; simp; omega) ?_
  intro v' w' h1 h2
  have e : sV ((L.take (j + 1)).map fmtP) = sV ((L.take j).map fmtP) ++ [.string S] := by
    rw [take_snoc ([], []) hB.2.2.2, ← hB.2.2.1, ← HQ]
    simp [sV]
  refine h v' w' (by rw [e]; exact h1) ?_
  have hb : Below w5.heap.size w5 (wr.alloc (.cells #[.string S] 9)).drew := below_drew (hB.2.1.alloc hz _)
  exact hb.grown h2 (by show _ ≤ (wr.alloc _).heap.size; simp; omega) fun k e => (hrow.lt k e).1
theorem slAt_row {W : World} {N : Nat} {e : TypeId} {v : Value} {n : Nat} {xs : List Value} (h : W.ownsRow N e 1 v n xs) : SlAt W v xs := by
  have hl : xs.length = n := by have := h.1; omega
  rcases h.2 with ⟨rfl, h0⟩ | ⟨g, cap, cur, rfl, h2, h3, h4, h5⟩
  · refine ⟨none, 0, by rw [hl, h0]; rfl, by omega, (fun _ => rfl), fun b o e => by cases e⟩
  · refine ⟨some (g, 0), cap, by rw [hl]; rfl, by omega, (fun e => by cases e), fun b o e q u hu => ?_⟩
    cases e
    rw [Nat.zero_add]
    exact (rowG_cell h hu).1
/-- a slice of a pair is put behind the row -/
theorem app_sl {ops : Array Oper} {rest : List Oper} {o : Oper} {a : Act} {Q : Exit → Act → World → Prop} {w w3 : World} (hgd : o.guard = none) (s x : Operand)
    (ho : o.op = .call { callee := .builtin .append, args := #[s, x], argTypes := #[138, 138] }) (v : Value) (ps : List Hd) (bs : List Nat) (z : Hd) (hs : a.eval s = v)
    (hst : St w w3 v ps bs) (hx : a.eval x = .slice (some ⟨w3.heap.size + 1, 0, none⟩) 1 1) (hm : ps.length ≤ 3500001)
    (h : ∀ v' w', St w w' v' (ps ++ [z]) (bs ++ [w3.heap.size]) → wpList Tryz.prog ops Q rest (a.put o.dst v') w') :
    wpList Tryz.prog ops Q (o :: rest) a ((w3.alloc (pairO z)).alloc (.cells #[slV w3.heap.size] 53)) := by
  obtain ⟨i0, hi, hz0, hz1, hz2⟩ := info_parts i26
  have hsz := hst.below.size
  refine wpList_append_own _ hgd s x 138 ho w.heap.size 53 i0 (.slice none 0 0) 1 24 u90 hi hz0 hz1 hz2 rfl (by decide) v ps.length (bs.map slV) hs ((hst.row.alloc _).alloc _) ⟨w3.heap.size + 1, 0, none⟩ 1 1 [slV w3.heap.size] hx rfl (cell_one2 _ _ _ _) (fun u hu => by simp at hu; subst hu; rfl) (by simp [maxLen]; omega) (by omega) (by simp; omega) ?_
  intro v' w' hown' hgrow _
  exact h v' w' (hst.app hown' hgrow)
theorem sort_st {w W : World} {u : Option Addr} {cu m : Nat} {ps : List Hd} {bs : List Nat} (h : St w W (.slice u m cu) ps bs) (hm : ps.length = m) (hm2 : m ≤ 3500001) :
    Calls Tryz.prog 103 #[.slice u m cu, .func (.func 104) #[] #[]] W fun e w' => e = .returned (.tuple #[]) ∧ Below w.heap.size w w' ∧ ∃ (g : Nat) (bs' : Nat → Nat), (0 < m → u = some ⟨g, 0, none⟩) ∧
      ∀ j, j < m → w'.cell? ⟨g, j, none⟩ = some (slV (bs' j)) ∧ w'.cell? ⟨bs' j, 0, none⟩ = some (.string ⟨((sortP ps).getD j ([], [])).1.toArray⟩) ∧ w'.cell? ⟨bs' j, 1, none⟩ = some (.string ⟨((sortP ps).getD j ([], [])).2.toArray⟩) := by
  by_cases h0 : m = 0
  · subst h0
    have L := Tryz.sort55
    have key := AnyF.slices_SortFunc_none (P := Tryz.prog) (ρ := Tryz.sort55_ren) { L with } u cu (.func (.func 104) #[] #[]) W
    refine Calls.mono key ?_
    rintro e w' ⟨rfl, rfl⟩
    exact ⟨rfl, h.below, 0, fun _ => 0, fun h => by omega, fun j h => by omega⟩
  · rcases h.row.2 with ⟨_, h1⟩ | ⟨g, cap, cur, h1, h2, h3, h4⟩
    · omega
    · simp only [Value.slice.injEq] at h1
      obtain ⟨rfl, _, rfl⟩ := h1
      subst hm
      have key := sort55 (W := W) (g := g) (cap := cu) (n := ps.length) (ty := 9) (bs := fun j => bs.getD j 0) (l := ps) rfl (by omega) (by omega)
        (fun j hj => by
          have := rowG_cell h.row (j := j) (u := slV (bs.getD j 0)) (by
            rw [List.getElem?_map, List.getElem?_eq_getElem (show j < bs.length by rw [h.len]; exact hj), List.getD_eq_getElem?_getD, List.getElem?_eq_getElem (show j < bs.length by rw [h.len]; exact hj)]; rfl)
          exact ⟨this.1, this.2.1⟩)
        (fun j hj => ⟨fun e => h.apart hj (by rw [← e]; rfl), h.at_ j hj⟩)
      refine Calls.mono key ?_
      rintro e w' ⟨rfl, hg, bs', hb'⟩
      have hgl : w.heap.size ≤ g := h2
      refine ⟨rfl, h.below.grown hg h.below.size (fun k e => by cases e; exact hgl), g, bs', fun _ => rfl, fun j hj => ?_⟩
      obtain ⟨a, b⟩ := hb' j hj
      refine ⟨a, ?_, ?_⟩ <;> simp [World.cell?, b]
end Go.Proofs.YtdigohaeakclfaaGreatDoor
set_option maxRecDepth 100000
set_option linter.unusedVariables false
set_option linter.unusedSimpArgs false
set_option linter.unusedSectionVars false
namespace Go.Proofs.YtdigohaeakclfaaGreatDoor
open Go Go.Am Go.RowKit
attribute [local go_sem] Oper.semAt_some
theorem i47 : (Tryz.prog.info? 47).map (fun i => (i.zero, i.size, i.bytes)) = some (some (.agg #[.string ⟨#[]⟩, .string ⟨#[]⟩]), 2, 32) := by kernel_rfl
theorem i5 : (Tryz.prog.info? 5).map (fun i => (i.zero, i.size, i.bytes)) = some (some (.int .u8 0), 1, 1) := by kernel_rfl
theorem sl22 : Tryz.prog.underlying 22 = some (.slice 47) := by kernel_rfl
theorem sl23 : Tryz.prog.underlying 23 = some (.slice 5) := by kernel_rfl
theorem clone56 (w : World) (ad : Addr) (n cap : Nat) (cells : List Value) (hl : cells.length = n * 2) (hc : ∀ j u, cells[j]? = some u → w.cell? (ad.add j) = some u) (h1 : ∀ u ∈ cells, u.oneCell' = true) (hn : n ≤ 4194304) :
    Calls Tryz.prog 56 #[.slice (some ad) n cap] w fun e w' => ∃ v, e = .returned v ∧ w'.ownsRow w.heap.size 47 2 v n cells ∧ Below w.heap.size w w' := by
  obtain ⟨i0, hi, hz0, hz1, hz2⟩ := info_parts i47
  have q : ∀ (w : World) (a : Option Addr) (n c n' c' : Nat), (binOp .eql 22 (.slice a n c) (.slice none n' c')).run Tryz.prog w = .ok (.bool a.isNone) w := fun w a n c n' c' => Lib.run_eql_slice_nil w _ _ a n c n' c' sl22
  have A : Aside (∀ j u, cells[j]? = some u → w.cell? (ad.add j) = some u) := hc
  clear hc
  go_enter Tryz.func56, Tryz.ntmps56
  go_wp2_with (at_builtin; refine wpList_append_own _ rfl _ _ 22 rfl w.heap.size 47 i0 (.agg #[.string ⟨#[]⟩, .string ⟨#[]⟩]) 2 32 sl22 hi hz0 hz1 hz2 rfl (by decide) _ _ _ rfl (World.ownsRow_made w #[] 0 (Nat.le_refl _) (Nat.zero_le _) rfl) ad n cap cells rfl hl (fun j u hj => Lib.cell?_alloc_some _ (A.out j u hj)) h1 (by unfold maxLen; omega) (by omega) (by simp) ?_)
  intro v' w1 hown hgrow hnil
  go_wp2
  go_ret
  exact ⟨v', rfl, by simpa using hown, ((Below.refl _ w).alloc (Nat.le_refl _) _).grown hgrow (by simp) (by intro k hk; simp [Value.ownBlock] at hk; omega)⟩
theorem clone56_nil (w : World) (n cap : Nat) : Calls Tryz.prog 56 #[.slice none n cap] w fun e w' => e = .returned (.slice none 0 0) ∧ w' = w := by
  have q : ∀ (w : World) (a : Option Addr) (n c n' c' : Nat), (binOp .eql 22 (.slice a n c) (.slice none n' c')).run Tryz.prog w = .ok (.bool a.isNone) w := fun w a n c n' c' => Lib.run_eql_slice_nil w _ _ a n c n' c' sl22
  go_enter Tryz.func56, Tryz.ntmps56
  go_wp2
  go_ret
  exact ⟨rfl, rfl⟩
theorem clone58 (w : World) (ad : Addr) (n cap : Nat) (cells : List Value) (hl : cells.length = n * 1) (hc : ∀ j u, cells[j]? = some u → w.cell? (ad.add j) = some u) (h1 : ∀ u ∈ cells, u.oneCell' = true) (hn : n ≤ 67108864) :
    Calls Tryz.prog 58 #[.slice (some ad) n cap] w fun e w' => ∃ v, e = .returned v ∧ w'.ownsRow w.heap.size 5 1 v n cells ∧ Below w.heap.size w w' := by
  obtain ⟨i0, hi, hz0, hz1, hz2⟩ := info_parts i5
  have q : ∀ (w : World) (a : Option Addr) (n c n' c' : Nat), (binOp .eql 23 (.slice a n c) (.slice none n' c')).run Tryz.prog w = .ok (.bool a.isNone) w := fun w a n c n' c' => Lib.run_eql_slice_nil w _ _ a n c n' c' sl23
  have A : Aside (∀ j u, cells[j]? = some u → w.cell? (ad.add j) = some u) := hc
  clear hc
  go_enter Tryz.func58, Tryz.ntmps58
  go_wp2_with (at_builtin; refine wpList_append_own _ rfl _ _ 23 rfl w.heap.size 5 i0 (.int .u8 0) 1 1 sl23 hi hz0 hz1 hz2 rfl (by decide) _ _ _ rfl (World.ownsRow_made w #[] 0 (Nat.le_refl _) (Nat.zero_le _) rfl) ad n cap cells rfl hl (fun j u hj => Lib.cell?_alloc_some _ (A.out j u hj)) h1 (by unfold maxLen; omega) (by omega) (by simp) ?_)
  intro v' w1 hown hgrow hnil
  go_wp2
  go_ret
  exact ⟨v', rfl, by simpa using hown, ((Below.refl _ w).alloc (Nat.le_refl _) _).grown hgrow (by simp) (by intro k hk; simp [Value.ownBlock] at hk; omega)⟩
theorem clone58_nil (w : World) (n cap : Nat) : Calls Tryz.prog 58 #[.slice none n cap] w fun e w' => e = .returned (.slice none 0 0) ∧ w' = w := by
  have q : ∀ (w : World) (a : Option Addr) (n c n' c' : Nat), (binOp .eql 23 (.slice a n c) (.slice none n' c')).run Tryz.prog w = .ok (.bool a.isNone) w := fun w a n c n' c' => Lib.run_eql_slice_nil w _ _ a n c n' c' sl23
  go_enter Tryz.func58, Tryz.ntmps58
  go_wp2
  go_ret
  exact ⟨rfl, rfl⟩
end Go.Proofs.YtdigohaeakclfaaGreatDoor
namespace Go.Proofs
open Go.Shelf
def Tryz.lays190_ren : Go.Shelf.Ren := ⟨fun | 190 => 61 | 125 => 101 | 258 => 100 | 128 => 139 | 129 => 140 | 302 => 130 | 303 => 131 | 304 => 132 | 305 => 133 | 306 => 134 | 307 => 135 | 308 => 136 | 309 => 137 | 310 => 138 | 333 => 160 | 329 => 161 | 330 => 162 | 334 => 163 | 335 => 164 | 336 => 165 | 344 => 179 | n => n, fun | 31 => 53 | 9 => 9 | 3 => 3 | 46 => 122 | 0 => 0 | 51 => 141 | 53 => 166 | 4 => 4 | 183 => 159 | 182 => 158 | 131 => 79 | 5 => 5 | 218 => 178 | 222 => 182 | 228 => 195 | 229 => 196 | n => n, fun | n => n⟩
theorem Tryz.lays190 : Go.Proofs.Lays.n190 Tryz.prog Tryz.lays190_ren := {
  mixed := by kernel_rfl
  f125 := Tryz.func101.trans (congrArg some (by kernel_rfl))
  f128 := Tryz.func139.trans (congrArg some (by kernel_rfl))
  f129 := Tryz.func140.trans (congrArg some (by kernel_rfl))
  f190 := Tryz.func61.trans (congrArg some (by kernel_rfl))
  f258 := Tryz.func100.trans (congrArg some (by kernel_rfl))
  f302 := Tryz.func130.trans (congrArg some (by kernel_rfl))
  f303 := Tryz.func131.trans (congrArg some (by kernel_rfl))
  f304 := Tryz.func132.trans (congrArg some (by kernel_rfl))
  f305 := Tryz.func133.trans (congrArg some (by kernel_rfl))
  f306 := Tryz.func134.trans (congrArg some (by kernel_rfl))
  f307 := Tryz.func135.trans (congrArg some (by kernel_rfl))
  f308 := Tryz.func136.trans (congrArg some (by kernel_rfl))
  f309 := Tryz.func137.trans (congrArg some (by kernel_rfl))
  f310 := Tryz.func138.trans (congrArg some (by kernel_rfl))
  f329 := Tryz.func161.trans (congrArg some (by kernel_rfl))
  f330 := Tryz.func162.trans (congrArg some (by kernel_rfl))
  f333 := Tryz.func160.trans (congrArg some (by kernel_rfl))
  f334 := Tryz.func163.trans (congrArg some (by kernel_rfl))
  f335 := Tryz.func164.trans (congrArg some (by kernel_rfl))
  f336 := Tryz.func165.trans (congrArg some (by kernel_rfl))
  f344 := Tryz.func179.trans (congrArg some (by kernel_rfl))
  t0 := Tryz.underlying0
  a0 := Tryz.isAgg0
  z0 := Tryz.sizeOf0
  v0 := Tryz.zeroValue0
  t3 := Tryz.underlying3
  a3 := Tryz.isAgg3
  z3 := Tryz.sizeOf3
  v3 := Tryz.zeroValue3
  t4 := Tryz.underlying4
  a4 := Tryz.isAgg4
  z4 := Tryz.sizeOf4
  v4 := Tryz.zeroValue4
  t5 := Tryz.underlying5
  a5 := Tryz.isAgg5
  z5 := Tryz.sizeOf5
  v5 := Tryz.zeroValue5
  t9 := Tryz.underlying9
  a9 := Tryz.isAgg9
  z9 := Tryz.sizeOf9
  v9 := Tryz.zeroValue9
  t31 := Tryz.underlying53
  a31 := Tryz.isAgg53
  z31 := Tryz.sizeOf53
  v31 := Tryz.zeroValue53
  t46 := Tryz.underlying122
  a46 := Tryz.isAgg122
  z46 := Tryz.sizeOf122
  v46 := Tryz.zeroValue122
  t51 := Tryz.underlying141
  a51 := Tryz.isAgg141
  z51 := Tryz.sizeOf141
  v51 := Tryz.zeroValue141
  t53 := Tryz.underlying166
  a53 := Tryz.isAgg166
  z53 := Tryz.sizeOf166
  v53 := Tryz.zeroValue166
  t131 := Tryz.underlying79
  a131 := Tryz.isAgg79
  z131 := Tryz.sizeOf79
  v131 := Tryz.zeroValue79
  t182 := Tryz.underlying158
  a182 := Tryz.isAgg158
  z182 := Tryz.sizeOf158
  v182 := Tryz.zeroValue158
  t183 := Tryz.underlying159
  a183 := Tryz.isAgg159
  z183 := Tryz.sizeOf159
  v183 := Tryz.zeroValue159
  t218 := Tryz.underlying178
  a218 := Tryz.isAgg178
  z218 := Tryz.sizeOf178
  v218 := Tryz.zeroValue178
  t222 := Tryz.underlying182
  a222 := Tryz.isAgg182
  z222 := Tryz.sizeOf182
  v222 := Tryz.zeroValue182
  t228 := Tryz.underlying195
  a228 := Tryz.isAgg195
  z228 := Tryz.sizeOf195
  v228 := Tryz.zeroValue195
  t229 := Tryz.underlying196
  a229 := Tryz.isAgg196
  z229 := Tryz.sizeOf196
  v229 := Tryz.zeroValue196 }
open Go.Sort Go.RowKit in
theorem Tryz.slices_Sort_string (blk off cap : Nat) (ss : List (List UInt8)) (w : World) (hH : Holds encStr w blk off ss.toArray) (hblk : blk < w.heap.size) (hsz : ss.length < 4611686018427387904) :
    Calls Tryz.prog 61 #[.slice (some ⟨blk, off, none⟩) ss.length cap] w fun e w' =>
      e = .returned (.tuple #[]) ∧ ∃ n os, w' = grow (putRow encStr (Sort.ahead w n) blk off (ss.mergeSort fun x y => decide (x ≤ y)).toArray) os := Any.slices_Sort_string Tryz.lays190 blk off cap ss w hH hblk hsz
def Tryz.lays194_ren : Go.Shelf.Ren := ⟨fun | 194 => 62 | n => n, fun | 31 => 53 | 9 => 9 | 3 => 3 | 4 => 4 | 0 => 0 | n => n, fun | n => n⟩
theorem Tryz.lays194 : Go.Proofs.Lays.n194 Tryz.prog Tryz.lays194_ren := {
  mixed := by kernel_rfl
  f194 := Tryz.func62.trans (congrArg some (by kernel_rfl))
  t0 := Tryz.underlying0
  a0 := Tryz.isAgg0
  z0 := Tryz.sizeOf0
  v0 := Tryz.zeroValue0
  t3 := Tryz.underlying3
  a3 := Tryz.isAgg3
  z3 := Tryz.sizeOf3
  v3 := Tryz.zeroValue3
  t4 := Tryz.underlying4
  a4 := Tryz.isAgg4
  z4 := Tryz.sizeOf4
  v4 := Tryz.zeroValue4
  t9 := Tryz.underlying9
  a9 := Tryz.isAgg9
  z9 := Tryz.sizeOf9
  v9 := Tryz.zeroValue9
  t31 := Tryz.underlying53
  a31 := Tryz.isAgg53
  z31 := Tryz.sizeOf53
  v31 := Tryz.zeroValue53 }
open Go.RowKit Go.Lib Go.Sort in
theorem Tryz.slices_Compact_string (blk off cap : Nat) (zs : List (List UInt8)) (w : World) (hH : Holds encStr w blk off zs.toArray) (hsz : zs.length ≤ 9223372036854775807) (hcap : zs.length ≤ cap) :
    Calls Tryz.prog 62 #[.slice (some ⟨blk, off, none⟩) zs.length cap] w fun e w' => e = .returned (.slice (some ⟨blk, off, none⟩) (Lib.compact zs).length cap) ∧ ∃ q, w' = putRow encStr (Sort.ahead w q) blk off (Lib.compact zs ++ List.replicate (zs.length - (Lib.compact zs).length) []).toArray := Any.slices_Compact_string Tryz.lays194 blk off cap zs w hH hsz hcap
open Go.RowKit Go.Lib Go.Sort in
theorem Tryz.slices_Compact_string_empty (a : Option Addr) (cap : Nat) (w : World) :
    Calls Tryz.prog 62 #[.slice a 0 cap] w fun e w' => e = .returned (.slice a 0 cap) ∧ w' = w := Any.slices_Compact_string_empty Tryz.lays194 a cap w
open Go.RowKit Go.Sort in
theorem Tryz.slices_Sort_string_none (p : Option Addr) (cap : Nat) (w : World) :
    Calls Tryz.prog 61 #[.slice p 0 cap] w fun e w' => e = .returned (.tuple #[]) ∧ w' = w := Any.slices_Sort_string_none Tryz.lays190 p cap w
end Go.Proofs
set_option maxRecDepth 100000
set_option linter.unusedVariables false
set_option linter.unusedSimpArgs false
set_option linter.unusedSectionVars false
namespace Go.Proofs.YtdigohaeakclfaaGreatDoor
open Go Go.Am Go.RowKit Go.Sort
attribute [local go_sem] Oper.semAt_some
/-- texts in order, each once -/
def srtN (L : List (List UInt8)) : List (List UInt8) := Lib.compact (L.mergeSort fun x y => decide (x ≤ y))
/-- a name is put behind the row -/
theorem app_nm {ops : Array Oper} {rest : List Oper} {o : Oper} {a : Act} {Q : Exit → Act → World → Prop} {w wr : World} (hgd : o.guard = none) (s x : Operand)
    (ho : o.op = .call { callee := .builtin .append, args := #[s, x], argTypes := #[53, 53] }) (v : Value) (k : Nat) (L : List (List UInt8)) (S : ByteArray) (p : Obj) (hs : a.eval s = v)
    (hB : wr.ownsRow w.heap.size 9 1 v k (sV (L.take k)) ∧ Below w.heap.size w wr ∧ S = ⟨(L.getD k []).toArray⟩ ∧ k < L.length) (hx : a.eval x = .slice (some ⟨wr.heap.size + 1, 0, none⟩) 1 1) (hk : k ≤ 2097153)
    (h : ∀ v' w', w'.ownsRow w.heap.size 9 1 v' (k + 1) (sV (L.take (k + 1))) ∧ Below w.heap.size w w' → wpList Tryz.prog ops Q rest (a.put o.dst v') w') :
    wpList Tryz.prog ops Q (o :: rest) a ((wr.alloc p).alloc (.cells #[.string S] 9)) := by
  obtain ⟨i0, hi, hz0, hz1, hz2⟩ := info_parts i9
  have hsz := hB.2.1.size
  have hrow := (hB.1.alloc p).alloc (.cells #[.string S] 9)
  refine wpList_append_own _ hgd s x 53 ho w.heap.size 9 i0 (.string ⟨#[]⟩) 1 16 u26 hi hz0 hz1 hz2 rfl (by decide) v k _ hs hrow ⟨wr.heap.size + 1, 0, none⟩ 1 1 [.string S] hx rfl (cell_one2 _ _ _ _) (fun u hu => by simp at hu; subst hu; rfl) (by simp [maxLen]; omega) (by omega) (by simp; omega) ?_
  intro v' w' hown' hgrow _
  refine h v' w' ⟨?_, ?_⟩
  · rw [take_snoc [] hB.2.2.2]
    have e : sV (L.take k ++ [L.getD k []]) = sV (L.take k) ++ [.string S] := by rw [hB.2.2.1]; simp [sV]
    rw [e]; exact hown'
  · exact ((hB.2.1.alloc hsz _).alloc (by simp; omega) _).grown hgrow (by simp; omega) fun k e => (hrow.lt k e).1
set_option maxHeartbeats 4000000 in
theorem allN_core (n : Nat) (hd : List Hd) (hn : Hid (hd.length = n)) (hl : n ≤ 2097153) (L : List (List UInt8)) (hL : Hid (L = hd.map (·.1))) (w : World) (mv tv bv : Value)
    (bn : Option Addr) (cap : Nat) (base : Option (Nat × Nat)) (HBN : Hid (bn = base.map fun p => mkA p.1 p.2)) (hb0 : base = none → n = 0) (hc : ∀ b o, base = some (b, o) → ∀ i, i < n → w.cell? (mkA b (o + i * 2)) = some (.string ⟨(hd.getD i ([], [])).1.toArray⟩) ∧ w.cell? (mkA b (o + i * 2 + 1)) = some (.string ⟨(hd.getD i ([], [])).2.toArray⟩)) :
    Calls Tryz.prog 21 #[.agg #[mv, tv, .slice bn n cap, bv]] w fun e w' => ∃ v, e = .returned v ∧ w'.ownsRow w.heap.size 9 1 v (srtN L).length (sV (srtN L)) ∧ Below w.heap.size w w' := by
  have HH : Hid ((base = none → n = 0) ∧ (∀ b o, base = some (b, o) → ∀ i, i < n → w.cell? (mkA b (o + i * 2)) = some (.string ⟨(hd.getD i ([], [])).1.toArray⟩) ∧ w.cell? (mkA b (o + i * 2 + 1)) = some (.string ⟨(hd.getD i ([], [])).2.toArray⟩))) := ⟨hb0, hc⟩
  clear hb0 hc
  have hlen : Hid (L.length = n) := by have := hn.out; show L.length = n; rw [hL.out, List.length_map, this]
  go_enter Tryz.func21, Tryz.ntmps21
  go_wp2
  go_loopw [3, 9] (fun v i wr => ∃ (k : Nat), i = .int .i64 k ∧ k ≤ n ∧ wr.ownsRow w.heap.size 9 1 v k (sV (L.take k)) ∧ Below w.heap.size w wr)
    (fun _ i _ => match i with | .int _ k => n - k.toNat | _ => 0)
  case atStart => exact ⟨0, rfl, Nat.zero_le _, World.ownsRow_nil _ _ _ _, (Below.refl _ _).alloc (Nat.le_refl _) _⟩
  case round =>
    obtain ⟨k, rfl, hk, hro, hB⟩ := hrel
    by_cases hk2 : k < n
    · obtain ⟨b, o, hbo⟩ : ∃ b o, base = some (b, o) := by
        cases base with
        | none => have := HH.out.1 rfl; omega
        | some p => exact ⟨p.1, p.2, rfl⟩
      have hbn : bn = some ⟨b, o, none⟩ := by rw [HBN.out, hbo]; rfl
      subst hbn
      obtain ⟨g1, g2⟩ := HH.out.2 b o hbo k hk2
      have c1 : wr.cell? ⟨b, o + k * 2, none⟩ = _ := (hB.cell (p := mkA b (o + k * 2)) (World.block_lt_of_cell? _ _ g1)).trans g1
      have c2 : wr.cell? ⟨b, o + k * 2 + 1, none⟩ = _ := (hB.cell (p := mkA b (o + k * 2 + 1)) (World.block_lt_of_cell? _ _ g2)).trans g2
      obtain ⟨X1, hX1⟩ : ∃ X : ByteArray, X = ⟨(hd.getD k ([], [])).1.toArray⟩ := ⟨_, rfl⟩
      obtain ⟨X2, hX2⟩ : ∃ X : ByteArray, X = ⟨(hd.getD k ([], [])).2.toArray⟩ := ⟨_, rfl⟩
      rw [← hX1] at c1
      rw [← hX2] at c2
      have HR : Hid (wr.ownsRow w.heap.size 9 1 u3 k (sV (L.take k)) ∧ Below w.heap.size w wr ∧ X1 = ⟨(L.getD k []).toArray⟩ ∧ k < L.length) := ⟨hro, hB, by
        rw [hX1, hL.out]; congr 2
        simp [List.getD_eq_getElem?_getD, List.getElem?_eq_getElem (show k < hd.length by rw [hn.out]; exact hk2)], by rw [hlen.out]; exact hk2⟩
      clear hX1 hX2 hro hB g1 g2 hbo
      go_wp2_with first
        | (at_builtin; go_must (refine app_nm (w := w) (wr := wr) rfl _ _ rfl u3 k L X1 _ rfl HR.out rfl (by omega) ?_; intro v' w4 h4; have B4 : Hid (w4.ownsRow w.heap.size 9 1 v' (k + 1) (sV (L.take (k + 1))) ∧ Below w.heap.size w w4) := h4; clear h4))
      exact ⟨⟨k + 1, by simp, by omega, B4.out.1, B4.out.2⟩, by simp; omega⟩
    · have hkn : k = n := by omega
      subst hkn
      have hT : L.take k = L := List.take_of_length_le (by rw [hlen.out]; exact Nat.le_refl _)
      rw [hT] at hro
      have HT : Hid (Below w.heap.size w wr) := hB
      rcases hro.2 with ⟨rfl, h0⟩ | ⟨g, cp, cur, rfl, hg, hcur, h1, h2, h3, h4⟩
      · have HL : Hid (srtN L = []) := by
          have := hlen.out
          have e : L = [] := List.eq_nil_of_length_eq_zero (by omega)
          show srtN L = []
          rw [e]; simp [srtN, Lib.compact, Lib.compactUpTo]
        clear hro hB hT
        go_wp2_with first
          | (go_at_call 61; refine (Tryz.slices_Sort_string_none none 0 _).mono ?_; rintro e w2 ⟨rfl, rfl⟩)
          | (go_at_call 62; refine (Tryz.slices_Compact_string_empty none 0 _).mono ?_; rintro e w2 ⟨rfl, rfl⟩)
        go_ret
        rw [HL.out]
        exact ⟨_, rfl, World.ownsRow_nil _ _ _ _, HT.out⟩
      · have HO : Hid (wr.ownsRow w.heap.size 9 1 (.slice (some ⟨g, 0, none⟩) k cp) k (L.map encStr)) := hro
        obtain ⟨zs, hzs⟩ : ∃ zs, zs = L.mergeSort fun x y => decide (x ≤ y) := ⟨_, rfl⟩
        have hzl : zs.length = k := by rw [hzs, List.length_mergeSort]; exact hlen.out
        have hH : Holds encStr wr g 0 L.toArray := holds_of_block hcur (by have := h4; rw [Nat.mul_one] at this; rw [hlen.out]; exact this)
        have hgl : g < wr.heap.size := (Array.getElem?_eq_some_iff.1 hcur).1
        have KS := Tryz.slices_Sort_string g 0 cp L wr hH hgl (by rw [hlen.out]; omega)
        rw [hlen.out, ← hzs] at KS
        have KS : Hid (Calls Tryz.prog 61 #[.slice (some ⟨g, 0, none⟩) k cp] wr fun e w' => e = .returned (.tuple #[]) ∧ ∃ n os, w' = grow (putRow encStr (Sort.ahead wr n) g 0 zs.toArray) os) := KS
        have HZ : Hid (zs = (L.mergeSort fun x y => decide (x ≤ y)) ∧ zs.length = k ∧ g < wr.heap.size ∧ Holds encStr wr g 0 L.toArray ∧ w.heap.size ≤ g ∧ wr.heap[g]? = some (.cells cur 9 (0, 0)) ∧ k ≤ cp ∧ cp ≤ maxLen ∧ cur.size = cp * 1) := ⟨hzs, hzl, hgl, hH, hg, hcur, h1, h2, h3⟩
        clear hro hB hT hH hgl hzs hzl hg hcur h1 h2 h3 h4 hk hk2
        go_wp2_with first
          | (go_at_call 61; refine KS.out.mono ?_; rintro e w5 ⟨rfl, nn, os, hw5⟩
             have HW : Hid (w5 = grow (putRow encStr (Sort.ahead wr nn) g 0 zs.toArray) os) := hw5
             clear hw5
             have KC : Hid (Calls Tryz.prog 62 #[.slice (some ⟨g, 0, none⟩) k cp] w5 fun e w' => e = .returned (.slice (some ⟨g, 0, none⟩) (Lib.compact zs).length cp) ∧ ∃ q, w' = putRow encStr (Sort.ahead w5 q) g 0 (Lib.compact zs ++ List.replicate (k - (Lib.compact zs).length) []).toArray) := by
               have hz := HZ.out
               have hH2 : Holds encStr w5 g 0 zs.toArray := by
                 rw [HW.out]
                 exact holds_grow encStr _ os g 0 _ (by simpa [putRow, mapBlock, Sort.ahead] using hz.2.2.1) (holds_putRow encStr _ g 0 _ _ (holds_ahead encStr wr nn g 0 _ hz.2.2.2.1) (by simp [hz.2.1, hlen.out]))
               have := Tryz.slices_Compact_string g 0 cp zs w5 hH2 (by rw [hz.2.1]; omega) (by rw [hz.2.1]; exact hz.2.2.2.2.2.2.1)
               rw [hz.2.1] at this
               exact this)
          | (go_at_call 62; refine KC.out.mono ?_; rintro e w6 ⟨rfl, q, hw6⟩; have HV : Hid (w6 = putRow encStr (Sort.ahead w5 q) g 0 (Lib.compact zs ++ List.replicate (k - (Lib.compact zs).length) []).toArray) := hw6; clear hw6)
        go_ret
        have hz := HZ.out
        have hs := ownsRow_sorted (w := wr) (base := w.heap.size) (e := 9) (n := nn) (os := os) (ss := L) (ts := zs) (by rw [hz.2.1, hlen.out]) hz.2.2.2.2.1 hz.2.2.2.2.2.1 (by rw [hlen.out]; exact hz.2.2.2.2.2.2.1) hz.2.2.2.2.2.2.2.1 hz.2.2.2.2.2.2.2.2
        have hle := Lib.compact_length_le zs
        rw [hlen.out, ← HW.out] at hs
        have hc := Lib.ownsRow_putRow (q := q) (k := (Lib.compact zs).length) (ys := Lib.compact zs ++ List.replicate (k - (Lib.compact zs).length) []) hs (by simp; rw [hz.2.1] at hle; omega) (by rw [← hz.2.1]; exact hle)
        rw [List.take_left, ← HV.out] at hc
        have e : srtN L = Lib.compact zs := by unfold srtN; rw [hz.1]
        rw [e]
        refine ⟨_, rfl, hc, ?_⟩
        rw [HV.out]
        refine Lib.below_putRow ?_ hz.2.2.2.2.1
        rw [HW.out]
        exact HT.out.grown (grownBy_sorted _) HT.out.size (fun j hj => by cases hj; exact hz.2.2.2.2.1)
theorem allN_ok (hd : List Hd) (m t b : AV) (hl : hd.length ≤ 2097153) :
    FnOK Tryz.prog 21 [.agg [m, t, .sl 2 hd.length (hdEl hd) false, b]] [] (.sl 1 (srtN (hd.map (·.1))).length (strEl (srtN (hd.map (·.1)))) false) [] := by
  intro w G ρ vs hlen ha hb hw
  have hρ : ρ = [] := List.eq_nil_of_length_eq_zero (by rw [← hb.len]; rfl)
  subst hρ
  match vs, hlen with
  | [a], _ =>
    have h0 := (ha 0 _ a rfl rfl).1
    clear ha
    cases h0 with
    | agg _ _ us hul hv =>
      match us, hul with
      | [a0, a1, a2, a3], _ =>
        have h2 := hv 2 _ a2 rfl rfl
        obtain ⟨base, cap, rfl, hb0, hc⟩ := hdAt_of h2
        refine Calls.mono (allN_core hd.length hd rfl hl _ rfl w a0 a1 a3 _ cap base rfl hb0 hc) ?_
        rintro e w' ⟨v, rfl, hrow, hB⟩
        obtain ⟨G', h1, h2, h3⟩ := fresh_strs hw hrow hB
        exact ⟨_, G', [], rfl, h1, h2, rfl, nil_br, h3, SpV_nr rfl⟩
end Go.Proofs.YtdigohaeakclfaaGreatDoor
set_option maxRecDepth 100000
set_option linter.unusedVariables false
set_option linter.unusedSimpArgs false
set_option linter.unusedSectionVars false
namespace Go.Proofs.YtdigohaeakclfaaGreatDoor
open Go Go.Am Go.RowKit
attribute [local go_sem] Oper.semAt_some
set_option maxHeartbeats 4000000 in
theorem q19_core (pre : Bool) (l : List Hd) (n : Nat) (hn : Hid (l.length = n)) (hl : n ≤ 3500001) (hp : Hid (∀ p ∈ l, p.1.length ≤ 3500000 ∧ p.2.length ≤ 3500000)) (res : Option (List UInt8)) (hres : Hid (res = (cPairs pre l).map fun ps => joinL ((sortP ps).map fmtP) [38])) (w : World)
    (bn : Option Addr) (cap : Nat) (base : Option (Nat × Nat)) (HBN : Hid (bn = base.map fun p => mkA p.1 p.2)) (hb0 : base = none → n = 0) (hc : ∀ b o, base = some (b, o) → ∀ i, i < n → w.cell? (mkA b (o + i * 2)) = some (.string ⟨(l.getD i ([], [])).1.toArray⟩) ∧ w.cell? (mkA b (o + i * 2 + 1)) = some (.string ⟨(l.getD i ([], [])).2.toArray⟩)) :
    Calls Tryz.prog 64 #[.slice bn n cap, .bool pre] w fun e w' => e = .returned (.tuple #[.string ⟨(res.getD []).toArray⟩, .bool res.isSome]) ∧ Below w.heap.size w w' := by
  have HH : Hid ((base = none → n = 0) ∧ (∀ b o, base = some (b, o) → ∀ i, i < n → w.cell? (mkA b (o + i * 2)) = some (.string ⟨(l.getD i ([], [])).1.toArray⟩) ∧ w.cell? (mkA b (o + i * 2 + 1)) = some (.string ⟨(l.getD i ([], [])).2.toArray⟩))) := ⟨hb0, hc⟩
  clear hb0 hc
  go_enter Tryz.func64, Tryz.ntmps64
  go_wp2
  go_loopw [6, 18] (fun v i wr => ∃ (k : Nat) (ps : List Hd) (bs : List Nat), i = .int .i64 k ∧ k ≤ n ∧ cPairs pre (l.take k) = some ps ∧ St w wr v ps bs)
    (fun _ i _ => match i with | .int _ k => n - k.toNat | _ => 0)
  case atStart => exact ⟨0, [], [], rfl, Nat.zero_le _, cP_nil pre, St.start w⟩
  case round =>
    obtain ⟨k, ps, bs, rfl, hk, hps, hst⟩ := hrel
    by_cases hk2 : k < n
    · obtain ⟨b, o, hbo⟩ : ∃ b o, base = some (b, o) := by
        cases base with
        | none => have := HH.out.1 rfl; omega
        | some p => exact ⟨p.1, p.2, rfl⟩
      have hbn : bn = some ⟨b, o, none⟩ := by rw [HBN.out, hbo]; rfl
      subst hbn
      obtain ⟨g1, g2⟩ := HH.out.2 b o hbo k hk2
      have c1 : wr.cell? ⟨b, o + k * 2, none⟩ = _ := (hst.below.cell (p := mkA b (o + k * 2)) (World.block_lt_of_cell? _ _ g1)).trans g1
      have c2 : wr.cell? ⟨b, o + k * 2 + 1, none⟩ = _ := (hst.below.cell (p := mkA b (o + k * 2 + 1)) (World.block_lt_of_cell? _ _ g2)).trans g2
      obtain ⟨x, hx⟩ : ∃ x, x = l.getD k ([], []) := ⟨_, rfl⟩
      rw [← hx] at c1 c2
      have hxm : x ∈ l := by rw [hx, List.getD_eq_getElem?_getD, List.getElem?_eq_getElem (show k < l.length by rw [hn.out]; exact hk2)]; exact List.getElem_mem _
      have hxl := hp.out x hxm
      obtain ⟨X1, hX1⟩ : ∃ X : ByteArray, X = ⟨x.1.toArray⟩ := ⟨_, rfl⟩
      obtain ⟨X2, hX2⟩ : ∃ X : ByteArray, X = ⟨x.2.toArray⟩ := ⟨_, rfl⟩
      have KA := k18 x.1 false (by omega)
      have KB := k18 x.2 false (by omega)
      rw [← hX1] at c1 KA
      rw [← hX2] at c2 KB
      obtain ⟨z, hz⟩ : ∃ z : Hd, z = (escL ((unescL x.1).getD []) false, escL ((unescL x.2).getD []) false) := ⟨_, rfl⟩
      have KA' : Hid (∀ w, Calls Tryz.prog 63 #[.string X1, .bool false] w fun e w' => e = .returned (.tuple #[.string ⟨z.1.toArray⟩, .bool (unescL x.1).isSome]) ∧ Below w.heap.size w w') := by rw [hz]; exact KA
      have KB' : Hid (∀ w, Calls Tryz.prog 63 #[.string X2, .bool false] w fun e w' => e = .returned (.tuple #[.string ⟨z.2.toArray⟩, .bool (unescL x.2).isSome]) ∧ Below w.heap.size w w') := by rw [hz]; exact KB
      have HX : Hid (X1 = ⟨x.1.toArray⟩ ∧ X2 = ⟨x.2.toArray⟩ ∧ z = (escL ((unescL x.1).getD []) false, escL ((unescL x.2).getD []) false) ∧ x = l.getD k ([], [])) := ⟨hX1, hX2, hz, hx⟩
      have HR : Hid (cPairs pre (l.take k) = some ps ∧ St w wr u6 ps bs) := ⟨hps, hst⟩
      clear hX1 hX2 hx hxm hxl KA KB g1 g2 hps hst hbo hz
      by_cases hsk : pre = true ∧ x.1 = xsig
      · obtain ⟨rfl, hx1⟩ := hsk
        have hX1 : X1 = ⟨#[88, 45, 65, 109, 122, 45, 83, 105, 103, 110, 97, 116, 117, 114, 101]⟩ := by rw [HX.out.1, hx1]; rfl
        have HS : Hid (x.1 = xsig) := hx1
        clear hx1 KA' KB'
        subst hX1
        go_wp2
        exact ⟨⟨k + 1, ps, bs, by simp, by omega, by rw [cP_snoc HR.out.1 (by rw [hn.out]; exact hk2) HX.out.2.2.2, cP_skip HS.out]; simp, HR.out.2.alloc _⟩, by simp; omega⟩
      · have HN : Hid (¬ (pre = true ∧ x.1 = xsig)) := hsk
        have hX1 : pre = true → (X1.toList == [88, 45, 65, 109, 122, 45, 83, 105, 103, 110, 97, 116, 117, 114, 101]) = false := fun e => by
          rw [HX.out.1, tl_mk, beq_eq_false_iff_ne]
          exact fun h => hsk ⟨e, h⟩
        clear hsk
        have hd : pre = false ∨ (pre = true ∧ (X1.toList == [88, 45, 65, 109, 122, 45, 83, 105, 103, 110, 97, 116, 117, 114, 101]) = false) := by
          cases pre with
          | false => exact .inl rfl
          | true => exact .inr ⟨rfl, hX1 rfl⟩
        clear hX1
        cases ea : unescL x.1 with
        | none =>
          have HE : Hid (res = none) := by
            have := cP_none HR.out.1 (by rw [hn.out]; exact hk2) HX.out.2.2.2 (cP_bad HN.out (.inl ea))
            have e := hres.out
            rw [this] at e; exact e
          have KA2 : Hid (∀ w, Calls Tryz.prog 63 #[.string X1, .bool false] w fun e w' => e = .returned (.tuple #[.string ⟨z.1.toArray⟩, .bool false]) ∧ Below w.heap.size w w') := by rw [ea] at KA'; exact KA'
          obtain ⟨b2, hb2⟩ : ∃ b, b = (unescL x.2).isSome := ⟨_, rfl⟩
          have KB2 : Hid (∀ w, Calls Tryz.prog 63 #[.string X2, .bool false] w fun e w' => e = .returned (.tuple #[.string ⟨z.2.toArray⟩, .bool b2]) ∧ Below w.heap.size w w') := by rw [hb2]; exact KB'
          clear ea KA' KB' hb2
          rcases hd with rfl | ⟨rfl, hX⟩
          all_goals
            go_wp2_with first
              | (go_at_call 63; refine (KA2.out _).mono ?_; rintro e w2 ⟨rfl, hB2⟩; have B2 : Hid (St w w2 u6 ps bs) := (HR.out.2.alloc _).keep hB2; have c3 := (newcell hB2).2; clear hB2 KA2)
              | (go_at_call 63; refine (KB2.out w2).mono ?_; rintro e w3 ⟨rfl, hB3⟩; have B3 : Hid (St w w3 u6 ps bs) := B2.out.keep hB3; clear hB3 KB2)
            go_ret2
            rw [HE.out]
            exact ⟨rfl, B3.out.below⟩
        | some ta =>
          cases eb : unescL x.2 with
          | none =>
            have HE : Hid (res = none) := by
              have := cP_none HR.out.1 (by rw [hn.out]; exact hk2) HX.out.2.2.2 (cP_bad HN.out (.inr eb))
              have e := hres.out
              rw [this] at e; exact e
            have KA2 : Hid (∀ w, Calls Tryz.prog 63 #[.string X1, .bool false] w fun e w' => e = .returned (.tuple #[.string ⟨z.1.toArray⟩, .bool true]) ∧ Below w.heap.size w w') := by rw [ea] at KA'; exact KA'
            have KB2 : Hid (∀ w, Calls Tryz.prog 63 #[.string X2, .bool false] w fun e w' => e = .returned (.tuple #[.string ⟨z.2.toArray⟩, .bool false]) ∧ Below w.heap.size w w') := by rw [eb] at KB'; exact KB'
            clear ea eb KA' KB'
            rcases hd with rfl | ⟨rfl, hX⟩
            all_goals
              go_wp2_with first
              | (go_at_call 63; refine (KA2.out _).mono ?_; rintro e w2 ⟨rfl, hB2⟩; have B2 : Hid (St w w2 u6 ps bs) := (HR.out.2.alloc _).keep hB2; have c3 := (newcell hB2).2; clear hB2 KA2)
              | (go_at_call 63; refine (KB2.out w2).mono ?_; rintro e w3 ⟨rfl, hB3⟩; have B3 : Hid (St w w3 u6 ps bs) := B2.out.keep hB3; clear hB3 KB2)
              go_ret2
              rw [HE.out]
              exact ⟨rfl, B3.out.below⟩
          | some tb =>
            have KA2 : Hid (∀ w, Calls Tryz.prog 63 #[.string X1, .bool false] w fun e w' => e = .returned (.tuple #[.string ⟨z.1.toArray⟩, .bool true]) ∧ Below w.heap.size w w') := by rw [ea] at KA'; exact KA'
            have KB2 : Hid (∀ w, Calls Tryz.prog 63 #[.string X2, .bool false] w fun e w' => e = .returned (.tuple #[.string ⟨z.2.toArray⟩, .bool true]) ∧ Below w.heap.size w w') := by rw [eb] at KB'; exact KB'
            have hcp : Hid (cPairs pre (l.take (k + 1)) = some (ps ++ [z])) := by
              have e := cP_snoc HR.out.1 (by rw [hn.out]; exact hk2) HX.out.2.2.2
              rw [e, cP_two HN.out ea eb, HX.out.2.2.1, ea, eb]; rfl
            have hpl : ps.length ≤ 3500001 := by
              have := cP_len HR.out.1
              rw [List.length_take] at this; omega
            clear ea eb KA' KB'
            rcases hd with rfl | ⟨rfl, hX⟩
            all_goals
              go_wp2_with first
              | (go_at_call 63; refine (KA2.out _).mono ?_; rintro e w2 ⟨rfl, hB2⟩; have B2 : Hid (St w w2 u6 ps bs) := (HR.out.2.alloc _).keep hB2; have c3 := (newcell hB2).2; clear hB2 KA2)
              | (go_at_call 63; refine (KB2.out w2).mono ?_; rintro e w3 ⟨rfl, hB3⟩; have B3 : Hid (St w w3 u6 ps bs) := B2.out.keep hB3; clear hB3 KB2)
              | (at_builtin; go_must (refine app_sl (w3 := w3) rfl _ _ rfl u6 ps bs z rfl B3.out rfl hpl ?_; intro v' w4 hst4; have B4 : Hid (St w w4 v' (ps ++ [z]) (bs ++ [w3.heap.size])) := hst4; clear hst4))
              exact ⟨⟨k + 1, ps ++ [z], bs ++ [w3.heap.size], by simp, by omega, hcp.out, B4.out⟩, by simp; omega⟩
    · have hkn : k = n := by omega
      subst hkn
      have hps' : cPairs pre l = some ps := by
        have := hps
        rwa [List.take_of_length_le (by rw [hn.out]; exact Nat.le_refl _)] at this
      have hbd := cPairs_part pre 3500000 l ps hp.out hps'
      obtain ⟨L, hL⟩ : ∃ L, L = sortP ps := ⟨_, rfl⟩
      have hLl : L.length = ps.length := by rw [hL, sortP_len]
      have hLb : ∀ q ∈ L, q.1.length ≤ 10500000 ∧ q.2.length ≤ 10500000 := fun q hq => by
        have := hbd.2 q ((sortP_perm ps).mem_iff.1 (hL ▸ hq)); omega
      have hjb := join_bd L (by rw [hLl]; have := hbd.1; rw [hn.out] at this; omega) hLb
      have hres' : res = some (joinL (L.map fmtP) [38]) := by
        have := hres.out
        rw [hps'] at this; rw [this, hL]; rfl
      obtain ⟨m, hm⟩ : ∃ m, m = ps.length := ⟨_, rfl⟩
      have hml : m ≤ 3500001 := by have := hbd.1; rw [hn.out] at this; omega
      obtain ⟨u, cu, rfl⟩ : ∃ u c, u6 = Value.slice u m c := by
        rcases hst.row.2 with ⟨h, h0⟩ | ⟨g, cp, cur, h, _⟩
        · exact ⟨none, 0, by rw [h, hm, h0]⟩
        · exact ⟨_, _, by rw [hm]; exact h⟩
      have KS := sort_st hst hm.symm hml
      rw [← hL] at KS
      have KS : Hid (Calls Tryz.prog 103 #[.slice u m cu, .func (.func 104) #[] #[]] wr fun e w' => e = .returned (.tuple #[]) ∧ Below w.heap.size w w' ∧ ∃ (g : Nat) (bs' : Nat → Nat), (0 < m → u = some ⟨g, 0, none⟩) ∧
        ∀ j, j < m → w'.cell? ⟨g, j, none⟩ = some (slV (bs' j)) ∧ w'.cell? ⟨bs' j, 0, none⟩ = some (.string ⟨(L.getD j ([], [])).1.toArray⟩) ∧ w'.cell? ⟨bs' j, 1, none⟩ = some (.string ⟨(L.getD j ([], [])).2.toArray⟩)) := KS
      have HR : Hid (L.length = m ∧ (∀ q ∈ L, q.1.length ≤ 10500000 ∧ q.2.length ≤ 10500000) ∧ (joinL (L.map fmtP) [38]).length ≤ 80000000000000 ∧ res = some (joinL (L.map fmtP) [38])) := ⟨by rw [hLl, hm], hLb, hjb, hres'⟩
      clear hps hps' hbd hL hLl hLb hjb hres' hm hst hk hk2
      go_wp2_with (go_at_call 103; refine KS.out.mono ?_; rintro e w5 ⟨rfl, hB5, g, bs', hu, hcs⟩; have H5 : Hid (Below w.heap.size w w5 ∧ (0 < m → u = some ⟨g, 0, none⟩) ∧ (∀ j, j < m → w5.cell? ⟨g, j, none⟩ = some (slV (bs' j)) ∧ w5.cell? ⟨bs' j, 0, none⟩ = some (.string ⟨(L.getD j ([], [])).1.toArray⟩) ∧ w5.cell? ⟨bs' j, 1, none⟩ = some (.string ⟨(L.getD j ([], [])).2.toArray⟩))) := ⟨hB5, hu, hcs⟩; clear hB5 hu hcs KS)
      go_loopw [13, 57] (fun s v wx => ∃ (j : Nat), v = .int .i64 j ∧ j ≤ m ∧ wx.ownsRow w5.heap.size 9 1 s j (sV ((L.take j).map fmtP)) ∧ Below w5.heap.size w5 wx)
        (fun _ v _ => match v with | .int _ j => m - j.toNat | _ => 0)
      case atStart => exact ⟨0, rfl, Nat.zero_le _, World.ownsRow_nil _ _ _ _, Below.refl _ _⟩
      case round =>
        obtain ⟨j, rfl, hjm, hro, hB2⟩ := hrel
        by_cases hj : j < m
        · have hu := H5.out.2.1 (by omega)
          subst hu
          have hjL : j < L.length := by rw [HR.out.1]; exact hj
          obtain ⟨q, hq⟩ : ∃ q, q = L.getD j ([], []) := ⟨_, rfl⟩
          obtain ⟨e0, e1, e2⟩ := H5.out.2.2 j hj
          rw [← hq] at e1 e2
          have hqm : q ∈ L := by rw [hq, List.getD_eq_getElem?_getD, List.getElem?_eq_getElem hjL]; exact List.getElem_mem _
          have hqs := HR.out.2.1 q hqm
          obtain ⟨Q1, hQ1⟩ : ∃ Q : ByteArray, Q = ⟨q.1.toArray⟩ := ⟨_, rfl⟩
          obtain ⟨Q2, hQ2⟩ : ∃ Q : ByteArray, Q = ⟨q.2.toArray⟩ := ⟨_, rfl⟩
          have hs1 : Q1.size ≤ 10500000 := by rw [hQ1]; show q.1.toArray.size ≤ _; rw [List.size_toArray]; exact hqs.1
          have hs2 : Q2.size ≤ 10500000 := by rw [hQ2]; show q.2.toArray.size ≤ _; rw [List.size_toArray]; exact hqs.2
          rw [← hQ1] at e1
          rw [← hQ2] at e2
          have f0 := (hB2.cell (p := ⟨g, j, none⟩) (World.block_lt_of_cell? _ _ e0)).trans e0
          have f1 := (hB2.cell (p := ⟨bs' j, 0, none⟩) (World.block_lt_of_cell? _ _ e1)).trans e1
          have f2 := (hB2.cell (p := ⟨bs' j, 1, none⟩) (World.block_lt_of_cell? _ _ e2)).trans e2
          generalize bs' j = b at e0 e1 e2 f0 f1 f2
          have f0 : wr.cell? ⟨g, j, none⟩ = some (.slice (some ⟨b, 0, none⟩) 2 2) := f0
          have HQ : Hid (⟨(fmtP q).toArray⟩ = Q1 ++ ⟨#[61]⟩ ++ Q2) := by
            rw [hQ1, hQ2, show (⟨#[61]⟩ : ByteArray) = ⟨([61] : List UInt8).toArray⟩ from rfl, cat_mk, cat_mk]
            rfl
          have HB2 : Hid (wr.ownsRow w5.heap.size 9 1 u13 j (sV ((L.take j).map fmtP)) ∧ Below w5.heap.size w5 wr ∧ q = L.getD j ([], []) ∧ j < L.length) := ⟨hro, hB2, hq, hjL⟩
          clear hro hB2 hqm hqs hQ1 hQ2 hq hjL e0 e1 e2
          have hjm' : (j : Int) < (m : Int) := by omega
          have n1 : ¬ 9223372036854775807 < Q1.size + 1 := by omega
          have n2 : ¬ 9223372036854775807 < Q1.size + 1 + Q2.size := by omega
          go_wp2
          go_region_law (refine step_out rfl (.tmp 61) (.tmp 70) rfl u13 j L q _ rfl HB2.out HQ.out (by omega) rfl ?_; intro v6 w6 hr6 hb6; have H6 : Hid (w6.ownsRow w5.heap.size 9 1 v6 (j + 1) (sV ((L.take (j + 1)).map fmtP)) ∧ Below w5.heap.size w5 w6) := ⟨hr6, hb6⟩; clear hr6 hb6)
          all_goals
            go_wp2
            exact ⟨⟨j + 1, by simp, by omega, H6.out.1, H6.out.2⟩, by simp; omega⟩
        · have hjm2 : j = m := by omega
          subst hjm2
          have KJ := join_at (L.map fmtP) [38] wr u13 (slAt_row (by
            have := hro
            rwa [List.take_of_length_le (by rw [HR.out.1]; exact Nat.le_refl _)] at this)) (by rw [List.length_map, HR.out.1]; omega) (by have := HR.out.2.2.1; omega)
          have KJ : Hid (Calls Tryz.prog 26 #[u13, .string ⟨#[38]⟩] wr fun e w' => e = .returned (.string ⟨(joinL (L.map fmtP) [38]).toArray⟩) ∧ Below wr.heap.size wr w') := KJ
          have HE : Hid (Below w5.heap.size w5 wr) := hB2
          clear hro hB2
          go_wp2_with (go_at_call 26; refine KJ.out.mono ?_; rintro e w6 ⟨rfl, hB6⟩)
          go_ret2
          rw [HR.out.2.2.2]
          exact ⟨rfl, H5.out.1.trans ((HE.out.trans (hB6.mono HE.out.size)).mono H5.out.1.size)⟩
end Go.Proofs.YtdigohaeakclfaaGreatDoor
set_option maxRecDepth 100000
set_option linter.unusedVariables false
namespace Go.Proofs.YtdigohaeakclfaaGreatDoor
open Go Go.Am Go.RowKit
/-- a query's canonical text, of pairs -/
def pairsC (l : List Hd) (pre : Bool) : Option (List UInt8) := (cPairs pre l).map fun ps => joinL ((sortP ps).map fmtP) [38]
theorem query19_ok (l : List Hd) (pre : Bool) (hl : l.length ≤ 3500001) (hp : ∀ p ∈ l, p.1.length ≤ 3500000 ∧ p.2.length ≤ 3500000) :
    FnOK Tryz.prog 64 [.sl 2 l.length (hdEl l) false, .bool pre] [] (.tup [.str ((pairsC l pre).getD []), .bool (pairsC l pre).isSome]) [] := by
  refine FnOK.of_below rfl fun w G vs hlen ha hw => ?_
  obtain ⟨v0, v1, rfl⟩ : ∃ v0 v1, vs = [v0, v1] := by
    match vs, hlen with
    | [v0, v1], _ => exact ⟨v0, v1, rfl⟩
  have h0 := ha 0 _ v0 rfl rfl
  have h1 := (ha 1 _ v1 rfl rfl).bool_inv
  subst h1
  obtain ⟨base, cap, rfl, hb0, hc⟩ := hdAt_of h0
  refine (q19_core pre l l.length rfl hl hp (pairsC l pre) rfl w _ cap base rfl hb0 hc).mono ?_
  rintro e w' ⟨rfl, hB⟩
  refine ⟨_, rfl, fun G w => .tup _ _ [_, _] rfl fun q c v e1 e2 => ?_, hB⟩
  match q, e1, e2 with
  | 0, e1, e2 => simp at e1 e2; subst e1; subst e2; exact .str ..
  | 1, e1, e2 => simp at e1 e2; subst e1; subst e2; exact .bool ..
  | q + 2, e1, _ => simp at e1
end Go.Proofs.YtdigohaeakclfaaGreatDoor
set_option maxRecDepth 100000
set_option linter.unusedVariables false
namespace Go.Proofs.YtdigohaeakclfaaGreatDoor
open Go Go.Am Go.RowKit
theorem rquery18_ok (t : List UInt8) (pre : Bool) (ht : t.length ≤ 3500000) : FnOK Tryz.prog 73 [.str t, .bool pre] [] (.tup [.str ((queryC t pre).getD []), .bool (queryC t pre).isSome]) [] := by
  refine FnOK.of_below rfl fun w G vs hl ha hw => ?_
  obtain ⟨v0, v1, rfl⟩ : ∃ v0 v1, vs = [v0, v1] := by
    match vs, hl with
    | [v0, v1], _ => exact ⟨v0, v1, rfl⟩
  have h0 := (ha 0 _ v0 rfl rfl).str_inv
  have h1 := (ha 1 _ v1 rfl rfl).bool_inv
  subst h0; subst h1
  refine (rq_core ⟨t.toArray⟩ pre (queryQ t) (queryQ t).length rfl ⟨(queryP t).toArray⟩ (by have := queryQ_len t; omega) (fun p hp => by have := query_part t p hp; omega) (k23 t (by omega)) (queryC t pre) rfl w).mono ?_
  rintro e w' ⟨rfl, hB⟩
  refine ⟨_, rfl, fun G w => .tup _ _ [_, _] rfl fun q c v e1 e2 => ?_, hB⟩
  match q, e1, e2 with
  | 0, e1, e2 => simp at e1 e2; subst e1; subst e2; exact .str ..
  | 1, e1, e2 => simp at e1 e2; subst e1; subst e2; exact .bool ..
  | q + 2, e1, _ => simp at e1
end Go.Proofs.YtdigohaeakclfaaGreatDoor
