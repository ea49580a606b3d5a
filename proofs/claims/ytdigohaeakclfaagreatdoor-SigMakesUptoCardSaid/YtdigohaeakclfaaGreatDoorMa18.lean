/- sig.Header, walked: three boxes, rows that grow by pairs. Requests signed: what Header and Presign call. Names in order, each once: sorted and compacted, or put in one by one: the same. -/
import Derived.Test.YtdigohaeakclfaaGreatDoorMa17
import Derived.Deep.AppendLies
import Derived.Test.YtdigohaeakclfaaGreatDoorMa14
import Derived.Sort.Walk0
set_option maxRecDepth 100000
set_option linter.unusedVariables false
set_option linter.unusedSimpArgs false
set_option linter.unusedSectionVars false
namespace Go.Proofs.YtdigohaeakclfaaGreatDoor
open Go Go.Am Go.RowKit
attribute [local go_sem] Oper.semAt_some
abbrev zq : Array Value := #[.string ⟨#[]⟩, .string ⟨#[]⟩, .slice none 0 0, .slice none 0 0]
/-- the three boxes -/
structure B3 (w W : World) (xs ks zs : Array Value) : Prop where
  below : Below w.heap.size w W
  r : W.heap[w.heap.size]? = some (.cells xs 25 (0, 0))
  k : W.heap[w.heap.size + 1]? = some (.cells ks 27 (0, 0))
  z : W.heap[w.heap.size + 2]? = some (.cells zs 25 (0, 0))
section
variable {w W W' : World} {xs ks zs : Array Value}
theorem B3.size (h : B3 w W xs ks zs) : w.heap.size + 2 < W.heap.size := (Array.getElem?_eq_some_iff.1 h.z).1
theorem B3.keep (h : B3 w W xs ks zs) (hB : Below W.heap.size W W') : B3 w W' xs ks zs :=
  ⟨h.below.trans (hB.mono h.below.size), (hB.block _ (by have := h.size; omega)).trans h.r, (hB.block _ (by have := h.size; omega)).trans h.k, (hB.block _ h.size).trans h.z⟩
theorem B3.drew (h : B3 w W xs ks zs) : B3 w W.drew xs ks zs := ⟨below_drew h.below, h.r, h.k, h.z⟩
theorem B3.keepD (h : B3 w W xs ks zs) (hB : Below W.drew.heap.size W.drew W') : B3 w W' xs ks zs := h.drew.keep hB
theorem B3.alloc (h : B3 w W xs ks zs) (o : Obj) : B3 w (W.alloc o) xs ks zs := h.keep ((Below.refl _ W).alloc (Nat.le_refl _) o)
theorem B3.start (w : World) (xs ks : Array Value) : B3 w (((w.alloc (.cells xs 25)).alloc (.cells ks 27)).alloc zR) xs ks zq where
  below := (((Below.refl _ _).alloc (Nat.le_refl _) _).alloc (by simp) _).alloc (by simp; omega) _
  r := (((Below.refl _ ((w.alloc (.cells xs 25)).alloc (.cells ks 27))).alloc (Nat.le_refl _) zR).block w.heap.size (by simp; omega)).trans (hp_new _ _ _)
  k := by have := hp_new (w.alloc (.cells xs 25)) (.cells ks 27) zR; simpa using this
  z := by have := heap_alloc_new ((w.alloc (.cells xs 25)).alloc (.cells ks 27)) zR; simpa using this
theorem B3.cell (h : B3 w W xs ks zs) {i : Nat} {v : Value} (hi : xs[i]? = some v) : W.cell? ⟨w.heap.size, i, none⟩ = some v := cellAt h.r hi
theorem B3.kcell (h : B3 w W xs ks zs) {i : Nat} {v : Value} (hi : ks[i]? = some v) : W.cell? ⟨w.heap.size + 1, i, none⟩ = some v := cellAt h.k hi
theorem B3.zcell (h : B3 w W xs ks zs) {i : Nat} {v : Value} (hi : zs[i]? = some v) : W.cell? ⟨w.heap.size + 2, i, none⟩ = some v := cellAt h.z hi
theorem B3.fz (h : B3 w W xs ks zs) (i : Nat) : W.frozen? ⟨w.heap.size, i, none⟩ = false := by simp [World.frozen?, h.r]
theorem B3.zfz (h : B3 w W xs ks zs) (i : Nat) : W.frozen? ⟨w.heap.size + 2, i, none⟩ = false := by simp [World.frozen?, h.z]
theorem B3.set (h : B3 w W xs ks zs) (i : Nat) (v : Value) : B3 w (W.setCell ⟨w.heap.size, i, none⟩ v) (xs.setIfInBounds i v) ks zs where
  below := h.below.setCell (p := ⟨w.heap.size, i, none⟩) (Nat.le_refl _) v
  r := by
    show (W.heap.modify w.heap.size _)[w.heap.size]? = _
    rw [Array.getElem?_modify, if_pos rfl, h.r]; rfl
  k := by rw [set_other (show w.heap.size ≠ w.heap.size + 1 by omega)]; exact h.k
  z := by rw [set_other (show w.heap.size ≠ w.heap.size + 2 by omega)]; exact h.z
theorem B3.zset (h : B3 w W xs ks zs) (i : Nat) (v : Value) : B3 w (W.setCell ⟨w.heap.size + 2, i, none⟩ v) xs ks (zs.setIfInBounds i v) where
  below := h.below.setCell (p := ⟨w.heap.size + 2, i, none⟩) (show w.heap.size ≤ w.heap.size + 2 by omega) v
  r := by rw [set_other (show w.heap.size + 2 ≠ w.heap.size by omega)]; exact h.r
  k := by rw [set_other (show w.heap.size + 2 ≠ w.heap.size + 1 by omega)]; exact h.k
  z := by
    show (W.heap.modify (w.heap.size + 2) _)[w.heap.size + 2]? = _
    rw [Array.getElem?_modify, if_pos rfl, h.z]; rfl
end
theorem FrAt.grown {W W' : World} {N : Nat} {v : Value} {xs : List Value} {row : Option Nat} (h : FrAt N W v xs) (hg : W.grownBy W' row) (hr : ∀ g, v.ownBlock = some g → row ≠ some g) : FrAt N W' v xs := by
  obtain ⟨base, cap, h1, h2, h3, h4⟩ := h
  refine ⟨base, cap, h1, h2, h3, fun b o e q u hu => ?_⟩
  obtain ⟨c1, c2, c3⟩ := h4 b o e q u hu
  have hb := hg.block b (World.block_lt_of_cell? _ _ c1) (fun e2 => hr b (by rw [h1, e]; rfl) e2.symm)
  refine ⟨?_, c2, ?_⟩
  · rw [show W'.cell? (mkA b (o + q)) = W.cell? (mkA b (o + q)) by simp [World.cell?, mkA, hb]]; exact c1
  · rw [World.frozen?_of_block hb]; exact c3
/-- the boxes, a row of pairs and a body of one's own -/
structure RS (w W : World) (xs ks zs : Array Value) (hv : Value) (n : Nat) (cells : List Value) (bv : Value) (bc : List Value) : Prop where
  b3 : B3 w W xs ks zs
  row : W.ownsRow (w.heap.size + 3) 47 2 hv n cells
  body : FrAt (w.heap.size + 3) W bv bc
  ap : Apart W hv bv
section
variable {w W W' : World} {xs ks zs : Array Value} {hv bv : Value} {n : Nat} {cells bc : List Value}
theorem RS.keep (h : RS w W xs ks zs hv n cells bv bc) (hB : Below W.heap.size W W') : RS w W' xs ks zs hv n cells bv bc :=
  ⟨h.b3.keep hB, own_keep h.row hB, h.body.below (Nat.le_refl _) hB, h.ap.size hB.size⟩
theorem RS.alloc (h : RS w W xs ks zs hv n cells bv bc) (o : Obj) : RS w (W.alloc o) xs ks zs hv n cells bv bc := h.keep ((Below.refl _ W).alloc (Nat.le_refl _) o)
theorem RS.drew (h : RS w W xs ks zs hv n cells bv bc) : RS w W.drew xs ks zs hv n cells bv bc := h.keep (below_drew (Below.refl _ W))
theorem RS.set (h : RS w W xs ks zs hv n cells bv bc) (i : Nat) (v : Value) : RS w (W.setCell ⟨w.heap.size, i, none⟩ v) (xs.setIfInBounds i v) ks zs hv n cells bv bc :=
  ⟨h.b3.set i v, row_other h.row (by omega), h.body.other (by omega), h.ap.size (by simp)⟩
theorem RS.zset (h : RS w W xs ks zs hv n cells bv bc) (i : Nat) (v : Value) : RS w (W.setCell ⟨w.heap.size + 2, i, none⟩ v) xs ks (zs.setIfInBounds i v) hv n cells bv bc :=
  ⟨h.b3.zset i v, row_other h.row (by omega), h.body.other (by omega), h.ap.size (by simp)⟩
theorem RS.grown (h : RS w W xs ks zs hv n cells bv bc) (hg : W.grownBy W' hv.ownBlock) {n' g cap : Nat} {cells' : List Value} (hr : W'.ownsRow (w.heap.size + 3) 47 2 (.slice (some ⟨g, 0, none⟩) n' cap) n' cells') (hl : hv.ownBlock = some g ∨ g = W.heap.size) :
    RS w W' xs ks zs (.slice (some ⟨g, 0, none⟩) n' cap) n' cells' bv bc := by
  have hlt : ∀ k, hv.ownBlock = some k → w.heap.size + 3 ≤ k := fun k e => (h.row.lt k e).1
  have hk : ∀ i, i < w.heap.size + 3 → W'.heap[i]? = W.heap[i]? := fun i hi => hg.block i (by have := h.b3.size; omega) (fun e => by have := hlt i e.symm; omega)
  refine ⟨⟨h.b3.below.grown hg h.b3.below.size (fun k e => by have := hlt k e; omega), (hk _ (by omega)).trans h.b3.r, (hk _ (by omega)).trans h.b3.k, (hk _ (by omega)).trans h.b3.z⟩, hr, h.body.grown hg (fun g e => (h.ap g e).2), fun k e => ?_⟩
  have hk := h.ap k e
  refine ⟨Nat.lt_of_lt_of_le hk.1 hg.size, fun e2 => ?_⟩
  have e3 : g = k := by simpa [Value.ownBlock] using e2
  subst e3
  rcases hl with e4 | e4
  · exact hk.2 e4
  · omega
end
/-- pairs are put behind a row, in a region that draws -/
theorem step_app_rs {ops : Array Oper} {o : Oper} {a : Act} {w W : World} {K : Act → World → Prop} {Q : Exit → Act → World → Prop} {E : Prop} (hg : o.guard = none) (s x : Operand)
    (ho : o.op = .call { callee := .builtin .append, args := #[s, x], argTypes := #[22, 22] }) {xs ks zs : Array Value} {hv : Value} {n : Nat} {cells : List Value} {bv : Value} {bc : List Value} (hs : a.eval s = hv) (h0 : RS w W xs ks zs hv n cells bv bc)
    (ad : Addr) (m : Nat) (news : List Value) (hx : a.eval x = .slice (some ad) m m) (hl : news.length = m * 2) (hnews : ∀ j u, news[j]? = some u → W.cell? (ad.add j) = some u) (h1 : ∀ u ∈ news, u.oneCell' = true) (hm : 0 < m) (hm2 : m ≤ 2) (hn : n ≤ 2097152)
    (h : ∀ g cap w', RS w w' xs ks zs (.slice (some ⟨g, 0, none⟩) (n + m) cap) (n + m) (cells ++ news) bv bc → K (a.put o.dst (.slice (some ⟨g, 0, none⟩) (n + m) cap)) w') :
    if Region.wanted o (yielded ops a.tmps) = true then Oper.wp Tryz.prog o a W K Q else E := by
  obtain ⟨i0, hi, hz0, hz1, hz2⟩ := info_parts i47
  refine step_append_lies W hg s x 22 ho (w.heap.size + 3) 47 i0 (.agg #[.string ⟨#[]⟩, .string ⟨#[]⟩]) 2 32 sl22 hi hz0 hz1 hz2 rfl (by decide) hv n cells hs h0.row ad m m news hx hl hnews h1 hm (by unfold maxLen; omega) (by omega) (by have := h0.b3.size; omega) _ rfl ?_
  intro g cap w' hr hgr hlie _
  exact h g cap w' (h0.grown hgr hr hlie)
theorem cells_new4 (W : World) (a b c d : Value) (t : TypeId) : ∀ (j : Nat) (u : Value), [a, b, c, d][j]? = some u → (W.alloc (.cells #[a, b, c, d] t)).cell? ((⟨W.heap.size, 0, none⟩ : Addr).add j) = some u := by
  intro j u hj
  match j, hj with
  | 0, hj => simp at hj; subst hj; simp [Addr.add]
  | 1, hj => simp at hj; subst hj; simp [Addr.add]
  | 2, hj => simp at hj; subst hj; simp [Addr.add]
  | 3, hj => simp at hj; subst hj; simp [Addr.add]
  | j + 4, hj => simp at hj
abbrev xdateV : Value := .string ⟨#[120, 45, 97, 109, 122, 45, 100, 97, 116, 101]⟩
abbrev xshaV : Value := .string ⟨#[120, 45, 97, 109, 122, 45, 99, 111, 110, 116, 101, 110, 116, 45, 115, 104, 97, 50, 53, 54]⟩
abbrev authVV : Value := .string ⟨#[97, 117, 116, 104, 111, 114, 105, 122, 97, 116, 105, 111, 110]⟩
abbrev scB : ByteArray := ⟨#[47, 117, 115, 45, 101, 97, 115, 116, 45, 49, 47, 115, 51, 47, 97, 119, 115, 52, 95, 114, 101, 113, 117, 101, 115, 116]⟩
abbrev unV : Value := .string ⟨#[117, 115, 45, 101, 97, 115, 116, 45, 49]⟩
abbrev s3V : Value := .string ⟨#[115, 51]⟩
/-- what is returned where a request is refused -/
abbrev badV (e : Int) : Value := .tuple #[.agg zq, .int .i64 e]
theorem res_rq {fn : Func} (h : fn.results = #[.cell 8 25, .tmp 9]) (tmps : Array Value) (W : World) (g : Nat) (cs : Array Value) (hp : tmps.getD 8 undef = .pointer (some ⟨g, 0, none⟩)) (hg : W.heap[g]? = some (.cells cs 25 (0, 0))) (h4 : cs.size = 4) :
    (results fn tmps).run Tryz.prog W = .ok (.tuple #[.agg cs, tmps.getD 9 undef]) W := by
  rw [results_cell_tmp h, hp]
  have hl := run_loadVar_row W g 25 25 cs (0, 0) _ hg Tryz.underlying25 rfl (by rw [h4]; exact sz25)
  simp [asAddr, hl]
theorem slAt_new3 (W : World) (a b c : Value) (t : TypeId) : SlAt (W.alloc (.cells #[a, b, c] t)) (.slice (some ⟨W.heap.size, 0, none⟩) 3 3) [a, b, c] :=
  ⟨some (W.heap.size, 0), 3, rfl, Nat.le_refl _, (fun e => by cases e), fun b' o e q u hu => by
    cases e
    match q, hu with
    | 0, hu => cases hu; simp [mkA]
    | 1, hu => cases hu; simp [mkA]
    | 2, hu => cases hu; simp [mkA]
    | q + 3, hu => simp at hu⟩
/-- the header's value -/
def auV (idb Y J G : ByteArray) : ByteArray := (((((((((⟨#[65, 87, 83, 52, 45, 72, 77, 65, 67, 45, 83, 72, 65, 50, 53, 54, 32, 67, 114, 101, 100, 101, 110, 116, 105, 97, 108, 61]⟩ : ByteArray) ++ idb) ++ ⟨#[47]⟩) ++ Y) ++ scB) ++ ⟨#[44, 83, 105, 103, 110, 101, 100, 72, 101, 97, 100, 101, 114, 115, 61]⟩) ++ J) ++ ⟨#[44, 83, 105, 103, 110, 97, 116, 117, 114, 101, 61]⟩) ++ G)
/-- the same, in a region that does not draw -/
theorem app_rs {ops : Array Oper} {rest : List Oper} {o : Oper} {a : Act} {w W : World} {Q : Exit → Act → World → Prop} (hg : o.guard = none) (s x : Operand)
    (ho : o.op = .call { callee := .builtin .append, args := #[s, x], argTypes := #[22, 22] }) {xs ks zs : Array Value} {hv : Value} {n : Nat} {cells : List Value} {bv : Value} {bc : List Value} (hs : a.eval s = hv) (h0 : RS w W xs ks zs hv n cells bv bc)
    (ad : Addr) (m : Nat) (news : List Value) (hx : a.eval x = .slice (some ad) m m) (hl : news.length = m * 2) (hnews : ∀ j u, news[j]? = some u → W.cell? (ad.add j) = some u) (h1 : ∀ u ∈ news, u.oneCell' = true) (hm : 0 < m) (hm2 : m ≤ 2) (hn : n ≤ 2097152)
    (h : ∀ g cap w', RS w w' xs ks zs (.slice (some ⟨g, 0, none⟩) (n + m) cap) (n + m) (cells ++ news) bv bc → wpList Tryz.prog ops Q rest (a.put o.dst (.slice (some ⟨g, 0, none⟩) (n + m) cap)) w') :
    wpList Tryz.prog ops Q (o :: rest) a W := by
  refine wpList_plain hg fun _ hK => ?_
  obtain ⟨i0, hi, hz0, hz1, hz2⟩ := info_parts i47
  refine wp_append_lies W s x 22 ho (w.heap.size + 3) 47 i0 (.agg #[.string ⟨#[]⟩, .string ⟨#[]⟩]) 2 32 sl22 hi hz0 hz1 hz2 rfl (by decide) hv n cells hs h0.row ad m m news hx hl hnews h1 hm (by unfold maxLen; omega) (by omega) (by have := h0.b3.size; omega) _ rfl ?_
  intro g cap w' hr hgr hlie _
  exact hK _ _ (h g cap w' (h0.grown hgr hr hlie))
theorem row_cap {W : World} {N : Nat} {e : TypeId} {sz g n cap : Nat} {xs : List Value} (h : W.ownsRow N e sz (.slice (some ⟨g, 0, none⟩) n cap) n xs) : n ≤ cap ∧ cap ≤ 9223372036854775807 := by
  rcases h.2 with ⟨h0, _⟩ | ⟨g', cap', cur, h0, hg, hc, h1, h2, h3, h4⟩
  · cases h0
  · simp only [Value.slice.injEq] at h0
    obtain ⟨_, _, rfl⟩ := h0
    exact ⟨h1, h2⟩
set_option maxHeartbeats 4000000 in
theorem header_bad1 (w : World) (ms ts idb scb plb : ByteArray) (hv bv : Value) (tm e0 : Int) (he : ¬ e0 = 0)
    (K17 : Hid (∀ W, Below w.heap.size w W → Calls Tryz.prog 17 #[.agg #[.string ms, .string ts, hv, bv], .agg #[.string idb, .string scb], .int .i64 tm] W fun e w' => e = .returned (.int .i64 e0) ∧ Below W.heap.size W w')) :
    Calls Tryz.prog 6 #[.agg #[.string ms, .string ts, hv, bv], .agg #[.string idb, .string scb], .int .i64 tm, .string plb] w fun e w' => e = .returned (badV e0) ∧ Below w.heap.size w w' := by
  go_enter Tryz.func6, Tryz.ntmps6
  have hb0 := B3.start w #[.string ms, .string ts, hv, bv] #[.string idb, .string scb]
  have HB0 : Hid (B3 w _ _ _ _) := hb0
  clear hb0
  go_wp2_with (go_at_call 17; refine (K17.out _ HB0.out.below).mono ?_; rintro e w2 ⟨rfl, hB⟩; have HB1 := HB0.out.keep hB; have y0 : w2.cell? ⟨w.heap.size + 2, 0, none⟩ = some (.string ⟨#[]⟩) := HB1.zcell rfl; have y1 : w2.cell? ⟨w.heap.size + 2, 1, none⟩ = some (.string ⟨#[]⟩) := HB1.zcell rfl; have y2 : w2.cell? ⟨w.heap.size + 2, 2, none⟩ = some (.slice none 0 0) := HB1.zcell rfl; have y3 : w2.cell? ⟨w.heap.size + 2, 3, none⟩ = some (.slice none 0 0) := HB1.zcell rfl; have q0 := HB1.zfz 0; have q1 := HB1.zfz 1; have q2 := HB1.zfz 2; have q3 := HB1.zfz 3; have HB2 : Hid (B3 w w2 _ _ _) := HB1; clear hB HB1)
  have HE := (((HB2.out.zset 0 (.string ⟨#[]⟩)).zset 1 (.string ⟨#[]⟩)).zset 2 (.slice none 0 0)).zset 3 (.slice none 0 0)
  exact bodyPost_ret (res_rq rfl _ _ _ _ rfl HE.z rfl) rfl ⟨rfl, HE.below⟩
set_option maxHeartbeats 4000000 in
theorem header_bad2 (w : World) (ms ts idb scb plb : ByteArray) (hv bv : Value) (tm : Int)
    (K17 : Hid (∀ W, Below w.heap.size w W → Calls Tryz.prog 17 #[.agg #[.string ms, .string ts, hv, bv], .agg #[.string idb, .string scb], .int .i64 tm] W fun e w' => e = .returned (.int .i64 0) ∧ Below W.heap.size W w'))
    (K18 : Hid (∀ W nv, Below w.heap.size w W → SlAt W nv [xdateV, xshaV, authVV] → Calls Tryz.prog 18 #[.agg #[.string ms, .string ts, hv, bv], nv] W fun e w' => e = .returned (.bool true) ∧ Below W.heap.size W w')) :
    Calls Tryz.prog 6 #[.agg #[.string ms, .string ts, hv, bv], .agg #[.string idb, .string scb], .int .i64 tm, .string plb] w fun e w' => e = .returned (badV 332) ∧ Below w.heap.size w w' := by
  go_enter Tryz.func6, Tryz.ntmps6
  have hb0 := B3.start w #[.string ms, .string ts, hv, bv] #[.string idb, .string scb]
  have HB0 : Hid (B3 w _ _ _ _) := hb0
  clear hb0
  go_wp2_with first
    | (go_at_call 17; refine (K17.out _ HB0.out.below).mono ?_; rintro e w2 ⟨rfl, hB⟩; have HB1 := HB0.out.keep hB; have c0 : w2.cell? ⟨w.heap.size, 0, none⟩ = some (.string ms) := HB1.cell rfl; have c1 : w2.cell? ⟨w.heap.size, 1, none⟩ = some (.string ts) := HB1.cell rfl; have c2 : w2.cell? ⟨w.heap.size, 2, none⟩ = some hv := HB1.cell rfl; have c3 : w2.cell? ⟨w.heap.size, 3, none⟩ = some bv := HB1.cell rfl; have HB2 : Hid (B3 w w2 _ _ _) := HB1; clear hB HB1)
    | (go_at_call 18; refine (K18.out _ _ (HB2.out.alloc _).below (slAt_new3 _ _ _ _ _)).mono ?_; rintro e w3 ⟨rfl, hB⟩; have HB3 := (HB2.out.alloc _).keep hB; have y0 : w3.cell? ⟨w.heap.size + 2, 0, none⟩ = some (.string ⟨#[]⟩) := HB3.zcell rfl; have y1 : w3.cell? ⟨w.heap.size + 2, 1, none⟩ = some (.string ⟨#[]⟩) := HB3.zcell rfl; have y2 : w3.cell? ⟨w.heap.size + 2, 2, none⟩ = some (.slice none 0 0) := HB3.zcell rfl; have y3 : w3.cell? ⟨w.heap.size + 2, 3, none⟩ = some (.slice none 0 0) := HB3.zcell rfl; have q0 := HB3.zfz 0; have q1 := HB3.zfz 1; have q2 := HB3.zfz 2; have q3 := HB3.zfz 3; have HB4 : Hid (B3 w w3 _ _ _) := HB3; clear hB HB3)
  have HE := (((HB4.out.zset 0 (.string ⟨#[]⟩)).zset 1 (.string ⟨#[]⟩)).zset 2 (.slice none 0 0)).zset 3 (.slice none 0 0)
  exact bodyPost_ret (res_rq rfl _ _ _ _ rfl HE.z rfl) rfl ⟨rfl, HE.below⟩
set_option maxHeartbeats 4000000 in
theorem header_bad3 (w : World) (ms ts idb scb plb D X : ByteArray) (hv bv : Value) (tm e0 : Int) (he : ¬ e0 = 0) (n : Nat) (cells bc nms : List Value) (hn : n ≤ 2097150)
    (K17 : Hid (∀ W, Below w.heap.size w W → Calls Tryz.prog 17 #[.agg #[.string ms, .string ts, hv, bv], .agg #[.string idb, .string scb], .int .i64 tm] W fun e w' => e = .returned (.int .i64 0) ∧ Below W.heap.size W w'))
    (K18 : Hid (∀ W nv, Below w.heap.size w W → SlAt W nv [xdateV, xshaV, authVV] → Calls Tryz.prog 18 #[.agg #[.string ms, .string ts, hv, bv], nv] W fun e w' => e = .returned (.bool false) ∧ Below W.heap.size W w'))
    (K19 : Hid (∀ W, Below w.heap.size w W → Calls Tryz.prog 19 #[.agg #[.string ms, .string ts, hv, bv]] W fun e w' => ∃ hv' bv', e = .returned (.agg #[.string ms, .string ts, hv', bv']) ∧ w'.ownsRow W.heap.size 47 2 hv' n cells ∧ FrAt W.heap.size w' bv' bc ∧ Apart w' hv' bv' ∧ Below W.heap.size W w'))
    (K20 : Hid (∀ W, Calls Tryz.prog 20 #[.int .i64 tm] W fun e w' => e = .returned (.string D) ∧ Below W.heap.size W w'))
    (K21 : Hid (∀ W hv' bv', W.ownsRow (w.heap.size + 3) 47 2 hv' (n + 2) (cells ++ [xdateV, .string D, xshaV, .string plb]) → Calls Tryz.prog 21 #[.agg #[.string ms, .string ts, hv', bv']] W fun e w' => ∃ v, e = .returned v ∧ SlAt w' v nms ∧ Below W.heap.size W w'))
    (K22 : Hid (∀ W hv' bv' nv, W.ownsRow (w.heap.size + 3) 47 2 hv' (n + 2) (cells ++ [xdateV, .string D, xshaV, .string plb]) → FrAt (w.heap.size + 3) W bv' bc → SlAt W nv nms → Calls Tryz.prog 22 #[.agg #[.string ms, .string ts, hv', bv'], nv, .string plb, .bool false] W fun e w' => e = .returned (.tuple #[.string X, .int .i64 e0]) ∧ Below W.heap.size W w')) :
    Calls Tryz.prog 6 #[.agg #[.string ms, .string ts, hv, bv], .agg #[.string idb, .string scb], .int .i64 tm, .string plb] w fun e w' => e = .returned (badV e0) ∧ Below w.heap.size w w' := by
  go_enter Tryz.func6, Tryz.ntmps6
  have hb0 := B3.start w #[.string ms, .string ts, hv, bv] #[.string idb, .string scb]
  have HB0 : Hid (B3 w _ _ _ _) := hb0
  clear hb0
  go_wp2_with first
    | (go_at_call 17; refine (K17.out _ HB0.out.below).mono ?_; rintro e w2 ⟨rfl, hB⟩; have HB1 := HB0.out.keep hB; have c0 : w2.cell? ⟨w.heap.size, 0, none⟩ = some (.string ms) := HB1.cell rfl; have c1 : w2.cell? ⟨w.heap.size, 1, none⟩ = some (.string ts) := HB1.cell rfl; have c2 : w2.cell? ⟨w.heap.size, 2, none⟩ = some hv := HB1.cell rfl; have c3 : w2.cell? ⟨w.heap.size, 3, none⟩ = some bv := HB1.cell rfl; have HB2 : Hid (B3 w w2 _ _ _) := HB1; clear hB HB1)
    | (go_at_call 18; refine (K18.out _ _ (HB2.out.alloc _).below (slAt_new3 _ _ _ _ _)).mono ?_; rintro e w3 ⟨rfl, hB⟩; have HB3 := (HB2.out.alloc _).keep hB; have d0 : w3.cell? ⟨w.heap.size, 0, none⟩ = some (.string ms) := HB3.cell rfl; have d1 : w3.cell? ⟨w.heap.size, 1, none⟩ = some (.string ts) := HB3.cell rfl; have d2 : w3.cell? ⟨w.heap.size, 2, none⟩ = some hv := HB3.cell rfl; have d3 : w3.cell? ⟨w.heap.size, 3, none⟩ = some bv := HB3.cell rfl; have HB4 : Hid (B3 w w3 _ _ _) := HB3; clear hB HB3 c0 c1 c2 c3)
    | (go_at_call 19; refine (K19.out _ HB4.out.below).mono ?_; rintro e w4 ⟨hv1, bv1, rfl, hr, hf, hap, hB⟩; obtain ⟨ha, hk, rfl⟩ := row_shape hr; obtain ⟨ba, bk, rfl⟩ := hf.len; have HB5 := HB4.out.keep hB; have d0 : w4.cell? ⟨w.heap.size, 0, none⟩ = some (.string ms) := HB5.cell rfl; have d1 : w4.cell? ⟨w.heap.size, 1, none⟩ = some (.string ts) := HB5.cell rfl; have d2 : w4.cell? ⟨w.heap.size, 2, none⟩ = some hv := HB5.cell rfl; have d3 : w4.cell? ⟨w.heap.size, 3, none⟩ = some bv := HB5.cell rfl; have f0 := HB5.fz 0; have f1 := HB5.fz 1; have f2 := HB5.fz 2; have f3 := HB5.fz 3; have HB6 : Hid (RS w w4 _ _ _ (.slice ha n hk) n cells (.slice ba bc.length bk) bc) := ⟨HB5, row_base hr (by have := HB4.out.size; omega), hf.base (by have := HB4.out.size; omega), hap⟩; clear hB HB5 hr hf hap)
  have HB7 : Hid (RS w ((((w4.setCell ⟨w.heap.size, 0, none⟩ (.string ms)).setCell ⟨w.heap.size, 1, none⟩ (.string ts)).setCell ⟨w.heap.size, 2, none⟩ (.slice ha n hk)).setCell ⟨w.heap.size, 3, none⟩ (.slice ba bc.length bk))
    #[.string ms, .string ts, .slice ha n hk, .slice ba bc.length bk] #[.string idb, .string scb] zq (.slice ha n hk) n cells (.slice ba bc.length bk) bc) := (((HB6.out.set 0 (.string ms)).set 1 (.string ts)).set 2 (.slice ha n hk)).set 3 (.slice ba bc.length bk)
  generalize ((((w4.setCell ⟨w.heap.size, 0, none⟩ (.string ms)).setCell ⟨w.heap.size, 1, none⟩ (.string ts)).setCell ⟨w.heap.size, 2, none⟩ (.slice ha n hk)).setCell ⟨w.heap.size, 3, none⟩ (.slice ba bc.length bk)) = W5 at HB7 ⊢
  clear HB0 HB2 HB4 HB6 d0 d1 d2 d3 f0 f1 f2 f3
  have c2 : W5.cell? ⟨w.heap.size, 2, none⟩ = some (.slice ha n hk) := HB7.out.b3.cell rfl
  go_region_law (first
    | (go_simp; go_at_call 20; refine (K20.out _).mono ?_; rintro e w6 ⟨rfl, hB⟩; have HB8 : Hid (RS w w6 _ _ _ (.slice ha n hk) n cells (.slice ba bc.length bk) bc) := HB7.out.drew.keep hB; have e2 : w6.cell? ⟨w.heap.size, 2, none⟩ = some (.slice ha n hk) := HB8.out.b3.cell rfl; have l6 : w.heap.size < w6.heap.size := by have := HB8.out.b3.size; omega
       clear hB)
    | (refine step_app_rs rfl (.tmp 32) (.tmp 38) rfl rfl (HB8.out.alloc _) ⟨w6.heap.size, 0, none⟩ 2 [xdateV, .string D, xshaV, .string plb] rfl rfl (cells_new4 _ _ _ _ _ _) (fun u hu => by simp at hu; rcases hu with rfl | rfl | rfl | rfl <;> rfl) (by omega) (by omega) (by omega) ?_; intro g2 k2 w7 hr7; have HB9 : Hid (RS w w7 _ _ _ (.slice (some ⟨g2, 0, none⟩) (n + 2) k2) (n + 2) (cells ++ [xdateV, .string D, xshaV, .string plb]) (.slice ba bc.length bk) bc) := hr7; have h2 : w7.cell? ⟨w.heap.size, 2, none⟩ = some (.slice ha n hk) := HB9.out.b3.cell rfl; have q2 := HB9.out.b3.fz 2; clear hr7))
  all_goals
    have HC : Hid (RS w (w7.setCell ⟨w.heap.size, 2, none⟩ (.slice (some ⟨g2, 0, none⟩) (n + 2) k2)) #[.string ms, .string ts, .slice (some ⟨g2, 0, none⟩) (n + 2) k2, .slice ba bc.length bk] #[.string idb, .string scb] zq (.slice (some ⟨g2, 0, none⟩) (n + 2) k2) (n + 2) (cells ++ [xdateV, .string D, xshaV, .string plb]) (.slice ba bc.length bk) bc) := HB9.out.set 2 _
    generalize (w7.setCell ⟨w.heap.size, 2, none⟩ (.slice (some ⟨g2, 0, none⟩) (n + 2) k2)) = W8 at HC ⊢
    generalize w6.heap.size = b6
    clear HB7 HB8 HB9 c2 e2 l6 h2 q2
    have c0 : W8.cell? ⟨w.heap.size, 0, none⟩ = some (.string ms) := HC.out.b3.cell rfl
    have c1 : W8.cell? ⟨w.heap.size, 1, none⟩ = some (.string ts) := HC.out.b3.cell rfl
    have c2 : W8.cell? ⟨w.heap.size, 2, none⟩ = some (.slice (some ⟨g2, 0, none⟩) (n + 2) k2) := HC.out.b3.cell rfl
    have c3 : W8.cell? ⟨w.heap.size, 3, none⟩ = some (.slice ba bc.length bk) := HC.out.b3.cell rfl
    go_wp2_with first
      | (go_at_call 21; refine (K21.out _ _ _ HC.out.row).mono ?_; rintro e w9 ⟨nv, rfl, hn9, hB⟩; have HD := HC.out.keep hB; have c0 : w9.cell? ⟨w.heap.size, 0, none⟩ = some (.string ms) := HD.b3.cell rfl; have c1 : w9.cell? ⟨w.heap.size, 1, none⟩ = some (.string ts) := HD.b3.cell rfl; have c2 : w9.cell? ⟨w.heap.size, 2, none⟩ = some (.slice (some ⟨g2, 0, none⟩) (n + 2) k2) := HD.b3.cell rfl; have c3 : w9.cell? ⟨w.heap.size, 3, none⟩ = some (.slice ba bc.length bk) := HD.b3.cell rfl; have HE : Hid (RS w w9 _ _ _ (.slice (some ⟨g2, 0, none⟩) (n + 2) k2) (n + 2) (cells ++ [xdateV, .string D, xshaV, .string plb]) (.slice ba bc.length bk) bc ∧ SlAt w9 nv nms) := ⟨HD, hn9⟩; clear hB HD hn9)
      | (go_at_call 22; refine (K22.out _ _ _ _ HE.out.1.row HE.out.1.body HE.out.2).mono ?_; rintro e w10 ⟨rfl, hB⟩; have HF : Hid (RS w w10 _ _ _ (.slice (some ⟨g2, 0, none⟩) (n + 2) k2) (n + 2) (cells ++ [xdateV, .string D, xshaV, .string plb]) (.slice ba bc.length bk) bc ∧ SlAt w10 nv nms) := ⟨HE.out.1.keep hB, HE.out.2.below (Nat.le_refl _) hB⟩; have y0 : w10.cell? ⟨w.heap.size + 2, 0, none⟩ = some (.string ⟨#[]⟩) := HF.out.1.b3.zcell rfl; have y1 : w10.cell? ⟨w.heap.size + 2, 1, none⟩ = some (.string ⟨#[]⟩) := HF.out.1.b3.zcell rfl; have y2 : w10.cell? ⟨w.heap.size + 2, 2, none⟩ = some (.slice none 0 0) := HF.out.1.b3.zcell rfl; have y3 : w10.cell? ⟨w.heap.size + 2, 3, none⟩ = some (.slice none 0 0) := HF.out.1.b3.zcell rfl; have z0 := HF.out.1.b3.zfz 0; have z1 := HF.out.1.b3.zfz 1; have z2 := HF.out.1.b3.zfz 2; have z3 := HF.out.1.b3.zfz 3; clear hB)
    have HM := (((HF.out.1.b3.zset 0 (.string ⟨#[]⟩)).zset 1 (.string ⟨#[]⟩)).zset 2 (.slice none 0 0)).zset 3 (.slice none 0 0)
    exact bodyPost_ret (res_rq rfl _ _ _ _ rfl HM.z rfl) rfl ⟨rfl, HM.below⟩
set_option maxHeartbeats 4000000 in
theorem header_good (w : World) (ms ts idb scb plb D Y X G J : ByteArray) (hv bv : Value) (tm : Int) (n : Nat) (cells bc nms kc : List Value) (hn : n ≤ 2097150) (hz : Hid (28 + idb.size + 1 + Y.size + 26 + 15 + J.size + 11 + G.size ≤ 1000000000))
    (K17 : Hid (∀ W, Below w.heap.size w W → Calls Tryz.prog 17 #[.agg #[.string ms, .string ts, hv, bv], .agg #[.string idb, .string scb], .int .i64 tm] W fun e w' => e = .returned (.int .i64 0) ∧ Below W.heap.size W w'))
    (K18 : Hid (∀ W nv, Below w.heap.size w W → SlAt W nv [xdateV, xshaV, authVV] → Calls Tryz.prog 18 #[.agg #[.string ms, .string ts, hv, bv], nv] W fun e w' => e = .returned (.bool false) ∧ Below W.heap.size W w'))
    (K19 : Hid (∀ W, Below w.heap.size w W → Calls Tryz.prog 19 #[.agg #[.string ms, .string ts, hv, bv]] W fun e w' => ∃ hv' bv', e = .returned (.agg #[.string ms, .string ts, hv', bv']) ∧ w'.ownsRow W.heap.size 47 2 hv' n cells ∧ FrAt W.heap.size w' bv' bc ∧ Apart w' hv' bv' ∧ Below W.heap.size W w'))
    (K20 : Hid (∀ W, Calls Tryz.prog 20 #[.int .i64 tm] W fun e w' => e = .returned (.string D) ∧ Below W.heap.size W w'))
    (K21 : Hid (∀ W hv' bv', W.ownsRow (w.heap.size + 3) 47 2 hv' (n + 2) (cells ++ [xdateV, .string D, xshaV, .string plb]) → Calls Tryz.prog 21 #[.agg #[.string ms, .string ts, hv', bv']] W fun e w' => ∃ v, e = .returned v ∧ SlAt w' v nms ∧ Below W.heap.size W w'))
    (K22 : Hid (∀ W hv' bv' nv, W.ownsRow (w.heap.size + 3) 47 2 hv' (n + 2) (cells ++ [xdateV, .string D, xshaV, .string plb]) → FrAt (w.heap.size + 3) W bv' bc → SlAt W nv nms → Calls Tryz.prog 22 #[.agg #[.string ms, .string ts, hv', bv'], nv, .string plb, .bool false] W fun e w' => e = .returned (.tuple #[.string X, .int .i64 0]) ∧ Below W.heap.size W w'))
    (K23 : Hid (∀ W, Calls Tryz.prog 23 #[.int .i64 tm] W fun e w' => e = .returned (.string Y) ∧ Below W.heap.size W w'))
    (K25 : Hid (∀ W, Calls Tryz.prog 25 #[.string scb, .string Y, unV, s3V] W fun e w' => ∃ v, e = .returned v ∧ SlAt w' v kc ∧ Below W.heap.size W w'))
    (K24 : Hid (∀ W v, SlAt W v kc → Calls Tryz.prog 24 #[v, .string D, .string (Y ++ scB), .string X] W fun e w' => e = .returned (.string G) ∧ Below W.heap.size W w'))
    (K26 : Hid (∀ W nv, SlAt W nv nms → Calls Tryz.prog 26 #[nv, .string ⟨#[59]⟩] W fun e w' => e = .returned (.string J) ∧ Below W.heap.size W w')) :
    Calls Tryz.prog 6 #[.agg #[.string ms, .string ts, hv, bv], .agg #[.string idb, .string scb], .int .i64 tm, .string plb] w fun e w' => ∃ g cap bv', e = .returned (.tuple #[.agg #[.string ms, .string ts, .slice (some ⟨g, 0, none⟩) (n + 2 + 1) (n + 2 + 1), bv'], .int .i64 0]) ∧
      w'.ownsRow w.heap.size 47 2 (.slice (some ⟨g, 0, none⟩) (n + 2 + 1) cap) (n + 2 + 1) (cells ++ [xdateV, .string D, xshaV, .string plb] ++ [authVV, .string (auV idb Y J G)]) ∧ FrAt w.heap.size w' bv' bc ∧ Below w.heap.size w w' := by
  go_enter Tryz.func6, Tryz.ntmps6
  have hb0 := B3.start w #[.string ms, .string ts, hv, bv] #[.string idb, .string scb]
  have HB0 : Hid (B3 w _ _ _ _) := hb0
  clear hb0
  go_wp2_with first
    | (go_at_call 17; refine (K17.out _ HB0.out.below).mono ?_; rintro e w2 ⟨rfl, hB⟩; have HB1 := HB0.out.keep hB; have c0 : w2.cell? ⟨w.heap.size, 0, none⟩ = some (.string ms) := HB1.cell rfl; have c1 : w2.cell? ⟨w.heap.size, 1, none⟩ = some (.string ts) := HB1.cell rfl; have c2 : w2.cell? ⟨w.heap.size, 2, none⟩ = some hv := HB1.cell rfl; have c3 : w2.cell? ⟨w.heap.size, 3, none⟩ = some bv := HB1.cell rfl; have HB2 : Hid (B3 w w2 _ _ _) := HB1; clear hB HB1)
    | (go_at_call 18; refine (K18.out _ _ (HB2.out.alloc _).below (slAt_new3 _ _ _ _ _)).mono ?_; rintro e w3 ⟨rfl, hB⟩; have HB3 := (HB2.out.alloc _).keep hB; have d0 : w3.cell? ⟨w.heap.size, 0, none⟩ = some (.string ms) := HB3.cell rfl; have d1 : w3.cell? ⟨w.heap.size, 1, none⟩ = some (.string ts) := HB3.cell rfl; have d2 : w3.cell? ⟨w.heap.size, 2, none⟩ = some hv := HB3.cell rfl; have d3 : w3.cell? ⟨w.heap.size, 3, none⟩ = some bv := HB3.cell rfl; have HB4 : Hid (B3 w w3 _ _ _) := HB3; clear hB HB3 c0 c1 c2 c3)
    | (go_at_call 19; refine (K19.out _ HB4.out.below).mono ?_; rintro e w4 ⟨hv1, bv1, rfl, hr, hf, hap, hB⟩; obtain ⟨ha, hk, rfl⟩ := row_shape hr; obtain ⟨ba, bk, rfl⟩ := hf.len; have HB5 := HB4.out.keep hB; have d0 : w4.cell? ⟨w.heap.size, 0, none⟩ = some (.string ms) := HB5.cell rfl; have d1 : w4.cell? ⟨w.heap.size, 1, none⟩ = some (.string ts) := HB5.cell rfl; have d2 : w4.cell? ⟨w.heap.size, 2, none⟩ = some hv := HB5.cell rfl; have d3 : w4.cell? ⟨w.heap.size, 3, none⟩ = some bv := HB5.cell rfl; have f0 := HB5.fz 0; have f1 := HB5.fz 1; have f2 := HB5.fz 2; have f3 := HB5.fz 3; have HB6 : Hid (RS w w4 _ _ _ (.slice ha n hk) n cells (.slice ba bc.length bk) bc) := ⟨HB5, row_base hr (by have := HB4.out.size; omega), hf.base (by have := HB4.out.size; omega), hap⟩; clear hB HB5 hr hf hap)
  have HB7 : Hid (RS w ((((w4.setCell ⟨w.heap.size, 0, none⟩ (.string ms)).setCell ⟨w.heap.size, 1, none⟩ (.string ts)).setCell ⟨w.heap.size, 2, none⟩ (.slice ha n hk)).setCell ⟨w.heap.size, 3, none⟩ (.slice ba bc.length bk))
    #[.string ms, .string ts, .slice ha n hk, .slice ba bc.length bk] #[.string idb, .string scb] zq (.slice ha n hk) n cells (.slice ba bc.length bk) bc) := (((HB6.out.set 0 (.string ms)).set 1 (.string ts)).set 2 (.slice ha n hk)).set 3 (.slice ba bc.length bk)
  generalize ((((w4.setCell ⟨w.heap.size, 0, none⟩ (.string ms)).setCell ⟨w.heap.size, 1, none⟩ (.string ts)).setCell ⟨w.heap.size, 2, none⟩ (.slice ha n hk)).setCell ⟨w.heap.size, 3, none⟩ (.slice ba bc.length bk)) = W5 at HB7 ⊢
  clear HB0 HB2 HB4 HB6 d0 d1 d2 d3 f0 f1 f2 f3
  have c2 : W5.cell? ⟨w.heap.size, 2, none⟩ = some (.slice ha n hk) := HB7.out.b3.cell rfl
  go_region_law (first
    | (go_simp; go_at_call 20; refine (K20.out _).mono ?_; rintro e w6 ⟨rfl, hB⟩; have HB8 : Hid (RS w w6 _ _ _ (.slice ha n hk) n cells (.slice ba bc.length bk) bc) := HB7.out.drew.keep hB; have e2 : w6.cell? ⟨w.heap.size, 2, none⟩ = some (.slice ha n hk) := HB8.out.b3.cell rfl; have l6 : w.heap.size < w6.heap.size := by have := HB8.out.b3.size; omega
       clear hB)
    | (refine step_app_rs rfl (.tmp 32) (.tmp 38) rfl rfl (HB8.out.alloc _) ⟨w6.heap.size, 0, none⟩ 2 [xdateV, .string D, xshaV, .string plb] rfl rfl (cells_new4 _ _ _ _ _ _) (fun u hu => by simp at hu; rcases hu with rfl | rfl | rfl | rfl <;> rfl) (by omega) (by omega) (by omega) ?_; intro g2 k2 w7 hr7; have HB9 : Hid (RS w w7 _ _ _ (.slice (some ⟨g2, 0, none⟩) (n + 2) k2) (n + 2) (cells ++ [xdateV, .string D, xshaV, .string plb]) (.slice ba bc.length bk) bc) := hr7; have h2 : w7.cell? ⟨w.heap.size, 2, none⟩ = some (.slice ha n hk) := HB9.out.b3.cell rfl; have q2 := HB9.out.b3.fz 2; clear hr7))
  all_goals
    have HC : Hid (RS w (w7.setCell ⟨w.heap.size, 2, none⟩ (.slice (some ⟨g2, 0, none⟩) (n + 2) k2)) #[.string ms, .string ts, .slice (some ⟨g2, 0, none⟩) (n + 2) k2, .slice ba bc.length bk] #[.string idb, .string scb] zq (.slice (some ⟨g2, 0, none⟩) (n + 2) k2) (n + 2) (cells ++ [xdateV, .string D, xshaV, .string plb]) (.slice ba bc.length bk) bc) := HB9.out.set 2 _
    generalize (w7.setCell ⟨w.heap.size, 2, none⟩ (.slice (some ⟨g2, 0, none⟩) (n + 2) k2)) = W8 at HC ⊢
    generalize w6.heap.size = b6
    clear HB7 HB8 HB9 c2 e2 l6 h2 q2
    have n1 : ¬ 9223372036854775807 < Y.size + 26 := by have := hz.out; omega
    have c0 : W8.cell? ⟨w.heap.size, 0, none⟩ = some (.string ms) := HC.out.b3.cell rfl
    have c1 : W8.cell? ⟨w.heap.size, 1, none⟩ = some (.string ts) := HC.out.b3.cell rfl
    have c2 : W8.cell? ⟨w.heap.size, 2, none⟩ = some (.slice (some ⟨g2, 0, none⟩) (n + 2) k2) := HC.out.b3.cell rfl
    have c3 : W8.cell? ⟨w.heap.size, 3, none⟩ = some (.slice ba bc.length bk) := HC.out.b3.cell rfl
    go_wp2_with first
      | (go_at_call 21; refine (K21.out _ _ _ HC.out.row).mono ?_; rintro e w9 ⟨nv, rfl, hn9, hB⟩; have HD := HC.out.keep hB; have c0 : w9.cell? ⟨w.heap.size, 0, none⟩ = some (.string ms) := HD.b3.cell rfl; have c1 : w9.cell? ⟨w.heap.size, 1, none⟩ = some (.string ts) := HD.b3.cell rfl; have c2 : w9.cell? ⟨w.heap.size, 2, none⟩ = some (.slice (some ⟨g2, 0, none⟩) (n + 2) k2) := HD.b3.cell rfl; have c3 : w9.cell? ⟨w.heap.size, 3, none⟩ = some (.slice ba bc.length bk) := HD.b3.cell rfl; have HE : Hid (RS w w9 _ _ _ (.slice (some ⟨g2, 0, none⟩) (n + 2) k2) (n + 2) (cells ++ [xdateV, .string D, xshaV, .string plb]) (.slice ba bc.length bk) bc ∧ SlAt w9 nv nms) := ⟨HD, hn9⟩; clear hB HD hn9)
      | (go_at_call 22; refine (K22.out _ _ _ _ HE.out.1.row HE.out.1.body HE.out.2).mono ?_; rintro e w10 ⟨rfl, hB⟩; have HF : Hid (RS w w10 _ _ _ (.slice (some ⟨g2, 0, none⟩) (n + 2) k2) (n + 2) (cells ++ [xdateV, .string D, xshaV, .string plb]) (.slice ba bc.length bk) bc ∧ SlAt w10 nv nms) := ⟨HE.out.1.keep hB, HE.out.2.below (Nat.le_refl _) hB⟩; clear hB)
      | (go_at_call 23; refine (K23.out _).mono ?_; rintro e w11 ⟨rfl, hB⟩; have HG : Hid (RS w w11 _ _ _ (.slice (some ⟨g2, 0, none⟩) (n + 2) k2) (n + 2) (cells ++ [xdateV, .string D, xshaV, .string plb]) (.slice ba bc.length bk) bc ∧ SlAt w11 nv nms) := ⟨HF.out.1.keep hB, HF.out.2.below (Nat.le_refl _) hB⟩; have k1 : w11.cell? ⟨w.heap.size + 1, 1, none⟩ = some (.string scb) := HG.out.1.b3.kcell rfl; clear hB)
      | (go_at_call 25; refine (K25.out _).mono ?_; rintro e w12 ⟨kv, rfl, hk12, hB⟩; have HH : Hid (RS w w12 _ _ _ (.slice (some ⟨g2, 0, none⟩) (n + 2) k2) (n + 2) (cells ++ [xdateV, .string D, xshaV, .string plb]) (.slice ba bc.length bk) bc ∧ SlAt w12 nv nms ∧ SlAt w12 kv kc) := ⟨HG.out.1.keep hB, HG.out.2.below (Nat.le_refl _) hB, hk12⟩; clear hB hk12)
      | (go_at_call 20; refine (K20.out _).mono ?_; rintro e w13 ⟨rfl, hB⟩; have HI : Hid (RS w w13 _ _ _ (.slice (some ⟨g2, 0, none⟩) (n + 2) k2) (n + 2) (cells ++ [xdateV, .string D, xshaV, .string plb]) (.slice ba bc.length bk) bc ∧ SlAt w13 nv nms ∧ SlAt w13 kv kc) := ⟨HH.out.1.keep hB, HH.out.2.1.below (Nat.le_refl _) hB, HH.out.2.2.below (Nat.le_refl _) hB⟩; clear hB)
      | (go_at_call 24; refine (K24.out _ _ HI.out.2.2).mono ?_; rintro e w14 ⟨rfl, hB⟩; have HJ : Hid (RS w w14 _ _ _ (.slice (some ⟨g2, 0, none⟩) (n + 2) k2) (n + 2) (cells ++ [xdateV, .string D, xshaV, .string plb]) (.slice ba bc.length bk) bc ∧ SlAt w14 nv nms) := ⟨HI.out.1.keep hB, HI.out.2.1.below (Nat.le_refl _) hB⟩; clear hB)
    clear n1
    have m1 : ¬ 9223372036854775807 < 28 + idb.size := by have := hz.out; omega
    have m2 : ¬ 9223372036854775807 < 28 + idb.size + 1 := by have := hz.out; omega
    have m3 : ¬ 9223372036854775807 < 28 + idb.size + 1 + Y.size := by have := hz.out; omega
    have m4 : ¬ 9223372036854775807 < 28 + idb.size + 1 + Y.size + 26 := by have := hz.out; omega
    have m5 : ¬ 9223372036854775807 < 28 + idb.size + 1 + Y.size + 26 + 15 := by have := hz.out; omega
    have m6 : ¬ 9223372036854775807 < 28 + idb.size + 1 + Y.size + 26 + 15 + J.size := by have := hz.out; omega
    have m7 : ¬ 9223372036854775807 < 28 + idb.size + 1 + Y.size + 26 + 15 + J.size + 11 := by have := hz.out; omega
    have m8 : ¬ 9223372036854775807 < 28 + idb.size + 1 + Y.size + 26 + 15 + J.size + 11 + G.size := by have := hz.out; omega
    have k0 : w14.cell? ⟨w.heap.size + 1, 0, none⟩ = some (.string idb) := HJ.out.1.b3.kcell rfl
    clear c0 c1 c2 c3 k1 HE HF HG HH HI HC
    go_region_law (go_simp; go_at_call 26; refine (K26.out _ _ (HJ.out.2.below (Nat.le_refl _) (below_drew (Below.refl _ _)))).mono ?_; rintro e w15 ⟨rfl, hB⟩; have HK : Hid (RS w w15 _ _ _ (.slice (some ⟨g2, 0, none⟩) (n + 2) k2) (n + 2) (cells ++ [xdateV, .string D, xshaV, .string plb]) (.slice ba bc.length bk) bc) := HJ.out.1.drew.keep hB; have k2' : w15.cell? ⟨w.heap.size + 1, 0, none⟩ = some (.string idb) := HK.out.b3.kcell rfl; have c2 : w15.cell? ⟨w.heap.size, 2, none⟩ = some (.slice (some ⟨g2, 0, none⟩) (n + 2) k2) := HK.out.b3.cell rfl; clear hB)
    all_goals
      clear m1 m2 m3 m4 m5 m6 m7 m8 k0 k2' K17 K18 K19 K20 K21 K22 K23 K24 K25 K26 HJ
      go_wp2_with first
        | (at_builtin; go_must (refine app_rs rfl (.tmp 81) (.tmp 84) rfl rfl (HK.out.alloc _) ⟨w15.heap.size, 0, none⟩ 1 [authVV, .string (auV idb Y J G)] rfl rfl (cell_two w15 _ _ _) (fun u hu => by simp at hu; rcases hu with rfl | rfl <;> rfl) (by omega) (by omega) (by omega) ?_; intro g3 k3 w16 hr16; have HL : Hid (RS w w16 _ _ _ (.slice (some ⟨g3, 0, none⟩) (n + 2 + 1) k3) (n + 2 + 1) (cells ++ [xdateV, .string D, xshaV, .string plb] ++ [authVV, .string (auV idb Y J G)]) (.slice ba bc.length bk) bc) := hr16; have h0 : w16.cell? ⟨w.heap.size, 0, none⟩ = some (.string ms) := HL.out.b3.cell rfl; have h1 : w16.cell? ⟨w.heap.size, 1, none⟩ = some (.string ts) := HL.out.b3.cell rfl; have h2 : w16.cell? ⟨w.heap.size, 2, none⟩ = some (.slice (some ⟨g2, 0, none⟩) (n + 2) k2) := HL.out.b3.cell rfl; have h3 : w16.cell? ⟨w.heap.size, 3, none⟩ = some (.slice ba bc.length bk) := HL.out.b3.cell rfl; have q2 := HL.out.b3.fz 2; have y0 : w16.cell? ⟨w.heap.size + 2, 0, none⟩ = some (.string ⟨#[]⟩) := HL.out.b3.zcell rfl; have y1 : w16.cell? ⟨w.heap.size + 2, 1, none⟩ = some (.string ⟨#[]⟩) := HL.out.b3.zcell rfl; have y2 : w16.cell? ⟨w.heap.size + 2, 2, none⟩ = some (.slice none 0 0) := HL.out.b3.zcell rfl; have y3 : w16.cell? ⟨w.heap.size + 2, 3, none⟩ = some (.slice none 0 0) := HL.out.b3.zcell rfl; have z0 := HL.out.b3.zfz 0; have z1 := HL.out.b3.zfz 1; have z2 := HL.out.b3.zfz 2; have z3 := HL.out.b3.zfz 3; clear hr16 c2))
        | (go_at_call 27; refine (clip27 _ _ _ _ (by have := (row_cap HL.out.row).1; omega) (row_cap HL.out.row).2).mono ?_; rintro e w17 ⟨rfl, rfl⟩)
      have HM := ((((HL.out.set 2 (.slice (some ⟨g3, 0, none⟩) (n + 2 + 1) (n + 2 + 1))).zset 0 (.string ms)).zset 1 (.string ts)).zset 2 (.slice (some ⟨g3, 0, none⟩) (n + 2 + 1) (n + 2 + 1))).zset 3 (.slice ba bc.length bk)
      exact bodyPost_ret (res_rq rfl _ _ _ _ rfl HM.b3.z rfl) rfl ⟨g3, k3, _, rfl, row_base HM.row (by omega), HM.body.base (by omega), HM.b3.below⟩
end Go.Proofs.YtdigohaeakclfaaGreatDoor
set_option maxRecDepth 100000
set_option linter.unusedVariables false
set_option linter.unusedSimpArgs false
namespace Go.Proofs.YtdigohaeakclfaaGreatDoor
open Go Go.Am

/-- a name is put into a rising list, once -/
def insU (x : List UInt8) : List (List UInt8) → List (List UInt8)
  | [] => [x]
  | y :: r => if ltL y x = true then y :: insU x r else if y = x then y :: r else x :: y :: r
def nmL (hd : List Hd) (i : Nat) : List (List UInt8) := (hd.take i).foldl (fun l p => insU p.1 l) []
theorem insU_at {x : List UInt8} : ∀ {l : List (List UInt8)} {k : Nat}, k ≤ l.length → (∀ j, j < k → ltL (l.getD j []) x = true) → insU x l = l.take k ++ insU x (l.drop k)
  | l, 0, _, _ => by simp
  | [], k + 1, h, _ => by simp at h
  | y :: r, k + 1, h, g => by
    have h0 : ltL y x = true := by have := g 0 (by omega); simpa using this
    have ih := insU_at (x := x) (l := r) (k := k) (by simp at h; omega) fun j hj => by have := g (j + 1) (by omega); simpa using this
    show (if ltL y x = true then y :: insU x r else _) = _
    rw [if_pos h0, ih]; simp
theorem insU_drop {l : List (List UInt8)} {k : Nat} (hk : k < l.length) : l.drop k = l.getD k [] :: l.drop (k + 1) := by
  rw [List.drop_eq_getElem_cons hk, List.getD_eq_getElem?_getD, List.getElem?_eq_getElem hk]; rfl
theorem insU_same {x : List UInt8} {l : List (List UInt8)} {k : Nat} (hk : k < l.length) (h : ∀ j, j < k → ltL (l.getD j []) x = true) (e : l.getD k [] = x) : insU x l = l := by
  rw [insU_at (Nat.le_of_lt hk) h, insU_drop hk]
  show _ ++ (if ltL (l.getD k []) x = true then _ else if l.getD k [] = x then l.getD k [] :: l.drop (k + 1) else _) = _
  rw [if_neg (by rw [e, ltL_irr]; exact Bool.false_ne_true), if_pos e, ← insU_drop hk, List.take_append_drop]
theorem insU_new {x : List UInt8} {l : List (List UInt8)} {k : Nat} (hk : k < l.length) (h : ∀ j, j < k → ltL (l.getD j []) x = true) (g : ltL (l.getD k []) x = false) (e : l.getD k [] ≠ x) : insU x l = l.take k ++ [x] ++ l.drop k := by
  rw [insU_at (Nat.le_of_lt hk) h, insU_drop hk]
  show _ ++ (if ltL (l.getD k []) x = true then _ else if l.getD k [] = x then _ else x :: l.getD k [] :: l.drop (k + 1)) = _
  rw [if_neg (by rw [g]; exact Bool.false_ne_true), if_neg e]; simp
theorem insU_end {x : List UInt8} {l : List (List UInt8)} (h : ∀ j, j < l.length → ltL (l.getD j []) x = true) : insU x l = l.take l.length ++ [x] ++ l.drop l.length := by
  rw [insU_at (Nat.le_refl _) h]; simp [insU]
theorem insU_end2 {x : List UInt8} {l : List (List UInt8)} {k : Nat} (h1 : l.length ≤ k) (h2 : k ≤ l.length) (h : ∀ j, j < k → ltL (l.getD j []) x = true) : insU x l = l.take k ++ [x] ++ l.drop k := by
  obtain rfl : k = l.length := by omega
  exact insU_end h
theorem nmL_succ {hd : List Hd} {i : Nat} (hi : i < hd.length) : nmL hd (i + 1) = insU (hd.getD i ([], [])).1 (nmL hd i) := by
  unfold nmL
  rw [take_snoc ([], []) hi, List.foldl_append]; rfl
theorem insU_len (x : List UInt8) : ∀ l : List (List UInt8), (insU x l).length ≤ l.length + 1
  | [] => by simp [insU]
  | y :: r => by unfold insU; have := insU_len x r; split <;> (try split) <;> simp <;> omega
theorem nmL_len (hd : List Hd) : ∀ i, i ≤ hd.length → (nmL hd i).length ≤ i
  | 0, _ => by simp [nmL]
  | i + 1, h => by rw [nmL_succ (by omega)]; have := insU_len (hd.getD i ([], [])).1 (nmL hd i); have := nmL_len hd i (by omega); omega
theorem ins_imp {l : List (List UInt8)} {k : Nat} {x : List UInt8} {L' : List (List UInt8)} (hk : k ≤ l.length) (hL : L' = l.take k ++ [x] ++ l.drop k) (o : Bool) :
    Imp (.sl 1 (0 + ((k : Int).toNat - Int.toNat 0) + 1 + ((l.length : Int).toNat - (k : Int).toNat)) (apEl (0 + ((k : Int).toNat - Int.toNat 0) + 1) (apEl (0 + ((k : Int).toNat - Int.toNat 0)) (apEl 0 (fun _ => .bad) fun i => strEl l (Int.toNat 0 + i)) (elOf false 1 [.str x])) (fun i => strEl l ((k : Int).toNat + i))) o) (.sl 1 L'.length (strEl L') o) := by
  subst hL
  have e : 0 + ((k : Int).toNat - Int.toNat 0) = k := by simp
  rw [e]
  refine Imp.slEq (by simp; omega) fun i hi => ?_
  have hkl : (l.take k).length = k := by rw [List.length_take]; omega
  rcases Nat.lt_trichotomy i k with h | h | h
  · rw [apEl_lt (by omega), apEl_lt h, apEl_ge (Nat.zero_le _)]
    show AV.str _ = AV.str _
    rw [List.append_assoc, List.getD_eq_getElem?_getD, List.getElem?_append_left (by omega), List.getElem?_take_of_lt h, List.getD_eq_getElem?_getD]
    simp
  · subst h
    rw [apEl_lt (by omega), apEl_ge (Nat.le_refl _)]
    show AV.str _ = _
    rw [List.append_assoc, List.getD_eq_getElem?_getD, List.getElem?_append_right (by omega), hkl]
    simp [elOf]
  · rw [apEl_ge (by omega)]
    show AV.str _ = AV.str _
    rw [List.getD_eq_getElem?_getD, List.getElem?_append_right (by simp; omega), List.getElem?_drop, List.getD_eq_getElem?_getD]
    congr 3
    simp; omega

theorem namesOf_ok (hd : List Hd) (hl : hd.length ≤ 2097153) : FnOK Tryz.prog 29 [.sl 2 hd.length (hdEl hd) false] [] (.sl 1 (nmL hd hd.length).length (strEl (nmL hd hd.length)) false) [] := by
  refine FnOK.of_runs Tryz.func29 rfl (Nat.le_of_ble_eq_true rfl) ?_
  refine Runs.seq ?_
  refine Runs.reg [] [] rfl (by (try simp only [wrap_i64', wrap_u8, wrap_u16, wrap_u32, wrap_u64, wrap_i32, List.length_cons, List.length_nil, List.length_append, List.length_map, tmodN, tdivN]); and_intros <;> first | exact True.intro | omega | skip) ?_
  refine Runs.seq ?_
  refine Runs.reg [] [] rfl (by (try simp only [wrap_i64', wrap_u8, wrap_u16, wrap_u32, wrap_u64, wrap_i32, List.length_cons, List.length_nil, List.length_append, List.length_map, tmodN, tdivN]); and_intros <;> first | exact True.intro | omega | skip) ?_
  refine Runs.seq ?_
  refine Runs.seq ?_
  refine Runs.reg [] [] rfl (by (try simp only [wrap_i64', wrap_u8, wrap_u16, wrap_u32, wrap_u64, wrap_i32, List.length_cons, List.length_nil, List.length_append, List.length_map, tmodN, tdivN]); and_intros <;> first | exact True.intro | omega | skip) ?_
  refine Runs.block ?_
  -- loop 0
  refine Runs.loopF (σ := Nat) (fun i => i ≤ hd.length) (fun i => [(0, .sl 2 hd.length (hdEl hd) false), (3, .sl 1 (nmL hd i).length (strEl (nmL hd i)) true), (4, .int .i64 i)]) (fun _ => []) (fun i => hd.length - i) (0) (by exact Nat.zero_le _) (by exact agree_cons rfl (by first | with_reducible rfl | (refine congrArg (AV.int _) ?_; (try simp only [wrap_i64', wrap_u8, wrap_u16, wrap_u32, wrap_u64, wrap_i32, List.length_cons, List.length_nil, List.length_append, List.length_map, tmodN, tdivN]); omega) | rfl | skip) (agree_imp rfl (by exact Imp.slEq rfl (fun i hi => absurd hi (Nat.not_lt_zero _))) rfl rfl (agree_cons rfl (by first | with_reducible rfl | (refine congrArg (AV.int _) ?_; (try simp only [wrap_i64', wrap_u8, wrap_u16, wrap_u32, wrap_u64, wrap_i32, List.length_cons, List.length_nil, List.length_append, List.length_map, tmodN, tdivN]); omega) | rfl | skip) (trivial)))) (by rfl) (fun i hi ih => ?_)
  replace hi : i ≤ hd.length := hi; have hnl := nmL_len hd i hi
  refine Runs.seq ?_
  refine Runs.seq ?_
  refine Runs.reg [] [0, 1] rfl (by and_intros <;> first | exact True.intro | omega | (intro x hx; cases hx) | (simp only [List.map_nil, List.length_nil]; omega) | skip) ?_
  refine Runs.condS rfl (fun g10 => ?_) (fun g10 => ?_)
  · try simp only [decide_eq_true_eq, decide_eq_false_iff_not, notT, notF, beq_iff_eq, beq_eq_false_iff_ne, bne_iff_ne, bne_eq_false_iff_eq, tmodN, tdivN, Int.not_lt, Int.not_le] at g10
    refine Runs.skip ?_
    refine Runs.seq ?_
    refine Runs.block ?_
    refine Runs.seq ?_
    refine Runs.reg [] [] rfl (by (try simp only [wrap_i64', wrap_u8, wrap_u16, wrap_u32, wrap_u64, wrap_i32, List.length_cons, List.length_nil, List.length_append, List.length_map, tmodN, tdivN]); and_intros <;> first | exact True.intro | omega | skip) ?_
    refine Runs.seq ?_
    refine Runs.block ?_
    -- loop 1
    refine Runs.loopF (σ := Nat) (fun k => k ≤ (nmL hd i).length ∧ ∀ j, j < k → ltL ((nmL hd i).getD j []) (hd.getD i ([], [])).1 = true) (fun k => [(0, .sl 2 hd.length (hdEl hd) false), (3, .sl 1 (nmL hd i).length (strEl (nmL hd i)) true), (4, .int .i64 i), (5, .int .i64 k)]) (fun _ => []) (fun k => (nmL hd i).length - k) (0) (by exact ⟨Nat.zero_le _, fun j h => absurd h (Nat.not_lt_zero _)⟩) (by exact agree_cons rfl (by first | with_reducible rfl | (refine congrArg (AV.int _) ?_; (try simp only [wrap_i64', wrap_u8, wrap_u16, wrap_u32, wrap_u64, wrap_i32, List.length_cons, List.length_nil, List.length_append, List.length_map, tmodN, tdivN]); omega) | rfl | skip) (agree_cons rfl (by first | with_reducible rfl | (refine congrArg (AV.int _) ?_; (try simp only [wrap_i64', wrap_u8, wrap_u16, wrap_u32, wrap_u64, wrap_i32, List.length_cons, List.length_nil, List.length_append, List.length_map, tmodN, tdivN]); omega) | rfl | skip) (agree_cons rfl (by first | with_reducible rfl | (refine congrArg (AV.int _) ?_; (try simp only [wrap_i64', wrap_u8, wrap_u16, wrap_u32, wrap_u64, wrap_i32, List.length_cons, List.length_nil, List.length_append, List.length_map, tmodN, tdivN]); omega) | rfl | skip) (agree_cons rfl (by first | with_reducible rfl | (refine congrArg (AV.int _) ?_; (try simp only [wrap_i64', wrap_u8, wrap_u16, wrap_u32, wrap_u64, wrap_i32, List.length_cons, List.length_nil, List.length_append, List.length_map, tmodN, tdivN]); omega) | rfl | skip) (trivial))))) (by rfl) (fun k hk kh => ?_)
    replace hk : k ≤ (nmL hd i).length ∧ ∀ j, j < k → ltL ((nmL hd i).getD j []) (hd.getD i ([], [])).1 = true := hk; have hk1 := hk.1
    refine Runs.seq ?_
    refine Runs.seq ?_
    rcases Nat.lt_or_ge k (nmL hd i).length with hkl | hkl
    · skip
      refine Runs.regD [(3, { res := .bool true })] [0, 1, 5, 6, 9, 10] rfl rfl rfl (by and_intros <;> first | exact True.intro | omega | exact congrArg AV.bool (decide_eq_true (by omega)) | exact congrArg AV.bool (decide_eq_false (by omega)) | skip) ?_
      refine Runs.condS rfl (fun g28 => ?_) (fun g28 => ?_)
      · try simp only [decide_eq_true_eq, decide_eq_false_iff_not, notT, notF, beq_iff_eq, beq_eq_false_iff_ne, bne_iff_ne, bne_eq_false_iff_eq, tmodN, tdivN, Int.not_lt, Int.not_le] at g28
        refine Runs.skip ?_
        refine Runs.block ?_
        refine Runs.reg [] [] rfl (by (try simp only [wrap_i64', wrap_u8, wrap_u16, wrap_u32, wrap_u64, wrap_i32, List.length_cons, List.length_nil, List.length_append, List.length_map, tmodN, tdivN]); and_intros <;> first | exact True.intro | omega | skip) ?_
        refine Runs.inBlock ?_
        exact kh (k + 1) _ _ (by exact ⟨by omega, fun j hj => by rcases Nat.lt_or_ge j k with h | h; exact hk.2 j h; (rw [show j = k by omega]; exact g28)⟩) (by omega) (by exact agree_cons rfl (by first | with_reducible rfl | (refine congrArg (AV.int _) ?_; (try simp only [wrap_i64', wrap_u8, wrap_u16, wrap_u32, wrap_u64, wrap_i32, List.length_cons, List.length_nil, List.length_append, List.length_map, tmodN, tdivN]); omega) | rfl | skip) (agree_cons rfl (by first | with_reducible rfl | (refine congrArg (AV.int _) ?_; (try simp only [wrap_i64', wrap_u8, wrap_u16, wrap_u32, wrap_u64, wrap_i32, List.length_cons, List.length_nil, List.length_append, List.length_map, tmodN, tdivN]); omega) | rfl | skip) (agree_cons rfl (by first | with_reducible rfl | (refine congrArg (AV.int _) ?_; (try simp only [wrap_i64', wrap_u8, wrap_u16, wrap_u32, wrap_u64, wrap_i32, List.length_cons, List.length_nil, List.length_append, List.length_map, tmodN, tdivN]); omega) | rfl | skip) (agree_cons rfl (by first | with_reducible rfl | (refine congrArg (AV.int _) ?_; (try simp only [wrap_i64', wrap_u8, wrap_u16, wrap_u32, wrap_u64, wrap_i32, List.length_cons, List.length_nil, List.length_append, List.length_map, tmodN, tdivN]); omega) | rfl | skip) (trivial))))) (by rfl)
      · try simp only [decide_eq_true_eq, decide_eq_false_iff_not, notT, notF, beq_iff_eq, beq_eq_false_iff_ne, bne_iff_ne, bne_eq_false_iff_eq, tmodN, tdivN, Int.not_lt, Int.not_le] at g28
        refine Runs.exit rfl ?_
        refine Runs.seq ?_
        refine Runs.seq ?_
        refine Runs.regD [(3, { res := .bool true })] [0, 1, 5, 6, 9, 10] rfl rfl rfl (by and_intros <;> first | exact True.intro | omega | exact congrArg AV.bool (decide_eq_true (by omega)) | exact congrArg AV.bool (decide_eq_false (by omega)) | skip) ?_
        refine Runs.condS rfl (fun g46 => ?_) (fun g46 => ?_)
        · try simp only [decide_eq_true_eq, decide_eq_false_iff_not, notT, notF, beq_iff_eq, beq_eq_false_iff_ne, bne_iff_ne, bne_eq_false_iff_eq, tmodN, tdivN, Int.not_lt, Int.not_le] at g46
          refine Runs.exit rfl ?_
          refine Runs.reg [] [] rfl (by and_intros <;> first | exact True.intro | omega | (intro x hx; cases hx) | (simp only [List.map_nil, List.length_nil]; omega) | skip) ?_
          exact ih (i + 1) _ _ (by show i + 1 ≤ hd.length; omega) (by omega) (by exact agree_cons rfl (by first | with_reducible rfl | (refine congrArg (AV.int _) ?_; (try simp only [wrap_i64', wrap_u8, wrap_u16, wrap_u32, wrap_u64, wrap_i32, List.length_cons, List.length_nil, List.length_append, List.length_map, tmodN, tdivN]); omega) | rfl | skip) (agree_imp rfl (by first | (rw [nmL_succ (show i < hd.length by omega), insU_same hkl hk.2 g46]; exact Imp.refl _) | (rw [nmL_succ (show i < hd.length by omega), insU_new hkl hk.2 g28 g46]; exact ins_imp hk1 rfl true) | (rw [nmL_succ (show i < hd.length by omega), insU_end2 hkl hk1 hk.2]; exact ins_imp hk1 rfl true)) rfl rfl (agree_cons rfl (by first | with_reducible rfl | (refine congrArg (AV.int _) ?_; (try simp only [wrap_i64', wrap_u8, wrap_u16, wrap_u32, wrap_u64, wrap_i32, List.length_cons, List.length_nil, List.length_append, List.length_map, tmodN, tdivN]); omega) | rfl | skip) (trivial)))) (by rfl)
        · try simp only [decide_eq_true_eq, decide_eq_false_iff_not, notT, notF, beq_iff_eq, beq_eq_false_iff_ne, bne_iff_ne, bne_eq_false_iff_eq, tmodN, tdivN, Int.not_lt, Int.not_le] at g46
          refine Runs.skip ?_
          refine Runs.seq ?_
          refine Runs.reg [] [] rfl (by (try simp only [wrap_i64', wrap_u8, wrap_u16, wrap_u32, wrap_u64, wrap_i32, List.length_cons, List.length_nil, List.length_append, List.length_map, tmodN, tdivN]); and_intros <;> first | exact True.intro | omega | skip) ?_
          refine Runs.seq ?_
          refine Runs.reg [] [1, 2] rfl (by and_intros <;> first | exact True.intro | omega | (intro x hx; cases hx) | (simp only [List.map_nil, List.length_nil]; omega) | skip) ?_
          refine Runs.seq ?_
          refine Runs.reg [] [1, 2] rfl (by and_intros <;> first | exact True.intro | omega | (intro x hx; cases hx) | (simp only [List.map_nil, List.length_nil]; omega) | skip) ?_
          refine Runs.reg [] [1, 2] rfl (by and_intros <;> first | exact True.intro | omega | (intro x hx; cases hx) | (simp only [List.map_nil, List.length_nil]; omega) | skip) ?_
          refine Runs.inBlock ?_
          refine Runs.reg [] [] rfl (by and_intros <;> first | exact True.intro | omega | (intro x hx; cases hx) | (simp only [List.map_nil, List.length_nil]; omega) | skip) ?_
          exact ih (i + 1) _ _ (by show i + 1 ≤ hd.length; omega) (by omega) (by exact agree_cons rfl (by first | with_reducible rfl | (refine congrArg (AV.int _) ?_; (try simp only [wrap_i64', wrap_u8, wrap_u16, wrap_u32, wrap_u64, wrap_i32, List.length_cons, List.length_nil, List.length_append, List.length_map, tmodN, tdivN]); omega) | rfl | skip) (agree_imp rfl (by first | (rw [nmL_succ (show i < hd.length by omega), insU_same hkl hk.2 g46]; exact Imp.refl _) | (rw [nmL_succ (show i < hd.length by omega), insU_new hkl hk.2 g28 g46]; exact ins_imp hk1 rfl true) | (rw [nmL_succ (show i < hd.length by omega), insU_end2 hkl hk1 hk.2]; exact ins_imp hk1 rfl true)) rfl rfl (agree_cons rfl (by first | with_reducible rfl | (refine congrArg (AV.int _) ?_; (try simp only [wrap_i64', wrap_u8, wrap_u16, wrap_u32, wrap_u64, wrap_i32, List.length_cons, List.length_nil, List.length_append, List.length_map, tmodN, tdivN]); omega) | rfl | skip) (trivial)))) (by rfl)
    · skip
      refine Runs.regD [(3, { res := .bool false })] [0, 1, 5, 6, 9, 10] rfl rfl rfl (by and_intros <;> first | exact True.intro | omega | exact congrArg AV.bool (decide_eq_true (by omega)) | exact congrArg AV.bool (decide_eq_false (by omega)) | skip) ?_
      refine Runs.condF rfl ?_
      refine Runs.exit rfl ?_
      refine Runs.seq ?_
      refine Runs.seq ?_
      refine Runs.regD [(3, { res := .bool false })] [0, 1, 5, 6, 9, 10] rfl rfl rfl (by and_intros <;> first | exact True.intro | omega | exact congrArg AV.bool (decide_eq_true (by omega)) | exact congrArg AV.bool (decide_eq_false (by omega)) | skip) ?_
      refine Runs.condF rfl ?_
      refine Runs.skip ?_
      refine Runs.seq ?_
      refine Runs.reg [] [] rfl (by (try simp only [wrap_i64', wrap_u8, wrap_u16, wrap_u32, wrap_u64, wrap_i32, List.length_cons, List.length_nil, List.length_append, List.length_map, tmodN, tdivN]); and_intros <;> first | exact True.intro | omega | skip) ?_
      refine Runs.seq ?_
      refine Runs.reg [] [1, 2] rfl (by and_intros <;> first | exact True.intro | omega | (intro x hx; cases hx) | (simp only [List.map_nil, List.length_nil]; omega) | skip) ?_
      refine Runs.seq ?_
      refine Runs.reg [] [1, 2] rfl (by and_intros <;> first | exact True.intro | omega | (intro x hx; cases hx) | (simp only [List.map_nil, List.length_nil]; omega) | skip) ?_
      refine Runs.reg [] [1, 2] rfl (by and_intros <;> first | exact True.intro | omega | (intro x hx; cases hx) | (simp only [List.map_nil, List.length_nil]; omega) | skip) ?_
      refine Runs.inBlock ?_
      refine Runs.reg [] [] rfl (by and_intros <;> first | exact True.intro | omega | (intro x hx; cases hx) | (simp only [List.map_nil, List.length_nil]; omega) | skip) ?_
      exact ih (i + 1) _ _ (by show i + 1 ≤ hd.length; omega) (by omega) (by exact agree_cons rfl (by first | with_reducible rfl | (refine congrArg (AV.int _) ?_; (try simp only [wrap_i64', wrap_u8, wrap_u16, wrap_u32, wrap_u64, wrap_i32, List.length_cons, List.length_nil, List.length_append, List.length_map, tmodN, tdivN]); omega) | rfl | skip) (agree_imp rfl (by first | (rw [nmL_succ (show i < hd.length by omega), insU_same hkl hk.2 g46]; exact Imp.refl _) | (rw [nmL_succ (show i < hd.length by omega), insU_new hkl hk.2 g28 g46]; exact ins_imp hk1 rfl true) | (rw [nmL_succ (show i < hd.length by omega), insU_end2 hkl hk1 hk.2]; exact ins_imp hk1 rfl true)) rfl rfl (agree_cons rfl (by first | with_reducible rfl | (refine congrArg (AV.int _) ?_; (try simp only [wrap_i64', wrap_u8, wrap_u16, wrap_u32, wrap_u64, wrap_i32, List.length_cons, List.length_nil, List.length_append, List.length_map, tmodN, tdivN]); omega) | rfl | skip) (trivial)))) (by rfl)
  · try simp only [decide_eq_true_eq, decide_eq_false_iff_not, notT, notF, beq_iff_eq, beq_eq_false_iff_ne, bne_iff_ne, bne_eq_false_iff_eq, tmodN, tdivN, Int.not_lt, Int.not_le] at g10
    refine Runs.exit rfl ?_
    refine Runs.seq ?_
    refine Runs.reg [] [0] rfl (by (try simp only [wrap_i64', wrap_u8, wrap_u16, wrap_u32, wrap_u64, wrap_i32, List.length_cons, List.length_nil, List.length_append, List.length_map, tmodN, tdivN]); and_intros <;> first | exact True.intro | omega | skip) ?_
    exact Runs.retH Tryz.func29 rfl rfl (by rw [show i = hd.length by omega]) (by rfl)

end Go.Proofs.YtdigohaeakclfaaGreatDoor
set_option maxRecDepth 100000
set_option linter.unusedVariables false
namespace Go.Proofs.YtdigohaeakclfaaGreatDoor
open Go Go.Am
/-- rising, none twice -/
def SS (l : List (List UInt8)) : Prop := l.Pairwise fun a b => ltL a b = true
theorem ss_ext : ∀ {l l' : List (List UInt8)}, SS l → SS l' → (∀ x, x ∈ l ↔ x ∈ l') → l = l'
  | [], [], _, _, _ => rfl
  | [], b :: r, _, _, h => absurd ((h b).2 (List.mem_cons_self ..)) (by simp)
  | a :: l, [], _, _, h => absurd ((h a).1 (List.mem_cons_self ..)) (by simp)
  | a :: l, b :: r, h1, h2, h => by
    obtain ⟨p1, q1⟩ := List.pairwise_cons.1 h1
    obtain ⟨p2, q2⟩ := List.pairwise_cons.1 h2
    have e : a = b := by
      rcases List.mem_cons.1 ((h a).1 (List.mem_cons_self ..)) with e | e
      · exact e
      · rcases List.mem_cons.1 ((h b).2 (List.mem_cons_self ..)) with e' | e'
        · exact e'.symm
        · have := ltL_as (p1 b e'); rw [p2 a e] at this; cases this
    subst e
    congr 1
    refine ss_ext q1 q2 fun x => ⟨fun hx => ?_, fun hx => ?_⟩
    · rcases List.mem_cons.1 ((h x).1 (List.mem_cons_of_mem _ hx)) with e | e
      · subst e; have := p1 x hx; rw [ltL_irr] at this; cases this
      · exact e
    · rcases List.mem_cons.1 ((h x).2 (List.mem_cons_of_mem _ hx)) with e | e
      · subst e; have := p2 x hx; rw [ltL_irr] at this; cases this
      · exact e
theorem insU_mem {x z : List UInt8} : ∀ {l : List (List UInt8)}, z ∈ insU x l ↔ z = x ∨ z ∈ l
  | [] => by simp [insU]
  | y :: r => by
    unfold insU
    split
    · rw [List.mem_cons, insU_mem (l := r), List.mem_cons]
      constructor <;> (rintro (h | h | h) <;> simp [h])
    · split
      · rename_i e; subst e
        simp
      · simp
theorem insU_ss {x : List UInt8} : ∀ {l : List (List UInt8)}, SS l → SS (insU x l)
  | [], _ => by simp [insU, SS]
  | y :: r, h => by
    obtain ⟨p, q⟩ := List.pairwise_cons.1 h
    unfold insU
    split
    · rename_i g
      refine List.pairwise_cons.2 ⟨fun z hz => ?_, insU_ss q⟩
      rcases insU_mem.1 hz with e | e
      · rw [e]; exact g
      · exact p z e
    · rename_i g
      split
      · exact h
      · rename_i e
        have hxy : ltL x y = true := by
          cases hc : ltL x y with
          | true => rfl
          | false => exact absurd (ltL_tot (by simpa using g) hc) e
        refine List.pairwise_cons.2 ⟨fun z hz => ?_, h⟩
        rcases List.mem_cons.1 hz with e | e
        · rw [e]; exact hxy
        · exact ltL_tr hxy (p z e)
theorem fold_ss : ∀ (L : List Hd) (l : List (List UInt8)), SS l → SS (L.foldl (fun l p => insU p.1 l) l) ∧ ∀ z, z ∈ L.foldl (fun l p => insU p.1 l) l ↔ z ∈ L.map (·.1) ∨ z ∈ l
  | [], l, h => ⟨h, fun z => by simp⟩
  | p :: L, l, h => by
    obtain ⟨h1, h2⟩ := fold_ss L (insU p.1 l) (insU_ss h)
    refine ⟨h1, fun z => ?_⟩
    show z ∈ L.foldl _ (insU p.1 l) ↔ _
    rw [h2 z, insU_mem]
    rw [List.map_cons, List.mem_cons]
    constructor
    · rintro (g | g | g)
      · exact .inl (.inr g)
      · exact .inl (.inl g)
      · exact .inr g
    · rintro ((g | g) | g)
      · exact .inr (.inl g)
      · exact .inl g
      · exact .inr (.inr g)
theorem comp_ss (d : Array (List UInt8)) (hd : ∀ i j, i ≤ j → j < d.size → ltL d[j]! d[i]! = false) : ∀ m, m ≤ d.size → SS (Lib.compactUpTo d m) ∧ ∀ z, z ∈ Lib.compactUpTo d m ↔ ∃ j, j < m ∧ d[j]! = z
  | 0, _ => ⟨by simp [Lib.compactUpTo, SS], fun z => by simp [Lib.compactUpTo]⟩
  | m + 1, h => by
    obtain ⟨h1, h2⟩ := comp_ss d hd m (by omega)
    rw [Lib.compactUpTo_succ]
    cases hk : Lib.keeps d m with
    | true =>
      rw [if_pos rfl]
      refine ⟨List.pairwise_append.2 ⟨h1, List.pairwise_singleton .., fun a ha b hb => ?_⟩, fun z => ?_⟩
      · rw [List.mem_singleton] at hb
        subst hb
        obtain ⟨j, hj, rfl⟩ := (h2 a).1 ha
        have hne : d[m]! ≠ d[m - 1]! := by
          have : m = 0 ∨ d[m]! ≠ d[m - 1]! := by simpa [Lib.keeps] using hk
          rcases this with h | h
          · omega
          · exact h
        have s1 : ltL d[m - 1]! d[m]! = true := by
          cases hc : ltL d[m - 1]! d[m]! with
          | true => rfl
          | false => exact absurd (ltL_tot (hd (m - 1) m (by omega) (by omega)) hc) hne
        cases hc : ltL d[j]! d[m - 1]! with
        | true => exact ltL_tr hc s1
        | false => rw [ltL_tot hc (hd j (m - 1) (by omega) (by omega))]; exact s1
      · rw [List.mem_append, h2 z, List.mem_singleton]
        constructor
        · rintro (⟨j, hj, e⟩ | e)
          · exact ⟨j, by omega, e⟩
          · exact ⟨m, by omega, e.symm⟩
        · rintro ⟨j, hj, e⟩
          by_cases hjm : j = m
          · subst hjm; exact .inr e.symm
          · exact .inl ⟨j, by omega, e⟩
    | false =>
      rw [if_neg (by simp), List.append_nil]
      refine ⟨h1, fun z => ?_⟩
      rw [h2 z]
      constructor
      · rintro ⟨j, hj, e⟩; exact ⟨j, by omega, e⟩
      · rintro ⟨j, hj, e⟩
        by_cases hjm : j = m
        · subst hjm
          have : ¬ (j = 0 ∨ d[j]! ≠ d[j - 1]!) := by simpa [Lib.keeps] using hk
          exact ⟨j - 1, by omega, by rw [← e]; exact (Classical.not_not.1 fun h => this (.inr h)).symm⟩
        · exact ⟨j, by omega, e⟩
theorem srt_ss (L : List (List UInt8)) : SS (srtN L) ∧ ∀ z, z ∈ srtN L ↔ z ∈ L := by
  have hp := List.pairwise_mergeSort (le := fun x y : List UInt8 => decide (x ≤ y)) (fun a b c h1 h2 => by simp only [decide_eq_true_eq] at *; exact List.le_trans h1 h2) (fun a b => by simp only [Bool.or_eq_true, decide_eq_true_eq]; exact List.le_total a b) L
  have hm : ∀ z, z ∈ L.mergeSort (fun x y => decide (x ≤ y)) ↔ z ∈ L := fun z => List.mem_mergeSort
  unfold srtN
  generalize L.mergeSort (fun x y => decide (x ≤ y)) = S at *
  have g := comp_ss S.toArray (fun i j hij hj => by
    have hj' : j < S.length := by simpa using hj
    rcases Nat.lt_or_ge i j with h | h
    · have := List.pairwise_iff_getElem.1 hp i j (by omega) hj' h
      simp only [decide_eq_true_eq] at this
      have e1 : S.toArray[j]! = S[j] := by simp [hj']
      have e2 : S.toArray[i]! = S[i]'(by omega) := by simp [show i < S.length by omega]
      rw [e1, e2]
      unfold ltL
      rw [bytesLess_eq, decide_eq_false_iff_not]
      exact this
    · rw [show i = j by omega]; exact ltL_irr _) S.toArray.size (Nat.le_refl _)
  refine ⟨by simpa [Lib.compact] using g.1, fun z => ?_⟩
  rw [← hm z]
  have := g.2 z
  rw [show Lib.compactUpTo S.toArray S.toArray.size = Lib.compact S by simp [Lib.compact]] at this
  rw [this]
  constructor
  · rintro ⟨j, hj, e⟩
    have hj' : j < S.length := by simpa using hj
    rw [← e, show S.toArray[j]! = S[j] by simp [hj']]; exact List.getElem_mem _
  · intro hz
    obtain ⟨j, hj, e⟩ := List.mem_iff_getElem.1 hz
    exact ⟨j, by simpa using hj, by rw [← e]; simp [hj]⟩
theorem names_same (hd : List Hd) : srtN (hd.map (·.1)) = nmL hd hd.length := by
  obtain ⟨h1, h2⟩ := srt_ss (hd.map (·.1))
  have h3 := fold_ss hd [] (List.Pairwise.nil)
  unfold nmL
  rw [List.take_length]
  exact ss_ext h1 h3.1 fun z => by rw [h2, h3.2]; simp
end Go.Proofs.YtdigohaeakclfaaGreatDoor
