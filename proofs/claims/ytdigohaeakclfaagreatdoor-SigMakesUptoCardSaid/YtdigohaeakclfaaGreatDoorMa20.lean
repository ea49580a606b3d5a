/- The document's Header, walked. The document's Header as a contract of the machine. Requests signed: what Header and Presign call. -/
import Derived.Test.YtdigohaeakclfaaGreatDoorMa19
import Derived.WalkSpells
import Derived.Test.YtdigohaeakclfaaGreatDoorMa18
import Derived.Laws.StructEq
set_option maxRecDepth 100000
set_option linter.unusedVariables false
set_option linter.unusedSimpArgs false
set_option linter.unusedSectionVars false
namespace Go.Proofs.YtdigohaeakclfaaGreatDoor
open Go Go.Am Go.RowKit
attribute [local go_sem] Oper.semAt_some
/-- the boxes, another one behind, and a row of pairs behind that -/
structure RO (w W : World) (xs ks zs : Array Value) (P : Nat) (os : Array Value) (hv : Value) (n : Nat) (cells : List Value) : Prop where
  b3 : B3 w W xs ks zs
  lo : w.heap.size + 3 ≤ P
  o : W.heap[P]? = some (.cells os 25 (0, 0))
  row : W.ownsRow (P + 1) 47 2 hv n cells
section
variable {w W W' : World} {xs ks zs os : Array Value} {P : Nat} {hv : Value} {n : Nat} {cells : List Value}
theorem RO.start (h : B3 w W xs ks zs) (os : Array Value) : RO w (W.alloc (.cells os 25)) xs ks zs W.heap.size os (.slice none 0 0) 0 [] :=
  ⟨h.alloc _, by have := h.size; omega, heap_alloc_new _ _, World.ownsRow_nil _ _ _ _⟩
theorem RO.size (h : RO w W xs ks zs P os hv n cells) : P < W.heap.size := (Array.getElem?_eq_some_iff.1 h.o).1
theorem RO.keep (h : RO w W xs ks zs P os hv n cells) (hB : Below W.heap.size W W') : RO w W' xs ks zs P os hv n cells :=
  ⟨h.b3.keep hB, h.lo, (hB.block _ h.size).trans h.o, own_keep h.row hB⟩
theorem RO.alloc (h : RO w W xs ks zs P os hv n cells) (o : Obj) : RO w (W.alloc o) xs ks zs P os hv n cells := h.keep ((Below.refl _ W).alloc (Nat.le_refl _) o)
theorem RO.drew (h : RO w W xs ks zs P os hv n cells) : RO w W.drew xs ks zs P os hv n cells := h.keep (below_drew (Below.refl _ W))
theorem B3.away (h : B3 w W xs ks zs) {p : Nat} (hp : w.heap.size + 3 ≤ p) (i : Nat) (v : Value) : B3 w (W.setCell ⟨p, i, none⟩ v) xs ks zs :=
  ⟨h.below.setCell (p := ⟨p, i, none⟩) (show w.heap.size ≤ p by omega) v, by rw [set_other (show p ≠ w.heap.size by omega)]; exact h.r, by rw [set_other (show p ≠ w.heap.size + 1 by omega)]; exact h.k, by rw [set_other (show p ≠ w.heap.size + 2 by omega)]; exact h.z⟩
theorem RO.oset (h : RO w W xs ks zs P os hv n cells) (i : Nat) (v : Value) : RO w (W.setCell ⟨P, i, none⟩ v) xs ks zs P (os.setIfInBounds i v) hv n cells where
  b3 := h.b3.away h.lo i v
  lo := h.lo
  o := by
    show (W.heap.modify P _)[P]? = _
    rw [Array.getElem?_modify, if_pos rfl, h.o]; rfl
  row := row_other h.row (by omega)
theorem RO.zset (h : RO w W xs ks zs P os hv n cells) (i : Nat) (v : Value) : RO w (W.setCell ⟨w.heap.size + 2, i, none⟩ v) xs ks (zs.setIfInBounds i v) P os hv n cells :=
  ⟨h.b3.zset i v, h.lo, by rw [set_other (show w.heap.size + 2 ≠ P by have := h.lo; omega)]; exact h.o, row_other h.row (by have := h.lo; omega)⟩
theorem RO.cell (h : RO w W xs ks zs P os hv n cells) {i : Nat} {v : Value} (hi : os[i]? = some v) : W.cell? ⟨P, i, none⟩ = some v := cellAt h.o hi
theorem RO.fz (h : RO w W xs ks zs P os hv n cells) (i : Nat) : W.frozen? ⟨P, i, none⟩ = false := by simp [World.frozen?, h.o]
theorem RO.grown (h : RO w W xs ks zs P os hv n cells) (hg : W.grownBy W' hv.ownBlock) {n' : Nat} {hv' : Value} {cells' : List Value} (hr : W'.ownsRow (P + 1) 47 2 hv' n' cells') : RO w W' xs ks zs P os hv' n' cells' := by
  have hlt : ∀ k, hv.ownBlock = some k → P + 1 ≤ k := fun k e => (h.row.lt k e).1
  have hlo := h.lo
  have hk : ∀ i, i < P + 1 → W'.heap[i]? = W.heap[i]? := fun i hi => hg.block i (by have := h.size; omega) (fun e => by have := hlt i e.symm; omega)
  exact ⟨⟨h.b3.below.grown hg h.b3.below.size (fun k e => by have := hlt k e; omega), (hk _ (by omega)).trans h.b3.r, (hk _ (by omega)).trans h.b3.k, (hk _ (by omega)).trans h.b3.z⟩, h.lo, (hk _ (by omega)).trans h.o, hr⟩
end
/-- pairs are put behind the row, in a region that draws -/
theorem step_app_ro {ops : Array Oper} {o : Oper} {a : Act} {w W : World} {K : Act → World → Prop} {Q : Exit → Act → World → Prop} {E : Prop} (hg : o.guard = none) (s x : Operand)
    (ho : o.op = .call { callee := .builtin .append, args := #[s, x], argTypes := #[22, 22] }) {xs ks zs os : Array Value} {P : Nat} {hv : Value} {n : Nat} {cells : List Value} (hs : a.eval s = hv) (h0 : RO w W xs ks zs P os hv n cells)
    (ad : Addr) (m : Nat) (news : List Value) (hx : a.eval x = .slice (some ad) m m) (hl : news.length = m * 2) (hnews : ∀ j u, news[j]? = some u → W.cell? (ad.add j) = some u) (h1 : ∀ u ∈ news, u.oneCell' = true) (hm : 0 < m) (hm2 : m ≤ 2) (hn : n ≤ 2097152)
    (h : ∀ g cap w', RO w w' xs ks zs P os (.slice (some ⟨g, 0, none⟩) (n + m) cap) (n + m) (cells ++ news) → K (a.put o.dst (.slice (some ⟨g, 0, none⟩) (n + m) cap)) w') :
    if Region.wanted o (yielded ops a.tmps) = true then Oper.wp Tryz.prog o a W K Q else E := by
  obtain ⟨i0, hi, hz0, hz1, hz2⟩ := info_parts i47
  refine step_append_lies W hg s x 22 ho (P + 1) 47 i0 (.agg #[.string ⟨#[]⟩, .string ⟨#[]⟩]) 2 32 sl22 hi hz0 hz1 hz2 rfl (by decide) hv n cells hs h0.row ad m m news hx hl hnews h1 hm (by unfold maxLen; omega) (by omega) (by have := h0.size; omega) _ rfl ?_
  intro g cap w' hr hgr hlie _
  exact h g cap w' (h0.grown hgr hr)
theorem HdC.sl {w W : World} {base : Option (Nat × Nat)} {cap : Nat} {hd : List Hd} (h : HdC w base cap hd) {bn : Option Addr} {n : Nat} (h1 : bn = base.map fun p => mkA p.1 p.2) (h2 : hd.length = n) (hB : Below w.heap.size w W) : HdS W (.slice bn n cap) hd :=
  ⟨base, cap, by rw [h1, h2], h.keep fun a v hv => (hB.cell (p := mkA a.1 a.2) (World.block_lt_of_cell? _ _ hv)).trans hv⟩
theorem app_nil0 (w : World) (ty : TypeId) : (Builtin.append_ #[22, 22] ty #[.slice none 0 0, .slice none 0 0]).run Tryz.prog w = .ok (.slice none 0 0) w := by
  obtain ⟨i0, hi, hz0, hz1, hz2⟩ := info_parts i47
  simp [Builtin.append_, run_und sl22, sizeOf, run_ti hi, Builtin.lenOf, Builtin.firstCells]
/-- a list is put behind nothing -/
theorem app_hv {ops : Array Oper} {rest : List Oper} {o : Oper} {a : Act} {w W : World} {Q : Exit → Act → World → Prop} (hg : o.guard = none) (s x : Operand)
    (ho : o.op = .call { callee := .builtin .append, args := #[s, x], argTypes := #[22, 22] }) {xs ks zs os : Array Value} {P : Nat} (hs : a.eval s = .slice none 0 0) (h0 : RO w W xs ks zs P os (.slice none 0 0) 0 [])
    {hv : Value} {hd : List Hd} (hx : a.eval x = hv) (hh : HdS W hv hd) (hn : hd.length ≤ 2097152)
    (h : ∀ v' w', RO w w' xs ks zs P os v' hd.length (cellsP hd) → wpList Tryz.prog ops Q rest (a.put o.dst v') w') : wpList Tryz.prog ops Q (o :: rest) a W := by
  refine wpList_plain hg fun _ hK => ?_
  obtain ⟨i0, hi, hz0, hz1, hz2⟩ := info_parts i47
  obtain ⟨base, cap, rfl, hc⟩ := hh
  cases base with
  | none =>
    have h1 := hc.no rfl
    have h2 : hd.length = 0 := by have := hc.le; omega
    subst h1
    rw [h2] at hx
    have hx' : a.eval x = .slice none 0 0 := hx
    unfold Oper.wp execOp
    simp only [ho, resolve, invoke, builtin, Sem.run_bind, Sem.run_pure, Result.andThen_ok, List.map_toArray, List.map_cons, List.map_nil, hs, hx', app_nil0]
    refine hK _ _ (h _ _ ?_)
    rw [h2, List.eq_nil_of_length_eq_zero h2]
    exact h0
  | some p =>
    refine wp_append_own W s x 22 ho (P + 1) 47 i0 (.agg #[.string ⟨#[]⟩, .string ⟨#[]⟩]) 2 32 sl22 hi hz0 hz1 hz2 rfl (by decide) (.slice none 0 0) 0 [] hs h0.row ⟨p.1, p.2, none⟩ hd.length cap (cellsP hd) hx (cellsP_len hd) (fun j u hj => ?_) (cellsP_one hd) (by unfold maxLen; omega) (by omega) (by have := h0.size; omega) ?_
    · have hjl : j < hd.length * 2 := by have := (List.getElem?_eq_some_iff.1 hj).1; rwa [cellsP_len] at this
      have hk := hc.at_ p.1 p.2 rfl (j / 2) (by omega)
      have hg := cellsP_get (l := hd) (i := j / 2) (by omega)
      show W.cell? ((mkA p.1 p.2).add j) = some u
      rw [mkA_add]
      rcases Nat.mod_two_eq_zero_or_one j with e | e
      · rw [show j / 2 * 2 = j by omega, hj] at hg
        rw [show p.2 + j = p.2 + j / 2 * 2 by omega, hk.1]; exact hg.1.symm
      · rw [show j / 2 * 2 + 1 = j by omega, hj] at hg
        rw [show p.2 + j = p.2 + j / 2 * 2 + 1 by omega, hk.2]; exact hg.2.symm
    · intro v' w' hr hgr _
      rw [Nat.zero_add, List.nil_append] at hr
      exact hK _ _ (h _ _ (h0.grown hgr hr))
/-- no header so far has one of the names -/
def noNm (hd : List Hd) (j : Nat) : Prop := ∀ i, i < j → (hd.getD i ([], [])).1 ∉ nm3
theorem aN_nil {hd : List Hd} {nm : List UInt8} : ∀ i, i ≤ hd.length → ((aN hd nm i = []) ↔ ∀ j, j < i → (hd.getD j ([], [])).1 ≠ nm)
  | 0, _ => by simp [aN]
  | i + 1, h => by
    have ih := aN_nil (hd := hd) (nm := nm) i (by omega)
    unfold aN
    split
    · rename_i e
      constructor
      · intro h'; simp at h'
      · intro h'; exact absurd e (h' i (by omega))
    · rename_i e
      rw [ih]
      constructor
      · intro h' j hj
        rcases Nat.lt_or_ge j i with h1 | h1
        · exact h' j h1
        · rw [show j = i by omega]; exact e
      · intro h' j hj; exact h' j (by omega)
theorem tkn_yes {hd : List Hd} {j : Nat} (hj : j < hd.length) (h : (hd.getD j ([], [])).1 ∈ nm3) : tkn hd nm3 = true := by
  unfold tkn
  rw [List.any_eq_true]
  refine ⟨_, h, ?_⟩
  simp only [decide_eq_true_eq]
  intro h0
  exact (aN_nil hd.length (Nat.le_refl _)).1 h0 j hj rfl
theorem tkn_not {hd : List Hd} (h : noNm hd hd.length) : tkn hd nm3 = false := by
  unfold tkn
  rw [List.any_eq_false]
  intro x hx
  simp only [decide_eq_true_eq, Classical.not_not]
  exact (aN_nil hd.length (Nat.le_refl _)).2 fun j hj e => h j hj (by rw [e]; exact hx)

set_option maxHeartbeats 4000000 in
theorem rheader_bad1 (w : World) (ms ts idb scb plb : ByteArray) (hv bv : Value) (tm : Int)
    (K28 : Hid (∀ W, Calls Tryz.prog 28 #[.agg #[.string idb, .string scb], .int .i64 tm] W fun e w' => e = .returned (.bool false) ∧ Below W.heap.size W w')) :
    Calls Tryz.prog 7 #[.agg #[.string ms, .string ts, hv, bv], .agg #[.string idb, .string scb], .int .i64 tm, .string plb] w fun e w' => e = .returned (badV 319) ∧ Below w.heap.size w w' := by
  go_enter Tryz.func7, Tryz.ntmps7
  have hb0 := B3.start w #[.string ms, .string ts, hv, bv] #[.string idb, .string scb]
  have HB0 : Hid (B3 w _ _ _ _) := hb0
  clear hb0
  go_wp2_with (go_at_call 28; refine (K28.out _).mono ?_; rintro e w2 ⟨rfl, hB⟩; have HB1 := HB0.out.keep hB; have y0 : w2.cell? ⟨w.heap.size + 2, 0, none⟩ = some (.string ⟨#[]⟩) := HB1.zcell rfl; have y1 : w2.cell? ⟨w.heap.size + 2, 1, none⟩ = some (.string ⟨#[]⟩) := HB1.zcell rfl; have y2 : w2.cell? ⟨w.heap.size + 2, 2, none⟩ = some (.slice none 0 0) := HB1.zcell rfl; have y3 : w2.cell? ⟨w.heap.size + 2, 3, none⟩ = some (.slice none 0 0) := HB1.zcell rfl; have q0 := HB1.zfz 0; have q1 := HB1.zfz 1; have q2 := HB1.zfz 2; have q3 := HB1.zfz 3; have HB2 : Hid (B3 w w2 _ _ _) := HB1; clear hB HB1)
  have HE := (((HB2.out.zset 0 (.string ⟨#[]⟩)).zset 1 (.string ⟨#[]⟩)).zset 2 (.slice none 0 0)).zset 3 (.slice none 0 0)
  exact bodyPost_ret (res_rq rfl _ _ _ _ rfl HE.z rfl) rfl ⟨rfl, HE.below⟩
set_option maxHeartbeats 4000000 in
theorem rheader_bad3 (w : World) (ms ts idb scb plb D X : ByteArray) (bn ba : Option Addr) (n cap bl bk : Nat) (tm : Int) (hd : List Hd) (base : Option (Nat × Nat)) (hn : n ≤ 2097150) (cells nms : List Value) (HCL : Hid (cells = cellsP hd)) (e0 : Int) (he : ¬ e0 = 0)
    (HN : Hid (bn = base.map fun p => mkA p.1 p.2)) (HL : Hid (hd.length = n)) (HH : Hid (HdC w base cap hd))
    (Q : Ending → World → Prop) (Qbad : Hid (∀ w', tkn hd nm3 = true → Below w.heap.size w w' → Q (.returned (badV 332)) w'))
    (K16 : Hid (∀ W, Calls Tryz.prog 16 #[.int .i64 tm] W fun e w' => e = .returned (.string D) ∧ Below W.heap.size W w'))
    (K29 : Hid (∀ W hv' P, Below w.heap.size w W → W.ownsRow P 47 2 hv' (n + 2) (cells ++ [xdateV, .string D, xshaV, .string plb]) → Calls Tryz.prog 29 #[hv'] W fun e w' => ∃ v, e = .returned v ∧ SlAt w' v nms ∧ Below W.heap.size W w'))
    (K30 : Hid (∀ W hv' nv P, Below w.heap.size w W → W.ownsRow P 47 2 hv' (n + 2) (cells ++ [xdateV, .string D, xshaV, .string plb]) → SlAt W nv nms → Calls Tryz.prog 30 #[.agg #[.string ms, .string ts, hv', .slice ba bl bk], nv, .string plb, .bool false] W fun e w' => e = .returned (.tuple #[.string X, .int .i64 e0]) ∧ Below W.heap.size W w'))
    (Qerr : Hid (∀ w', tkn hd nm3 = false → Below w.heap.size w w' → Q (.returned (badV e0)) w'))
    (K28 : Hid (∀ W, Calls Tryz.prog 28 #[.agg #[.string idb, .string scb], .int .i64 tm] W fun e w' => e = .returned (.bool true) ∧ Below W.heap.size W w')) :
    Calls Tryz.prog 7 #[.agg #[.string ms, .string ts, .slice bn n cap, .slice ba bl bk], .agg #[.string idb, .string scb], .int .i64 tm, .string plb] w Q := by
  go_enter Tryz.func7, Tryz.ntmps7
  have hb0 := B3.start w #[.string ms, .string ts, .slice bn n cap, .slice ba bl bk] #[.string idb, .string scb]
  have HB0 : Hid (B3 w _ _ _ _) := hb0
  clear hb0
  go_wp2_with (go_at_call 28; refine (K28.out _).mono ?_; rintro e w2 ⟨rfl, hB⟩; have HB1 := HB0.out.keep hB; have c0 : w2.cell? ⟨w.heap.size, 0, none⟩ = some (.string ms) := HB1.cell rfl; have c1 : w2.cell? ⟨w.heap.size, 1, none⟩ = some (.string ts) := HB1.cell rfl; have c2 : w2.cell? ⟨w.heap.size, 2, none⟩ = some (.slice bn n cap) := HB1.cell rfl; have c3 : w2.cell? ⟨w.heap.size, 3, none⟩ = some (.slice ba bl bk) := HB1.cell rfl; have HB2 : Hid (B3 w w2 _ _ _) := HB1; clear hB HB1)
  go_loopw [10] (fun i wr => ∃ j : Nat, i = .int .i64 j ∧ j ≤ n ∧ wr = w2 ∧ Hid (noNm hd j)) (fun i _ => match i with | .int _ j => n - j.toNat | _ => 0)
  case atStart => exact ⟨0, rfl, Nat.zero_le _, rfl, fun i h => absurd h (Nat.not_lt_zero _)⟩
  case round =>
    obtain ⟨j, rfl, hj, rfl, hno⟩ := hrel
    by_cases hj2 : j < n
    · obtain ⟨bb, oo, hbo⟩ : ∃ b o, base = some (b, o) := by
        cases base with
        | none => have := HH.out.no rfl; have := HH.out.le; have := HL.out; omega
        | some p => exact ⟨p.1, p.2, rfl⟩
      have hbn : bn = some ⟨bb, oo, none⟩ := by rw [HN.out, hbo]; rfl
      subst hbn
      have hjl : j < hd.length := by rw [HL.out]; exact hj2
      obtain ⟨g1, g2⟩ := HH.out.at_ bb oo hbo j hjl
      obtain ⟨x, hx⟩ : ∃ x, x = (hd.getD j ([], [])).1 := ⟨_, rfl⟩
      rw [← hx] at g1
      obtain ⟨X, hX⟩ : ∃ X : ByteArray, X = ⟨x.toArray⟩ := ⟨_, rfl⟩
      rw [← hX] at g1
      have c7 : wr.cell? ⟨bb, oo + j * 2, none⟩ = some (.string X) := (HB2.out.below.cell (p := mkA bb (oo + j * 2)) (World.block_lt_of_cell? _ _ g1)).trans g1
      have tX : X.toList = x := by rw [hX]; exact tl_mk _
      have HP : Hid ((hd.getD j ([], [])).1 = x ∧ j < hd.length) := ⟨hx.symm, hjl⟩
      clear hx g1 g2 hjl hX hbo
      by_cases e1 : x = authN
      · have t1 : (X.toList == authN) = true := by rw [tX, e1]; exact beq_self_eq_true _
        clear tX
        have y0 : wr.cell? ⟨w.heap.size + 2, 0, none⟩ = some (.string ⟨#[]⟩) := HB2.out.zcell rfl
        have y1 : wr.cell? ⟨w.heap.size + 2, 1, none⟩ = some (.string ⟨#[]⟩) := HB2.out.zcell rfl
        have y2 : wr.cell? ⟨w.heap.size + 2, 2, none⟩ = some (.slice none 0 0) := HB2.out.zcell rfl
        have y3 : wr.cell? ⟨w.heap.size + 2, 3, none⟩ = some (.slice none 0 0) := HB2.out.zcell rfl
        have q0 := HB2.out.zfz 0
        have q1 := HB2.out.zfz 1
        have q2 := HB2.out.zfz 2
        have q3 := HB2.out.zfz 3
        have HT : Hid (tkn hd nm3 = true) := tkn_yes HP.out.2 (by rw [HP.out.1]; exact by rw [e1]; simp [nm3])
        clear HP
        go_wp2
        have HE := (((HB2.out.zset 0 (.string ⟨#[]⟩)).zset 1 (.string ⟨#[]⟩)).zset 2 (.slice none 0 0)).zset 3 (.slice none 0 0)
        exact bodyPost_ret (res_rq rfl _ _ _ _ rfl HE.z rfl) rfl (Qbad.out _ HT.out HE.below)
      · have t1 : (X.toList == authN) = false := by rw [tX]; simpa using e1
        by_cases e2 : x = xdateN
        · have t2 : (X.toList == xdateN) = true := by rw [tX, e2]; exact beq_self_eq_true _
          clear tX
          have y0 : wr.cell? ⟨w.heap.size + 2, 0, none⟩ = some (.string ⟨#[]⟩) := HB2.out.zcell rfl
          have y1 : wr.cell? ⟨w.heap.size + 2, 1, none⟩ = some (.string ⟨#[]⟩) := HB2.out.zcell rfl
          have y2 : wr.cell? ⟨w.heap.size + 2, 2, none⟩ = some (.slice none 0 0) := HB2.out.zcell rfl
          have y3 : wr.cell? ⟨w.heap.size + 2, 3, none⟩ = some (.slice none 0 0) := HB2.out.zcell rfl
          have q0 := HB2.out.zfz 0
          have q1 := HB2.out.zfz 1
          have q2 := HB2.out.zfz 2
          have q3 := HB2.out.zfz 3
          have HT : Hid (tkn hd nm3 = true) := tkn_yes HP.out.2 (by rw [HP.out.1]; exact by rw [e2]; simp [nm3])
          clear HP
          go_wp2
          have HE := (((HB2.out.zset 0 (.string ⟨#[]⟩)).zset 1 (.string ⟨#[]⟩)).zset 2 (.slice none 0 0)).zset 3 (.slice none 0 0)
          exact bodyPost_ret (res_rq rfl _ _ _ _ rfl HE.z rfl) rfl (Qbad.out _ HT.out HE.below)
        · have t2 : (X.toList == xdateN) = false := by rw [tX]; simpa using e2
          by_cases e3 : x = xshaN
          · have t3 : (X.toList == xshaN) = true := by rw [tX, e3]; exact beq_self_eq_true _
            clear tX
            have y0 : wr.cell? ⟨w.heap.size + 2, 0, none⟩ = some (.string ⟨#[]⟩) := HB2.out.zcell rfl
            have y1 : wr.cell? ⟨w.heap.size + 2, 1, none⟩ = some (.string ⟨#[]⟩) := HB2.out.zcell rfl
            have y2 : wr.cell? ⟨w.heap.size + 2, 2, none⟩ = some (.slice none 0 0) := HB2.out.zcell rfl
            have y3 : wr.cell? ⟨w.heap.size + 2, 3, none⟩ = some (.slice none 0 0) := HB2.out.zcell rfl
            have q0 := HB2.out.zfz 0
            have q1 := HB2.out.zfz 1
            have q2 := HB2.out.zfz 2
            have q3 := HB2.out.zfz 3
            have HT : Hid (tkn hd nm3 = true) := tkn_yes HP.out.2 (by rw [HP.out.1]; exact by rw [e3]; simp [nm3])
            clear HP
            go_wp2
            have HE := (((HB2.out.zset 0 (.string ⟨#[]⟩)).zset 1 (.string ⟨#[]⟩)).zset 2 (.slice none 0 0)).zset 3 (.slice none 0 0)
            exact bodyPost_ret (res_rq rfl _ _ _ _ rfl HE.z rfl) rfl (Qbad.out _ HT.out HE.below)
          · have t3 : (X.toList == xshaN) = false := by rw [tX]; simpa using e3
            have HT : Hid (noNm hd (j + 1)) := fun i hi => by
              rcases Nat.lt_or_ge i j with h | h
              · exact hno.out i h
              · rw [show i = j by omega, HP.out.1]; simp [nm3, e1, e2, e3]
            clear tX HP hno e1 e2 e3
            go_wp2
            exact ⟨⟨j + 1, by simp, by omega, by trivial, HT⟩, by simp; omega⟩
    · obtain rfl : j = n := by omega
      have HT : Hid (tkn hd nm3 = false) := tkn_not (by rw [HL.out]; exact hno.out)
      clear hno hj2 hj Qbad K28 HB0
      have l0 : w.heap.size < wr.heap.size := by have := HB2.out.size; omega
      go_wp2_with (at_builtin; go_must (refine app_hv rfl (.tmp 55) (.tmp 57) rfl rfl (RO.start HB2.out #[.string ms, .string ts, .slice none 0 0, .slice ba bl bk]) rfl (HH.out.sl HN.out HL.out (RO.start HB2.out #[.string ms, .string ts, .slice none 0 0, .slice ba bl bk]).b3.below) (by rw [HL.out]; omega) ?_; intro v5 w5 h5; rw [HL.out, ← HCL.out] at h5; obtain ⟨ha, hk, rfl⟩ := row_shape h5.row; have HC : Hid (RO w w5 _ _ _ wr.heap.size _ _ _ _) := h5; have h2 : w5.cell? ⟨wr.heap.size, 2, none⟩ = some (.slice none 0 0) := HC.out.cell rfl; have q2 := HC.out.fz 2; clear h5))
      have HD0 : Hid (RO w (w5.setCell ⟨wr.heap.size, 2, none⟩ (.slice ha j hk)) _ _ _ wr.heap.size #[.string ms, .string ts, .slice ha j hk, .slice ba bl bk] (.slice ha j hk) j cells) := HC.out.oset 2 _
      generalize (w5.setCell ⟨wr.heap.size, 2, none⟩ (.slice ha j hk)) = W5 at HD0 ⊢
      generalize wr.heap.size = P at HD0 ⊢
      clear HC h2 q2 HB2 c0 c1 c2 c3 l0
      have c2 : W5.cell? ⟨P, 2, none⟩ = some (.slice ha j hk) := HD0.out.cell rfl
      go_region_law (first
        | (go_simp; go_at_call 16; refine (K16.out _).mono ?_; rintro e w6 ⟨rfl, hB⟩; have HB8 : Hid (RO w w6 _ _ _ P _ (.slice ha j hk) j cells) := HD0.out.drew.keep hB; have e2 : w6.cell? ⟨P, 2, none⟩ = some (.slice ha j hk) := HB8.out.cell rfl; have l6 : P < w6.heap.size := HB8.out.size
           clear hB)
        | (refine step_app_ro rfl (.tmp 61) (.tmp 67) rfl rfl (HB8.out.alloc _) ⟨w6.heap.size, 0, none⟩ 2 [xdateV, .string D, xshaV, .string plb] rfl rfl (cells_new4 _ _ _ _ _ _) (fun u hu => by simp at hu; rcases hu with rfl | rfl | rfl | rfl <;> rfl) (by omega) (by omega) (by omega) ?_; intro g2 k2 w7 hr7; have HB9 : Hid (RO w w7 _ _ _ P _ (.slice (some ⟨g2, 0, none⟩) (j + 2) k2) (j + 2) (cells ++ [xdateV, .string D, xshaV, .string plb])) := hr7; have h2 : w7.cell? ⟨P, 2, none⟩ = some (.slice ha j hk) := HB9.out.cell rfl; have q2 := HB9.out.fz 2; clear hr7))
      all_goals
        have HC : Hid (RO w (w7.setCell ⟨P, 2, none⟩ (.slice (some ⟨g2, 0, none⟩) (j + 2) k2)) _ _ _ P #[.string ms, .string ts, .slice (some ⟨g2, 0, none⟩) (j + 2) k2, .slice ba bl bk] (.slice (some ⟨g2, 0, none⟩) (j + 2) k2) (j + 2) (cells ++ [xdateV, .string D, xshaV, .string plb])) := HB9.out.oset 2 _
        generalize (w7.setCell ⟨P, 2, none⟩ (.slice (some ⟨g2, 0, none⟩) (j + 2) k2)) = W8 at HC ⊢
        generalize w6.heap.size = b6
        clear HD0 HB8 HB9 c2 e2 l6 h2 q2
        have c2 : W8.cell? ⟨P, 2, none⟩ = some (.slice (some ⟨g2, 0, none⟩) (j + 2) k2) := HC.out.cell rfl
        go_wp2_with first
          | (go_at_call 29; refine (K29.out _ _ _ HC.out.b3.below HC.out.row).mono ?_; rintro e w9 ⟨nv, rfl, hn9, hB⟩; have HD := HC.out.keep hB; have c0 : w9.cell? ⟨P, 0, none⟩ = some (.string ms) := HD.cell rfl; have c1 : w9.cell? ⟨P, 1, none⟩ = some (.string ts) := HD.cell rfl; have c2 : w9.cell? ⟨P, 2, none⟩ = some (.slice (some ⟨g2, 0, none⟩) (j + 2) k2) := HD.cell rfl; have c3 : w9.cell? ⟨P, 3, none⟩ = some (.slice ba bl bk) := HD.cell rfl; have HE : Hid (RO w w9 _ _ _ P _ (.slice (some ⟨g2, 0, none⟩) (j + 2) k2) (j + 2) (cells ++ [xdateV, .string D, xshaV, .string plb]) ∧ SlAt w9 nv nms) := ⟨HD, hn9⟩; clear hB HD hn9)
          | (go_at_call 30; refine (K30.out _ _ _ _ HE.out.1.b3.below HE.out.1.row HE.out.2).mono ?_; rintro e w10 ⟨rfl, hB⟩; have HF : Hid (RO w w10 _ _ _ P _ (.slice (some ⟨g2, 0, none⟩) (j + 2) k2) (j + 2) (cells ++ [xdateV, .string D, xshaV, .string plb]) ∧ SlAt w10 nv nms) := ⟨HE.out.1.keep hB, HE.out.2.below (Nat.le_refl _) hB⟩; have y0 : w10.cell? ⟨w.heap.size + 2, 0, none⟩ = some (.string ⟨#[]⟩) := HF.out.1.b3.zcell rfl; have y1 : w10.cell? ⟨w.heap.size + 2, 1, none⟩ = some (.string ⟨#[]⟩) := HF.out.1.b3.zcell rfl; have y2 : w10.cell? ⟨w.heap.size + 2, 2, none⟩ = some (.slice none 0 0) := HF.out.1.b3.zcell rfl; have y3 : w10.cell? ⟨w.heap.size + 2, 3, none⟩ = some (.slice none 0 0) := HF.out.1.b3.zcell rfl; have z0 := HF.out.1.b3.zfz 0; have z1 := HF.out.1.b3.zfz 1; have z2 := HF.out.1.b3.zfz 2; have z3 := HF.out.1.b3.zfz 3; clear hB)
        have HM := (((HF.out.1.b3.zset 0 (.string ⟨#[]⟩)).zset 1 (.string ⟨#[]⟩)).zset 2 (.slice none 0 0)).zset 3 (.slice none 0 0)
        exact bodyPost_ret (res_rq rfl _ _ _ _ rfl HM.z rfl) rfl (Qerr.out _ HT.out HM.below)

set_option maxHeartbeats 4000000 in
theorem rheader_good (w : World) (ms ts idb scb plb D Y X G J : ByteArray) (bn ba : Option Addr) (n cap bl bk : Nat) (tm : Int) (hd : List Hd) (base : Option (Nat × Nat)) (hn : n ≤ 2097150) (cells nms kc : List Value) (HCL : Hid (cells = cellsP hd)) (hz : Hid (28 + idb.size + 1 + Y.size + 26 + 15 + J.size + 11 + G.size ≤ 1000000000))
    (HN : Hid (bn = base.map fun p => mkA p.1 p.2)) (HL : Hid (hd.length = n)) (HH : Hid (HdC w base cap hd))
    (Q : Ending → World → Prop) (Qbad : Hid (∀ w', tkn hd nm3 = true → Below w.heap.size w w' → Q (.returned (badV 332)) w'))
    (K16 : Hid (∀ W, Calls Tryz.prog 16 #[.int .i64 tm] W fun e w' => e = .returned (.string D) ∧ Below W.heap.size W w'))
    (K29 : Hid (∀ W hv' P, Below w.heap.size w W → W.ownsRow P 47 2 hv' (n + 2) (cells ++ [xdateV, .string D, xshaV, .string plb]) → Calls Tryz.prog 29 #[hv'] W fun e w' => ∃ v, e = .returned v ∧ SlAt w' v nms ∧ Below W.heap.size W w'))
    (K30 : Hid (∀ W hv' nv P, Below w.heap.size w W → W.ownsRow P 47 2 hv' (n + 2) (cells ++ [xdateV, .string D, xshaV, .string plb]) → SlAt W nv nms → Calls Tryz.prog 30 #[.agg #[.string ms, .string ts, hv', .slice ba bl bk], nv, .string plb, .bool false] W fun e w' => e = .returned (.tuple #[.string X, .int .i64 0]) ∧ Below W.heap.size W w'))
    (Qgood : Hid (∀ w' g k3, tkn hd nm3 = false → Below w.heap.size w w' → w'.ownsRow w.heap.size 47 2 (.slice (some ⟨g, 0, none⟩) (n + 2 + 1) k3) (n + 2 + 1) ((cells ++ [xdateV, .string D, xshaV, .string plb]) ++ [authVV, .string (auV idb Y J G)]) → Q (.returned (.tuple #[.agg #[.string ms, .string ts, .slice (some ⟨g, 0, none⟩) (n + 2 + 1) k3, .slice ba bl bk], .int .i64 0])) w'))
    (K31 : Hid (∀ W, Calls Tryz.prog 31 #[.int .i64 tm] W fun e w' => e = .returned (.string Y) ∧ Below W.heap.size W w'))
    (K33 : Hid (∀ W, Calls Tryz.prog 33 #[.string scb, .string Y, unV, s3V] W fun e w' => ∃ v, e = .returned v ∧ SlAt w' v kc ∧ Below W.heap.size W w'))
    (K32 : Hid (∀ W v, SlAt W v kc → Calls Tryz.prog 32 #[v, .string D, .string (Y ++ scB), .string X] W fun e w' => e = .returned (.string G) ∧ Below W.heap.size W w'))
    (K34 : Hid (∀ W nv, SlAt W nv nms → Calls Tryz.prog 34 #[nv, .string ⟨#[59]⟩] W fun e w' => e = .returned (.string J) ∧ Below W.heap.size W w'))
    (K28 : Hid (∀ W, Calls Tryz.prog 28 #[.agg #[.string idb, .string scb], .int .i64 tm] W fun e w' => e = .returned (.bool true) ∧ Below W.heap.size W w')) :
    Calls Tryz.prog 7 #[.agg #[.string ms, .string ts, .slice bn n cap, .slice ba bl bk], .agg #[.string idb, .string scb], .int .i64 tm, .string plb] w Q := by
  go_enter Tryz.func7, Tryz.ntmps7
  have hb0 := B3.start w #[.string ms, .string ts, .slice bn n cap, .slice ba bl bk] #[.string idb, .string scb]
  have HB0 : Hid (B3 w _ _ _ _) := hb0
  clear hb0
  go_wp2_with (go_at_call 28; refine (K28.out _).mono ?_; rintro e w2 ⟨rfl, hB⟩; have HB1 := HB0.out.keep hB; have c0 : w2.cell? ⟨w.heap.size, 0, none⟩ = some (.string ms) := HB1.cell rfl; have c1 : w2.cell? ⟨w.heap.size, 1, none⟩ = some (.string ts) := HB1.cell rfl; have c2 : w2.cell? ⟨w.heap.size, 2, none⟩ = some (.slice bn n cap) := HB1.cell rfl; have c3 : w2.cell? ⟨w.heap.size, 3, none⟩ = some (.slice ba bl bk) := HB1.cell rfl; have HB2 : Hid (B3 w w2 _ _ _) := HB1; clear hB HB1)
  go_loopw [10] (fun i wr => ∃ j : Nat, i = .int .i64 j ∧ j ≤ n ∧ wr = w2 ∧ Hid (noNm hd j)) (fun i _ => match i with | .int _ j => n - j.toNat | _ => 0)
  case atStart => exact ⟨0, rfl, Nat.zero_le _, rfl, fun i h => absurd h (Nat.not_lt_zero _)⟩
  case round =>
    obtain ⟨j, rfl, hj, rfl, hno⟩ := hrel
    by_cases hj2 : j < n
    · obtain ⟨bb, oo, hbo⟩ : ∃ b o, base = some (b, o) := by
        cases base with
        | none => have := HH.out.no rfl; have := HH.out.le; have := HL.out; omega
        | some p => exact ⟨p.1, p.2, rfl⟩
      have hbn : bn = some ⟨bb, oo, none⟩ := by rw [HN.out, hbo]; rfl
      subst hbn
      have hjl : j < hd.length := by rw [HL.out]; exact hj2
      obtain ⟨g1, g2⟩ := HH.out.at_ bb oo hbo j hjl
      obtain ⟨x, hx⟩ : ∃ x, x = (hd.getD j ([], [])).1 := ⟨_, rfl⟩
      rw [← hx] at g1
      obtain ⟨X, hX⟩ : ∃ X : ByteArray, X = ⟨x.toArray⟩ := ⟨_, rfl⟩
      rw [← hX] at g1
      have c7 : wr.cell? ⟨bb, oo + j * 2, none⟩ = some (.string X) := (HB2.out.below.cell (p := mkA bb (oo + j * 2)) (World.block_lt_of_cell? _ _ g1)).trans g1
      have tX : X.toList = x := by rw [hX]; exact tl_mk _
      have HP : Hid ((hd.getD j ([], [])).1 = x ∧ j < hd.length) := ⟨hx.symm, hjl⟩
      clear hx g1 g2 hjl hX hbo
      by_cases e1 : x = authN
      · have t1 : (X.toList == authN) = true := by rw [tX, e1]; exact beq_self_eq_true _
        clear tX
        have y0 : wr.cell? ⟨w.heap.size + 2, 0, none⟩ = some (.string ⟨#[]⟩) := HB2.out.zcell rfl
        have y1 : wr.cell? ⟨w.heap.size + 2, 1, none⟩ = some (.string ⟨#[]⟩) := HB2.out.zcell rfl
        have y2 : wr.cell? ⟨w.heap.size + 2, 2, none⟩ = some (.slice none 0 0) := HB2.out.zcell rfl
        have y3 : wr.cell? ⟨w.heap.size + 2, 3, none⟩ = some (.slice none 0 0) := HB2.out.zcell rfl
        have q0 := HB2.out.zfz 0
        have q1 := HB2.out.zfz 1
        have q2 := HB2.out.zfz 2
        have q3 := HB2.out.zfz 3
        have HT : Hid (tkn hd nm3 = true) := tkn_yes HP.out.2 (by rw [HP.out.1]; exact by rw [e1]; simp [nm3])
        clear HP
        go_wp2
        have HE := (((HB2.out.zset 0 (.string ⟨#[]⟩)).zset 1 (.string ⟨#[]⟩)).zset 2 (.slice none 0 0)).zset 3 (.slice none 0 0)
        exact bodyPost_ret (res_rq rfl _ _ _ _ rfl HE.z rfl) rfl (Qbad.out _ HT.out HE.below)
      · have t1 : (X.toList == authN) = false := by rw [tX]; simpa using e1
        by_cases e2 : x = xdateN
        · have t2 : (X.toList == xdateN) = true := by rw [tX, e2]; exact beq_self_eq_true _
          clear tX
          have y0 : wr.cell? ⟨w.heap.size + 2, 0, none⟩ = some (.string ⟨#[]⟩) := HB2.out.zcell rfl
          have y1 : wr.cell? ⟨w.heap.size + 2, 1, none⟩ = some (.string ⟨#[]⟩) := HB2.out.zcell rfl
          have y2 : wr.cell? ⟨w.heap.size + 2, 2, none⟩ = some (.slice none 0 0) := HB2.out.zcell rfl
          have y3 : wr.cell? ⟨w.heap.size + 2, 3, none⟩ = some (.slice none 0 0) := HB2.out.zcell rfl
          have q0 := HB2.out.zfz 0
          have q1 := HB2.out.zfz 1
          have q2 := HB2.out.zfz 2
          have q3 := HB2.out.zfz 3
          have HT : Hid (tkn hd nm3 = true) := tkn_yes HP.out.2 (by rw [HP.out.1]; exact by rw [e2]; simp [nm3])
          clear HP
          go_wp2
          have HE := (((HB2.out.zset 0 (.string ⟨#[]⟩)).zset 1 (.string ⟨#[]⟩)).zset 2 (.slice none 0 0)).zset 3 (.slice none 0 0)
          exact bodyPost_ret (res_rq rfl _ _ _ _ rfl HE.z rfl) rfl (Qbad.out _ HT.out HE.below)
        · have t2 : (X.toList == xdateN) = false := by rw [tX]; simpa using e2
          by_cases e3 : x = xshaN
          · have t3 : (X.toList == xshaN) = true := by rw [tX, e3]; exact beq_self_eq_true _
            clear tX
            have y0 : wr.cell? ⟨w.heap.size + 2, 0, none⟩ = some (.string ⟨#[]⟩) := HB2.out.zcell rfl
            have y1 : wr.cell? ⟨w.heap.size + 2, 1, none⟩ = some (.string ⟨#[]⟩) := HB2.out.zcell rfl
            have y2 : wr.cell? ⟨w.heap.size + 2, 2, none⟩ = some (.slice none 0 0) := HB2.out.zcell rfl
            have y3 : wr.cell? ⟨w.heap.size + 2, 3, none⟩ = some (.slice none 0 0) := HB2.out.zcell rfl
            have q0 := HB2.out.zfz 0
            have q1 := HB2.out.zfz 1
            have q2 := HB2.out.zfz 2
            have q3 := HB2.out.zfz 3
            have HT : Hid (tkn hd nm3 = true) := tkn_yes HP.out.2 (by rw [HP.out.1]; exact by rw [e3]; simp [nm3])
            clear HP
            go_wp2
            have HE := (((HB2.out.zset 0 (.string ⟨#[]⟩)).zset 1 (.string ⟨#[]⟩)).zset 2 (.slice none 0 0)).zset 3 (.slice none 0 0)
            exact bodyPost_ret (res_rq rfl _ _ _ _ rfl HE.z rfl) rfl (Qbad.out _ HT.out HE.below)
          · have t3 : (X.toList == xshaN) = false := by rw [tX]; simpa using e3
            have HT : Hid (noNm hd (j + 1)) := fun i hi => by
              rcases Nat.lt_or_ge i j with h | h
              · exact hno.out i h
              · rw [show i = j by omega, HP.out.1]; simp [nm3, e1, e2, e3]
            clear tX HP hno e1 e2 e3
            go_wp2
            exact ⟨⟨j + 1, by simp, by omega, by trivial, HT⟩, by simp; omega⟩
    · obtain rfl : j = n := by omega
      have HT : Hid (tkn hd nm3 = false) := tkn_not (by rw [HL.out]; exact hno.out)
      clear hno hj2 hj Qbad K28 HB0
      have l0 : w.heap.size < wr.heap.size := by have := HB2.out.size; omega
      go_wp2_with (at_builtin; go_must (refine app_hv rfl (.tmp 55) (.tmp 57) rfl rfl (RO.start HB2.out #[.string ms, .string ts, .slice none 0 0, .slice ba bl bk]) rfl (HH.out.sl HN.out HL.out (RO.start HB2.out #[.string ms, .string ts, .slice none 0 0, .slice ba bl bk]).b3.below) (by rw [HL.out]; omega) ?_; intro v5 w5 h5; rw [HL.out, ← HCL.out] at h5; obtain ⟨ha, hk, rfl⟩ := row_shape h5.row; have HC : Hid (RO w w5 _ _ _ wr.heap.size _ _ _ _) := h5; have h2 : w5.cell? ⟨wr.heap.size, 2, none⟩ = some (.slice none 0 0) := HC.out.cell rfl; have q2 := HC.out.fz 2; clear h5))
      have HD0 : Hid (RO w (w5.setCell ⟨wr.heap.size, 2, none⟩ (.slice ha j hk)) _ _ _ wr.heap.size #[.string ms, .string ts, .slice ha j hk, .slice ba bl bk] (.slice ha j hk) j cells) := HC.out.oset 2 _
      generalize (w5.setCell ⟨wr.heap.size, 2, none⟩ (.slice ha j hk)) = W5 at HD0 ⊢
      generalize wr.heap.size = P at HD0 ⊢
      clear HC h2 q2 HB2 c0 c1 c2 c3 l0
      have c2 : W5.cell? ⟨P, 2, none⟩ = some (.slice ha j hk) := HD0.out.cell rfl
      go_region_law (first
        | (go_simp; go_at_call 16; refine (K16.out _).mono ?_; rintro e w6 ⟨rfl, hB⟩; have HB8 : Hid (RO w w6 _ _ _ P _ (.slice ha j hk) j cells) := HD0.out.drew.keep hB; have e2 : w6.cell? ⟨P, 2, none⟩ = some (.slice ha j hk) := HB8.out.cell rfl; have l6 : P < w6.heap.size := HB8.out.size
           clear hB)
        | (refine step_app_ro rfl (.tmp 61) (.tmp 67) rfl rfl (HB8.out.alloc _) ⟨w6.heap.size, 0, none⟩ 2 [xdateV, .string D, xshaV, .string plb] rfl rfl (cells_new4 _ _ _ _ _ _) (fun u hu => by simp at hu; rcases hu with rfl | rfl | rfl | rfl <;> rfl) (by omega) (by omega) (by omega) ?_; intro g2 k2 w7 hr7; have HB9 : Hid (RO w w7 _ _ _ P _ (.slice (some ⟨g2, 0, none⟩) (j + 2) k2) (j + 2) (cells ++ [xdateV, .string D, xshaV, .string plb])) := hr7; have h2 : w7.cell? ⟨P, 2, none⟩ = some (.slice ha j hk) := HB9.out.cell rfl; have q2 := HB9.out.fz 2; clear hr7))
      all_goals
        have HC : Hid (RO w (w7.setCell ⟨P, 2, none⟩ (.slice (some ⟨g2, 0, none⟩) (j + 2) k2)) _ _ _ P #[.string ms, .string ts, .slice (some ⟨g2, 0, none⟩) (j + 2) k2, .slice ba bl bk] (.slice (some ⟨g2, 0, none⟩) (j + 2) k2) (j + 2) (cells ++ [xdateV, .string D, xshaV, .string plb])) := HB9.out.oset 2 _
        generalize (w7.setCell ⟨P, 2, none⟩ (.slice (some ⟨g2, 0, none⟩) (j + 2) k2)) = W8 at HC ⊢
        generalize w6.heap.size = b6
        clear HD0 HB8 HB9 c2 e2 l6 h2 q2
        have n1 : ¬ 9223372036854775807 < Y.size + 26 := by have := hz.out; omega
        have c2 : W8.cell? ⟨P, 2, none⟩ = some (.slice (some ⟨g2, 0, none⟩) (j + 2) k2) := HC.out.cell rfl
        go_wp2_with first
          | (go_at_call 29; refine (K29.out _ _ _ HC.out.b3.below HC.out.row).mono ?_; rintro e w9 ⟨nv, rfl, hn9, hB⟩; have HD := HC.out.keep hB; have c0 : w9.cell? ⟨P, 0, none⟩ = some (.string ms) := HD.cell rfl; have c1 : w9.cell? ⟨P, 1, none⟩ = some (.string ts) := HD.cell rfl; have c2 : w9.cell? ⟨P, 2, none⟩ = some (.slice (some ⟨g2, 0, none⟩) (j + 2) k2) := HD.cell rfl; have c3 : w9.cell? ⟨P, 3, none⟩ = some (.slice ba bl bk) := HD.cell rfl; have HE : Hid (RO w w9 _ _ _ P _ (.slice (some ⟨g2, 0, none⟩) (j + 2) k2) (j + 2) (cells ++ [xdateV, .string D, xshaV, .string plb]) ∧ SlAt w9 nv nms) := ⟨HD, hn9⟩; clear hB HD hn9)
          | (go_at_call 30; refine (K30.out _ _ _ _ HE.out.1.b3.below HE.out.1.row HE.out.2).mono ?_; rintro e w10 ⟨rfl, hB⟩; have HF : Hid (RO w w10 _ _ _ P _ (.slice (some ⟨g2, 0, none⟩) (j + 2) k2) (j + 2) (cells ++ [xdateV, .string D, xshaV, .string plb]) ∧ SlAt w10 nv nms) := ⟨HE.out.1.keep hB, HE.out.2.below (Nat.le_refl _) hB⟩; clear hB)
          | (go_at_call 31; refine (K31.out _).mono ?_; rintro e w11 ⟨rfl, hB⟩; have HG : Hid (RO w w11 _ _ _ P _ (.slice (some ⟨g2, 0, none⟩) (j + 2) k2) (j + 2) (cells ++ [xdateV, .string D, xshaV, .string plb]) ∧ SlAt w11 nv nms) := ⟨HF.out.1.keep hB, HF.out.2.below (Nat.le_refl _) hB⟩; have k1 : w11.cell? ⟨w.heap.size + 1, 1, none⟩ = some (.string scb) := HG.out.1.b3.kcell rfl; clear hB)
          | (go_at_call 33; refine (K33.out _).mono ?_; rintro e w12 ⟨kv, rfl, hk12, hB⟩; have HH1 : Hid (RO w w12 _ _ _ P _ (.slice (some ⟨g2, 0, none⟩) (j + 2) k2) (j + 2) (cells ++ [xdateV, .string D, xshaV, .string plb]) ∧ SlAt w12 nv nms ∧ SlAt w12 kv kc) := ⟨HG.out.1.keep hB, HG.out.2.below (Nat.le_refl _) hB, hk12⟩; clear hB hk12)
          | (go_at_call 16; refine (K16.out _).mono ?_; rintro e w13 ⟨rfl, hB⟩; have HI : Hid (RO w w13 _ _ _ P _ (.slice (some ⟨g2, 0, none⟩) (j + 2) k2) (j + 2) (cells ++ [xdateV, .string D, xshaV, .string plb]) ∧ SlAt w13 nv nms ∧ SlAt w13 kv kc) := ⟨HH1.out.1.keep hB, HH1.out.2.1.below (Nat.le_refl _) hB, HH1.out.2.2.below (Nat.le_refl _) hB⟩; clear hB)
          | (go_at_call 32; refine (K32.out _ _ HI.out.2.2).mono ?_; rintro e w14 ⟨rfl, hB⟩; have HJ : Hid (RO w w14 _ _ _ P _ (.slice (some ⟨g2, 0, none⟩) (j + 2) k2) (j + 2) (cells ++ [xdateV, .string D, xshaV, .string plb]) ∧ SlAt w14 nv nms) := ⟨HI.out.1.keep hB, HI.out.2.1.below (Nat.le_refl _) hB⟩; clear hB)
        clear n1
        have m1 : ¬ 9223372036854775807 < 28 + idb.size := by have := hz.out; omega
        have m2 : ¬ 9223372036854775807 < 28 + idb.size + 1 := by have := hz.out; omega
        have m3 : ¬ 9223372036854775807 < 28 + idb.size + 1 + Y.size := by have := hz.out; omega
        have m4 : ¬ 9223372036854775807 < 28 + idb.size + 1 + Y.size + 26 := by have := hz.out; omega
        have m5 : ¬ 9223372036854775807 < 28 + idb.size + 1 + Y.size + 26 + 15 := by have := hz.out; omega
        have m6 : ¬ 9223372036854775807 < 28 + idb.size + 1 + Y.size + 26 + 15 + J.size := by have := hz.out; omega
        have m7 : ¬ 9223372036854775807 < 28 + idb.size + 1 + Y.size + 26 + 15 + J.size + 11 := by have := hz.out; omega
        have m8 : ¬ 9223372036854775807 < 28 + idb.size + 1 + Y.size + 26 + 15 + J.size + 11 + G.size := by have := hz.out; omega
        have k0 : w14.cell? ⟨w.heap.size + 1, 0, none⟩ = some (.string idb) := HJ.out.1.b3.kcell rfl
        have c4 : w14.cell? ⟨P, 2, none⟩ = some (.slice (some ⟨g2, 0, none⟩) (j + 2) k2) := HJ.out.1.cell rfl
        clear c0 c1 c2 c3 k1 HE HF HG HH1 HI HC
        go_region_law (first
          | (go_simp; go_at_call 34; refine (K34.out _ _ (HJ.out.2.below (Nat.le_refl _) (below_drew (Below.refl _ _)))).mono ?_; rintro e w15 ⟨rfl, hB⟩; have HK : Hid (RO w w15 _ _ _ P _ (.slice (some ⟨g2, 0, none⟩) (j + 2) k2) (j + 2) (cells ++ [xdateV, .string D, xshaV, .string plb])) := HJ.out.1.drew.keep hB; have k2' : w15.cell? ⟨w.heap.size + 1, 0, none⟩ = some (.string idb) := HK.out.b3.kcell rfl; have c5 : w15.cell? ⟨P, 2, none⟩ = some (.slice (some ⟨g2, 0, none⟩) (j + 2) k2) := HK.out.cell rfl; have l5 : P < w15.heap.size := HK.out.size
             clear hB)
          | (refine step_app_ro rfl (.tmp 97) (.tmp 113) rfl rfl (HK.out.alloc _) ⟨w15.heap.size, 0, none⟩ 1 [authVV, .string (auV idb Y J G)] rfl rfl (cell_two w15 _ _ _) (fun u hu => by simp at hu; rcases hu with rfl | rfl <;> rfl) (by omega) (by omega) (by omega) ?_; intro g3 k3 w16 hr16; have HL2 : Hid (RO w w16 _ _ _ P _ (.slice (some ⟨g3, 0, none⟩) (j + 2 + 1) k3) (j + 2 + 1) ((cells ++ [xdateV, .string D, xshaV, .string plb]) ++ [authVV, .string (auV idb Y J G)])) := hr16; have h2 : w16.cell? ⟨P, 2, none⟩ = some (.slice (some ⟨g2, 0, none⟩) (j + 2) k2) := HL2.out.cell rfl; have q2 := HL2.out.fz 2; clear hr16))
        all_goals
          clear m1 m2 m3 m4 m5 m6 m7 m8 k0 k2' c4 c5 l5 K16 K29 K30 K31 K32 K33 K34 HJ
          have HM : Hid (RO w (w16.setCell ⟨P, 2, none⟩ (.slice (some ⟨g3, 0, none⟩) (j + 2 + 1) k3)) _ _ _ P #[.string ms, .string ts, .slice (some ⟨g3, 0, none⟩) (j + 2 + 1) k3, .slice ba bl bk] (.slice (some ⟨g3, 0, none⟩) (j + 2 + 1) k3) (j + 2 + 1) ((cells ++ [xdateV, .string D, xshaV, .string plb]) ++ [authVV, .string (auV idb Y J G)])) := HL2.out.oset 2 _
          generalize (w16.setCell ⟨P, 2, none⟩ (.slice (some ⟨g3, 0, none⟩) (j + 2 + 1) k3)) = W9 at HM ⊢
          clear h2 q2 HL2 HK
          have h0 : W9.cell? ⟨P, 0, none⟩ = some (.string ms) := HM.out.cell rfl
          have h1 : W9.cell? ⟨P, 1, none⟩ = some (.string ts) := HM.out.cell rfl
          have h2 : W9.cell? ⟨P, 2, none⟩ = some (.slice (some ⟨g3, 0, none⟩) (j + 2 + 1) k3) := HM.out.cell rfl
          have h3 : W9.cell? ⟨P, 3, none⟩ = some (.slice ba bl bk) := HM.out.cell rfl
          have y0 : W9.cell? ⟨w.heap.size + 2, 0, none⟩ = some (.string ⟨#[]⟩) := HM.out.b3.zcell rfl
          have y1 : W9.cell? ⟨w.heap.size + 2, 1, none⟩ = some (.string ⟨#[]⟩) := HM.out.b3.zcell rfl
          have y2 : W9.cell? ⟨w.heap.size + 2, 2, none⟩ = some (.slice none 0 0) := HM.out.b3.zcell rfl
          have y3 : W9.cell? ⟨w.heap.size + 2, 3, none⟩ = some (.slice none 0 0) := HM.out.b3.zcell rfl
          have z0 := HM.out.b3.zfz 0
          have z1 := HM.out.b3.zfz 1
          have z2 := HM.out.b3.zfz 2
          have z3 := HM.out.b3.zfz 3
          go_wp2
          have HX := (((HM.out.zset 0 (.string ms)).zset 1 (.string ts)).zset 2 (.slice (some ⟨g3, 0, none⟩) (j + 2 + 1) k3)).zset 3 (.slice ba bl bk)
          exact bodyPost_ret (res_rq rfl _ _ _ _ rfl HX.b3.z rfl) rfl (Qgood.out _ g3 k3 HT.out HX.b3.below (row_base HX.row (by have := HX.lo; omega)))
end Go.Proofs.YtdigohaeakclfaaGreatDoor
set_option maxRecDepth 100000
set_option linter.unusedVariables false
set_option linter.unusedSimpArgs false
set_option linter.unusedSectionVars false
namespace Go.Proofs.YtdigohaeakclfaaGreatDoor
open Go Go.Am Go.RowKit
theorem kNames {w : World} {hv : Value} {hd : List Hd} (h1 : HdS w hv hd) (hl : hd.length ≤ 2097153) : Calls Tryz.prog 29 #[hv] w fun e w' => ∃ v, e = .returned v ∧ SlAt w' v (sV (nmS hd)) ∧ Below w.heap.size w w' := by
  have h := fn_kit (namesOf_ok hd hl) w _ oneAt_ok [hv] rfl (a1 (hdS_arg h1) rfl)
  refine h.mono ?_
  rintro e w' ⟨u, G', rfl, hr, hB, h3, h4⟩
  refine ⟨u, rfl, ?_, hB⟩
  have e : nmS hd = nmL hd hd.length := names_same hd
  rw [e]
  revert hr
  generalize nmL hd hd.length = L
  intro hr
  obtain ⟨base, cap, vs, rfl, e1, e2, e3, e4, e5⟩ := hr.sl_inv
  refine ⟨base, cap, by rw [sV_len], by rw [sV_len]; exact e1, e2, fun b o hb q u hu => ?_⟩
  have hq : q < L.length := by have := (List.getElem?_eq_some_iff.1 hu).1; rwa [sV_len] at this
  obtain ⟨g1, g2⟩ := e4 b o hb q (by omega)
  have hv := e5 q 0 (strEl L q) hq rfl
  rw [Nat.mul_one, Nat.add_zero] at hv
  rw [g2, VR.str_inv (show VR G' w' [] (.str (L.getD q [])) (vs q) from hv), ← hu]
  simp [sV, List.getD_eq_getElem?_getD, List.getElem?_eq_getElem hq]
theorem kRCanon {w : World} {m t : List UInt8} {hv bv : Value} {hd : List Hd} {b : List UInt8} (h1 : HdS w hv hd) (h2 : SlAt w bv (bV b)) {nv : Value} {ns : List (List UInt8)} (h3 : SlAt w nv (sV ns)) (pay : List UInt8) (pre : Bool) (hb : Bd m t hd ns pay) :
    Calls Tryz.prog 30 #[rqV m t hv bv, nv, strV pay, .bool pre] w fun e w' => e = .returned (.tuple #[strV ((canonL m t hd ns pay pre).getD []), .int .i64 (errC (canonL m t hd ns pay pre))]) ∧ Below w.heap.size w w' :=
  kit_si (vs := [rqV m t hv bv, nv, strV pay, .bool pre]) (rcanon_ok m t hd b ns pay pre false hb) w rfl (a4 (rq_arg h1 h2) rfl (slS_arg h3) rfl (.str ..) rfl (.bool ..) rfl)
theorem kRKey (w : World) (s d r v : List UInt8) (hs : s.length ≤ 1048576) (hd : d.length ≤ 1048576) (hr : r.length ≤ 1048576) (hv : v.length ≤ 1048576) :
    Calls Tryz.prog 33 #[strV s, strV d, strV r, strV v] w fun e w' => ∃ x, e = .returned x ∧ SlAt w' x (bV (skS s d r v)) ∧ Below w.heap.size w w' :=
  kit_bs (vs := [strV s, strV d, strV r, strV v]) (rskey_ok s d r v hs hd hr hv) w rfl (a4 (.str ..) rfl (.str ..) rfl (.str ..) rfl (.str ..) rfl)
theorem kRSign {w : World} {kv : Value} {key : List UInt8} (h : SlAt w kv (bV key)) (d s t : List UInt8) (hk : key.length ≤ 1048576) (hd : d.length ≤ 1048576) (hs : s.length ≤ 1048576) (ht : t.length ≤ 67108864) :
    Calls Tryz.prog 32 #[kv, strV d, strV s, strV t] w fun e w' => e = .returned (strV (signS key d s t)) ∧ Below w.heap.size w w' :=
  kit_str (vs := [kv, strV d, strV s, strV t]) (rsign_ok key d s t hk hd hs ht) w rfl (a4 (bsS_arg h) rfl (.str ..) rfl (.str ..) rfl (.str ..) rfl)
theorem kRJoin {w : World} {nv : Value} {ns : List (List UInt8)} (h : SlAt w nv (sV ns)) (sep : List UInt8) (hl : ns.length ≤ 16777216) (hj : (joinL ns sep).length ≤ 17592186044416) :
    Calls Tryz.prog 34 #[nv, strV sep] w fun e w' => e = .returned (strV (joinL ns sep)) ∧ Below w.heap.size w w' :=
  kit_str (vs := [nv, strV sep]) (rjoin_ok ns sep hl hj) w rfl (a2 (slS_arg h) rfl (.str ..) rfl)
/-- how a request's answer stands in memory -/
def hdrQ (m t : List UInt8) (bv : Value) (w w' : World) (e : Ending) : Sum Int (List Hd) → Prop
  | .inl e0 => e = .returned (badV e0)
  | .inr l => ∃ hv', e = .returned (.tuple #[rqV m t hv' bv, .int .i64 0]) ∧ FrH w.heap.size w' hv' l
theorem hdr_f {m t : List UInt8} {hd : List Hd} {k : Hd} {tm : Int} {pl : List UInt8} (h : fitB k.1 tm = false) : hdrR m t hd k tm pl = .inl 319 := if_neg (by rw [h]; exact Bool.false_ne_true)
theorem hdr_t {m t : List UInt8} {hd : List Hd} {k : Hd} {tm : Int} {pl : List UInt8} (h : fitB k.1 tm = true) (ht : tkn hd nm3 = true) : hdrR m t hd k tm pl = .inl 332 := by unfold hdrR; rw [if_pos h, if_pos ht]
theorem hdr_n {m t : List UInt8} {hd : List Hd} {k : Hd} {tm : Int} {pl : List UInt8} (h : fitB k.1 tm = true) (ht : tkn hd nm3 = false) (hx : canonL m t (stampH hd tm pl) (nmS (stampH hd tm pl)) pl false = none) : hdrR m t hd k tm pl = .inl 331 := by unfold hdrR; rw [if_pos h, if_neg (by rw [ht]; exact Bool.false_ne_true), hx]
/-- the headers, signed -/
noncomputable abbrev hdS (hd : List Hd) (k : Hd) (tm : Int) (pl x : List UInt8) : List Hd := stampH hd tm pl ++ [(authN, auL k.1 (dayC tm) (joinL (nmS (stampH hd tm pl)) [59]) (sigC k.2 tm x))]
theorem hdr_s {m t : List UInt8} {hd : List Hd} {k : Hd} {tm : Int} {pl x : List UInt8} (h : fitB k.1 tm = true) (ht : tkn hd nm3 = false) (hx : canonL m t (stampH hd tm pl) (nmS (stampH hd tm pl)) pl false = some x) : hdrR m t hd k tm pl = .inr (hdS hd k tm pl x) := by unfold hdrR; rw [if_pos h, if_neg (by rw [ht]; exact Bool.false_ne_true), hx]
theorem rheader_core (w : World) {m t : List UInt8} {hv bv : Value} {hd : List Hd} {b : List UInt8} {k : Hd} {tm : Int} {pl : List UInt8} (h1 : HdS w hv hd) (h2 : SlAt w bv (bV b)) (B : SB m t hd b k tm pl) :
    Calls Tryz.prog 7 #[rqV m t hv bv, pairV k, .int .i64 tm, strV pl] w fun e w' => Below w.heap.size w w' ∧ hdrQ m t bv w w' e (hdrR m t hd k tm pl) := by
  have hb := B.tot
  have hll := hdW_len' hd
  have K28 : ∀ W, Calls Tryz.prog 28 #[pairV k, .int .i64 tm] W fun e w' => e = .returned (.bool (fitB k.1 tm)) ∧ Below W.heap.size W w' := fun W =>
    kit_bool (vs := [pairV k, .int .i64 tm]) (fit_ok k.1 k.2 tm (by omega) B.t0 B.t1) W rfl (a2 (vr_hd _ _ k) rfl (.int ..) rfl)
  generalize hR : hdrR m t hd k tm pl = R
  by_cases hf : fitB k.1 tm = true
  · rw [hf] at K28
    obtain ⟨base, cap, rfl, hc⟩ := h1
    have h2' := h2
    obtain ⟨base2, cap2, rfl, g1, g2, g3⟩ := h2
    clear g1 g2 g3
    generalize (Option.map (fun p : Nat × Nat => mkA p.1 p.2) base2) = ba at h2' ⊢
    generalize (bV b).length = bl at h2' ⊢
    have K16 : ∀ W, Calls Tryz.prog 16 #[.int .i64 tm] W fun e w' => e = .returned (strV (basC tm)) ∧ Below W.heap.size W w' := fun W =>
      kit_str (vs := [.int .i64 tm]) (rbasic_all tm B.t0 B.t1) W rfl (a1 (.int ..) rfl)
    have rowS' : ∀ {W : World} {N : Nat} {hv' : Value}, W.ownsRow N 47 2 hv' (hd.length + 2) (cellsP hd ++ [xdateV, .string ⟨(basC tm).toArray⟩, xshaV, .string ⟨pl.toArray⟩]) → HdS W hv' (stampH hd tm pl) := fun h => by
      rw [← cellsP_stamp] at h
      have hl : (stampH hd tm pl).length = hd.length + 2 := by simp [stampH]
      rw [← hl] at h
      exact (FrH.of_row h).at_
    have K29 : ∀ W hv' P, Below w.heap.size w W → W.ownsRow P 47 2 hv' (hd.length + 2) (cellsP hd ++ [xdateV, .string ⟨(basC tm).toArray⟩, xshaV, .string ⟨pl.toArray⟩]) → Calls Tryz.prog 29 #[hv'] W fun e w' => ∃ v, e = .returned v ∧ SlAt w' v (sV (nmS (stampH hd tm pl))) ∧ Below W.heap.size W w' := fun W hv' P hB hr =>
      kNames (rowS' hr) (by simp [stampH]; omega)
    have K30 : ∀ W hv' nv P, Below w.heap.size w W → W.ownsRow P 47 2 hv' (hd.length + 2) (cellsP hd ++ [xdateV, .string ⟨(basC tm).toArray⟩, xshaV, .string ⟨pl.toArray⟩]) → SlAt W nv (sV (nmS (stampH hd tm pl))) →
        Calls Tryz.prog 30 #[rqV m t hv' (.slice ba bl cap2), nv, strV pl, .bool false] W fun e w' => e = .returned (.tuple #[strV ((canonL m t (stampH hd tm pl) (nmS (stampH hd tm pl)) pl false).getD []), .int .i64 (errC (canonL m t (stampH hd tm pl) (nmS (stampH hd tm pl)) pl false))]) ∧ Below W.heap.size W w' := fun W hv' nv P hB hr hn =>
      kRCanon (rowS' hr) (h2'.below (Nat.le_refl _) hB) hn pl false B.bd
    have Qbad : ∀ w', tkn hd nm3 = true → Below w.heap.size w w' → Below w.heap.size w w' ∧ hdrQ m t (.slice ba bl cap2) w w' (.returned (badV 332)) R := fun w' ht hB => by
      rw [← hR, hdr_t hf ht]; exact ⟨hB, rfl⟩
    cases hx : canonL m t (stampH hd tm pl) (nmS (stampH hd tm pl)) pl false with
    | none =>
      rw [hx] at K30
      refine rheader_bad3 w _ _ ⟨k.1.toArray⟩ ⟨k.2.toArray⟩ _ _ _ _ _ hd.length cap _ _ tm hd base (by omega) (cellsP hd) _ rfl 331 (by decide) rfl rfl hc (fun e w' => Below w.heap.size w w' ∧ hdrQ m t (.slice ba bl cap2) w w' e R) Qbad K16 K29 K30 (fun w' ht hB => ⟨hB, by rw [← hR, hdr_n hf ht hx]; rfl⟩) K28
    | some x =>
      rw [hx] at K30
      have hxl := B.txt hx
      have hjl := nmS_join (stampH hd tm pl) 59
      have hsw := stampH_W hd tm pl
      have hnl := nmS_len (stampH hd tm pl)
      have hnw := nmS_W (stampH hd tm pl)
      have hdl := dayC_le tm
      have hbl := basC_le tm
      have hsl := sigC_len k.2 tm x
      have hcat : (⟨(dayC tm).toArray⟩ : ByteArray) ++ scB = ⟨(dayC tm ++ scopeS).toArray⟩ := cat_mk _ _
      refine rheader_good w _ _ ⟨k.1.toArray⟩ ⟨k.2.toArray⟩ _ _ ⟨(dayC tm).toArray⟩ ⟨x.toArray⟩ ⟨(sigC k.2 tm x).toArray⟩ ⟨(joinL (nmS (stampH hd tm pl)) [59]).toArray⟩ _ _ hd.length cap _ _ tm hd base (by omega) (cellsP hd) _ (bV (keyC k.2 tm)) rfl ?_ rfl rfl hc (fun e w' => Below w.heap.size w w' ∧ hdrQ m t (.slice ba bl cap2) w w' e R) Qbad K16 K29 K30 (fun w' g k3 ht hB hr => ⟨hB, ?_⟩)
        (fun W => kit_str (vs := [.int .i64 tm]) (rday_all tm B.t0 B.t1) W rfl (a1 (.int ..) rfl))
        (fun W => kRKey W k.2 (dayC tm) usE s3E (by omega) (by omega) (by decide) (by decide))
        (fun W v hv => ?_)
        (fun W nv hn => kRJoin hn [59] (by omega) (by omega)) K28
      · show _ ≤ _
        simp only [ByteArray.size, List.size_toArray]
        omega
      · rw [← hR, hdr_s hf ht hx]
        refine ⟨_, rfl, ?_⟩
        rw [auV_mk, ← cellsP_stamp] at hr
        have hl : (stampH hd tm pl ++ [(authN, auL k.1 (dayC tm) (joinL (nmS (stampH hd tm pl)) [59]) (sigC k.2 tm x))]).length = hd.length + 2 + 1 := by simp [stampH]
        have hr' : w'.ownsRow w.heap.size 47 2 (.slice (some ⟨g, 0, none⟩) (stampH hd tm pl ++ [(authN, auL k.1 (dayC tm) (joinL (nmS (stampH hd tm pl)) [59]) (sigC k.2 tm x))]).length k3) (stampH hd tm pl ++ [(authN, auL k.1 (dayC tm) (joinL (nmS (stampH hd tm pl)) [59]) (sigC k.2 tm x))]).length (cellsP (stampH hd tm pl ++ [(authN, auL k.1 (dayC tm) (joinL (nmS (stampH hd tm pl)) [59]) (sigC k.2 tm x))])) := by
          rw [hl, cellsP_app]; exact hr
        have := FrH.of_row hr'
        rwa [hl] at this
      · rw [hcat]
        exact kRSign hv (basC tm) (dayC tm ++ scopeS) x (keyC_len _ _ (by omega)) (by omega) (by simp; omega) hxl
  · have hf' : fitB k.1 tm = false := by simpa using hf
    rw [hf'] at K28
    rw [← hR, hdr_f hf']
    refine (rheader_bad1 w _ _ ⟨k.1.toArray⟩ ⟨k.2.toArray⟩ _ hv bv tm K28).mono ?_
    rintro e w' ⟨rfl, hB⟩
    exact ⟨hB, rfl⟩
theorem rheader_ok (m t : List UInt8) (hd : List Hd) (b : List UInt8) (k : Hd) (tm : Int) (pl : List UInt8) (B : SB m t hd b k tm pl) :
    FnOK Tryz.prog 7 [reqA m t hd b, .agg [.str k.1, .str k.2], .int .i64 tm, .str pl] [] (hdrA m t b (hdrR m t hd k tm pl)) [] := by
  intro w G ρ vs hlen ha hb hw
  have hρ : ρ = [] := List.eq_nil_of_length_eq_zero (by rw [← hb.len]; rfl)
  subst hρ
  match vs, hlen with
  | [a0, a1, a2, a3], _ =>
    have hreq := (ha 0 _ a0 rfl rfl).1
    obtain ⟨hv, bv, rfl, h1, h2⟩ := rq_inv hreq
    have hbv : VR G w [] (.bs b false) bv := by
      obtain ⟨us, e, hul, hv'⟩ := hreq.agg_inv
      match us, hul with
      | [x0, x1, x2, x3], _ =>
        have e' : bv = x3 := by simp [rqV] at e; exact e.2.2.2
        rw [e']; exact hv' 3 _ x3 rfl rfl
    have e1 := pair_inv (k := k) (ha 1 _ a1 rfl rfl).1
    have e2 := (ha 2 _ a2 rfl rfl).1.int_inv
    have e3 := (ha 3 _ a3 rfl rfl).1.str_inv
    subst e1 e2 e3
    refine (rheader_core w h1 h2 B).mono ?_
    rintro e w' ⟨hB, hr⟩
    revert hr
    cases hdrR m t hd k tm pl with
    | inl e0 =>
      rintro rfl
      exact ⟨_, G, [], rfl, Below.tr hB hw, Below.wi hB hw, rfl, nil_br, vr_res (m := []) (t := []) (vr_nilH _ _) (vr_nilB _ _), SpV_nr rfl⟩
    | inr l =>
      rintro ⟨hv', rfl, g1⟩
      have hS : FrSet (rowS hv' (l.length * 2)) w w' := g1.set_
      refine ⟨_, _, [], rfl, frS_tr hB hw hS, frS_wi hB hw hS, rfl, nil_br, vr_res (g1.vr fun b' o h => by unfold frS; rw [if_pos h]) ?_, SpV_nr rfl⟩
      exact hbv.keep (frS_tr hB hw hS).keeps
end Go.Proofs.YtdigohaeakclfaaGreatDoor
set_option maxRecDepth 100000
set_option linter.unusedVariables false
set_option linter.unusedSimpArgs false
namespace Go.Proofs.YtdigohaeakclfaaGreatDoor
open Go Go.Am

theorem pair47 : PairT Tryz.prog 47 := by
  have hp : Tryz.prog.stoodInHeld 47 = false := by kernel_rfl
  have hf : Tryz.prog.underlying 47 = some (.struct (Tryz.prog.fieldsOf 47)) := by kernel_rfl
  have h9 : Tryz.prog.underlying 9 = some .string := by kernel_rfl
  have hl : (Tryz.prog.fieldsOf 47).toList.map (fun f => (f.name == "_", f.type, f.offset)) = [(false, 9, 0), (false, 9, 1)] := by kernel_rfl
  refine ⟨by kernel_rfl, fun w a b c d => ?_⟩
  show (Op.equalIn (_ + 1) 47 _ _).run Tryz.prog w = _
  rw [run_equalIn_struct w _ 47 _ _ hf hp]
  revert hl
  generalize (Tryz.prog.fieldsOf 47).toList = fs
  intro hl
  match fs, hl with
  | [f, g], hl =>
    simp only [List.map_cons, List.map_nil, List.cons.injEq, Prod.mk.injEq, beq_eq_false_iff_ne] at hl
    obtain ⟨⟨n1, t1, o1⟩, ⟨n2, t2, o2⟩, _⟩ := hl
    have pt : ∀ (w : World) (cs : Array Value) (o : Nat) (v : Value), cs[o]? = some v → (part 9 cs o).run Tryz.prog w = .ok v w := fun w cs o v h => by
      simp [part, isAgg, underlying, h9, h]
    have p0 : ∀ (w : World) (x y : Value), (part 9 #[x, y] 0).run Tryz.prog w = .ok x w := fun w x y => pt w _ 0 _ rfl
    have p1 : ∀ (w : World) (x y : Value), (part 9 #[x, y] 1).run Tryz.prog w = .ok y w := fun w x y => pt w _ 1 _ rfl
    have es : ∀ (w : World) (x y : List UInt8), (Op.equalIn 9999 9 (.string ⟨x.toArray⟩) (.string ⟨y.toArray⟩)).run Tryz.prog w = .ok (decide (x = y)) w := fun w x y => by
      show (Op.equalIn (9998 + 1) 9 _ _).run Tryz.prog w = _
      rw [run_equalIn_string w 9998 9 _ _ h9, toList_mk, toList_mk]
      congr 1
      rw [Bool.eq_iff_iff]; simp
    simp only [Op.eqFields, n1, n2, t1, t2, o1, o2, ne_eq, not_false_eq_true, if_true, Sem.run_bind, Sem.run_ite, Sem.run_pure, p0, p1, Result.andThen_ok]
    rw [es, Result.andThen_ok]
    by_cases h1 : a = c
    · subst h1
      simp only [decide_true, Bool.not_true, Bool.false_eq_true, if_false]
      rw [es, Result.andThen_ok]
      by_cases h2 : b = d
      · subst h2; simp
      · simp [h2]
    · simp [h1]
  | [], hl => simp at hl
  | [_], hl => simp at hl
  | _ :: _ :: _ :: _, hl => simp at hl
def smR (m t : List UInt8) (hd : List Hd) (b : List UInt8) (m' t' : List UInt8) (hd' : List Hd) (b' : List UInt8) : Bool := decide (m = m' ∧ t = t' ∧ hd = hd' ∧ b = b')
theorem smR_f {m t : List UInt8} {hd : List Hd} {b m' t' : List UInt8} {hd' : List Hd} {b' : List UInt8} (h : ¬ (m = m' ∧ t = t' ∧ hd = hd' ∧ b = b')) : smR m t hd b m' t' hd' b' = false := decide_eq_false h
theorem hds_eq {l l' : List Hd} (h : l.length = l'.length) (g : ∀ j, j < l.length → l.getD j ([], []) = l'.getD j ([], [])) : l = l' := by
  apply List.ext_getElem h
  intro i h1 h2
  have := g i h1
  simpa [List.getD_eq_getElem?_getD, List.getElem?_eq_getElem h1, List.getElem?_eq_getElem h2] using this

theorem sameR_ok (m t : List UInt8) (hd : List Hd) (b : List UInt8) (m' t' : List UInt8) (hd' : List Hd) (b' : List UInt8) (hl : hd.length ≤ 16777216) (hl' : hd'.length ≤ 16777216) (hb : b.length ≤ 67108864) (hb' : b'.length ≤ 67108864) : FnOK Tryz.prog 10 [.agg [.str m, .str t, .sl 2 hd.length (hdEl hd) false, .bs b false], .agg [.str m', .str t', .sl 2 hd'.length (hdEl hd') false, .bs b' false]] [] (.bool (smR m t hd b m' t' hd' b')) [] := by
  refine FnOK.of_runs Tryz.func10 rfl (Nat.le_of_ble_eq_true rfl) ?_
  refine Runs.seq ?_
  refine Runs.reg [] [] rfl (by (try simp only [wrap_i64', wrap_u8, wrap_u16, wrap_u32, wrap_u64, wrap_i32, List.length_cons, List.length_nil, List.length_append, List.length_map, tmodN, tdivN]); and_intros <;> first | exact True.intro | omega | skip) ?_
  refine Runs.seq ?_
  refine Runs.seq ?_
  refine Runs.region ?_
  refine Runs.restTo 6 [] [] rfl (by and_intros <;> first | exact True.intro | omega | (intro x hx; cases hx) | (simp only [List.map_nil, List.length_nil]; omega) | skip) ?_
  refine Runs.splitS 11 rfl (fun g11 => ?_) (fun g11 => ?_)
  · try simp only [decide_eq_true_eq, decide_eq_false_iff_not, notT, notF, beq_iff_eq, beq_eq_false_iff_ne, bne_iff_ne, bne_eq_false_iff_eq, tmodN, tdivN, Int.not_lt, Int.not_le] at g11
    refine Runs.rest [] [] rfl (by and_intros <;> first | exact True.intro | omega | (intro x hx; cases hx) | (simp only [List.map_nil, List.length_nil]; omega) | skip) ?_
    refine Runs.condT rfl ?_
    refine Runs.seq ?_
    refine Runs.reg [] [] rfl (by (try simp only [wrap_i64', wrap_u8, wrap_u16, wrap_u32, wrap_u64, wrap_i32, List.length_cons, List.length_nil, List.length_append, List.length_map, tmodN, tdivN]); and_intros <;> first | exact True.intro | omega | skip) ?_
    refine Runs.drop 0 (Nat.zero_le _) rfl ?_
    exact Runs.retH Tryz.func10 rfl rfl (by rw [smR_f (by rintro ⟨e1, e2, e3, e4⟩; first | exact g11 e1 | exact g18 e2 | exact g27 (by rw [e3]) | exact g35 e4 | exact g53 (by rw [e3]; exact ⟨rfl, rfl⟩))]) (by rfl)
  · try simp only [decide_eq_true_eq, decide_eq_false_iff_not, notT, notF, beq_iff_eq, beq_eq_false_iff_ne, bne_iff_ne, bne_eq_false_iff_eq, tmodN, tdivN, Int.not_lt, Int.not_le] at g11
    refine Runs.restTo 7 [] [] rfl (by and_intros <;> first | exact True.intro | omega | (intro x hx; cases hx) | (simp only [List.map_nil, List.length_nil]; omega) | skip) ?_
    refine Runs.splitS 18 rfl (fun g18 => ?_) (fun g18 => ?_)
    · try simp only [decide_eq_true_eq, decide_eq_false_iff_not, notT, notF, beq_iff_eq, beq_eq_false_iff_ne, bne_iff_ne, bne_eq_false_iff_eq, tmodN, tdivN, Int.not_lt, Int.not_le] at g18
      refine Runs.rest [] [] rfl (by and_intros <;> first | exact True.intro | omega | (intro x hx; cases hx) | (simp only [List.map_nil, List.length_nil]; omega) | skip) ?_
      refine Runs.condT rfl ?_
      refine Runs.seq ?_
      refine Runs.reg [] [] rfl (by (try simp only [wrap_i64', wrap_u8, wrap_u16, wrap_u32, wrap_u64, wrap_i32, List.length_cons, List.length_nil, List.length_append, List.length_map, tmodN, tdivN]); and_intros <;> first | exact True.intro | omega | skip) ?_
      refine Runs.drop 0 (Nat.zero_le _) rfl ?_
      exact Runs.retH Tryz.func10 rfl rfl (by rw [smR_f (by rintro ⟨e1, e2, e3, e4⟩; first | exact g11 e1 | exact g18 e2 | exact g27 (by rw [e3]) | exact g35 e4 | exact g53 (by rw [e3]; exact ⟨rfl, rfl⟩))]) (by rfl)
    · try simp only [decide_eq_true_eq, decide_eq_false_iff_not, notT, notF, beq_iff_eq, beq_eq_false_iff_ne, bne_iff_ne, bne_eq_false_iff_eq, tmodN, tdivN, Int.not_lt, Int.not_le] at g18
      refine Runs.restTo 9 [] [] rfl (by and_intros <;> first | exact True.intro | omega | (intro x hx; cases hx) | (simp only [List.map_nil, List.length_nil]; omega) | skip) ?_
      refine Runs.splitS 27 rfl (fun g27 => ?_) (fun g27 => ?_)
      · try simp only [decide_eq_true_eq, decide_eq_false_iff_not, notT, notF, beq_iff_eq, beq_eq_false_iff_ne, bne_iff_ne, bne_eq_false_iff_eq, tmodN, tdivN, Int.not_lt, Int.not_le] at g27
        refine Runs.rest [] [] rfl (by and_intros <;> first | exact True.intro | omega | (intro x hx; cases hx) | (simp only [List.map_nil, List.length_nil]; omega) | skip) ?_
        refine Runs.condT rfl ?_
        refine Runs.seq ?_
        refine Runs.reg [] [] rfl (by (try simp only [wrap_i64', wrap_u8, wrap_u16, wrap_u32, wrap_u64, wrap_i32, List.length_cons, List.length_nil, List.length_append, List.length_map, tmodN, tdivN]); and_intros <;> first | exact True.intro | omega | skip) ?_
        refine Runs.drop 0 (Nat.zero_le _) rfl ?_
        exact Runs.retH Tryz.func10 rfl rfl (by rw [smR_f (by rintro ⟨e1, e2, e3, e4⟩; first | exact g11 e1 | exact g18 e2 | exact g27 (by rw [e3]) | exact g35 e4 | exact g53 (by rw [e3]; exact ⟨rfl, rfl⟩))]) (by rfl)
      · try simp only [decide_eq_true_eq, decide_eq_false_iff_not, notT, notF, beq_iff_eq, beq_eq_false_iff_ne, bne_iff_ne, bne_eq_false_iff_eq, tmodN, tdivN, Int.not_lt, Int.not_le] at g27
        refine Runs.rest [] [] rfl (by and_intros <;> first | exact True.intro | omega | (intro x hx; cases hx) | (simp only [List.map_nil, List.length_nil]; omega) | skip) ?_
        refine Runs.condS rfl (fun g35 => ?_) (fun g35 => ?_)
        · try simp only [decide_eq_true_eq, decide_eq_false_iff_not, notT, notF, beq_iff_eq, beq_eq_false_iff_ne, bne_iff_ne, bne_eq_false_iff_eq, tmodN, tdivN, Int.not_lt, Int.not_le] at g35
          refine Runs.seq ?_
          refine Runs.reg [] [] rfl (by (try simp only [wrap_i64', wrap_u8, wrap_u16, wrap_u32, wrap_u64, wrap_i32, List.length_cons, List.length_nil, List.length_append, List.length_map, tmodN, tdivN]); and_intros <;> first | exact True.intro | omega | skip) ?_
          refine Runs.drop 0 (Nat.zero_le _) rfl ?_
          exact Runs.retH Tryz.func10 rfl rfl (by rw [smR_f (by rintro ⟨e1, e2, e3, e4⟩; first | exact g11 e1 | exact g18 e2 | exact g27 (by rw [e3]) | exact g35 e4 | exact g53 (by rw [e3]; exact ⟨rfl, rfl⟩))]) (by rfl)
        · try simp only [decide_eq_true_eq, decide_eq_false_iff_not, notT, notF, beq_iff_eq, beq_eq_false_iff_ne, bne_iff_ne, bne_eq_false_iff_eq, tmodN, tdivN, Int.not_lt, Int.not_le] at g35
          refine Runs.skip ?_
          refine Runs.seq ?_
          refine Runs.seq ?_
          refine Runs.reg [] [] rfl (by (try simp only [wrap_i64', wrap_u8, wrap_u16, wrap_u32, wrap_u64, wrap_i32, List.length_cons, List.length_nil, List.length_append, List.length_map, tmodN, tdivN]); and_intros <;> first | exact True.intro | omega | skip) ?_
          refine Runs.block ?_
          -- loop 0
          refine Runs.loopF (σ := Nat) (fun i => i ≤ hd.length ∧ (m = m' ∧ t = t' ∧ hd.length = hd'.length ∧ b = b') ∧ ∀ j, j < i → hd.getD j ([], []) = hd'.getD j ([], [])) (fun i => [(2, .ptr 0 0), (3, .ptr 1 0), (5, .int .i64 i)]) (fun _ => [[.str m, .str t, .sl 2 hd.length (hdEl hd) false, .bs b false], [.str m', .str t', .sl 2 hd'.length (hdEl hd') false, .bs b' false]]) (fun i => hd.length - i) (0) (by exact ⟨Nat.zero_le _, ⟨g11, g18, by omega, g35⟩, fun j h => absurd h (Nat.not_lt_zero _)⟩) (by exact agree_cons rfl (by first | with_reducible rfl | (refine congrArg (AV.int _) ?_; (try simp only [wrap_i64', wrap_u8, wrap_u16, wrap_u32, wrap_u64, wrap_i32, List.length_cons, List.length_nil, List.length_append, List.length_map, tmodN, tdivN]); omega) | rfl | skip) (agree_cons rfl (by first | with_reducible rfl | (refine congrArg (AV.int _) ?_; (try simp only [wrap_i64', wrap_u8, wrap_u16, wrap_u32, wrap_u64, wrap_i32, List.length_cons, List.length_nil, List.length_append, List.length_map, tmodN, tdivN]); omega) | rfl | skip) (agree_cons rfl (by first | with_reducible rfl | (refine congrArg (AV.int _) ?_; (try simp only [wrap_i64', wrap_u8, wrap_u16, wrap_u32, wrap_u64, wrap_i32, List.length_cons, List.length_nil, List.length_append, List.length_map, tmodN, tdivN]); omega) | rfl | skip) (trivial)))) (by rfl) (fun i hi ih => ?_)
          replace hi : i ≤ hd.length ∧ (m = m' ∧ t = t' ∧ hd.length = hd'.length ∧ b = b') ∧ ∀ j, j < i → hd.getD j ([], []) = hd'.getD j ([], []) := hi; have hi1 := hi.1; have hi2 := hi.2.1.2.2.1
          refine Runs.seq ?_
          refine Runs.seq ?_
          refine Runs.reg [] [0] rfl (by (try simp only [wrap_i64', wrap_u8, wrap_u16, wrap_u32, wrap_u64, wrap_i32, List.length_cons, List.length_nil, List.length_append, List.length_map, tmodN, tdivN]); and_intros <;> first | exact True.intro | omega | skip) ?_
          refine Runs.condS rfl (fun g40 => ?_) (fun g40 => ?_)
          · try simp only [decide_eq_true_eq, decide_eq_false_iff_not, notT, notF, beq_iff_eq, beq_eq_false_iff_ne, bne_iff_ne, bne_eq_false_iff_eq, tmodN, tdivN, Int.not_lt, Int.not_le] at g40
            refine Runs.skip ?_
            refine Runs.seq ?_
            refine Runs.block ?_
            refine Runs.seq ?_
            refine Runs.regD [] [2, 7] rfl rfl rfl (by and_intros <;> first | exact True.intro | exact pair47.1 | exact pair47.2 | omega) ?_
            refine Runs.condS rfl (fun g53 => ?_) (fun g53 => ?_)
            · try simp only [decide_eq_true_eq, decide_eq_false_iff_not, notT, notF, beq_iff_eq, beq_eq_false_iff_ne, bne_iff_ne, bne_eq_false_iff_eq, tmodN, tdivN, Int.not_lt, Int.not_le] at g53
              refine Runs.seq ?_
              refine Runs.reg [] [] rfl (by (try simp only [wrap_i64', wrap_u8, wrap_u16, wrap_u32, wrap_u64, wrap_i32, List.length_cons, List.length_nil, List.length_append, List.length_map, tmodN, tdivN]); and_intros <;> first | exact True.intro | omega | skip) ?_
              refine Runs.drop 0 (Nat.zero_le _) rfl ?_
              exact Runs.retH Tryz.func10 rfl rfl (by rw [smR_f (by rintro ⟨e1, e2, e3, e4⟩; first | exact g11 e1 | exact g18 e2 | exact g27 (by rw [e3]) | exact g35 e4 | exact g53 (by rw [e3]; exact ⟨rfl, rfl⟩))]) (by rfl)
            · try simp only [decide_eq_true_eq, decide_eq_false_iff_not, notT, notF, beq_iff_eq, beq_eq_false_iff_ne, bne_iff_ne, bne_eq_false_iff_eq, tmodN, tdivN, Int.not_lt, Int.not_le] at g53
              refine Runs.skip ?_
              refine Runs.inBlock ?_
              refine Runs.reg [] [] rfl (by (try simp only [wrap_i64', wrap_u8, wrap_u16, wrap_u32, wrap_u64, wrap_i32, List.length_cons, List.length_nil, List.length_append, List.length_map, tmodN, tdivN]); and_intros <;> first | exact True.intro | omega | skip) ?_
              refine Runs.drop 2 (Nat.le_of_ble_eq_true rfl) rfl ?_
              exact ih (i + 1) _ _ (by exact ⟨by omega, hi.2.1, fun j hj => by rcases Nat.lt_or_ge j i with h | h; exact hi.2.2 j h; (rw [show j = i by omega]; exact Prod.ext (by simpa using g53.1) (by simpa using g53.2))⟩) (by omega) (by exact agree_cons rfl (by first | with_reducible rfl | (refine congrArg (AV.int _) ?_; (try simp only [wrap_i64', wrap_u8, wrap_u16, wrap_u32, wrap_u64, wrap_i32, List.length_cons, List.length_nil, List.length_append, List.length_map, tmodN, tdivN]); omega) | rfl | skip) (agree_cons rfl (by first | with_reducible rfl | (refine congrArg (AV.int _) ?_; (try simp only [wrap_i64', wrap_u8, wrap_u16, wrap_u32, wrap_u64, wrap_i32, List.length_cons, List.length_nil, List.length_append, List.length_map, tmodN, tdivN]); omega) | rfl | skip) (agree_cons rfl (by first | with_reducible rfl | (refine congrArg (AV.int _) ?_; (try simp only [wrap_i64', wrap_u8, wrap_u16, wrap_u32, wrap_u64, wrap_i32, List.length_cons, List.length_nil, List.length_append, List.length_map, tmodN, tdivN]); omega) | rfl | skip) (trivial)))) (by rfl)
          · try simp only [decide_eq_true_eq, decide_eq_false_iff_not, notT, notF, beq_iff_eq, beq_eq_false_iff_ne, bne_iff_ne, bne_eq_false_iff_eq, tmodN, tdivN, Int.not_lt, Int.not_le] at g40
            refine Runs.exit rfl ?_
            refine Runs.seq ?_
            refine Runs.reg [] [] rfl (by (try simp only [wrap_i64', wrap_u8, wrap_u16, wrap_u32, wrap_u64, wrap_i32, List.length_cons, List.length_nil, List.length_append, List.length_map, tmodN, tdivN]); and_intros <;> first | exact True.intro | omega | skip) ?_
            refine Runs.drop 0 (Nat.zero_le _) rfl ?_
            exact Runs.retH Tryz.func10 rfl rfl (by rw [show smR m t hd b m' t' hd' b' = true from decide_eq_true ⟨hi.2.1.1, hi.2.1.2.1, hds_eq hi2 (fun j hj => hi.2.2 j (by omega)), hi.2.1.2.2.2⟩]) (by rfl)

end Go.Proofs.YtdigohaeakclfaaGreatDoor
