/- list.page walked. -/
import Derived.Test.YtfkpdfpnpcdhaaaL3
import Derived.RangeFuncNested
namespace Go.Proofs.LP
open Go Go.RowKit Go.Shelf Go.Proofs
set_option linter.unusedVariables false
set_option linter.unusedSimpArgs false
attribute [local go_sem] Oper.semAt_some
def rowOf (l : List It) : List Value := l.flatMap fun x => itC x.name x.grp x.at_
/-- a page's slice: new memory, just as long as it must be -/
def IsRow (w' : World) (N : Nat) (v : Value) (l : List It) : Prop :=
  (v = .slice none 0 0 ∧ l = []) ∨ ∃ g, v = .slice (some ⟨g, 0, none⟩) l.length l.length ∧ N ≤ g ∧ ∀ j u, (rowOf l)[j]? = some u → w'.cell? ⟨g, j, none⟩ = some u ∧ w'.frozen? ⟨g, j, none⟩ = false
theorem isRow_of {W W3 : World} {m N : Nat} {u : Option Addr} {c : Nat} {ys : List It} (hrow : W.ownsRow N 64 22 (.slice u ys.length c) ys.length (rowOf ys)) (hN : m ≤ N)
    (hs : ∀ g cur, N ≤ g → W.heap[g]? = some (.cells cur 64 (0, 0)) → W3.heap[g]? = W.heap[g]?) : IsRow W3 m (.slice u ys.length ys.length) ys := by
  rcases hrow.2 with ⟨h, h0⟩ | ⟨g, cp, cur, h, hg, hc, h1, h2, h3, h4⟩
  · have : ys = [] := List.eq_nil_of_length_eq_zero h0
    subst this
    cases h
    exact .inl ⟨rfl, rfl⟩
  · simp only [Value.slice.injEq] at h
    obtain ⟨rfl, -, rfl⟩ := h
    have hh := (hs g cur hg hc).trans hc
    refine .inr ⟨g, rfl, by omega, fun j u e => ⟨?_, ?_⟩⟩
    · rw [← h4, List.getElem?_take] at e
      split at e
      · simp only [World.cell?, hh]
        simpa using e
      · cases e
    · simp [World.frozen?, hh]
theorem fin_d {W : World} {m D : Nat} {x y u v : Value} (hv : Boxed W (m + 1) 45 x) (h4 : Boxed W (m + 2) 4 y) (hD : W.heap[D]? = some (.deferred (some []))) :
    (((W.setCell ⟨m + 1, 0, none⟩ u).setCell ⟨m + 2, 0, none⟩ v).drew).heap[D]? = some (.deferred (some [])) := by
  have h1 : D ≠ m + 1 := fun e => by subst e; rw [show W.heap[m + 1]? = _ from hv] at hD; cases hD
  have h2 : D ≠ m + 2 := fun e => by subst e; rw [show W.heap[m + 2]? = _ from h4] at hD; cases hD
  exact ((Below.heap_setCell _ _ _ D h2).trans (Below.heap_setCell _ _ _ D h1)).trans hD
theorem fin48 {w W : World} {D N : Nat} {u : Option Addr} {c : Nat} {ys : List It} {y : Value} (hv : Boxed W (w.heap.size + 1) 45 (.slice u ys.length c)) (hrow : W.ownsRow N 64 22 (.slice u ys.length c) ys.length (rowOf ys)) (h4 : Boxed W (w.heap.size + 2) 4 y) (hB : Below w.heap.size w W)
    (hN : w.heap.size + 6 ≤ N) (hD : w.heap.size + 6 ≤ D) (hKD : W.heap[D]? = some (.deferred (some []))) (o' : Obj) (x : Value) (hx : x = y) :
    let W3 := (((W.setCell ⟨w.heap.size + 1, 0, none⟩ (.slice u ys.length ys.length)).setCell ⟨w.heap.size + 2, 0, none⟩ x).drew).putObj D o'
    W3.cell? ⟨w.heap.size + 1, 0, none⟩ = some (.slice u ys.length ys.length) ∧ W3.cell? ⟨w.heap.size + 2, 0, none⟩ = some x ∧ IsRow W3 w.heap.size (.slice u ys.length ys.length) ys ∧ Below w.heap.size w W3 := by
  intro W3
  have hp : ∀ k, k ≠ D → W3.heap[k]? = (((W.setCell ⟨w.heap.size + 1, 0, none⟩ (.slice u ys.length ys.length)).setCell ⟨w.heap.size + 2, 0, none⟩ x)).heap[k]? := fun k hk => World.putObj_heap_other (w := ((W.setCell ⟨w.heap.size + 1, 0, none⟩ (.slice u ys.length ys.length)).setCell ⟨w.heap.size + 2, 0, none⟩ x).drew) (fun e => hk (by rw [e]))
  have a1 : Boxed W3 (w.heap.size + 1) 45 (.slice u ys.length ys.length) := (hp _ (by omega)).trans (Boxed.setOther (hv.set _) _ (by omega))
  have a2 : Boxed W3 (w.heap.size + 2) 4 x := (hp _ (by omega)).trans ((Boxed.setOther h4 _ (by omega)).set x)
  refine ⟨a1.cell, a2.cell, isRow_of hrow (by omega) fun g cur hg hc => ?_, ?_⟩
  · have : g ≠ D := fun e => by subst e; rw [hc] at hKD; cases hKD
    exact (hp g this).trans ((Below.heap_setCell _ _ _ g (by simp; omega)).trans (Below.heap_setCell _ _ _ g (by simp; omega)))
  · refine hB.trans ?_
    have b1 : Below w.heap.size W ((W.setCell ⟨w.heap.size + 1, 0, none⟩ (.slice u ys.length ys.length)).setCell ⟨w.heap.size + 2, 0, none⟩ x) := ((Below.refl _ W).setCell (p := ⟨w.heap.size + 1, 0, none⟩) (by simp) _).setCell (p := ⟨w.heap.size + 2, 0, none⟩) (by simp) _
    exact b1.drew.grown (grownBy_putObj' _ D o') (by have := b1.size; have := hB.size; simpa using (by omega)) (fun k e => by cases e; omega)
def Stop (p : Prop) : Prop := p
theorem stop_in {p : Prop} (h : Stop p) : p := h
theorem results_48 {W : World} {tmps : Array Value} {a b : Nat} {u v : Value} (h6 : tmps.getD 6 undef = .pointer (some ⟨a, 0, none⟩)) (h7 : tmps.getD 7 undef = .pointer (some ⟨b, 0, none⟩)) (h1 : u.oneCell' = true) (h2 : v.oneCell' = true)
    (c1 : W.cell? ⟨a, 0, none⟩ = some u) (c2 : W.cell? ⟨b, 0, none⟩ = some v) : (results Try.f48 tmps).run Try.prog W = .ok (.tuple #[u, v]) W := by
  have e : Try.f48.results = #[.cell 6 45, .cell 7 4] := rfl
  have a45 : Go.Am.isAggT Try.prog 45 = some false := by kernel_rfl
  have a4 : Go.Am.isAggT Try.prog 4 = some false := by kernel_rfl
  simp only [Array.getD_eq_getD_getElem?] at h6 h7
  simp [results, e, h6, h7, asAddr, loadVar, Go.Am.run_isAgg a45, Go.Am.run_isAgg a4, c1, c2]
theorem Boxed.new' {W : World} {t : TypeId} {v : Value} {b : Nat} (h : b = W.heap.size) : Boxed (W.alloc (.cells #[v] t)) b t v := h ▸ Boxed.new W t v
/-- what holds at each round -/
def pgI (w : World) (mx : Int) (N : Nat) (pr : List It) (W : World) : Prop :=
  (∃ v, Boxed W (w.heap.size + 1) 45 v ∧ W.ownsRow N 64 22 v pr.length (rowOf pr) ∧ (v = .slice none 0 0 ↔ pr = [])) ∧ (Boxed W (w.heap.size + 2) 4 (.bool false) ∧ pr.length ≤ mx.toNat ∧ W.cell? ⟨w.heap.size, 6, none⟩ = some (.int .i64 mx) ∧ Below w.heap.size w W ∧ N ≤ W.heap.size)
/-- and where the loop is left -/
def pgX (w : World) (mx : Int) (N : Nat) (c : Code) (pr : List It) (W : World) : Prop :=
  c = .exit 0 ∧ ∃ ys x v, pr = ys ++ [x] ∧ ys.length = mx.toNat ∧ Boxed W (w.heap.size + 1) 45 v ∧ W.ownsRow N 64 22 v ys.length (rowOf ys) ∧ (v = .slice none 0 0 ↔ ys = []) ∧ Boxed W (w.heap.size + 2) 4 (.bool true) ∧ Below w.heap.size w W
def pgA (w : World) (bn : Option Addr) (cap len : Nat) (bo : Array Value) (pre del mar sec : ByteArray) (qb qc : ByteArray) (qd : Int) (mx : Int) (N : Nat) (x : It) (a' : Act) (W : World) : Prop :=
  ∃ b, IsIt W b (itC x.name x.grp x.at_) ∧ N ≤ b ∧ a' = { tmps := #[.slice bn len cap, .agg #[.string pre, .string del, .string mar, .string sec, .string qb, .string qc, .int .i64 mx, .int .i64 qd], .func (.func 49) #[] bo, undef, .pointer (some ⟨w.heap.size, 0, none⟩), undef, .pointer (some ⟨w.heap.size + 1, 0, none⟩), .pointer (some ⟨w.heap.size + 2, 0, none⟩), .pointer (some ⟨b, 0, none⟩), .pointer (some ⟨w.heap.size, 6, none⟩), .int .i64 mx, .bool (decide (mx < 1)), .slice bn len cap, .agg #[.string pre, .string del, .string mar, .string sec, .string qb, .string qc, .int .i64 mx, .int .i64 qd], .func (.func 49) #[] bo, .func (.func 66) #[] #[.pointer (some ⟨w.heap.size + 3, 0, none⟩), .pointer (some ⟨w.heap.size + 4, 0, none⟩), .pointer (some ⟨w.heap.size + 5, 0, none⟩)], It.val x, undef, undef, undef, undef, undef, undef, undef, undef, undef, undef, undef, undef], defers := [] }
theorem row_keep {N B : Nat} {ys : List It} {W W' : World} {row : Option Nat} {v : Value} (hv : Boxed W B 45 v) (hr : W.ownsRow N 64 22 v ys.length (rowOf ys)) (hg : W.grownBy W' row) (hrow : ∀ r, row = some r → ∃ o : Obj, W.heap[r]? = some o ∧ o.isCells = false) :
    Boxed W' B 45 v ∧ W'.ownsRow N 64 22 v ys.length (rowOf ys) := by
  refine ⟨hv.kept hg (fun e' => ?_), hr.kept hg ?_⟩
  · obtain ⟨o, ho, hc⟩ := hrow B e'.symm
    rw [show W.heap[B]? = _ from hv] at ho; cases ho; cases hc
  · rcases hr.2 with ⟨rfl, _⟩ | ⟨g, cap, cur, rfl, _, hgb, _⟩
    · exact .inl rfl
    · refine .inr fun e' => ?_
      obtain ⟨o, ho, hc⟩ := hrow g (by simpa [Value.ownBlock] using e'.symm)
      rw [hgb] at ho; cases ho; cases hc
theorem box_keep {B : Nat} {W W' : World} {row : Option Nat} {t : TypeId} {v : Value} (hv : Boxed W B t v) (hg : W.grownBy W' row) (hrow : ∀ r, row = some r → ∃ o : Obj, W.heap[r]? = some o ∧ o.isCells = false) : Boxed W' B t v := by
  refine hv.kept hg (fun e' => ?_)
  obtain ⟨o, ho, hc⟩ := hrow B e'.symm
  rw [show W.heap[B]? = _ from hv] at ho; cases ho; cases hc
theorem pgI_own (w : World) (mx : Int) (N : Nat) (hN : w.heap.size ≤ N) : OwnFrom N (pgI w mx N) := by
  rintro pr W W' row ⟨⟨v, hv, hrow, hnil⟩, h1, h2, h3, h4, h5⟩ hg hr
  have hr' : ∀ r, row = some r → ∃ o : Obj, W.heap[r]? = some o ∧ o.isCells = false := fun r e => (hr r e).2
  obtain ⟨a1, a2⟩ := row_keep hv hrow hg hr'
  exact ⟨⟨v, a1, a2, hnil⟩, box_keep h1 hg hr', h2, cell_kept h3 hg hr', ownFrom_below (β := Unit) (Nat.le_refl _) hN () W W' row h4 hg hr, Nat.le_trans h5 hg.size⟩
theorem pgX_own (w : World) (mx : Int) (N : Nat) (hN : w.heap.size ≤ N) (c : Code) : OwnFrom N (pgX w mx N c) := by
  rintro pr W W' row ⟨h0, ys, x, v, e1, e2, hv, hrow, hnil, hb, hB⟩ hg hr
  have hr' : ∀ r, row = some r → ∃ o : Obj, W.heap[r]? = some o ∧ o.isCells = false := fun r e => (hr r e).2
  obtain ⟨a1, a2⟩ := row_keep hv hrow hg hr'
  exact ⟨h0, ys, x, v, e1, e2, a1, a2, hnil, box_keep hb hg hr', ownFrom_below (β := Unit) (Nat.le_refl _) hN () W W' row hB hg hr⟩
theorem pgA_own (w : World) (bn : Option Addr) (cap len : Nat) (bo : Array Value) (pre del mar sec : ByteArray) (qb qc : ByteArray) (qd : Int) (mx : Int) (N : Nat) (x : It) (a' : Act) : OwnFrom N (fun (_ : Unit) W => pgA w bn cap len bo pre del mar sec qb qc qd mx N x a' W) := by
  rintro _ W W' row ⟨b, hi, hb, ha⟩ hg hr
  have hr' : ∀ r, row = some r → ∃ o : Obj, W.heap[r]? = some o ∧ o.isCells = false := fun r e => (hr r e).2
  exact ⟨b, ⟨hi.len, fun j v e => cell_kept (hi.cell j v e) hg hr', fun j e => frozen_kept (v := (itC x.name x.grp x.at_)[j]'(by rw [itC_len]; exact e)) (hi.cell j _ (List.getElem?_eq_getElem _)) hg hr' |>.trans (hi.fz j e)⟩, hb, ha⟩
section
variable (hp : ByteArray → ByteArray → Bool) (gr : ByteArray → ByteArray → ByteArray → ByteArray × Bool) (out : Nat → Bool) (names : Nat → ByteArray) (pre del mar sec : ByteArray) (qb qc : ByteArray) (qd : Int) (mx : Int)
def full (len : Nat) : List It := (upto hp gr out names pre del mar len).ys
def pgL (len : Nat) : List It := if mx < 1 then [] else (full hp gr out names pre del mar len).take mx.toNat
def pgM (len : Nat) : Bool := if mx < 1 then false else decide (mx.toNat < (full hp gr out names pre del mar len).length)
set_option maxRecDepth 100000 in
set_option maxHeartbeats 4000000 in
theorem page_in (n : Nat) (hn : 5 ≤ n) (w : World) (bn : Option Addr) (cap len : Nat) (hlen : len ≤ 16777216) (bo : Array Value) (henv : Env w hp gr names len pre del)
    (hOut : ∀ (i : Nat) w', i < len → Below w.heap.size w w' → Calls Try.prog 49 (#[.int .i64 i] ++ bo) w' fun e w'' => e = .returned (.bool (out i)) ∧ Below w'.heap.size w' w'')
    (hN : Names w w.heap.size bn len names) :
    CallsIn Fence.wide n Try.prog 48 #[.slice bn len cap, .agg (quC pre del mar sec qb qc mx qd).toArray, .func (.func 49) #[] bo] w fun e w' =>
      ∃ v, e = .returned (.tuple #[v, .bool (pgM hp gr out names pre del mar mx len)]) ∧ IsRow w' w.heap.size v (pgL hp gr out names pre del mar mx len) ∧ Below w.heap.size w w' := by
  have h1 : 1 ≤ n := by omega
  obtain ⟨i0, hi, hz⟩ := Option.map_eq_some_iff.1 inf64
  simp only [Prod.mk.injEq] at hz
  obtain ⟨hz0, hz1, hz2⟩ := hz
  refine callsIn_of_wp_marks Try.func48 rfl trivial ?_ rfl
  simp only [Try.ntmps48, quC, List.size_toArray, List.length_cons, List.length_nil, Nat.reduceAdd, Nat.reduceSub, Array.replicate_succ, Array.replicate_zero, List.push_toArray, List.append_toArray, List.nil_append, List.cons_append]
  have w55 : Fence.wide.fn 55 := trivial
  have w56 : Fence.wide.fn 56 := trivial
  gi_wp2_with (gi_at_call 55; refine (items_in (n - 1) _ _ rfl rfl rfl rfl _ _).mono ?_; rintro e w' ⟨rfl, rfl⟩)
  · have hlt : mx < 1 := by assumption
    refine ⟨_, results_48 rfl rfl rfl rfl (Boxed.cell (t := 45) (v := .slice none 0 0) ((Boxed.new' (by simp)).alloc _)) (Boxed.cell (t := 4) (v := .bool false) (Boxed.new' (by simp))), _, ?_, .inl ⟨rfl, by simp [pgL, hlt]⟩, ?_⟩
    · simp [pgM, hlt]
    · exact (((Below.refl _ w).alloc (Nat.le_refl _) _).alloc (by simp) _).alloc (by simp; omega) _
  rename_i hge K hK
  generalize hw5 : ((((((w.alloc _).alloc _).alloc _).alloc _).alloc _).alloc _) = w5
  obtain ⟨sz5, f29, f44a, f44b, f44c, f87, fq6, b45, b4, bl5⟩ : w5.heap.size = w.heap.size + 6 ∧ w5.cell? ⟨w.heap.size + 3, 0, none⟩ = some (.slice bn len cap) ∧ w5.cell? ⟨w.heap.size + 4, 0, none⟩ = some (.string pre) ∧ w5.cell? ⟨w.heap.size + 4, 1, none⟩ = some (.string del) ∧ w5.cell? ⟨w.heap.size + 4, 2, none⟩ = some (.string mar) ∧ w5.cell? ⟨w.heap.size + 5, 0, none⟩ = some (.func (.func 49) #[] bo) ∧ w5.cell? ⟨w.heap.size, 6, none⟩ = some (.int .i64 mx) ∧ Boxed w5 (w.heap.size + 1) 45 (.slice none 0 0) ∧ Boxed w5 (w.heap.size + 2) 4 (.bool false) ∧ Below w.heap.size w w5 := by
    subst hw5
    refine ⟨by simp, ?_, ?_, ?_, ?_, Boxed.cell (t := 87) (Boxed.new' (by simp)), ?_, (((((Boxed.new' (by simp)).alloc _).alloc _).alloc _).alloc _), ((((Boxed.new' (by simp)).alloc _).alloc _).alloc _), ?_⟩
    · exact Boxed.cell (t := 29) (((Boxed.new' (by simp)).alloc _).alloc _)
    · rw [World.cell?_alloc_past _ _ _ (by simp), World.cell?_alloc_at _ _ _ _ (by simp)]; rfl
    · rw [World.cell?_alloc_past _ _ _ (by simp), World.cell?_alloc_at _ _ _ _ (by simp)]; rfl
    · rw [World.cell?_alloc_past _ _ _ (by simp), World.cell?_alloc_at _ _ _ _ (by simp)]; rfl
    · rw [World.cell?_alloc_past _ _ _ (by simp; omega), World.cell?_alloc_past _ _ _ (by simp; omega), World.cell?_alloc_past _ _ _ (by simp; omega), World.cell?_alloc_past _ _ _ (by simp; omega), World.cell?_alloc_past _ _ _ (by simp), World.cell?_alloc_at _ _ _ _ rfl]; rfl
    · exact ((((((Below.refl _ w).alloc (Nat.le_refl _) _).alloc (by simp) _).alloc (by simp; omega) _).alloc (by simp; omega) _).alloc (by simp; omega) _).alloc (by simp; omega) _
  clear hw5
  simp only [Nat.add_assoc, Nat.reduceAdd]
  have hst := items_stops hp gr out names pre del mar (n - 1) (by omega) w w5 (w.heap.size + 1) (w.heap.size + 2) (w.heap.size + 3) (w.heap.size + 4) (w.heap.size + 5) (by omega) (by omega) (by omega) (by omega) (by omega) bl5 bn cap len hlen bo henv hOut hN f29 f44a f44b f44c f87
  have fin : ∀ (D : Nat) (W : World) (ys : List It) (more : Bool) (v : Value), w5.heap.size ≤ D → W.heap[D]? = some (.deferred (some [])) → Boxed W (w.heap.size + 1) 45 v → W.ownsRow w5.heap.size 64 22 v ys.length (rowOf ys) →
      Boxed W (w.heap.size + 2) 4 (.bool more) → Below w.heap.size w W → pgL hp gr out names pre del mar mx len = ys → pgM hp gr out names pre del mar mx len = more →
      K { tmps := #[.slice bn len cap, .agg #[.string pre, .string del, .string mar, .string sec, .string qb, .string qc, .int .i64 mx, .int .i64 qd], .func (.func 49) #[] bo, undef, .pointer (some ⟨w.heap.size, 0, none⟩), undef, .pointer (some ⟨w.heap.size + 1, 0, none⟩), .pointer (some ⟨w.heap.size + 2, 0, none⟩), undef, .pointer (some ⟨w.heap.size, 6, none⟩), .int .i64 mx, .bool (decide (mx < 1)), .slice bn len cap, .agg #[.string pre, .string del, .string mar, .string sec, .string qb, .string qc, .int .i64 mx, .int .i64 qd], .func (.func 49) #[] bo, .func (.func 66) #[] #[.pointer (some ⟨w.heap.size + 3, 0, none⟩), .pointer (some ⟨w.heap.size + 4, 0, none⟩), .pointer (some ⟨w.heap.size + 5, 0, none⟩)], undef, undef, undef, undef, undef, undef, undef, undef, undef, undef, undef, undef, undef], defers := [{ target := .collected D, args := #[] }] } W := by
    intro D W ys more v hD hKD hv hrow h4 hB eL eM
    refine hK _ _ ?_
    have hc4 := h4.cell
    have hf4 := h4.frozen
    have hc := hv.cell
    have hf := hv.frozen
    have hmx : Try.prog.follows .mixedOrders = true := by kernel_rfl
    obtain ⟨u, c, k, rfl, rfl, hkc⟩ : ∃ u c k, v = .slice u k c ∧ k = ys.length ∧ k ≤ c := by
      rcases hrow.2 with ⟨rfl, h0⟩ | ⟨g, cp, cur, rfl, _, _, h5, _⟩
      · exact ⟨_, _, _, rfl, h0.symm, Nat.le_refl _⟩
      · exact ⟨_, _, _, rfl, rfl, h5⟩
    gi_wp2
    gi_region_with_o (gi_at_call 56; refine (clip_in _ _ _ _ hkc _).mono ?_; rintro e w' ⟨u, rfl, rfl, rfl⟩)
    all_goals gi_wp2
    all_goals refine ⟨by simp, .inl ⟨_, _, rfl, run_takeDeferred (fin_d hv h4 hKD), ?_⟩⟩
    all_goals obtain ⟨g1, g2, g3, g4⟩ := fin48 (D := D) (w := w) hv hrow h4 hB (by omega) (by omega) hKD (.deferred none) (.bool more) rfl
    all_goals exact ⟨_, results_48 rfl rfl rfl rfl g1 g2, .slice u ys.length ys.length, by rw [eM], by rw [eL]; exact g3, g4⟩
  clear hK
  refine wpIn_rangeFunc_ownH rfl h1 (gf := 66) rfl trivial (enters_of Try.func66 (by kernel_rfl) rfl) hst (fun h k => h.trans k) kxB (Below.refl _ _) (fun _ => rfl) (pgI w mx w5.heap.size) (pgX w mx w5.heap.size) (pgI_own w mx _ (by omega)) (fun c => pgX_own w mx _ (by omega) c)
    ⟨⟨_, b45, World.ownsRow_nil _ _ _ _, by simp⟩, b4, by simp, fq6, bl5, Nat.le_refl _⟩ (pgA w bn cap len bo pre del mar sec qb qc qd mx w5.heap.size) (fun x a' => pgA_own w bn cap len bo pre del mar sec qb qc qd mx _ x a') ?assign ?body ?done ?stop
  case assign =>
    intro l pr x W K hI hK
    have hsz := hI.2.2.2.2.1.size
    have hz : ∀ t : Array Value, ((#[16] : Array Tmp).zip #[It.val x]).foldl (fun t (p, v) => t.setIfInBounds p v) t = t.setIfInBounds 16 (It.val x) := fun t => by simp
    simp only [hz, List.setIfInBounds_toArray, List.set_cons_succ, List.set_cons_zero, It.val]
    gi_wp2_with (refine op_alloc rfl rfl ?_; intro wa hsa hia hba hwa; clear hwa; refine stop_in ?_)
    unfold Stop
    refine op_store (xs := itC x.name x.grp x.at_) hia rfl (itC_one _ _ _) rfl rfl rfl rfl ?_
    intro wb hib hbb hsb hbo
    gi_wp2
    have hg := grown_of_below (hba.trans (hbb _ (Nat.le_refl _)))
    have hk := KeepsFrom.of_grownBy (B := w5.heap.size) hg (fun j e => by cases e)
    have hle5 : w5.heap.size ≤ W.heap.size := hI.2.2.2.2.2
    refine hK _ _ hk (Below.kx ((hba.trans (hbb _ (Nat.le_refl _))).mono hle5)) ?_ ?_
    · exact pgI_own w mx _ (by omega) _ _ _ none hI hg (fun r e => by cases e)
    · exact ⟨_, hib, hle5, rfl⟩
  case body =>
    rintro l pr x a' W hl _ hI ⟨b, hib, hNb, rfl⟩ hlen'
    obtain ⟨⟨v, hv, hrow, hnil⟩, h4, hle, hq6, hB, hN5⟩ := hI
    have hc := hv.cell
    have hc4 := h4.cell
    have hf4 := h4.frozen
    have hvs : ∃ u k c, v = .slice u k c ∧ k = pr.length := by
      rcases hrow.2 with ⟨rfl, h0⟩ | ⟨g, cp, cur, rfl, _⟩
      · exact ⟨_, _, _, rfl, h0.symm⟩
      · exact ⟨_, _, _, rfl, rfl⟩
    obtain ⟨u, k, c, rfl, rfl⟩ := hvs
    have hsz := hB.size
    have s1 : ∀ (j : Nat) (u : Value), (itC x.name x.grp x.at_)[j]? = some u → (W.alloc (.cells (itC x.name x.grp x.at_).toArray 64)).cell? ((⟨W.heap.size, 0, none⟩ : Addr).add j) = some u := fun j u e => by
      have := (IsIt.alloc W (vs := itC x.name x.grp x.at_) rfl).cell j u e
      rw [show (⟨W.heap.size, 0, none⟩ : Addr).add j = ⟨W.heap.size, j, none⟩ by simpa [Go.Am.mkA] using Go.Am.mkA_add W.heap.size 0 j]
      exact this
    have s2 : pr.length + 1 ≤ maxLen := by simp [maxLen]; omega
    have s3 : (pr.length + 1) * i0.bytes ≤ 140737488355328 := by have := Nat.le_of_ble_eq_true hz2; have := Nat.mul_le_mul (show pr.length + 1 ≤ 16777217 by omega) this; omega
    have s4 : w5.heap.size ≤ (W.alloc (.cells (itC x.name x.grp x.at_).toArray 64)).heap.size := by simp; omega
    gi_wp2_with first
      | (refine op_load hib rfl rfl rfl ?_)
      | (refine op_build (s := x.name) (g := x.grp) (k := x.at_) rfl rfl rfl ?_)
      | (gi_at_builtin; refine wpListIn_append_own _ rfl _ _ 45 rfl w5.heap.size 64 i0 (.agg (itC ⟨#[]⟩ false 0).toArray) 22 _ u45 hi hz0 hz1 rfl rfl (by decide) _ _ _ rfl (hrow.alloc _) ⟨W.heap.size, 0, none⟩ 1 1 (itC x.name x.grp x.at_) rfl rfl s1 (itC_one _ _ _) s2 s3 s4 ?_
         intro v' w1 hown' hgrow _; obtain ⟨g', cap', rfl⟩ := ownsRow_succ hown'; obtain ⟨hv1, hv2, hr2, hk2, hb2, hbx⟩ := boxApp (d := w.heap.size + 2) hv (by decide) hrow hN5 hown' hgrow; have hc1 := hv1.cell; have hf1 := hv1.frozen)
    · have he : ((pr.length : Int) == mx) = true := by assumption
      have he' : (pr.length : Int) = mx := by simpa using he
      refine ⟨KeepsFrom.of_grownBy (grownBy_setCell' W _ _) (fun j e => by cases e; omega), rfl, pr, x, _, rfl, by omega, Boxed.setOther hv _ (by omega), hrow.kept (grownBy_setCell' W _ _) ?_, hnil, h4.set _, hB.setCell (p := ⟨w.heap.size + 2, 0, none⟩) (by simp) _⟩
      exact .inr (by have := h4.not_row (by decide) hrow; exact fun e => this e.symm)
    · have he : ((pr.length : Int) == mx) = false := by assumption
      have he' : (pr.length : Int) ≠ mx := by simpa using he
      rw [← sz5]
      refine ⟨hk2.from _, hb2, ⟨_, hv2, by simpa [rowOf] using hr2, by simp⟩, hbx _ _ _ h4 (by decide) (by omega), by simp; omega, ?_, hB.trans (hb2.low (by omega) (by omega) (by omega)), ?_⟩
      · exact (hb2.cell (p := ⟨w.heap.size, 6, none⟩) ⟨by simp; omega, by simp, by simp⟩).trans hq6
      · have := hb2.size; omega
  case done =>
    rintro D ys W hD rfl ⟨⟨v, hv, hrow, hnil⟩, h4, hle, hq6, hB, hN5⟩ hKD
    refine fin D W _ _ v hD hKD hv hrow h4 hB ?_ ?_
    · have hle' : (full hp gr out names pre del mar len).length ≤ mx.toNat := hle
      simp only [pgL]
      rw [if_neg (by omega), List.take_of_length_le hle']
      rfl
    · have hle' : (full hp gr out names pre del mar len).length ≤ mx.toNat := hle
      simp only [pgM]
      rw [if_neg (by omega)]
      simp; omega
  case stop =>
    rintro D c pr W hD hpre ⟨rfl, ys, x, v, rfl, hyl, hv, hrow, hnil, h4, hB⟩ hKD
    have hpre' : ys ++ [x] <+: full hp gr out names pre del mar len := hpre
    have hlt : ys.length < (full hp gr out names pre del mar len).length := by have := hpre'.length_le; simp at this; omega
    have htk : (full hp gr out names pre del mar len).take mx.toNat = ys := by
      obtain ⟨z, hz⟩ := hpre'
      rw [← hz, ← hyl]; simp
    gi_wp2
    refine fin D W ys _ v hD hKD hv hrow h4 hB ?_ ?_
    · simp only [pgL]; rw [if_neg (by omega)]; exact htk
    · simp only [pgM]; rw [if_neg (by omega)]; simp; omega
end
end Go.Proofs.LP
