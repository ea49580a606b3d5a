/- Requests signed: what Header and Presign call. Requests in memory: rows of pairs and of bytes in new memory; the machine's contracts told to the kit's walk. sig.copied, walked: rows of one's own. -/
import Derived.Test.YtdigohaeakclfaaGreatDoorMa16
import Derived.Test.YtdigohaeakclfaaGreatDoorMa14
import Derived.Test.YtdigohaeakclfaaGreatDoorMa15
import Derived.Deep.RegionWith
import Derived.Deep.RegionLaw
set_option maxRecDepth 100000
set_option linter.unusedVariables false
set_option linter.unusedSimpArgs false
namespace Go.Proofs.YtdigohaeakclfaaGreatDoor
open Go Go.Am

theorem cutF_found (s : List UInt8) (c : UInt8) : (cutF s c).2.2 = decide (0 ≤ Lib.indexByte s c) := by
  unfold cutF; split <;> simp_all
theorem fit_ok (id sec : List UInt8) (tm : Int) (hi : id.length ≤ 16777216) (h0 : -9223372036854775808 ≤ tm) (h1 : tm ≤ 9223372036854775807) : FnOK Tryz.prog 28 [.agg [.str id, .str sec], .int .i64 tm] [] (.bool (fitB id tm)) [] := by
  refine FnOK.of_runs Tryz.func28 rfl (Nat.le_of_ble_eq_true rfl) ?_
  refine Runs.seq ?_
  refine Runs.reg [] [] rfl (by (try simp only [wrap_i64', wrap_u8, wrap_u16, wrap_u32, wrap_u64, wrap_i32, List.length_cons, List.length_nil, List.length_append, List.length_map, tmodN, tdivN]); and_intros <;> first | exact True.intro | omega | skip) ?_
  refine Runs.seq ?_
  refine Runs.reg [(2, { res := .tup [.str (cutF id 47).1, .str (cutF id 47).2.1, .bool (cutF id 47).2.2] })] [] rfl (by and_intros <;> first | exact True.intro | exact rcut_ok id 47 hi) ?_
  refine Runs.seq ?_
  refine Runs.region ?_
  refine Runs.restTo 3 [] [0, 3, 12] rfl (by and_intros <;> first | exact True.intro | omega | (intro x hx; cases hx) | (simp only [List.map_nil, List.length_nil]; omega) | skip) ?_
  refine Runs.splitS 17 rfl (fun g17 => ?_) (fun g17 => ?_)
  · try simp only [decide_eq_true_eq, decide_eq_false_iff_not, notT, notF, beq_iff_eq, beq_eq_false_iff_ne, bne_iff_ne, bne_eq_false_iff_eq, tmodN, tdivN, Int.not_lt, Int.not_le] at g17
    refine Runs.restTo 4 [] [0, 3, 12] rfl (by and_intros <;> first | exact True.intro | omega | (intro x hx; cases hx) | (simp only [List.map_nil, List.length_nil]; omega) | skip) ?_
    refine Runs.splitS 21 rfl (fun g21 => ?_) (fun g21 => ?_)
    · try simp only [decide_eq_true_eq, decide_eq_false_iff_not, notT, notF, beq_iff_eq, beq_eq_false_iff_ne, bne_iff_ne, bne_eq_false_iff_eq, tmodN, tdivN, Int.not_lt, Int.not_le] at g21
      refine Runs.restTo 5 [] [0, 3, 12] rfl (by and_intros <;> first | exact True.intro | omega | (intro x hx; cases hx) | (simp only [List.map_nil, List.length_nil]; omega) | skip) ?_
      refine Runs.splitS 26 rfl (fun g26 => ?_) (fun g26 => ?_)
      · try simp only [decide_eq_true_eq, decide_eq_false_iff_not, notT, notF, beq_iff_eq, beq_eq_false_iff_ne, bne_iff_ne, bne_eq_false_iff_eq, tmodN, tdivN, Int.not_lt, Int.not_le] at g26
        refine Runs.rest [] [0, 3, 12] rfl (by and_intros <;> first | exact True.intro | omega | (intro x hx; cases hx) | (simp only [List.map_nil, List.length_nil]; omega) | skip) ?_
        refine Runs.drop 0 (Nat.zero_le _) rfl ?_
        exact Runs.retH Tryz.func28 rfl rfl (by refine congrArg AV.bool ?_; unfold fitB inT; rw [← cutF_found]; first | rfl | (simp_all; done) | (rw [show decide (0 ≤ tm ∧ tm ≤ 253402300799) = false from decide_eq_false (by omega)]; rfl)) (by rfl)
      · try simp only [decide_eq_true_eq, decide_eq_false_iff_not, notT, notF, beq_iff_eq, beq_eq_false_iff_ne, bne_iff_ne, bne_eq_false_iff_eq, tmodN, tdivN, Int.not_lt, Int.not_le] at g26
        refine Runs.rest [] [0, 3, 12] rfl (by and_intros <;> first | exact True.intro | omega | (intro x hx; cases hx) | (simp only [List.map_nil, List.length_nil]; omega) | skip) ?_
        refine Runs.drop 0 (Nat.zero_le _) rfl ?_
        exact Runs.retH Tryz.func28 rfl rfl (by refine congrArg AV.bool ?_; unfold fitB inT; rw [← cutF_found]; first | rfl | (simp_all; done) | (rw [show decide (0 ≤ tm ∧ tm ≤ 253402300799) = false from decide_eq_false (by omega)]; rfl)) (by rfl)
    · try simp only [decide_eq_true_eq, decide_eq_false_iff_not, notT, notF, beq_iff_eq, beq_eq_false_iff_ne, bne_iff_ne, bne_eq_false_iff_eq, tmodN, tdivN, Int.not_lt, Int.not_le] at g21
      refine Runs.rest [] [0, 3, 12] rfl (by and_intros <;> first | exact True.intro | omega | (intro x hx; cases hx) | (simp only [List.map_nil, List.length_nil]; omega) | skip) ?_
      refine Runs.drop 0 (Nat.zero_le _) rfl ?_
      exact Runs.retH Tryz.func28 rfl rfl (by refine congrArg AV.bool ?_; unfold fitB inT; rw [← cutF_found]; first | rfl | (simp_all; done) | (rw [show decide (0 ≤ tm ∧ tm ≤ 253402300799) = false from decide_eq_false (by omega)]; rfl)) (by rfl)
  · try simp only [decide_eq_true_eq, decide_eq_false_iff_not, notT, notF, beq_iff_eq, beq_eq_false_iff_ne, bne_iff_ne, bne_eq_false_iff_eq, tmodN, tdivN, Int.not_lt, Int.not_le] at g17
    refine Runs.rest [] [0, 3, 12] rfl (by and_intros <;> first | exact True.intro | omega | (intro x hx; cases hx) | (simp only [List.map_nil, List.length_nil]; omega) | skip) ?_
    refine Runs.drop 0 (Nat.zero_le _) rfl ?_
    exact Runs.retH Tryz.func28 rfl rfl (by refine congrArg AV.bool ?_; unfold fitB inT; rw [← cutF_found]; first | rfl | (simp_all; done) | (rw [show decide (0 ≤ tm ∧ tm ≤ 253402300799) = false from decide_eq_false (by omega)]; rfl)) (by rfl)

theorem begin_ok (m t : List UInt8) (hd : List Hd) (b : List UInt8) (id sec : List UInt8) (tm : Int) (hi : id.length ≤ 16777216) (h0 : -9223372036854775808 ≤ tm) (h1 : tm ≤ 9223372036854775807) : FnOK Tryz.prog 17 [.agg [.str m, .str t, .sl 2 hd.length (hdEl hd) false, .bs b false], .agg [.str id, .str sec], .int .i64 tm] [] (.int .i64 (if fitB id tm = true then 0 else 319)) [] := by
  refine FnOK.of_runs Tryz.func17 rfl (Nat.le_of_ble_eq_true rfl) ?_
  refine Runs.seq ?_
  refine Runs.reg [] [] rfl (by (try simp only [wrap_i64', wrap_u8, wrap_u16, wrap_u32, wrap_u64, wrap_i32, List.length_cons, List.length_nil, List.length_append, List.length_map, tmodN, tdivN]); and_intros <;> first | exact True.intro | omega | skip) ?_
  refine Runs.seq ?_
  refine Runs.seq ?_
  refine Runs.region ?_
  refine Runs.restTo 4 [(1, { res := .str (basC tm) }), (11, { res := .bool (decide (0 ≤ Lib.indexByte id 47)) })] [0] rfl (by and_intros <;> first | exact True.intro | exact basic_all tm h0 h1 | exact cont_ok id 47) ?_
  refine Runs.splitS 10 rfl (fun g10 => ?_) (fun g10 => ?_)
  · try simp only [decide_eq_true_eq, decide_eq_false_iff_not, notT, notF, beq_iff_eq, beq_eq_false_iff_ne, bne_iff_ne, bne_eq_false_iff_eq, tmodN, tdivN, Int.not_lt, Int.not_le] at g10
    refine Runs.rest [(1, { res := .str (basC tm) }), (11, { res := .bool (decide (0 ≤ Lib.indexByte id 47)) })] [0] rfl (by and_intros <;> first | exact True.intro | exact basic_all tm h0 h1 | exact cont_ok id 47) ?_
    refine Runs.condT rfl ?_
    refine Runs.seq ?_
    refine Runs.reg [] [] rfl (by (try simp only [wrap_i64', wrap_u8, wrap_u16, wrap_u32, wrap_u64, wrap_i32, List.length_cons, List.length_nil, List.length_append, List.length_map, tmodN, tdivN]); and_intros <;> first | exact True.intro | omega | skip) ?_
    refine Runs.drop 0 (Nat.zero_le _) rfl ?_
    exact Runs.retH Tryz.func17 rfl rfl (by refine congrArg (AV.int _) ?_; unfold fitB; first | (rw [if_neg]; simp_all [basC_nil]; done) | (rw [if_pos]; simp_all [basC_nil]; done) | skip) (by rfl)
  · try simp only [decide_eq_true_eq, decide_eq_false_iff_not, notT, notF, beq_iff_eq, beq_eq_false_iff_ne, bne_iff_ne, bne_eq_false_iff_eq, tmodN, tdivN, Int.not_lt, Int.not_le] at g10
    refine Runs.restTo 5 [(1, { res := .str (basC tm) }), (11, { res := .bool (decide (0 ≤ Lib.indexByte id 47)) })] [0] rfl (by and_intros <;> first | exact True.intro | exact basic_all tm h0 h1 | exact cont_ok id 47) ?_
    refine Runs.splitS 15 rfl (fun g15 => ?_) (fun g15 => ?_)
    · try simp only [decide_eq_true_eq, decide_eq_false_iff_not, notT, notF, beq_iff_eq, beq_eq_false_iff_ne, bne_iff_ne, bne_eq_false_iff_eq, tmodN, tdivN, Int.not_lt, Int.not_le] at g15
      refine Runs.rest [(1, { res := .str (basC tm) }), (11, { res := .bool (decide (0 ≤ Lib.indexByte id 47)) })] [0] rfl (by and_intros <;> first | exact True.intro | exact basic_all tm h0 h1 | exact cont_ok id 47) ?_
      refine Runs.condT rfl ?_
      refine Runs.seq ?_
      refine Runs.reg [] [] rfl (by (try simp only [wrap_i64', wrap_u8, wrap_u16, wrap_u32, wrap_u64, wrap_i32, List.length_cons, List.length_nil, List.length_append, List.length_map, tmodN, tdivN]); and_intros <;> first | exact True.intro | omega | skip) ?_
      refine Runs.drop 0 (Nat.zero_le _) rfl ?_
      exact Runs.retH Tryz.func17 rfl rfl (by refine congrArg (AV.int _) ?_; unfold fitB; first | (rw [if_neg]; simp_all [basC_nil]; done) | (rw [if_pos]; simp_all [basC_nil]; done) | skip) (by rfl)
    · try simp only [decide_eq_true_eq, decide_eq_false_iff_not, notT, notF, beq_iff_eq, beq_eq_false_iff_ne, bne_iff_ne, bne_eq_false_iff_eq, tmodN, tdivN, Int.not_lt, Int.not_le] at g15
      refine Runs.rest [(1, { res := .str (basC tm) }), (11, { res := .bool (decide (0 ≤ Lib.indexByte id 47)) })] [0] rfl (by and_intros <;> first | exact True.intro | exact basic_all tm h0 h1 | exact cont_ok id 47) ?_
      refine Runs.condS rfl (fun g19 => ?_) (fun g19 => ?_)
      · try simp only [decide_eq_true_eq, decide_eq_false_iff_not, notT, notF, beq_iff_eq, beq_eq_false_iff_ne, bne_iff_ne, bne_eq_false_iff_eq, tmodN, tdivN, Int.not_lt, Int.not_le] at g19
        refine Runs.seq ?_
        refine Runs.reg [] [] rfl (by (try simp only [wrap_i64', wrap_u8, wrap_u16, wrap_u32, wrap_u64, wrap_i32, List.length_cons, List.length_nil, List.length_append, List.length_map, tmodN, tdivN]); and_intros <;> first | exact True.intro | omega | skip) ?_
        refine Runs.drop 0 (Nat.zero_le _) rfl ?_
        exact Runs.retH Tryz.func17 rfl rfl (by refine congrArg (AV.int _) ?_; unfold fitB; first | (rw [if_neg]; simp_all [basC_nil]; done) | (rw [if_pos]; simp_all [basC_nil]; done) | skip) (by rfl)
      · try simp only [decide_eq_true_eq, decide_eq_false_iff_not, notT, notF, beq_iff_eq, beq_eq_false_iff_ne, bne_iff_ne, bne_eq_false_iff_eq, tmodN, tdivN, Int.not_lt, Int.not_le] at g19
        refine Runs.skip ?_
        refine Runs.seq ?_
        refine Runs.reg [] [] rfl (by (try simp only [wrap_i64', wrap_u8, wrap_u16, wrap_u32, wrap_u64, wrap_i32, List.length_cons, List.length_nil, List.length_append, List.length_map, tmodN, tdivN]); and_intros <;> first | exact True.intro | omega | skip) ?_
        refine Runs.drop 0 (Nat.zero_le _) rfl ?_
        exact Runs.retH Tryz.func17 rfl rfl (by refine congrArg (AV.int _) ?_; unfold fitB; first | (rw [if_neg]; simp_all [basC_nil]; done) | (rw [if_pos]; simp_all [basC_nil]; done) | skip) (by rfl)

end Go.Proofs.YtdigohaeakclfaaGreatDoor
set_option maxRecDepth 100000
set_option linter.unusedVariables false
set_option linter.unusedSimpArgs false
set_option linter.unusedSectionVars false
namespace Go.Proofs.YtdigohaeakclfaaGreatDoor
open Go Go.Am Go.RowKit
/-- pairs at a place -/
def HdS (w : World) (v : Value) (l : List Hd) : Prop := ∃ (base : Option (Nat × Nat)) (cap : Nat), v = .slice (base.map fun p => mkA p.1 p.2) l.length cap ∧ HdC w base cap l
/-- pairs in new memory -/
def FrH (N : Nat) (w : World) (v : Value) (l : List Hd) : Prop := ∃ (base : Option (Nat × Nat)) (cap : Nat), v = .slice (base.map fun p => mkA p.1 p.2) l.length cap ∧ l.length ≤ cap ∧ (base = none → cap = 0) ∧
  ∀ b o, base = some (b, o) → ∀ (q : Nat) (u : Value), (cellsP l)[q]? = some u → w.cell? (mkA b (o + q)) = some u ∧ N ≤ b ∧ w.frozen? (mkA b (o + q)) = false
theorem FrH.at_ {N w v l} (h : FrH N w v l) : HdS w v l := by
  obtain ⟨base, cap, h1, h2, h3, h4⟩ := h
  refine ⟨base, cap, h1, h2, h3, fun b o e i hi => ?_⟩
  have := cellsP_get hi
  refine ⟨(h4 b o e _ _ this.1).1, ?_⟩
  have := (h4 b o e _ _ this.2).1
  rwa [← Nat.add_assoc] at this
theorem HdS.below {N w w' v l} (h : HdS w v l) (hN : w.heap.size ≤ N) (hb : Below N w w') : HdS w' v l := by
  obtain ⟨base, cap, h1, h2⟩ := h
  exact ⟨base, cap, h1, h2.keep fun a v hv => (hb.cell (p := mkA a.1 a.2) (Nat.lt_of_lt_of_le (World.block_lt_of_cell? _ _ hv) hN)).trans hv⟩
theorem FrH.below {N M : Nat} {w w' : World} {v : Value} {l : List Hd} (h : FrH N w v l) (hM : w.heap.size ≤ M) (hb : Below M w w') : FrH N w' v l := by
  obtain ⟨base, cap, h1, h2, h3, h4⟩ := h
  refine ⟨base, cap, h1, h2, h3, fun b o e q u hu => ?_⟩
  obtain ⟨c1, c2, c3⟩ := h4 b o e q u hu
  have hlt := Nat.lt_of_lt_of_le (World.block_lt_of_cell? _ _ c1) hM
  refine ⟨(hb.cell (p := mkA b (o + q)) hlt).trans c1, c2, ?_⟩
  rw [World.frozen?_of_block (hb.block _ hlt)]; exact c3
theorem FrH.of_row {W : World} {N : Nat} {e : TypeId} {v : Value} {l : List Hd} (h : W.ownsRow N e 2 v l.length (cellsP l)) : FrH N W v l := by
  rcases h.2 with ⟨rfl, h0⟩ | ⟨g, cap, cur, rfl, h2, h3, h4, h5⟩
  · exact ⟨none, 0, by rw [h0]; rfl, by omega, (fun _ => rfl), fun b o e => by cases e⟩
  · refine ⟨some (g, 0), cap, rfl, by omega, (fun e => by cases e), fun b o e q u hu => ?_⟩
    cases e
    rw [Nat.zero_add]
    obtain ⟨a, b, c⟩ := rowG_cell h hu
    exact ⟨a, c, b⟩
theorem FrAt.of_row {W : World} {N : Nat} {e : TypeId} {v : Value} {n : Nat} {xs : List Value} (h : W.ownsRow N e 1 v n xs) : FrAt N W v xs := by
  have hl : xs.length = n := by have := h.1; omega
  rcases h.2 with ⟨rfl, h0⟩ | ⟨g, cap, cur, rfl, h2, h3, h4, h5⟩
  · exact ⟨none, 0, by rw [hl, h0]; rfl, by omega, (fun _ => rfl), fun b o e => by cases e⟩
  · refine ⟨some (g, 0), cap, by rw [hl]; rfl, by omega, (fun e => by cases e), fun b o e q u hu => ?_⟩
    cases e
    rw [Nat.zero_add]
    obtain ⟨a, b, c⟩ := rowG_cell h hu
    exact ⟨a, c, b⟩
/-- cut to its length -/
theorem FrH.clip {N w l} {a : Option Addr} {cap : Nat} (h : FrH N w (.slice a l.length cap) l) : FrH N w (.slice a l.length l.length) l := by
  obtain ⟨base, cap, h1, h2, h3, h4⟩ := h
  simp only [Value.slice.injEq] at h1
  obtain ⟨rfl, _, rfl⟩ := h1
  refine ⟨base, l.length, rfl, Nat.le_refl _, fun e => ?_, h4⟩
  have := h3 e; omega
theorem FrAt.clip {N w} {xs : List Value} {a : Option Addr} {n cap : Nat} (h : FrAt N w (.slice a n cap) xs) : FrAt N w (.slice a n n) xs := by
  obtain ⟨base, cap, h1, h2, h3, h4⟩ := h
  simp only [Value.slice.injEq] at h1
  obtain ⟨rfl, rfl, rfl⟩ := h1
  refine ⟨base, xs.length, rfl, Nat.le_refl _, fun e => ?_, h4⟩
  have := h3 e; omega
/-- cells that hold one value -/
def OneAt (w : World) (b o : Nat) : Prop := ∃ u, w.cell? (mkA b o) = some u ∧ u.oneCell' = true
theorem oneAt_ok {w : World} (b o : Nat) (v : Value) (h : OneAt w b o) (hc : w.cell? (mkA b o) = some v) : v.oneCell' = true := by
  obtain ⟨u, h1, h2⟩ := h
  rw [hc] at h1; cases h1; exact h2
theorem hdS_arg {w : World} {v : Value} {l : List Hd} (h : HdS w v l) : VR (Gx w (OneAt w)) w [] (.sl 2 l.length (hdEl l) false) v := by
  obtain ⟨base, cap, rfl, h⟩ := h
  refine .sl _ _ _ _ _ base cap (fun q => .string ⟨(if q % 2 = 0 then (l.getD (q / 2) ([], [])).1 else (l.getD (q / 2) ([], [])).2).toArray⟩) h.le h.no (fun i hi => rfl) (fun b o e q hq => ?_) (fun i j c hi hj => ?_)
  · have h1 := h.at_ b o e (q / 2) (by omega)
    have key : w.cell? (mkA b (o + q)) = some (.string ⟨(if q % 2 = 0 then (l.getD (q / 2) ([], [])).1 else (l.getD (q / 2) ([], [])).2).toArray⟩) := by
      rcases Nat.mod_two_eq_zero_or_one q with e2 | e2
      · rw [if_pos e2, show o + q = o + q / 2 * 2 by omega]; exact h1.1
      · rw [if_neg (by omega), show o + q = o + q / 2 * 2 + 1 by omega]; exact h1.2
    exact ⟨Gx_S (World.block_lt_of_cell? _ _ key) ⟨_, key, rfl⟩, key⟩
  · match j, hj with
    | 0, hj =>
      simp [AV.cells] at hj
      subst hj
      rw [if_pos (by omega), show (i * 2 + 0) / 2 = i by omega]
      simp only [List.getD_eq_getElem?_getD]
      exact .str ..
    | 1, hj =>
      simp [AV.cells] at hj
      subst hj
      rw [if_neg (by omega), show (i * 2 + 1) / 2 = i by omega]
      simp only [List.getD_eq_getElem?_getD]
      exact .str ..
    | j + 2, hj => simp [AV.cells] at hj
theorem slS_one {w : World} {v : Value} {xs : List Value} (h : SlAt w v xs) (h1 : ∀ u ∈ xs, u.oneCell' = true) : ∀ base cap, v = .slice (base.map fun p => mkA p.1 p.2) xs.length cap → ∀ b o, base = some (b, o) → ∀ q, q < xs.length → OneAt w b (o + q) := by
  obtain ⟨base', cap', h2, _, _, h4⟩ := h
  intro base cap e b o hb q hq
  subst hb
  rw [h2] at e
  cases base' with
  | none => simp at e
  | some p =>
    simp only [Option.map_some, Value.slice.injEq, Option.some.injEq, mkA, Addr.mk.injEq] at e
    obtain ⟨⟨rfl, rfl, _⟩, _⟩ := e
    exact ⟨xs[q], h4 p.1 p.2 rfl q _ (List.getElem?_eq_getElem hq), h1 _ (List.getElem_mem hq)⟩
theorem bsS_arg {w : World} {v : Value} {l : List UInt8} (h : SlAt w v (bV l)) : VR (Gx w (OneAt w)) w [] (.bs l false) v :=
  bs_arg h (by have := slS_one h bV_one; rwa [bV_len] at this)
theorem slS_arg {w : World} {v : Value} {l : List (List UInt8)} (h : SlAt w v (sV l)) : VR (Gx w (OneAt w)) w [] (.sl 1 l.length (strEl l) false) v :=
  sl_arg h (by have := slS_one h sV_one; rwa [sV_len] at this)
abbrev strV (s : List UInt8) : Value := .string ⟨s.toArray⟩
abbrev rqV (m t : List UInt8) (hv bv : Value) : Value := .agg #[strV m, strV t, hv, bv]
theorem rq_arg {w : World} {m t : List UInt8} {hv bv : Value} {hd : List Hd} {b : List UInt8} (h1 : HdS w hv hd) (h2 : SlAt w bv (bV b)) :
    VR (Gx w (OneAt w)) w [] (.agg [.str m, .str t, .sl 2 hd.length (hdEl hd) false, .bs b false]) (rqV m t hv bv) :=
  .agg _ _ [strV m, strV t, hv, bv] rfl fun q c v e1 e2 => by
    match q, e1, e2 with
    | 0, e1, e2 => cases e1; cases e2; exact .str ..
    | 1, e1, e2 => cases e1; cases e2; exact .str ..
    | 2, e1, e2 => cases e1; cases e2; exact hdS_arg h1
    | 3, e1, e2 => cases e1; cases e2; exact bsS_arg h2
    | q + 4, e1, _ => simp at e1
theorem a3 {G : Gh} {w : World} {c d e : AV} {v u x : Value} (h : VR G w [] c v) (hn : nr c = true) (h' : VR G w [] d u) (hn' : nr d = true) (h'' : VR G w [] e x) (hn'' : nr e = true) : ∀ (i : Nat) (c' : AV) (y : Value), [c, d, e][i]? = some c' → [v, u, x][i]? = some y → VR G w [] c' y ∧ nr c' = true
  | 0, c', y, h1, h2 => by cases h1; cases h2; exact ⟨h, hn⟩
  | 1, c', y, h1, h2 => by cases h1; cases h2; exact ⟨h', hn'⟩
  | 2, c', y, h1, h2 => by cases h1; cases h2; exact ⟨h'', hn''⟩
  | i + 3, c', y, h1, _ => by simp at h1
theorem a4 {G : Gh} {w : World} {c d e f : AV} {v u x z : Value} (h : VR G w [] c v) (hn : nr c = true) (h' : VR G w [] d u) (hn' : nr d = true) (h'' : VR G w [] e x) (hn'' : nr e = true) (k : VR G w [] f z) (kn : nr f = true) : ∀ (i : Nat) (c' : AV) (y : Value), [c, d, e, f][i]? = some c' → [v, u, x, z][i]? = some y → VR G w [] c' y ∧ nr c' = true
  | 0, c', y, h1, h2 => by cases h1; cases h2; exact ⟨h, hn⟩
  | 1, c', y, h1, h2 => by cases h1; cases h2; exact ⟨h', hn'⟩
  | 2, c', y, h1, h2 => by cases h1; cases h2; exact ⟨h'', hn''⟩
  | 3, c', y, h1, h2 => by cases h1; cases h2; exact ⟨k, kn⟩
  | i + 4, c', y, h1, _ => by simp at h1
theorem kit_i {f : FuncId} {args : List AV} {vs : List Value} {n : Int} (h : FnOK Tryz.prog f args [] (.int .i64 n) []) (w : World) (hl : vs.length = args.length)
    (ha : ∀ (i : Nat) (c : AV) (v : Value), args[i]? = some c → vs[i]? = some v → VR (Gx w (OneAt w)) w [] c v ∧ nr c = true) :
    Calls Tryz.prog f vs.toArray w fun e w' => e = .returned (.int .i64 n) ∧ Below w.heap.size w w' := by
  refine (fn_kit h w _ oneAt_ok vs hl ha).mono ?_
  rintro e w' ⟨u, G', rfl, hr, hB, h3, h4⟩
  rw [hr.int_inv]
  exact ⟨rfl, hB⟩
theorem kit_bool {f : FuncId} {args : List AV} {vs : List Value} {b : Bool} (h : FnOK Tryz.prog f args [] (.bool b) []) (w : World) (hl : vs.length = args.length)
    (ha : ∀ (i : Nat) (c : AV) (v : Value), args[i]? = some c → vs[i]? = some v → VR (Gx w (OneAt w)) w [] c v ∧ nr c = true) :
    Calls Tryz.prog f vs.toArray w fun e w' => e = .returned (.bool b) ∧ Below w.heap.size w w' := by
  refine (fn_kit h w _ oneAt_ok vs hl ha).mono ?_
  rintro e w' ⟨u, G', rfl, hr, hB, h3, h4⟩
  rw [hr.bool_inv]
  exact ⟨rfl, hB⟩
theorem kit_str {f : FuncId} {args : List AV} {vs : List Value} {s : List UInt8} (h : FnOK Tryz.prog f args [] (.str s) []) (w : World) (hl : vs.length = args.length)
    (ha : ∀ (i : Nat) (c : AV) (v : Value), args[i]? = some c → vs[i]? = some v → VR (Gx w (OneAt w)) w [] c v ∧ nr c = true) :
    Calls Tryz.prog f vs.toArray w fun e w' => e = .returned (strV s) ∧ Below w.heap.size w w' := by
  refine (fn_kit h w _ oneAt_ok vs hl ha).mono ?_
  rintro e w' ⟨u, G', rfl, hr, hB, h3, h4⟩
  rw [hr.str_inv]
  exact ⟨rfl, hB⟩
theorem kit_si {f : FuncId} {args : List AV} {vs : List Value} {s : List UInt8} {n : Int} (h : FnOK Tryz.prog f args [] (.tup [.str s, .int .i64 n]) []) (w : World) (hl : vs.length = args.length)
    (ha : ∀ (i : Nat) (c : AV) (v : Value), args[i]? = some c → vs[i]? = some v → VR (Gx w (OneAt w)) w [] c v ∧ nr c = true) :
    Calls Tryz.prog f vs.toArray w fun e w' => e = .returned (.tuple #[strV s, .int .i64 n]) ∧ Below w.heap.size w w' := by
  refine (fn_kit h w _ oneAt_ok vs hl ha).mono ?_
  rintro e w' ⟨u, G', rfl, hr, hB, h3, h4⟩
  obtain ⟨x, y, rfl, hx, hy⟩ := tup2 hr
  rw [hx.str_inv, hy.int_inv]
  exact ⟨rfl, hB⟩
theorem slAt_of_bs {G : Gh} {w : World} {l : List UInt8} {o : Bool} {v : Value} (h : VR G w [] (.bs l o) v) : SlAt w v (bV l) := by
  obtain ⟨base, cap, vs, rfl, e1, e2, e3, e4, e5⟩ := h.bs_inv.sl_inv
  refine ⟨base, cap, by rw [bV_len], by rw [bV_len]; exact e1, e2, fun b o hb q u hu => ?_⟩
  have hq : q < l.length := by have := (List.getElem?_eq_some_iff.1 hu).1; rwa [bV_len] at this
  obtain ⟨g1, g2⟩ := e4 b o hb q (by omega)
  have hv := e5 q 0 (byteEl l q) hq rfl
  rw [Nat.mul_one, Nat.add_zero] at hv
  rw [g2, VR.int_inv (show VR G w [] (.int .u8 (l.getD q 0).toNat) (vs q) from hv), ← hu]
  simp [bV, List.getD_eq_getElem?_getD, List.getElem?_eq_getElem hq]
theorem kit_bs {f : FuncId} {args : List AV} {vs : List Value} {s : List UInt8} {o : Bool} (h : FnOK Tryz.prog f args [] (.bs s o) []) (w : World) (hl : vs.length = args.length)
    (ha : ∀ (i : Nat) (c : AV) (v : Value), args[i]? = some c → vs[i]? = some v → VR (Gx w (OneAt w)) w [] c v ∧ nr c = true) :
    Calls Tryz.prog f vs.toArray w fun e w' => ∃ v, e = .returned v ∧ SlAt w' v (bV s) ∧ Below w.heap.size w w' := by
  refine (fn_kit h w _ oneAt_ok vs hl ha).mono ?_
  rintro e w' ⟨u, G', rfl, hr, hB, h3, h4⟩
  exact ⟨u, rfl, slAt_of_bs hr, hB⟩
abbrev pairV (p : Hd) : Value := .agg #[strV p.1, strV p.2]
/-! What Header and Presign call -/
section
variable {w : World} {m t : List UInt8} {hv bv : Value} {hd : List Hd} {b : List UInt8}
theorem kBegin (h1 : HdS w hv hd) (h2 : SlAt w bv (bV b)) (k : Hd) (tm : Int) (hi : k.1.length ≤ 16777216) (t0 : -9223372036854775808 ≤ tm) (t1 : tm ≤ 9223372036854775807) :
    Calls Tryz.prog 17 #[rqV m t hv bv, pairV k, .int .i64 tm] w fun e w' => e = .returned (.int .i64 (if fitB k.1 tm = true then 0 else 319)) ∧ Below w.heap.size w w' :=
  kit_i (vs := [rqV m t hv bv, pairV k, .int .i64 tm]) (begin_ok m t hd b k.1 k.2 tm hi t0 t1) w rfl (a3 (rq_arg h1 h2) rfl (vr_hd _ _ k) rfl (.int ..) rfl)
theorem kTaken (h1 : HdS w hv hd) (h2 : SlAt w bv (bV b)) {nv : Value} {ns : List (List UInt8)} (h3 : SlAt w nv (sV ns)) (hl : hd.length ≤ 16777216) (hn : ns.length ≤ 16777216) :
    Calls Tryz.prog 18 #[rqV m t hv bv, nv] w fun e w' => e = .returned (.bool (tkn hd ns)) ∧ Below w.heap.size w w' :=
  kit_bool (vs := [rqV m t hv bv, nv]) (taken_ok m t hd b ns hl hn) w rfl (a2 (rq_arg h1 h2) rfl (slS_arg h3) rfl)
theorem kCanon (h1 : HdS w hv hd) (h2 : SlAt w bv (bV b)) {nv : Value} {ns : List (List UInt8)} (h3 : SlAt w nv (sV ns)) (pay : List UInt8) (pre : Bool) (hb : Bd m t hd ns pay) :
    Calls Tryz.prog 22 #[rqV m t hv bv, nv, strV pay, .bool pre] w fun e w' => e = .returned (.tuple #[strV ((canonL m t hd ns pay pre).getD []), .int .i64 (errC (canonL m t hd ns pay pre))]) ∧ Below w.heap.size w w' :=
  kit_si (vs := [rqV m t hv bv, nv, strV pay, .bool pre]) (ccanon_ok m t hd b ns pay pre false hb) w rfl (a4 (rq_arg h1 h2) rfl (slS_arg h3) rfl (.str ..) rfl (.bool ..) rfl)
theorem kAll (h1 : HdS w hv hd) (hl : hd.length ≤ 2097153) : Calls Tryz.prog 21 #[.agg #[strV m, strV t, hv, bv]] w fun e w' => ∃ v, e = .returned v ∧ SlAt w' v (sV (srtN (hd.map (·.1)))) ∧ Below w.heap.size w w' := by
  obtain ⟨base, cap, rfl, h⟩ := h1
  refine (allN_core hd.length hd rfl hl _ rfl w _ _ _ _ cap base rfl (fun e => by have := h.no e; have := h.le; omega) h.at_).mono ?_
  rintro e w' ⟨v, rfl, hr, hB⟩
  exact ⟨v, rfl, slAt_row hr, hB⟩
theorem kBasic (w : World) (tm : Int) (t0 : -9223372036854775808 ≤ tm) (t1 : tm ≤ 9223372036854775807) : Calls Tryz.prog 20 #[.int .i64 tm] w fun e w' => e = .returned (strV (basC tm)) ∧ Below w.heap.size w w' :=
  kit_str (vs := [.int .i64 tm]) (basic_all tm t0 t1) w rfl (a1 (.int ..) rfl)
theorem kDay (w : World) (tm : Int) (t0 : -9223372036854775808 ≤ tm) (t1 : tm ≤ 9223372036854775807) : Calls Tryz.prog 23 #[.int .i64 tm] w fun e w' => e = .returned (strV (dayC tm)) ∧ Below w.heap.size w w' :=
  kit_str (vs := [.int .i64 tm]) (day_all tm t0 t1) w rfl (a1 (.int ..) rfl)
theorem kKey (w : World) (s d r v : List UInt8) (hs : s.length ≤ 1048576) (hd : d.length ≤ 1048576) (hr : r.length ≤ 1048576) (hv : v.length ≤ 1048576) :
    Calls Tryz.prog 25 #[strV s, strV d, strV r, strV v] w fun e w' => ∃ x, e = .returned x ∧ SlAt w' x (bV (skS s d r v)) ∧ Below w.heap.size w w' :=
  kit_bs (vs := [strV s, strV d, strV r, strV v]) (skey_ok s d r v hs hd hr hv) w rfl (a4 (.str ..) rfl (.str ..) rfl (.str ..) rfl (.str ..) rfl)
theorem kSign {kv : Value} {key : List UInt8} (h : SlAt w kv (bV key)) (d s t : List UInt8) (hk : key.length ≤ 1048576) (hd : d.length ≤ 1048576) (hs : s.length ≤ 1048576) (ht : t.length ≤ 67108864) :
    Calls Tryz.prog 24 #[kv, strV d, strV s, strV t] w fun e w' => e = .returned (strV (signS key d s t)) ∧ Below w.heap.size w w' :=
  kit_str (vs := [kv, strV d, strV s, strV t]) (sign_ok key d s t hk hd hs ht) w rfl (a4 (bsS_arg h) rfl (.str ..) rfl (.str ..) rfl (.str ..) rfl)
theorem kJoin {nv : Value} {ns : List (List UInt8)} (h : SlAt w nv (sV ns)) (sep : List UInt8) (hl : ns.length ≤ 16777216) (hj : (joinL ns sep).length ≤ 140737488355328) :
    Calls Tryz.prog 26 #[nv, strV sep] w fun e w' => e = .returned (strV (joinL ns sep)) ∧ Below w.heap.size w w' :=
  kit_str (vs := [nv, strV sep]) (join_ok ns sep hl hj) w rfl (a2 (slS_arg h) rfl (.str ..) rfl)
end
end Go.Proofs.YtdigohaeakclfaaGreatDoor
set_option maxRecDepth 100000
set_option linter.unusedVariables false
set_option linter.unusedSimpArgs false
set_option linter.unusedSectionVars false
namespace Go.Proofs.YtdigohaeakclfaaGreatDoor
open Go Go.Am Go.RowKit
attribute [local go_sem] Oper.semAt_some
theorem clip57 (w : World) (a : Addr) (n cap : Nat) (hn : n ≤ cap) (hc : cap ≤ 9223372036854775807) : Calls Tryz.prog 57 #[.slice (some a) n cap] w fun e w' => e = .returned (.slice (some a) n n) ∧ w' = w := by
  go_enter Tryz.func57, Tryz.ntmps57
  go_wp2
  go_ret
  exact ⟨rfl, rfl⟩
theorem clip57_nil (w : World) : Calls Tryz.prog 57 #[.slice none 0 0] w fun e w' => e = .returned (.slice none 0 0) ∧ w' = w := by
  go_enter Tryz.func57, Tryz.ntmps57
  go_wp2
  go_ret
  exact ⟨rfl, rfl⟩
theorem clip27 (w : World) (a : Addr) (n cap : Nat) (hn : n ≤ cap) (hc : cap ≤ 9223372036854775807) : Calls Tryz.prog 27 #[.slice (some a) n cap] w fun e w' => e = .returned (.slice (some a) n n) ∧ w' = w := by
  go_enter Tryz.func27, Tryz.ntmps27
  go_wp2
  go_ret
  exact ⟨rfl, rfl⟩
theorem row_shape {W : World} {N : Nat} {e : TypeId} {sz : Nat} {v : Value} {n : Nat} {xs : List Value} (h : W.ownsRow N e sz v n xs) : ∃ a c, v = .slice a n c := by
  rcases h.2 with ⟨rfl, rfl⟩ | ⟨g, cap, cur, rfl, _⟩
  · exact ⟨_, _, rfl⟩
  · exact ⟨_, _, rfl⟩
/-- no block is both's -/
def Apart (W : World) (v u : Value) : Prop := ∀ g, u.ownBlock = some g → g < W.heap.size ∧ v.ownBlock ≠ some g
theorem Apart.size {W W' : World} {v u : Value} (h : Apart W v u) (hs : W.heap.size ≤ W'.heap.size) : Apart W' v u := fun g e => ⟨Nat.lt_of_lt_of_le (h g e).1 hs, (h g e).2⟩
abbrev zR : Obj := .cells #[.string ⟨#[]⟩, .string ⟨#[]⟩, .slice none 0 0, .slice none 0 0] 25
/-- the two boxes -/
structure Bx (w W : World) (xs zs : Array Value) : Prop where
  below : Below w.heap.size w W
  r : W.heap[w.heap.size]? = some (.cells xs 25 (0, 0))
  z : W.heap[w.heap.size + 1]? = some (.cells zs 25 (0, 0))
theorem Bx.size {w W xs zs} (h : Bx w W xs zs) : w.heap.size + 1 < W.heap.size := (Array.getElem?_eq_some_iff.1 h.z).1
theorem Bx.keep {w W W' : World} {xs zs : Array Value} (h : Bx w W xs zs) (hB : Below W.heap.size W W') : Bx w W' xs zs :=
  ⟨h.below.trans (hB.mono h.below.size), (hB.block _ (by have := h.size; omega)).trans h.r, (hB.block _ h.size).trans h.z⟩
theorem Bx.keepD {w W W' : World} {xs zs : Array Value} (h : Bx w W xs zs) (hB : Below W.drew.heap.size W.drew W') : Bx w W' xs zs :=
  h.keep ⟨hB.os, hB.tape, hB.output, hB.size, hB.block⟩
theorem Bx.drew {w W : World} {xs zs : Array Value} (h : Bx w W xs zs) : Bx w W.drew xs zs := ⟨below_drew h.below, h.r, h.z⟩
theorem Bx.start (w : World) (xs : Array Value) : Bx w ((w.alloc (.cells xs 25)).alloc zR) xs #[.string ⟨#[]⟩, .string ⟨#[]⟩, .slice none 0 0, .slice none 0 0] where
  below := ((Below.refl _ _).alloc (Nat.le_refl _) _).alloc (by simp) _
  r := hp_new _ _ _
  z := by have := heap_alloc_new (w.alloc (.cells xs 25)) zR; simpa using this
theorem cellAt {w : World} {b o : Nat} {cs : Array Value} {e : TypeId} {fz : Nat × Nat} {v : Value} (h : w.heap[b]? = some (.cells cs e fz)) (hv : cs[o]? = some v) : w.cell? ⟨b, o, none⟩ = some v := by
  simp [World.cell?, h, hv]
theorem Bx.fz {w W : World} {xs zs : Array Value} (h : Bx w W xs zs) (i : Nat) : W.frozen? ⟨w.heap.size, i, none⟩ = false := by
  simp [World.frozen?, h.r]
theorem Bx.zcell {w W : World} {xs zs : Array Value} (h : Bx w W xs zs) {i : Nat} {v : Value} (hi : zs[i]? = some v) : W.cell? ⟨w.heap.size + 1, i, none⟩ = some v := cellAt h.z hi
theorem Bx.zfz {w W : World} {xs zs : Array Value} (h : Bx w W xs zs) (i : Nat) : W.frozen? ⟨w.heap.size + 1, i, none⟩ = false := by
  simp [World.frozen?, h.z]
theorem Bx.cell {w W : World} {xs zs : Array Value} (h : Bx w W xs zs) {i : Nat} {v : Value} (hi : xs[i]? = some v) : W.cell? ⟨w.heap.size, i, none⟩ = some v := cellAt h.r hi
theorem Bx.set {w W : World} {xs zs : Array Value} (h : Bx w W xs zs) (i : Nat) (v : Value) : Bx w (W.setCell ⟨w.heap.size, i, none⟩ v) (xs.setIfInBounds i v) zs where
  below := h.below.setCell (p := ⟨w.heap.size, i, none⟩) (Nat.le_refl _) v
  r := by
    show (W.heap.modify w.heap.size _)[w.heap.size]? = _
    rw [Array.getElem?_modify, if_pos rfl, h.r]; rfl
  z := by rw [set_other (show w.heap.size ≠ w.heap.size + 1 by omega)]; exact h.z
theorem Bx.zset {w W : World} {xs zs : Array Value} (h : Bx w W xs zs) (i : Nat) (v : Value) : Bx w (W.setCell ⟨w.heap.size + 1, i, none⟩ v) xs (zs.setIfInBounds i v) where
  below := h.below.setCell (p := ⟨w.heap.size + 1, i, none⟩) (show w.heap.size ≤ w.heap.size + 1 by omega) v
  r := by rw [set_other (show w.heap.size + 1 ≠ w.heap.size by omega)]; exact h.r
  z := by
    show (W.heap.modify (w.heap.size + 1) _)[w.heap.size + 1]? = _
    rw [Array.getElem?_modify, if_pos rfl, h.z]; rfl
theorem sz25 : (Tryz.prog.info? 25).map (·.size) = some 4 := by kernel_rfl
theorem row_other {W : World} {N : Nat} {e : TypeId} {sz P j : Nat} {v u : Value} {n : Nat} {xs : List Value} (h : W.ownsRow N e sz v n xs) (hP : P < N) : (W.setCell ⟨P, j, none⟩ u).ownsRow N e sz v n xs := by
  refine ⟨h.1, ?_⟩
  rcases h.2 with h0 | ⟨g, cap, cur, h1, h2, h3, h4⟩
  · exact .inl h0
  · exact .inr ⟨g, cap, cur, h1, h2, (set_other (show P ≠ g by omega) u).trans h3, h4⟩
theorem FrAt.other {W : World} {N P j : Nat} {v u : Value} {xs : List Value} (h : FrAt N W v xs) (hP : P < N) : FrAt N (W.setCell ⟨P, j, none⟩ u) v xs := by
  obtain ⟨base, cap, h1, h2, h3, h4⟩ := h
  refine ⟨base, cap, h1, h2, h3, fun b o e q x hx => ?_⟩
  obtain ⟨c1, c2, c3⟩ := h4 b o e q x hx
  have hb := set_other (W := W) (g := P) (P := b) (j := j) (show P ≠ b by omega) u
  refine ⟨?_, c2, ?_⟩
  · rw [show (W.setCell ⟨P, j, none⟩ u).cell? (mkA b (o + q)) = W.cell? (mkA b (o + q)) by simp [World.cell?, mkA, hb]]; exact c1
  · rw [World.frozen?_of_block hb]; exact c3
theorem FrAt.base {W : World} {N M : Nat} {v : Value} {xs : List Value} (h : FrAt M W v xs) (hM : N ≤ M) : FrAt N W v xs := by
  obtain ⟨base, cap, h1, h2, h3, h4⟩ := h
  exact ⟨base, cap, h1, h2, h3, fun b o e q x hx => by have := h4 b o e q x hx; exact ⟨this.1, by omega, this.2.2⟩⟩
theorem copied_walk (w : World) (ms ts : ByteArray) (hv bv : Value) (n kb : Nat) (cells bcells : List Value)
    (K56 : Hid (∀ W, Below w.heap.size w W → Calls Tryz.prog 56 #[hv] W fun e w' => ∃ v, e = .returned v ∧ w'.ownsRow W.heap.size 47 2 v n cells ∧ Below W.heap.size W w'))
    (K58 : Hid (∀ W, Below w.heap.size w W → Calls Tryz.prog 58 #[bv] W fun e w' => ∃ v, e = .returned v ∧ w'.ownsRow W.heap.size 5 1 v kb bcells ∧ Below W.heap.size W w'))
    (K57 : Hid (∀ W N v, W.ownsRow N 5 1 v kb bcells → Calls Tryz.prog 57 #[v] W fun e w' => ∃ v', e = .returned v' ∧ FrAt N w' v' bcells ∧ v'.ownBlock = v.ownBlock ∧ w' = W)) :
    Calls Tryz.prog 19 #[.agg #[.string ms, .string ts, hv, bv]] w fun e w' => ∃ hv' bv', e = .returned (.agg #[.string ms, .string ts, hv', bv']) ∧ w'.ownsRow w.heap.size 47 2 hv' n cells ∧ FrAt w.heap.size w' bv' bcells ∧ Apart w' hv' bv' ∧ Below w.heap.size w w' := by
  go_enter Tryz.func19, Tryz.ntmps19
  go_wp2_with fail
  have hb0 := Bx.start w #[.string ms, .string ts, hv, bv]
  generalize ((w.alloc (Obj.cells #[.string ms, .string ts, hv, bv] 25)).alloc zR) = W0 at hb0 ⊢
  have c2 := hb0.cell (i := 2) rfl
  have c3 := hb0.cell (i := 3) rfl
  have HB0 : Hid (Bx w W0 _ _) := hb0
  clear hb0
  go_region_law (first
    | (go_simp; go_at_call 56; refine (K56.out _ (HB0.out.drew.below)).mono ?_; rintro e w2 ⟨v1, rfl, hr1, hB1⟩; obtain ⟨a1, k1, rfl⟩ := row_shape hr1; have HB1 : Hid (Bx w w2 _ _ ∧ w2.ownsRow (w.heap.size + 2) 47 2 (.slice a1 n k1) n cells) := ⟨HB0.out.keepD hB1, row_base hr1 (by have := HB0.out.size; show _ + 2 ≤ W0.heap.size; omega)⟩; have d3 := HB1.out.1.cell (i := 3) rfl; clear hr1 hB1)
    | (go_simp; go_at_call 58; refine (K58.out _ (HB1.out.1.below)).mono ?_; rintro e w3 ⟨v2, rfl, hr2, hB2⟩; have HB2 : Hid (Bx w w3 _ _ ∧ w3.ownsRow (w.heap.size + 2) 47 2 (.slice a1 n k1) n cells ∧ w3.ownsRow w2.heap.size 5 1 v2 kb bcells) := ⟨HB1.out.1.keep hB2, own_keep HB1.out.2 hB2, hr2⟩; clear hr2 hB2)
    | (go_simp; go_at_call 57; refine (K57.out _ _ _ HB2.out.2.2).mono ?_; rintro e w4 ⟨v3, rfl, hr3, hob, rfl⟩; obtain ⟨a3, k3, rfl⟩ := hr3.len; have HB3 : Hid (FrAt w2.heap.size w4 (.slice a3 bcells.length k3) bcells ∧ Apart w4 (.slice a1 n k1) (.slice a3 bcells.length k3)) := ⟨hr3, fun g e2 => by rw [hob] at e2; have h1 := HB2.out.2.2.lt _ e2; exact ⟨h1.2, fun e1 => by have := (HB1.out.2.lt _ e1).2; omega⟩⟩; clear hr3 hob; have e2 := HB2.out.1.cell (i := 2) rfl; have e3 := HB2.out.1.cell (i := 3) rfl; have f2 := HB2.out.1.fz 2; have f3 := HB2.out.1.fz 3))
  all_goals
    have HA : Hid (Apart ((w4.setCell ⟨w.heap.size, 2, none⟩ (.slice a1 n k1)).setCell ⟨w.heap.size, 3, none⟩ (.slice a3 bcells.length k3)) (.slice a1 n k1) (.slice a3 bcells.length k3)) := HB3.out.2.size (by simp)
    have HF : Hid (Bx w ((w4.setCell ⟨w.heap.size, 2, none⟩ (.slice a1 n k1)).setCell ⟨w.heap.size, 3, none⟩ (.slice a3 bcells.length k3)) #[.string ms, .string ts, .slice a1 n k1, .slice a3 bcells.length k3] #[.string ⟨#[]⟩, .string ⟨#[]⟩, .slice none 0 0, .slice none 0 0] ∧
        ((w4.setCell ⟨w.heap.size, 2, none⟩ (.slice a1 n k1)).setCell ⟨w.heap.size, 3, none⟩ (.slice a3 bcells.length k3)).ownsRow (w.heap.size + 2) 47 2 (.slice a1 n k1) n cells ∧
        FrAt (w.heap.size + 2) ((w4.setCell ⟨w.heap.size, 2, none⟩ (.slice a1 n k1)).setCell ⟨w.heap.size, 3, none⟩ (.slice a3 bcells.length k3)) (.slice a3 bcells.length k3) bcells) :=
      ⟨(HB2.out.1.set 2 _).set 3 _, row_other (row_other HB2.out.2.1 (by omega)) (by omega), ((HB3.out.1.base (by have := HB1.out.1.size; omega)).other (by omega)).other (by omega)⟩
    generalize ((w4.setCell ⟨w.heap.size, 2, none⟩ (.slice a1 n k1)).setCell ⟨w.heap.size, 3, none⟩ (.slice a3 bcells.length k3)) = W5 at HF HA ⊢
    have g0 : W5.cell? ⟨w.heap.size, 0, none⟩ = some (.string ms) := HF.out.1.cell rfl
    have g1 : W5.cell? ⟨w.heap.size, 1, none⟩ = some (.string ts) := HF.out.1.cell rfl
    have g2 : W5.cell? ⟨w.heap.size, 2, none⟩ = some (.slice a1 n k1) := HF.out.1.cell rfl
    have g3 : W5.cell? ⟨w.heap.size, 3, none⟩ = some (.slice a3 bcells.length k3) := HF.out.1.cell rfl
    have y0 : W5.cell? ⟨w.heap.size + 1, 0, none⟩ = some (.string ⟨#[]⟩) := HF.out.1.zcell rfl
    have y1 : W5.cell? ⟨w.heap.size + 1, 1, none⟩ = some (.string ⟨#[]⟩) := HF.out.1.zcell rfl
    have y2 : W5.cell? ⟨w.heap.size + 1, 2, none⟩ = some (.slice none 0 0) := HF.out.1.zcell rfl
    have y3 : W5.cell? ⟨w.heap.size + 1, 3, none⟩ = some (.slice none 0 0) := HF.out.1.zcell rfl
    have q0 := HF.out.1.zfz 0
    have q1 := HF.out.1.zfz 1
    have q2 := HF.out.1.zfz 2
    have q3 := HF.out.1.zfz 3
    clear c2 c3 d3 e2 e3 f2 f3 HB1 HB2 HB3
    go_wp2
    have HE := (((HF.out.1.zset 0 (.string ms)).zset 1 (.string ts)).zset 2 (.slice a1 n k1)).zset 3 (.slice a3 bcells.length k3)
    refine bodyPost_ret (results_cell_row rfl _ _ (w.heap.size + 1) 25 #[.string ms, .string ts, .slice a1 n k1, .slice a3 bcells.length k3] (0, 0) _ rfl HE.z Tryz.underlying25 rfl sz25) rfl ?_
    refine ⟨_, _, rfl, ?_, ?_, HA.out.size (by simp), HE.below⟩
    · exact row_base (row_other (row_other (row_other (row_other HF.out.2.1 (by omega)) (by omega)) (by omega)) (by omega)) (by omega)
    · exact ((((HF.out.2.2.other (by omega)).other (by omega)).other (by omega)).other (by omega)).base (by omega)
theorem copied_core (w : World) {m t : List UInt8} {hv bv : Value} {hd : List Hd} {b : List UInt8} (h1 : HdS w hv hd) (h2 : SlAt w bv (bV b)) (hl : hd.length ≤ 4194304) (hb : b.length ≤ 67108864) :
    Calls Tryz.prog 19 #[rqV m t hv bv] w fun e w' => ∃ hv' bv', e = .returned (rqV m t hv' bv') ∧ w'.ownsRow w.heap.size 47 2 hv' hd.length (cellsP hd) ∧ FrAt w.heap.size w' bv' (bV b) ∧ Apart w' hv' bv' ∧ Below w.heap.size w w' := by
  refine copied_walk w _ _ hv bv hd.length b.length (cellsP hd) (bV b) (fun W hB => ?_) (fun W hB => ?_) (fun W N v hv => ?_)
  · obtain ⟨base, cap, rfl, hc⟩ := h1
    cases base with
    | none =>
      have h0 : hd.length = 0 := by have := hc.no rfl; have := hc.le; omega
      rw [h0]
      refine (clone56_nil W 0 cap).mono ?_
      rintro e w' ⟨rfl, rfl⟩
      exact ⟨_, rfl, by rw [List.eq_nil_of_length_eq_zero h0]; exact World.ownsRow_nil _ _ _ _, Below.refl _ _⟩
    | some p =>
      refine clone56 W ⟨p.1, p.2, none⟩ hd.length cap (cellsP hd) (cellsP_len hd) (fun j u hj => ?_) (fun u hu => ?_) hl
      · have hjl : j < hd.length * 2 := by have := (List.getElem?_eq_some_iff.1 hj).1; rwa [cellsP_len] at this
        have hk := hc.at_ p.1 p.2 rfl (j / 2) (by omega)
        have hg := cellsP_get (l := hd) (i := j / 2) (by omega)
        have key : w.cell? (mkA p.1 (p.2 + j)) = some u := by
          rcases Nat.mod_two_eq_zero_or_one j with e | e
          · rw [show j / 2 * 2 = j by omega, hj] at hg
            rw [show p.2 + j = p.2 + j / 2 * 2 by omega, hk.1]; exact hg.1.symm
          · rw [show j / 2 * 2 + 1 = j by omega, hj] at hg
            rw [show p.2 + j = p.2 + j / 2 * 2 + 1 by omega, hk.2]; exact hg.2.symm
        show W.cell? ((mkA p.1 p.2).add j) = some u
        rw [mkA_add]
        exact (hB.cell (p := mkA p.1 (p.2 + j)) (World.block_lt_of_cell? _ _ key)).trans key
      · obtain ⟨p, _, hp⟩ := List.mem_flatMap.1 hu
        simp at hp
        rcases hp with rfl | rfl <;> rfl
  · obtain ⟨base, cap, rfl, hle, hno, hc⟩ := h2
    rw [bV_len] at *
    cases base with
    | none =>
      have h0 : b.length = 0 := by have := hno rfl; omega
      rw [h0]
      refine (clone58_nil W 0 cap).mono ?_
      rintro e w' ⟨rfl, rfl⟩
      exact ⟨_, rfl, by rw [List.eq_nil_of_length_eq_zero h0]; exact World.ownsRow_nil _ _ _ _, Below.refl _ _⟩
    | some p =>
      refine clone58 W ⟨p.1, p.2, none⟩ b.length cap (bV b) (by rw [bV_len]; omega) (fun j u hj => ?_) (fun u hu => bV_one u hu) hb
      · have := hc p.1 p.2 rfl j u hj
        show W.cell? ((mkA p.1 p.2).add j) = some u
        rw [mkA_add]
        exact (hB.cell (p := mkA p.1 (p.2 + j)) (World.block_lt_of_cell? _ _ this)).trans this
  · rcases hv.2 with ⟨rfl, h0⟩ | ⟨g, cap, cur, rfl, g2, g3, g4, g5, g6⟩
    · refine (clip57_nil W).mono ?_
      rintro e w' ⟨rfl, rfl⟩
      exact ⟨_, rfl, FrAt.of_row hv, rfl, rfl⟩
    · refine (clip57 W _ _ cap g4 (by unfold maxLen at g5; omega)).mono ?_
      rintro e w' ⟨rfl, rfl⟩
      exact ⟨_, rfl, (FrAt.of_row hv).clip, rfl, rfl⟩
end Go.Proofs.YtdigohaeakclfaaGreatDoor
