/- The document's claim. -/
import Derived.Test.YtnohmijdpmelpaaGreatPcl
import Derived.Test.YtnohmijdpmelpaaGreatRin
set_option maxRecDepth 100000
set_option linter.unusedVariables false
set_option linter.unusedSimpArgs false
namespace Go.Proofs.YtnohmijdpmelpaaGreat
open Go Go.Am Go.Am.Runs

theorem claimC_300 {t : List UInt8} {hd : List Hd} (h1 : (authL hd).length = 0) (h2 : (xsgL t).length = 0) : claimC t hd = .inl 300 := if_pos ⟨h1, h2⟩
theorem claimC_332 {t : List UInt8} {hd : List Hd} (h1 : (0 < (authL hd).length ∧ 0 < (xsgL t).length) ∨ 1 < (authL hd).length) : claimC t hd = .inl 332 := by
  unfold claimC; rw [if_neg (by omega), if_pos h1]
theorem claimC_q {t : List UInt8} {hd : List Hd} (h1 : (authL hd).length = 0) (h2 : 0 < (xsgL t).length) : claimC t hd = qryC (queryQ t) := by
  unfold claimC; rw [if_neg (by omega), if_neg (by omega), if_pos h2]
theorem claimC_h {t : List UInt8} {hd : List Hd} (h1 : (authL hd).length = 1) (h2 : (xsgL t).length = 0) : claimC t hd = hdrC hd ((authL hd).getD 0 []) := by
  unfold claimC; rw [if_neg (by omega), if_neg (by omega), if_neg (by omega)]
theorem hdrC_bad {hd : List Hd} {v : List UInt8} (h : ¬ HdrOK v) : hdrC hd v = .inl 304 := if_neg h
theorem hdrC_nod {hd : List Hd} {v : List UInt8} (h : HdrOK v) (h2 : (allL hd xdateN).length ≠ 1) : hdrC hd v = .inl 300 := by unfold hdrC; rw [if_pos h, if_neg h2]
theorem hdrC_ok {hd : List Hd} {v : List UInt8} (h : HdrOK v) (h2 : (allL hd xdateN).length = 1) : hdrC hd v = .inr ⟨hC v, hS v, hG v, (allL hd xdateN).getD 0 [], 0, false⟩ := by unfold hdrC; rw [if_pos h, if_pos h2]
theorem beg_cut {v : List UInt8} (h : begL v algoS = true) : v.drop 17 = (cutpL v algoS).1 ∧ (cutpL v algoS).2 = true := by rw [cutp_t h]; exact ⟨rfl, rfl⟩
theorem beg_nok {v : List UInt8} (h : begL v algoS = false) : ¬ HdrOK v := fun k => by have := k.1; rw [cutp_f h] at this; cases this

set_option maxHeartbeats 400000 in
theorem rc_300 (m t : List UInt8) (hd : List Hd) (body : List UInt8) (o : Bool) (b : RB t hd) (hl1 : (authL hd).length = 0) (hl2 : (xsgL t).length = 0) : FnOK Tryz.prog 43 [.agg [.str m, .str t, .sl 2 hd.length (hdEl hd) false, .bs body o]] [] (clA (claimC t hd)) [] := by
  refine FnOK.of_runs Tryz.func43 rfl (Nat.le_of_ble_eq_true rfl) ?_
  refine seq (reg [] [] rfl (by decide) ?_)
  refine seq ?_
  have hb := b.lt; have hh := b.lh; have hq := b.q; have hau : (((authL hd).getD 0 [])).length ≤ 4194304 := b.auth authN 0
  refine reg [(2, { res := .tup [.str (queryP t), .sl 2 (queryQ t).length (hdEl (queryQ t)) false] })] [] rfl (by and_intros <;> first | exact ⟨⟩ | exact zl rfl | decide | exact rquery_ok t (by omega)) ?_
  refine seq (reg [(2, { res := .sl 1 (authL hd).length (strEl (authL hd)) false })] [] rfl (by and_intros <;> first | exact ⟨⟩ | exact zl rfl | decide | exact rall_ok hd authN (by omega)) ?_)
  refine seq (reg [(1, { res := .sl 1 (xsgL t).length (strEl (xsgL t)) false })] [0] rfl (by and_intros <;> first | exact ⟨⟩ | exact zl rfl | decide | exact rnamed_ok (queryQ t) xsigN (by omega)) ?_)
  refine seq (block (seq (region ?_)))
  refine rest [(2, { res := .bool true }), (6, { res := .bool true })] [0, 4] rfl (by and_intros <;> first | exact ⟨⟩ | exact zl rfl | decide | (refine congrArg AV.bool ?_; simp only [decide_eq_true_eq, decide_eq_false_iff_not, notT, notF, beq_iff_eq, beq_eq_false_iff_ne, bne_iff_ne, bne_eq_false_iff_eq, tmodN, tdivN, Int.not_lt, Int.not_le]; omega)) ?_
  refine condT rfl (seq (reg [(0, { res := .agg [.str [], .str [], .str [], .str [], .int .i64 0, .bool false, .int .i64 300] })] [] rfl (by and_intros <;> first | exact ⟨⟩ | exact zl rfl | decide | exact wrong_ok 300) ?_))
  exact retD Tryz.func43 rfl rfl rfl (by rw [claimC_300 hl1 hl2]; rfl) (by rfl) rfl

set_option maxHeartbeats 400000 in
theorem rc_332a (m t : List UInt8) (hd : List Hd) (body : List UInt8) (o : Bool) (b : RB t hd) (hl1 : 0 < (authL hd).length) (hl2 : 0 < (xsgL t).length) : FnOK Tryz.prog 43 [.agg [.str m, .str t, .sl 2 hd.length (hdEl hd) false, .bs body o]] [] (clA (claimC t hd)) [] := by
  refine FnOK.of_runs Tryz.func43 rfl (Nat.le_of_ble_eq_true rfl) ?_
  refine seq (reg [] [] rfl (by decide) ?_)
  refine seq ?_
  have hb := b.lt; have hh := b.lh; have hq := b.q; have hau : (((authL hd).getD 0 [])).length ≤ 4194304 := b.auth authN 0
  refine reg [(2, { res := .tup [.str (queryP t), .sl 2 (queryQ t).length (hdEl (queryQ t)) false] })] [] rfl (by and_intros <;> first | exact ⟨⟩ | exact zl rfl | decide | exact rquery_ok t (by omega)) ?_
  refine seq (reg [(2, { res := .sl 1 (authL hd).length (strEl (authL hd)) false })] [] rfl (by and_intros <;> first | exact ⟨⟩ | exact zl rfl | decide | exact rall_ok hd authN (by omega)) ?_)
  refine seq (reg [(1, { res := .sl 1 (xsgL t).length (strEl (xsgL t)) false })] [0] rfl (by and_intros <;> first | exact ⟨⟩ | exact zl rfl | decide | exact rnamed_ok (queryQ t) xsigN (by omega)) ?_)
  refine seq (block (seq (region ?_)))
  refine rest [(2, { res := .bool false }), (6, { res := .bool false })] [0, 4] rfl (by and_intros <;> first | exact ⟨⟩ | exact zl rfl | decide | (refine congrArg AV.bool ?_; simp only [decide_eq_true_eq, decide_eq_false_iff_not, notT, notF, beq_iff_eq, beq_eq_false_iff_ne, bne_iff_ne, bne_eq_false_iff_eq, tmodN, tdivN, Int.not_lt, Int.not_le]; omega)) ?_
  refine condF rfl (seq (region ?_))
  refine rest [(2, { res := .bool true }), (6, { res := .bool true }), (11, { res := .bool false })] [0, 4, 9] rfl (by and_intros <;> first | exact ⟨⟩ | exact zl rfl | decide | (refine congrArg AV.bool ?_; simp only [decide_eq_true_eq, decide_eq_false_iff_not, notT, notF, beq_iff_eq, beq_eq_false_iff_ne, bne_iff_ne, bne_eq_false_iff_eq, tmodN, tdivN, Int.not_lt, Int.not_le]; omega)) ?_
  refine condT rfl (seq (reg [(0, { res := .agg [.str [], .str [], .str [], .str [], .int .i64 0, .bool false, .int .i64 332] })] [] rfl (by and_intros <;> first | exact ⟨⟩ | exact zl rfl | decide | exact wrong_ok 332) ?_))
  exact retD Tryz.func43 rfl rfl rfl (by rw [claimC_332 (.inl ⟨hl1, hl2⟩)]; rfl) (by rfl) rfl

set_option maxHeartbeats 400000 in
theorem rc_332b (m t : List UInt8) (hd : List Hd) (body : List UInt8) (o : Bool) (b : RB t hd) (hl1 : 1 < (authL hd).length) (hl2 : (xsgL t).length = 0) : FnOK Tryz.prog 43 [.agg [.str m, .str t, .sl 2 hd.length (hdEl hd) false, .bs body o]] [] (clA (claimC t hd)) [] := by
  refine FnOK.of_runs Tryz.func43 rfl (Nat.le_of_ble_eq_true rfl) ?_
  refine seq (reg [] [] rfl (by decide) ?_)
  refine seq ?_
  have hb := b.lt; have hh := b.lh; have hq := b.q; have hau : (((authL hd).getD 0 [])).length ≤ 4194304 := b.auth authN 0
  refine reg [(2, { res := .tup [.str (queryP t), .sl 2 (queryQ t).length (hdEl (queryQ t)) false] })] [] rfl (by and_intros <;> first | exact ⟨⟩ | exact zl rfl | decide | exact rquery_ok t (by omega)) ?_
  refine seq (reg [(2, { res := .sl 1 (authL hd).length (strEl (authL hd)) false })] [] rfl (by and_intros <;> first | exact ⟨⟩ | exact zl rfl | decide | exact rall_ok hd authN (by omega)) ?_)
  refine seq (reg [(1, { res := .sl 1 (xsgL t).length (strEl (xsgL t)) false })] [0] rfl (by and_intros <;> first | exact ⟨⟩ | exact zl rfl | decide | exact rnamed_ok (queryQ t) xsigN (by omega)) ?_)
  refine seq (block (seq (region ?_)))
  refine rest [(2, { res := .bool false }), (6, { res := .bool true })] [0, 4] rfl (by and_intros <;> first | exact ⟨⟩ | exact zl rfl | decide | (refine congrArg AV.bool ?_; simp only [decide_eq_true_eq, decide_eq_false_iff_not, notT, notF, beq_iff_eq, beq_eq_false_iff_ne, bne_iff_ne, bne_eq_false_iff_eq, tmodN, tdivN, Int.not_lt, Int.not_le]; omega)) ?_
  refine condF rfl (seq (region ?_))
  refine rest [(2, { res := .bool true }), (6, { res := .bool false }), (11, { res := .bool true })] [0, 4, 9] rfl (by and_intros <;> first | exact ⟨⟩ | exact zl rfl | decide | (refine congrArg AV.bool ?_; simp only [decide_eq_true_eq, decide_eq_false_iff_not, notT, notF, beq_iff_eq, beq_eq_false_iff_ne, bne_iff_ne, bne_eq_false_iff_eq, tmodN, tdivN, Int.not_lt, Int.not_le]; omega)) ?_
  refine condT rfl (seq (reg [(0, { res := .agg [.str [], .str [], .str [], .str [], .int .i64 0, .bool false, .int .i64 332] })] [] rfl (by and_intros <;> first | exact ⟨⟩ | exact zl rfl | decide | exact wrong_ok 332) ?_))
  exact retD Tryz.func43 rfl rfl rfl (by rw [claimC_332 (.inr hl1)]; rfl) (by rfl) rfl

set_option maxHeartbeats 2000000 in
theorem rc_h (m t : List UInt8) (hd : List Hd) (body : List UInt8) (o : Bool) (b : RB t hd) (hl1 : (authL hd).length = 1) (hl2 : (xsgL t).length = 0)  : FnOK Tryz.prog 43 [.agg [.str m, .str t, .sl 2 hd.length (hdEl hd) false, .bs body o]] [] (clA (claimC t hd)) [] := by
  refine FnOK.of_runs Tryz.func43 rfl (Nat.le_of_ble_eq_true rfl) ?_
  refine seq (reg [] [] rfl (by decide) ?_)
  refine seq ?_
  have hb := b.lt; have hh := b.lh; have hq := b.q; have hau : (((authL hd).getD 0 [])).length ≤ 4194304 := b.auth authN 0
  refine reg [(2, { res := .tup [.str (queryP t), .sl 2 (queryQ t).length (hdEl (queryQ t)) false] })] [] rfl (by and_intros <;> first | exact ⟨⟩ | exact zl rfl | decide | exact rquery_ok t (by omega)) ?_
  refine seq (reg [(2, { res := .sl 1 (authL hd).length (strEl (authL hd)) false })] [] rfl (by and_intros <;> first | exact ⟨⟩ | exact zl rfl | decide | exact rall_ok hd authN (by omega)) ?_)
  refine seq (reg [(1, { res := .sl 1 (xsgL t).length (strEl (xsgL t)) false })] [0] rfl (by and_intros <;> first | exact ⟨⟩ | exact zl rfl | decide | exact rnamed_ok (queryQ t) xsigN (by omega)) ?_)
  refine seq (block (seq (region ?_)))
  refine rest [(2, { res := .bool false }), (6, { res := .bool true })] [0, 4] rfl (by and_intros <;> first | exact ⟨⟩ | exact zl rfl | decide | (refine congrArg AV.bool ?_; simp only [decide_eq_true_eq, decide_eq_false_iff_not, notT, notF, beq_iff_eq, beq_eq_false_iff_ne, bne_iff_ne, bne_eq_false_iff_eq, tmodN, tdivN, Int.not_lt, Int.not_le]; omega)) ?_
  refine condF rfl (seq (region ?_))
  refine rest [(2, { res := .bool true }), (6, { res := .bool false }), (11, { res := .bool false })] [0, 4, 9] rfl (by and_intros <;> first | exact ⟨⟩ | exact zl rfl | decide | (refine congrArg AV.bool ?_; simp only [decide_eq_true_eq, decide_eq_false_iff_not, notT, notF, beq_iff_eq, beq_eq_false_iff_ne, bne_iff_ne, bne_eq_false_iff_eq, tmodN, tdivN, Int.not_lt, Int.not_le]; omega)) ?_
  refine condF rfl (seq ?_)
  refine reg [(2, { res := .bool false })] [0] rfl (by and_intros <;> first | exact ⟨⟩ | exact zl rfl | decide | (refine congrArg AV.bool ?_; simp only [decide_eq_true_eq, decide_eq_false_iff_not, notT, notF, beq_iff_eq, beq_eq_false_iff_ne, bne_iff_ne, bne_eq_false_iff_eq, tmodN, tdivN, Int.not_lt, Int.not_le]; omega)) ?_
  refine condF rfl (skip (inBlock (seq (seq (reg [(2, { res := .str ((authL hd).getD 0 []) }), (3, { res := .bool (begL ((authL hd).getD 0 []) algoS) })] [0] rfl (by and_intros <;> first | exact ⟨⟩ | exact zl rfl | decide | rfl | omega | exact rbegins_ok ((authL hd).getD 0 []) algoS (by omega) (by decide)) ?_)))))
  refine condS rfl (fun g62 => ?_) (fun g62 => ?_)
  · try simp only [zg] at g62
    refine seq (reg [(0, { res := .agg [.str [], .str [], .str [], .str [], .int .i64 0, .bool false, .int .i64 304] })] [] rfl (by and_intros <;> first | exact ⟨⟩ | exact zl rfl | decide | exact wrong_ok 304) ?_)
    exact retD Tryz.func43 rfl rfl rfl (by rw [claimC_h hl1 hl2, hdrC_bad (beg_nok (by simpa using g62))]; rfl) (by rfl) rfl
  · try simp only [zg] at g62
    refine skip (seq ?_)
    have hct := (beg_cut (v := ((authL hd).getD 0 [])) (by simpa using g62)).2
    have g61 : begL ((authL hd).getD 0 []) algoS = true := by simpa using g62
    have hb17 : 17 ≤ (((authL hd).getD 0 [])).length := begL_le g61
    refine reg [(2, { res := .str ((authL hd).getD 0 []) }), (3, { res := .str (cutpL ((authL hd).getD 0 []) algoS).1 }), (4, { res := .sl 1 (hdrL ((authL hd).getD 0 [])).length (strEl (hdrL ((authL hd).getD 0 []))) false })] [0] rfl (by and_intros <;> first | exact ⟨⟩ | exact zl rfl | decide | rfl | omega | exact (congrArg AV.str (by rw [← (beg_cut g61).1, Int.toNat_natCast, List.take_length]; rfl)) | exact rsplit_ok (cutpL ((authL hd).getD 0 []) algoS).1 44 (by have := cutp_len ((authL hd).getD 0 []) algoS; omega)) ?_
    refine seq (reg [] [] rfl (by and_intros <;> first | exact ⟨⟩ | exact zl rfl | decide | skip) ?_)
    refine seq (reg [] [] rfl (by decide) ?_)
    refine seq (seq (reg [] [] rfl (by decide) ?_))
    refine block ?_
    -- loop 0
    refine loopF (σ := Nat × Option (List UInt8) × Option (List UInt8) × Option (List UInt8)) (fun p => HdI (hdrL ((authL hd).getD 0 [])) p.1 p.2.1 p.2.2.1 p.2.2.2 ∧ (p.2.2.2.getD []).length ≤ 8388608) (fun p => [(1, .ptr 0 0), (2, .ptr 1 0), (7, .sl 1 (hdrL ((authL hd).getD 0 [])).length (strEl (hdrL ((authL hd).getD 0 []))) false), (8, .ptr 2 0), (9, .int .i64 (bits3 p.2.1 p.2.2.1 p.2.2.2)), (10, .int .i64 p.1)]) (fun p => [rqB m t hd body, zB, [.str (p.2.1.getD []), .str (p.2.2.1.getD []), .str (p.2.2.2.getD []), .str [], .int .i64 0, .bool false, .int .i64 0]]) (fun p => (hdrL ((authL hd).getD 0 [])).length - p.1) ((0, none, none, none)) (by exact ⟨HdI.start _, Nat.zero_le _⟩) (by exact zag rfl) (by rfl) (fun ⟨i, c, s, g⟩ hi ih => ?_)
    replace hi : HdI (hdrL ((authL hd).getD 0 [])) i c s g ∧ (g.getD []).length ≤ 8388608 := hi; have hle := hi.1.le; have hll := hdrL_len ((authL hd).getD 0 []); have hge := getD_le (hdrL_mem ((authL hd).getD 0 []) 8388608 (by omega)) i; have htl := trimL_len ((hdrL ((authL hd).getD 0 [])).getD i []); have hcl := cut_len (trimL ((hdrL ((authL hd).getD 0 [])).getD i [])) 61
    refine seq (seq (reg [] [0, 1] rfl (by decide) ?_))
    refine condS rfl (fun g73 => ?_) (fun g73 => ?_)
    · try simp only [zg] at g73
      refine skip (seq (block (seq (reg [(3, { res := .str ((hdrL ((authL hd).getD 0 [])).getD i []) }), (4, { res := .str (trimL ((hdrL ((authL hd).getD 0 [])).getD i [])) })] [0, 1] rfl (by and_intros <;> first | exact ⟨⟩ | exact zl rfl | decide | rfl | omega | exact rtrim_ok ((hdrL ((authL hd).getD 0 [])).getD i []) (by omega)) ?_))))
      refine seq ?_
      rcases PtI.all (hdrL ((authL hd).getD 0 [])) i c s g with ⟨h1, h2, h3⟩ | ⟨h1, h2, h3⟩ | ⟨h1, h2, h3⟩ | ⟨h1⟩ | ⟨h1, h2, u, h3⟩ | ⟨h1, h2, u, h3⟩ | ⟨h1, h2, u, h3⟩ | ⟨h1, h2, h3, h4⟩
      · skip
        refine reg [(1, { res := .tup [.str (ptF (hdrL ((authL hd).getD 0 [])) i).1, .str (ptF (hdrL ((authL hd).getD 0 [])) i).2.1, .bool true] })] [0] rfl (by and_intros <;> first | exact ⟨⟩ | exact zl rfl | decide | (have h0 := rcut_ok (trimL ((hdrL ((authL hd).getD 0 [])).getD i [])) 61 (by omega); rw [show (cutF (trimL ((hdrL ((authL hd).getD 0 [])).getD i [])) 61).2.2 = true from h1] at h0; exact h0)) ?_
        refine block (seq (region (rest [(3, { res := .bool true }), (8, { res := .bool true })] [0, 2, 6] rfl (by and_intros <;> first | exact ⟨⟩ | with_reducible exact congrArg AV.bool (beq_iff_eq.2 h2) | with_reducible exact congrArg AV.bool (b3_c0 h3 _ _)) ?_)))
        refine condT rfl (seq (reg [] [0] rfl (by and_intros <;> first | exact ⟨⟩ | exact zl rfl | decide | skip) ?_))
        refine reg [(1, { res := .int .i64 (bits3 (some []) s g) })] [] rfl (by and_intros <;> first | exact ⟨⟩ | exact zl rfl | decide | with_reducible exact congrArg (AV.int _) (b3_oc0 h3 _ _ _)) ?_
        refine inBlock (inBlock (reg [] [] rfl (by decide) ?_))
        refine id ?_
        subst h3
        refine drop 3 (Nat.le_of_ble_eq_true rfl) rfl ?_
        exact ih ((i + 1, some (ptF (hdrL ((authL hd).getD 0 [])) i).2.1, s, g)) _ _ (by refine ⟨?_, ?_⟩; (first | exact hi.1.stepC (by omega) h1 h2 | exact hi.1.stepS (by omega) h1 h2 | exact hi.1.stepG (by omega) h1 h2); first | exact hi.2 | exact Nat.le_trans hcl.2 (by omega)) (by simp only; omega) (by exact agree_cons rfl (by rfl) (agree_cons rfl (by rfl) (agree_cons rfl (by rfl) (agree_cons rfl (by rfl) (agree_cons rfl (by rfl) (agree_cons rfl (by refine congrArg (AV.int _) ?_; show IntKind.i64.wrap ((i : Int) + 1) = ((i + 1 : Nat) : Int); rw [i64_id (by omega) (by omega)]; omega) (trivial))))))) (by rfl)
      · skip
        refine reg [(1, { res := .tup [.str (ptF (hdrL ((authL hd).getD 0 [])) i).1, .str (ptF (hdrL ((authL hd).getD 0 [])) i).2.1, .bool true] })] [0] rfl (by and_intros <;> first | exact ⟨⟩ | exact zl rfl | decide | (have h0 := rcut_ok (trimL ((hdrL ((authL hd).getD 0 [])).getD i [])) 61 (by omega); rw [show (cutF (trimL ((hdrL ((authL hd).getD 0 [])).getD i [])) 61).2.2 = true from h1] at h0; exact h0)) ?_
        refine block (seq (region (rest [(3, { res := .bool false })] [0, 2, 6] rfl (by and_intros <;> first | exact ⟨⟩ | with_reducible exact congrArg AV.bool (nm_no h2 (show (sgP == credP) = false by decide))) ?_)))
        refine condF rfl (seq (region (rest [(3, { res := .bool true }), (8, { res := .bool true })] [0, 2, 6] rfl (by and_intros <;> first | exact ⟨⟩ | with_reducible exact congrArg AV.bool (beq_iff_eq.2 h2) | with_reducible exact congrArg AV.bool (b3_s0 h3 _ _)) ?_)))
        refine condT rfl (seq (reg [] [0] rfl (by and_intros <;> first | exact ⟨⟩ | exact zl rfl | decide | skip) ?_))
        refine reg [(1, { res := .int .i64 (bits3 c (some []) g) })] [] rfl (by and_intros <;> first | exact ⟨⟩ | exact zl rfl | decide | with_reducible exact congrArg (AV.int _) (b3_os0 h3 _ _ _)) ?_
        refine inBlock (inBlock (reg [] [] rfl (by decide) ?_))
        refine id ?_
        subst h3
        refine drop 3 (Nat.le_of_ble_eq_true rfl) rfl ?_
        exact ih ((i + 1, c, some (ptF (hdrL ((authL hd).getD 0 [])) i).2.1, g)) _ _ (by refine ⟨?_, ?_⟩; (first | exact hi.1.stepC (by omega) h1 h2 | exact hi.1.stepS (by omega) h1 h2 | exact hi.1.stepG (by omega) h1 h2); first | exact hi.2 | exact Nat.le_trans hcl.2 (by omega)) (by simp only; omega) (by exact agree_cons rfl (by rfl) (agree_cons rfl (by rfl) (agree_cons rfl (by rfl) (agree_cons rfl (by rfl) (agree_cons rfl (by rfl) (agree_cons rfl (by refine congrArg (AV.int _) ?_; show IntKind.i64.wrap ((i : Int) + 1) = ((i + 1 : Nat) : Int); rw [i64_id (by omega) (by omega)]; omega) (trivial))))))) (by rfl)
      · skip
        refine reg [(1, { res := .tup [.str (ptF (hdrL ((authL hd).getD 0 [])) i).1, .str (ptF (hdrL ((authL hd).getD 0 [])) i).2.1, .bool true] })] [0] rfl (by and_intros <;> first | exact ⟨⟩ | exact zl rfl | decide | (have h0 := rcut_ok (trimL ((hdrL ((authL hd).getD 0 [])).getD i [])) 61 (by omega); rw [show (cutF (trimL ((hdrL ((authL hd).getD 0 [])).getD i [])) 61).2.2 = true from h1] at h0; exact h0)) ?_
        refine block (seq (region (rest [(3, { res := .bool false })] [0, 2, 6] rfl (by and_intros <;> first | exact ⟨⟩ | with_reducible exact congrArg AV.bool (nm_no h2 (show (sigP == credP) = false by decide))) ?_)))
        refine condF rfl (seq (region (rest [(3, { res := .bool false })] [0, 2, 6] rfl (by and_intros <;> first | exact ⟨⟩ | with_reducible exact congrArg AV.bool (nm_no h2 (show (sigP == sgP) = false by decide))) ?_)))
        refine condF rfl (seq (region (rest [(3, { res := .bool true }), (8, { res := .bool true })] [0, 2, 6] rfl (by and_intros <;> first | exact ⟨⟩ | with_reducible exact congrArg AV.bool (beq_iff_eq.2 h2) | with_reducible exact congrArg AV.bool (b3_g0 h3 _ _)) ?_)))
        refine condT rfl (seq (reg [] [0] rfl (by and_intros <;> first | exact ⟨⟩ | exact zl rfl | decide | skip) ?_))
        refine reg [(1, { res := .int .i64 (bits3 c s (some [])) })] [] rfl (by and_intros <;> first | exact ⟨⟩ | exact zl rfl | decide | with_reducible exact congrArg (AV.int _) (b3_og0 h3 _ _ _)) ?_
        refine inBlock (inBlock (reg [] [] rfl (by decide) ?_))
        refine id ?_
        subst h3
        refine drop 3 (Nat.le_of_ble_eq_true rfl) rfl ?_
        exact ih ((i + 1, c, s, some (ptF (hdrL ((authL hd).getD 0 [])) i).2.1)) _ _ (by refine ⟨?_, ?_⟩; (first | exact hi.1.stepC (by omega) h1 h2 | exact hi.1.stepS (by omega) h1 h2 | exact hi.1.stepG (by omega) h1 h2); first | exact hi.2 | exact Nat.le_trans hcl.2 (by omega)) (by simp only; omega) (by exact agree_cons rfl (by rfl) (agree_cons rfl (by rfl) (agree_cons rfl (by rfl) (agree_cons rfl (by rfl) (agree_cons rfl (by rfl) (agree_cons rfl (by refine congrArg (AV.int _) ?_; show IntKind.i64.wrap ((i : Int) + 1) = ((i + 1 : Nat) : Int); rw [i64_id (by omega) (by omega)]; omega) (trivial))))))) (by rfl)
      · skip
        refine reg [(1, { res := .tup [.str (ptF (hdrL ((authL hd).getD 0 [])) i).1, .str (ptF (hdrL ((authL hd).getD 0 [])) i).2.1, .bool false] })] [0] rfl (by and_intros <;> first | exact ⟨⟩ | exact zl rfl | decide | (have h0 := rcut_ok (trimL ((hdrL ((authL hd).getD 0 [])).getD i [])) 61 (by omega); rw [show (cutF (trimL ((hdrL ((authL hd).getD 0 [])).getD i [])) 61).2.2 = false from h1] at h0; exact h0)) ?_
        refine block (seq (region (rest [] [0, 2, 6] rfl (by and_intros <;> first | exact ⟨⟩) ?_)))
        refine condF rfl (seq (region (rest [] [0, 2, 6] rfl (by and_intros <;> first | exact ⟨⟩) ?_)))
        refine condF rfl (seq (region (rest [] [0, 2, 6] rfl (by and_intros <;> first | exact ⟨⟩) ?_)))
        refine condF rfl (seq (reg [(0, { res := .agg [.str [], .str [], .str [], .str [], .int .i64 0, .bool false, .int .i64 304] })] [] rfl (by and_intros <;> first | exact ⟨⟩ | exact zl rfl | decide | exact wrong_ok 304) ?_))
        exact retD Tryz.func43 rfl rfl rfl (by rw [claimC_h hl1 hl2, hdrC_bad (by exact hi.1.b0 (by omega) h1)]; rfl) (by rfl) rfl
      · skip
        refine reg [(1, { res := .tup [.str (ptF (hdrL ((authL hd).getD 0 [])) i).1, .str (ptF (hdrL ((authL hd).getD 0 [])) i).2.1, .bool true] })] [0] rfl (by and_intros <;> first | exact ⟨⟩ | exact zl rfl | decide | (have h0 := rcut_ok (trimL ((hdrL ((authL hd).getD 0 [])).getD i [])) 61 (by omega); rw [show (cutF (trimL ((hdrL ((authL hd).getD 0 [])).getD i [])) 61).2.2 = true from h1] at h0; exact h0)) ?_
        refine block (seq (region (rest [(3, { res := .bool true }), (8, { res := .bool false })] [0, 2, 6] rfl (by and_intros <;> first | exact ⟨⟩ | with_reducible exact congrArg AV.bool (beq_iff_eq.2 h2) | with_reducible exact congrArg AV.bool (b3_c1 h3 _ _)) ?_)))
        refine condF rfl (seq (region (rest [(3, { res := .bool false })] [0, 2, 6] rfl (by and_intros <;> first | exact ⟨⟩ | with_reducible exact congrArg AV.bool (nm_no h2 (show (credP == sgP) = false by decide))) ?_)))
        refine condF rfl (seq (region (rest [(3, { res := .bool false })] [0, 2, 6] rfl (by and_intros <;> first | exact ⟨⟩ | with_reducible exact congrArg AV.bool (nm_no h2 (show (credP == sigP) = false by decide))) ?_)))
        refine condF rfl (seq (reg [(0, { res := .agg [.str [], .str [], .str [], .str [], .int .i64 0, .bool false, .int .i64 304] })] [] rfl (by and_intros <;> first | exact ⟨⟩ | exact zl rfl | decide | exact wrong_ok 304) ?_))
        exact retD Tryz.func43 rfl rfl rfl (by rw [claimC_h hl1 hl2, hdrC_bad (by subst h3; exact hi.1.b1 (by omega) h1 h2)]; rfl) (by rfl) rfl
      · skip
        refine reg [(1, { res := .tup [.str (ptF (hdrL ((authL hd).getD 0 [])) i).1, .str (ptF (hdrL ((authL hd).getD 0 [])) i).2.1, .bool true] })] [0] rfl (by and_intros <;> first | exact ⟨⟩ | exact zl rfl | decide | (have h0 := rcut_ok (trimL ((hdrL ((authL hd).getD 0 [])).getD i [])) 61 (by omega); rw [show (cutF (trimL ((hdrL ((authL hd).getD 0 [])).getD i [])) 61).2.2 = true from h1] at h0; exact h0)) ?_
        refine block (seq (region (rest [(3, { res := .bool false })] [0, 2, 6] rfl (by and_intros <;> first | exact ⟨⟩ | with_reducible exact congrArg AV.bool (nm_no h2 (show (sgP == credP) = false by decide))) ?_)))
        refine condF rfl (seq (region (rest [(3, { res := .bool true }), (8, { res := .bool false })] [0, 2, 6] rfl (by and_intros <;> first | exact ⟨⟩ | with_reducible exact congrArg AV.bool (beq_iff_eq.2 h2) | with_reducible exact congrArg AV.bool (b3_s1 h3 _ _)) ?_)))
        refine condF rfl (seq (region (rest [(3, { res := .bool false })] [0, 2, 6] rfl (by and_intros <;> first | exact ⟨⟩ | with_reducible exact congrArg AV.bool (nm_no h2 (show (sgP == sigP) = false by decide))) ?_)))
        refine condF rfl (seq (reg [(0, { res := .agg [.str [], .str [], .str [], .str [], .int .i64 0, .bool false, .int .i64 304] })] [] rfl (by and_intros <;> first | exact ⟨⟩ | exact zl rfl | decide | exact wrong_ok 304) ?_))
        exact retD Tryz.func43 rfl rfl rfl (by rw [claimC_h hl1 hl2, hdrC_bad (by subst h3; exact hi.1.b2 (by omega) h1 h2)]; rfl) (by rfl) rfl
      · skip
        refine reg [(1, { res := .tup [.str (ptF (hdrL ((authL hd).getD 0 [])) i).1, .str (ptF (hdrL ((authL hd).getD 0 [])) i).2.1, .bool true] })] [0] rfl (by and_intros <;> first | exact ⟨⟩ | exact zl rfl | decide | (have h0 := rcut_ok (trimL ((hdrL ((authL hd).getD 0 [])).getD i [])) 61 (by omega); rw [show (cutF (trimL ((hdrL ((authL hd).getD 0 [])).getD i [])) 61).2.2 = true from h1] at h0; exact h0)) ?_
        refine block (seq (region (rest [(3, { res := .bool false })] [0, 2, 6] rfl (by and_intros <;> first | exact ⟨⟩ | with_reducible exact congrArg AV.bool (nm_no h2 (show (sigP == credP) = false by decide))) ?_)))
        refine condF rfl (seq (region (rest [(3, { res := .bool false })] [0, 2, 6] rfl (by and_intros <;> first | exact ⟨⟩ | with_reducible exact congrArg AV.bool (nm_no h2 (show (sigP == sgP) = false by decide))) ?_)))
        refine condF rfl (seq (region (rest [(3, { res := .bool true }), (8, { res := .bool false })] [0, 2, 6] rfl (by and_intros <;> first | exact ⟨⟩ | with_reducible exact congrArg AV.bool (beq_iff_eq.2 h2) | with_reducible exact congrArg AV.bool (b3_g1 h3 _ _)) ?_)))
        refine condF rfl (seq (reg [(0, { res := .agg [.str [], .str [], .str [], .str [], .int .i64 0, .bool false, .int .i64 304] })] [] rfl (by and_intros <;> first | exact ⟨⟩ | exact zl rfl | decide | exact wrong_ok 304) ?_))
        exact retD Tryz.func43 rfl rfl rfl (by rw [claimC_h hl1 hl2, hdrC_bad (by subst h3; exact hi.1.b3 (by omega) h1 h2)]; rfl) (by rfl) rfl
      · skip
        refine reg [(1, { res := .tup [.str (ptF (hdrL ((authL hd).getD 0 [])) i).1, .str (ptF (hdrL ((authL hd).getD 0 [])) i).2.1, .bool true] })] [0] rfl (by and_intros <;> first | exact ⟨⟩ | exact zl rfl | decide | (have h0 := rcut_ok (trimL ((hdrL ((authL hd).getD 0 [])).getD i [])) 61 (by omega); rw [show (cutF (trimL ((hdrL ((authL hd).getD 0 [])).getD i [])) 61).2.2 = true from h1] at h0; exact h0)) ?_
        refine block (seq (region (rest [(3, { res := .bool false })] [0, 2, 6] rfl (by and_intros <;> first | exact ⟨⟩ | with_reducible exact congrArg AV.bool (beq_eq_false_iff_ne.2 h2)) ?_)))
        refine condF rfl (seq (region (rest [(3, { res := .bool false })] [0, 2, 6] rfl (by and_intros <;> first | exact ⟨⟩ | with_reducible exact congrArg AV.bool (beq_eq_false_iff_ne.2 h3)) ?_)))
        refine condF rfl (seq (region (rest [(3, { res := .bool false })] [0, 2, 6] rfl (by and_intros <;> first | exact ⟨⟩ | with_reducible exact congrArg AV.bool (beq_eq_false_iff_ne.2 h4)) ?_)))
        refine condF rfl (seq (reg [(0, { res := .agg [.str [], .str [], .str [], .str [], .int .i64 0, .bool false, .int .i64 304] })] [] rfl (by and_intros <;> first | exact ⟨⟩ | exact zl rfl | decide | exact wrong_ok 304) ?_))
        exact retD Tryz.func43 rfl rfl rfl (by rw [claimC_h hl1 hl2, hdrC_bad (hi.1.b4 (by omega) h2 h3 h4)]; rfl) (by rfl) rfl
    · try simp only [zg] at g73
      refine exit rfl (seq (seq (region (restTo 3 [(5, { res := .bool (digsL (g.getD [])) })] [0] rfl (by and_intros <;> first | exact ⟨⟩ | exact zl rfl | decide | rfl | exact rdigits_ok (g.getD []) (by omega)) ?_))))
      refine splitS 135 rfl (fun g135 => ?_) (fun g135 => ?_)
      · try simp only [zg] at g135
        refine rest [(5, { res := .bool (digsL (g.getD [])) })] [0] rfl (by and_intros <;> first | exact ⟨⟩ | exact zl rfl | decide | rfl | exact rdigits_ok (g.getD []) (by omega)) ?_
        refine condT rfl (seq (reg [(0, { res := .agg [.str [], .str [], .str [], .str [], .int .i64 0, .bool false, .int .i64 304] })] [] rfl (by and_intros <;> first | exact ⟨⟩ | exact zl rfl | decide | exact wrong_ok 304) ?_))
        exact retD Tryz.func43 rfl rfl rfl (by rw [claimC_h hl1 hl2, hdrC_bad (fun hk => by have := ((hi.1.done (by omega) hct).1 hk).1; omega)]; rfl) (by rfl) rfl
      · try simp only [zg] at g135
        refine rest [(5, { res := .bool (digsL (g.getD [])) })] [0] rfl (by and_intros <;> first | exact ⟨⟩ | exact zl rfl | decide | rfl | exact rdigits_ok (g.getD []) (by omega)) ?_
        refine condS rfl (fun g140 => ?_) (fun g140 => ?_)
        · try simp only [zg] at g140
          refine seq (reg [(0, { res := .agg [.str [], .str [], .str [], .str [], .int .i64 0, .bool false, .int .i64 304] })] [] rfl (by and_intros <;> first | exact ⟨⟩ | exact zl rfl | decide | exact wrong_ok 304) ?_)
          exact retD Tryz.func43 rfl rfl rfl (by rw [claimC_h hl1 hl2, hdrC_bad (fun hk => by have := ((hi.1.done (by omega) hct).1 hk).2; simp_all)]; rfl) (by rfl) rfl
        · try simp only [zg] at g140
          refine skip (seq ?_)
          have hok : HdrOK ((authL hd).getD 0 []) := (hi.1.done (by omega) hct).2 ⟨by omega, by simp_all⟩
          have hv := hi.1.vals (by omega) (by omega)
          refine reg [(2, { res := .sl 1 (allL hd xdateN).length (strEl (allL hd xdateN)) false })] [] rfl (by and_intros <;> first | exact ⟨⟩ | exact zl rfl | decide | exact rall_ok hd xdateN (by omega)) ?_
          refine seq (seq (reg [] [0] rfl (by decide) ?_))
          refine condS rfl (fun g147 => ?_) (fun g147 => ?_)
          · try simp only [zg] at g147
            refine seq (reg [(0, { res := .agg [.str [], .str [], .str [], .str [], .int .i64 0, .bool false, .int .i64 300] })] [] rfl (by and_intros <;> first | exact ⟨⟩ | exact zl rfl | decide | exact wrong_ok 300) ?_)
            exact retD Tryz.func43 rfl rfl rfl (by rw [claimC_h hl1 hl2, hdrC_nod hok (by omega)]; rfl) (by rfl) rfl
          · try simp only [zg] at g147
            refine skip (seq (reg [(2, { res := .str ((allL hd xdateN).getD 0 []) })] [0] rfl (by and_intros <;> first | exact ⟨⟩ | exact zl rfl | decide | rfl | omega) ?_))
            refine seq (reg [] [] rfl (by and_intros <;> first | exact ⟨⟩ | exact zl rfl | decide | rfl) ?_)
            exact retD Tryz.func43 rfl rfl rfl (by rw [claimC_h hl1 hl2, hdrC_ok hok (by omega), hv.1, hv.2.1, hv.2.2]; rfl) (by rfl) rfl

set_option maxHeartbeats 400000 in
theorem rc_qb (m t : List UInt8) (hd : List Hd) (body : List UInt8) (o : Bool) (b : RB t hd) (hl1 : (authL hd).length = 0) (hl2 : 0 < (xsgL t).length) {e : Int} (hqe : qryC (queryQ t) = .inl e) : FnOK Tryz.prog 43 [.agg [.str m, .str t, .sl 2 hd.length (hdEl hd) false, .bs body o]] [] (clA (claimC t hd)) [] := by
  refine FnOK.of_runs Tryz.func43 rfl (Nat.le_of_ble_eq_true rfl) ?_
  refine seq (reg [] [] rfl (by decide) ?_)
  refine seq ?_
  have hb := b.lt; have hh := b.lh; have hq := b.q; have hau : (((authL hd).getD 0 [])).length ≤ 4194304 := b.auth authN 0
  refine reg [(2, { res := .tup [.str (queryP t), .sl 2 (queryQ t).length (hdEl (queryQ t)) false] })] [] rfl (by and_intros <;> first | exact ⟨⟩ | exact zl rfl | decide | exact rquery_ok t (by omega)) ?_
  refine seq (reg [(2, { res := .sl 1 (authL hd).length (strEl (authL hd)) false })] [] rfl (by and_intros <;> first | exact ⟨⟩ | exact zl rfl | decide | exact rall_ok hd authN (by omega)) ?_)
  refine seq (reg [(1, { res := .sl 1 (xsgL t).length (strEl (xsgL t)) false })] [0] rfl (by and_intros <;> first | exact ⟨⟩ | exact zl rfl | decide | exact rnamed_ok (queryQ t) xsigN (by omega)) ?_)
  refine seq (block (seq (region ?_)))
  refine rest [(2, { res := .bool true }), (6, { res := .bool false })] [0, 4] rfl (by and_intros <;> first | exact ⟨⟩ | exact zl rfl | decide | (refine congrArg AV.bool ?_; simp only [decide_eq_true_eq, decide_eq_false_iff_not, notT, notF, beq_iff_eq, beq_eq_false_iff_ne, bne_iff_ne, bne_eq_false_iff_eq, tmodN, tdivN, Int.not_lt, Int.not_le]; omega)) ?_
  refine condF rfl (seq (region ?_))
  refine rest [(2, { res := .bool false }), (6, { res := .bool true }), (11, { res := .bool false })] [0, 4, 9] rfl (by and_intros <;> first | exact ⟨⟩ | exact zl rfl | decide | (refine congrArg AV.bool ?_; simp only [decide_eq_true_eq, decide_eq_false_iff_not, notT, notF, beq_iff_eq, beq_eq_false_iff_ne, bne_iff_ne, bne_eq_false_iff_eq, tmodN, tdivN, Int.not_lt, Int.not_le]; omega)) ?_
  refine condF rfl (seq ?_)
  refine reg [(2, { res := .bool true })] [0] rfl (by and_intros <;> first | exact ⟨⟩ | exact zl rfl | decide | (refine congrArg AV.bool ?_; simp only [decide_eq_true_eq, decide_eq_false_iff_not, notT, notF, beq_iff_eq, beq_eq_false_iff_ne, bne_iff_ne, bne_eq_false_iff_eq, tmodN, tdivN, Int.not_lt, Int.not_le]; omega)) ?_
  refine condT rfl (seq (reg [(1, { res := .agg [.str [], .str [], .str [], .str [], .int .i64 0, .bool false, .int .i64 e] })] [0] rfl (by and_intros <;> first | exact ⟨⟩ | exact zl rfl | decide | (have h0 := rinq_ok (queryQ t) hq.1 hq.2; rw [hqe] at h0; exact h0)) ?_))
  exact retD Tryz.func43 rfl rfl rfl (by rw [claimC_q hl1 hl2, hqe]; rfl) (by rfl) rfl

set_option maxHeartbeats 400000 in
theorem rc_qo (m t : List UInt8) (hd : List Hd) (body : List UInt8) (o : Bool) (b : RB t hd) (hl1 : (authL hd).length = 0) (hl2 : 0 < (xsgL t).length) {c : Cl} (hqe : qryC (queryQ t) = .inr c) : FnOK Tryz.prog 43 [.agg [.str m, .str t, .sl 2 hd.length (hdEl hd) false, .bs body o]] [] (clA (claimC t hd)) [] := by
  refine FnOK.of_runs Tryz.func43 rfl (Nat.le_of_ble_eq_true rfl) ?_
  refine seq (reg [] [] rfl (by decide) ?_)
  refine seq ?_
  have hb := b.lt; have hh := b.lh; have hq := b.q; have hau : (((authL hd).getD 0 [])).length ≤ 4194304 := b.auth authN 0
  refine reg [(2, { res := .tup [.str (queryP t), .sl 2 (queryQ t).length (hdEl (queryQ t)) false] })] [] rfl (by and_intros <;> first | exact ⟨⟩ | exact zl rfl | decide | exact rquery_ok t (by omega)) ?_
  refine seq (reg [(2, { res := .sl 1 (authL hd).length (strEl (authL hd)) false })] [] rfl (by and_intros <;> first | exact ⟨⟩ | exact zl rfl | decide | exact rall_ok hd authN (by omega)) ?_)
  refine seq (reg [(1, { res := .sl 1 (xsgL t).length (strEl (xsgL t)) false })] [0] rfl (by and_intros <;> first | exact ⟨⟩ | exact zl rfl | decide | exact rnamed_ok (queryQ t) xsigN (by omega)) ?_)
  refine seq (block (seq (region ?_)))
  refine rest [(2, { res := .bool true }), (6, { res := .bool false })] [0, 4] rfl (by and_intros <;> first | exact ⟨⟩ | exact zl rfl | decide | (refine congrArg AV.bool ?_; simp only [decide_eq_true_eq, decide_eq_false_iff_not, notT, notF, beq_iff_eq, beq_eq_false_iff_ne, bne_iff_ne, bne_eq_false_iff_eq, tmodN, tdivN, Int.not_lt, Int.not_le]; omega)) ?_
  refine condF rfl (seq (region ?_))
  refine rest [(2, { res := .bool false }), (6, { res := .bool true }), (11, { res := .bool false })] [0, 4, 9] rfl (by and_intros <;> first | exact ⟨⟩ | exact zl rfl | decide | (refine congrArg AV.bool ?_; simp only [decide_eq_true_eq, decide_eq_false_iff_not, notT, notF, beq_iff_eq, beq_eq_false_iff_ne, bne_iff_ne, bne_eq_false_iff_eq, tmodN, tdivN, Int.not_lt, Int.not_le]; omega)) ?_
  refine condF rfl (seq ?_)
  refine reg [(2, { res := .bool true })] [0] rfl (by and_intros <;> first | exact ⟨⟩ | exact zl rfl | decide | (refine congrArg AV.bool ?_; simp only [decide_eq_true_eq, decide_eq_false_iff_not, notT, notF, beq_iff_eq, beq_eq_false_iff_ne, bne_iff_ne, bne_eq_false_iff_eq, tmodN, tdivN, Int.not_lt, Int.not_le]; omega)) ?_
  refine condT rfl (seq (reg [(1, { res := .agg [.str c.cred, .str c.sg, .str c.sig, .str c.date, .int .i64 c.exp, .bool c.q, .int .i64 0] })] [0] rfl (by and_intros <;> first | exact ⟨⟩ | exact zl rfl | decide | (have h0 := rinq_ok (queryQ t) hq.1 hq.2; rw [hqe] at h0; exact h0)) ?_))
  exact retD Tryz.func43 rfl rfl rfl (by rw [claimC_q hl1 hl2, hqe]; rfl) (by rfl) rfl


theorem rclaim_ok (m t : List UInt8) (hd : List Hd) (body : List UInt8) (o : Bool) (b : RB t hd) : FnOK Tryz.prog 43 [.agg [.str m, .str t, .sl 2 hd.length (hdEl hd) false, .bs body o]] [] (clA (claimC t hd)) [] := by
  by_cases h1 : (authL hd).length = 0
  · by_cases h2 : (xsgL t).length = 0
    · exact rc_300 m t hd body o b h1 h2
    · cases e : qryC (queryQ t) with
      | inl x => exact rc_qb m t hd body o b h1 (by omega) e
      | inr x => exact rc_qo m t hd body o b h1 (by omega) e
  · by_cases h2 : (xsgL t).length = 0
    · by_cases h3 : (authL hd).length = 1
      · exact rc_h m t hd body o b h3 h2
      · exact rc_332b m t hd body o b (by omega) h2
    · exact rc_332a m t hd body o b (by omega) (by omega)

end Go.Proofs.YtnohmijdpmelpaaGreat
