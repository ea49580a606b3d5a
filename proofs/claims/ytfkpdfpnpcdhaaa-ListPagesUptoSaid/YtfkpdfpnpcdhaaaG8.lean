/- contracts. -/
import Derived.Test.YtfkpdfpnpcdhaaaG7
set_option maxRecDepth 100000
set_option linter.unusedVariables false
set_option linter.unusedSimpArgs false
set_option linter.unusedSectionVars false
namespace Go.Proofs.LP
open Go Go.Am Go.Proofs
variable [MM]

set_option maxHeartbeats 2000000 in
theorem listPages_ok (l : List (List UInt8)) (p d mar s4 s5 s6 : List UInt8) (mx fr0 : Int) (hl : l.length ≤ 1048576) (hs : ∀ x, x ∈ l → x.length ≤ 1048576) (hd : d.length ≤ 1048576) : FnOK Try.prog 8 [.sl 1 l.length (strEl l) false, .agg [.str p, .str d, .str mar, .str s4, .str s5, .str s6, .int .i64 mx, .int .i64 fr0]] [] (.bool true) [] := by
  refine FnOK.of_runs Try.func8 rfl (Nat.le_of_ble_eq_true rfl) ?_
  refine Runs.seq ?_
  refine Runs.reg [] [] rfl (by (try simp only [wrap_i64', wrap_u8, wrap_u16, wrap_u32, wrap_u64, wrap_i32, List.length_cons, List.length_nil, List.length_append, List.length_map, tmodN, tdivN]); and_intros <;> first | exact True.intro | omega | skip) ?_
  refine Runs.seq ?_
  refine Runs.seq ?_
  refine Runs.reg [] [0] rfl (by (try simp only [wrap_i64', wrap_u8, wrap_u16, wrap_u32, wrap_u64, wrap_i32, List.length_cons, List.length_nil, List.length_append, List.length_map, tmodN, tdivN]); and_intros <;> first | exact True.intro | omega | skip) ?_
  refine Runs.condS rfl (fun g11 => ?_) (fun g11 => ?_)
  · try simp only [decide_eq_true_eq, decide_eq_false_iff_not, notT, notF, beq_iff_eq, beq_eq_false_iff_ne, bne_iff_ne, bne_eq_false_iff_eq, tmodN, tdivN, Int.not_lt, Int.not_le] at g11
    refine Runs.seq ?_
    refine Runs.reg [(0, { res := .bool true })] [] rfl (by and_intros <;> first | exact True.intro | exact awake23_ok) ?_
    refine Runs.drop 0 (Nat.zero_le _) rfl ?_
    exact Runs.retH Try.func8 rfl rfl (by rfl) (by rfl)
  · try simp only [decide_eq_true_eq, decide_eq_false_iff_not, notT, notF, beq_iff_eq, beq_eq_false_iff_ne, bne_iff_ne, bne_eq_false_iff_eq, tmodN, tdivN, Int.not_lt, Int.not_le] at g11
    refine Runs.skip ?_
    refine Runs.seq ?_
    refine Runs.regD [(1, { res := .sl 1 (risL l).length (strEl (risL l)) false }), (3, { res := .tup [.sl 22 (pgLL (risL l) p d mar mx).length (tiEl (pgLL (risL l) p d mar mx)) false, .bool (pgML (risL l) p d mar mx)] })] [0, 5, 6] rfl rfl rfl (by and_intros <;> first | exact True.intro | omega | exact rising_ok l hl | exact page_ok (risL l) p d mar s4 s5 s6 mx fr0 (by rw [risL_len]; omega) (fun x hx => by have := ris_small hs x hx; omega) | exact Nat.le_of_ble_eq_true rfl) ?_
    refine Runs.seq ?_
    refine Runs.regD2 2 4 [0, 1, 4, 2, 3, 5] [(1, { res := .sl 1 (risL l).length (strEl (risL l)) false }), (3, { res := .agg [.sl 22 (pgLL (risL l) p d mar mx).length (tiEl (pgLL (risL l) p d mar mx)) false, .bool (pgML (risL l) p d mar mx)] })] [0] rfl rfl rfl rfl rfl rfl (by and_intros <;> first | exact True.intro | omega | exact rising_ok l hl | exact rof_ok (risL l) p d mar s4 s5 s6 mx fr0 (by rw [risL_len]; omega) (ris_small hs) hd (ris_sor l) | exact Nat.le_of_ble_eq_true rfl) (by and_intros <;> first | exact True.intro | omega | exact rising_ok l hl | exact rof_ok (risL l) p d mar s4 s5 s6 mx fr0 (by rw [risL_len]; omega) (ris_small hs) hd (ris_sor l) | exact Nat.le_of_ble_eq_true rfl) ?_ ?_
    · skip
      refine Runs.seq ?_
      refine Runs.seq ?_
      refine Runs.region ?_
      refine Runs.restTo 7 [] [0, 7] rfl (by (try simp only [wrap_i64', wrap_u8, wrap_u16, wrap_u32, wrap_u64, wrap_i32, List.length_cons, List.length_nil, List.length_append, List.length_map, tmodN, tdivN]); and_intros <;> first | exact True.intro | omega | skip) ?_
      refine Runs.splitS 30 rfl (fun g30 => ?_) (fun g30 => ?_)
      · try simp only [decide_eq_true_eq, decide_eq_false_iff_not, notT, notF, beq_iff_eq, beq_eq_false_iff_ne, bne_iff_ne, bne_eq_false_iff_eq, tmodN, tdivN, Int.not_lt, Int.not_le] at g30
        exact absurd rfl g30
      · try simp only [decide_eq_true_eq, decide_eq_false_iff_not, notT, notF, beq_iff_eq, beq_eq_false_iff_ne, bne_iff_ne, bne_eq_false_iff_eq, tmodN, tdivN, Int.not_lt, Int.not_le] at g30
        refine Runs.rest [] [0, 7] rfl (by (try simp only [wrap_i64', wrap_u8, wrap_u16, wrap_u32, wrap_u64, wrap_i32, List.length_cons, List.length_nil, List.length_append, List.length_map, tmodN, tdivN]); and_intros <;> first | exact True.intro | omega | skip) ?_
        refine Runs.condS rfl (fun g35 => ?_) (fun g35 => ?_)
        · try simp only [decide_eq_true_eq, decide_eq_false_iff_not, notT, notF, beq_iff_eq, beq_eq_false_iff_ne, bne_iff_ne, bne_eq_false_iff_eq, tmodN, tdivN, Int.not_lt, Int.not_le] at g35
          exact absurd rfl g35
        · try simp only [decide_eq_true_eq, decide_eq_false_iff_not, notT, notF, beq_iff_eq, beq_eq_false_iff_ne, bne_iff_ne, bne_eq_false_iff_eq, tmodN, tdivN, Int.not_lt, Int.not_le] at g35
          refine Runs.skip ?_
          refine Runs.seq ?_
          refine Runs.seq ?_
          refine Runs.reg [] [] rfl (by (try simp only [wrap_i64', wrap_u8, wrap_u16, wrap_u32, wrap_u64, wrap_i32, List.length_cons, List.length_nil, List.length_append, List.length_map, tmodN, tdivN]); and_intros <;> first | exact True.intro | omega | skip) ?_
          refine Runs.block ?_
          -- loop 0
          refine Runs.loopF (σ := Nat) (fun i => i ≤ (pgLL (risL l) p d mar mx).length) (fun i => [(5, .sl 22 (pgLL (risL l) p d mar mx).length (tiEl (pgLL (risL l) p d mar mx)) false), (7, .ptr 1 0), (8, .int .i64 i)]) (fun i => [[.str p, .str d, .str mar, .str s4, .str s5, .str s6, .int .i64 mx, .int .i64 fr0], [.sl 22 (pgLL (risL l) p d mar mx).length (tiEl (pgLL (risL l) p d mar mx)) false, .bool (pgML (risL l) p d mar mx)]]) (fun i => (pgLL (risL l) p d mar mx).length - i) (0) (by first | exact True.intro | omega) (by exact agree_cons rfl (by first | with_reducible rfl | (refine congrArg (AV.int _) ?_; (try simp only [wrap_i64', wrap_u8, wrap_u16, wrap_u32, wrap_u64, wrap_i32, List.length_cons, List.length_nil, List.length_append, List.length_map, tmodN, tdivN]); omega) | rfl | skip) (agree_cons rfl (by first | with_reducible rfl | (refine congrArg (AV.int _) ?_; (try simp only [wrap_i64', wrap_u8, wrap_u16, wrap_u32, wrap_u64, wrap_i32, List.length_cons, List.length_nil, List.length_append, List.length_map, tmodN, tdivN]); omega) | rfl | skip) (agree_cons rfl (by first | with_reducible rfl | (refine congrArg (AV.int _) ?_; (try simp only [wrap_i64', wrap_u8, wrap_u16, wrap_u32, wrap_u64, wrap_i32, List.length_cons, List.length_nil, List.length_append, List.length_map, tmodN, tdivN]); omega) | rfl | skip) (trivial)))) (by rfl) (fun i hi ih => ?_)
          have hpl : (pgLL (risL l) p d mar mx).length ≤ 1048576 := (by have := uptoL_len (risL l) p d mar (risL l).length; have := risL_len l; unfold pgLL; split; exact Nat.zero_le _; rw [List.length_take]; unfold fullL; omega)
          refine Runs.seq ?_
          refine Runs.seq ?_
          refine Runs.reg [] [0, 1] rfl (by (try simp only [wrap_i64', wrap_u8, wrap_u16, wrap_u32, wrap_u64, wrap_i32, List.length_cons, List.length_nil, List.length_append, List.length_map, tmodN, tdivN]); and_intros <;> first | exact True.intro | omega | skip) ?_
          refine Runs.condS rfl (fun g39 => ?_) (fun g39 => ?_)
          · try simp only [decide_eq_true_eq, decide_eq_false_iff_not, notT, notF, beq_iff_eq, beq_eq_false_iff_ne, bne_iff_ne, bne_eq_false_iff_eq, tmodN, tdivN, Int.not_lt, Int.not_le] at g39
            refine Runs.skip ?_
            refine Runs.seq ?_
            refine Runs.block ?_
            refine Runs.seq ?_
            refine Runs.regD [(9, { res := .bool true })] [0, 1, 6] rfl rfl rfl (by and_intros <;> first | exact True.intro | omega | exact sameItem_ok _ | exact Nat.le_of_ble_eq_true rfl) ?_
            refine Runs.condF rfl ?_
            refine Runs.skip ?_
            refine Runs.inBlock ?_
            refine Runs.reg [] [] rfl (by (try simp only [wrap_i64', wrap_u8, wrap_u16, wrap_u32, wrap_u64, wrap_i32, List.length_cons, List.length_nil, List.length_append, List.length_map, tmodN, tdivN]); and_intros <;> first | exact True.intro | omega | skip) ?_
            exact ih (i + 1) _ _ (by first | exact True.intro | omega) (by omega) (by exact agree_cons rfl (by first | with_reducible rfl | (refine congrArg (AV.int _) ?_; (try simp only [wrap_i64', wrap_u8, wrap_u16, wrap_u32, wrap_u64, wrap_i32, List.length_cons, List.length_nil, List.length_append, List.length_map, tmodN, tdivN]); omega) | rfl | skip) (agree_cons rfl (by first | with_reducible rfl | (refine congrArg (AV.int _) ?_; (try simp only [wrap_i64', wrap_u8, wrap_u16, wrap_u32, wrap_u64, wrap_i32, List.length_cons, List.length_nil, List.length_append, List.length_map, tmodN, tdivN]); omega) | rfl | skip) (agree_cons rfl (by first | with_reducible rfl | (refine congrArg (AV.int _) ?_; (try simp only [wrap_i64', wrap_u8, wrap_u16, wrap_u32, wrap_u64, wrap_i32, List.length_cons, List.length_nil, List.length_append, List.length_map, tmodN, tdivN]); omega) | rfl | skip) (trivial)))) (by rfl)
          · try simp only [decide_eq_true_eq, decide_eq_false_iff_not, notT, notF, beq_iff_eq, beq_eq_false_iff_ne, bne_iff_ne, bne_eq_false_iff_eq, tmodN, tdivN, Int.not_lt, Int.not_le] at g39
            refine Runs.exit rfl ?_
            refine Runs.seq ?_
            refine Runs.reg [(0, { res := .bool true })] [] rfl (by and_intros <;> first | exact True.intro | exact awake23_ok) ?_
            refine Runs.drop 0 (Nat.zero_le _) rfl ?_
            exact Runs.retH Try.func8 rfl rfl (by rfl) (by rfl)
    · skip
      refine Runs.seq ?_
      refine Runs.seq ?_
      refine Runs.region ?_
      refine Runs.restTo 7 [] [0, 7] rfl (by (try simp only [wrap_i64', wrap_u8, wrap_u16, wrap_u32, wrap_u64, wrap_i32, List.length_cons, List.length_nil, List.length_append, List.length_map, tmodN, tdivN]); and_intros <;> first | exact True.intro | omega | skip) ?_
      refine Runs.splitS 30 rfl (fun g30 => ?_) (fun g30 => ?_)
      · try simp only [decide_eq_true_eq, decide_eq_false_iff_not, notT, notF, beq_iff_eq, beq_eq_false_iff_ne, bne_iff_ne, bne_eq_false_iff_eq, tmodN, tdivN, Int.not_lt, Int.not_le] at g30
        exact absurd rfl g30
      · try simp only [decide_eq_true_eq, decide_eq_false_iff_not, notT, notF, beq_iff_eq, beq_eq_false_iff_ne, bne_iff_ne, bne_eq_false_iff_eq, tmodN, tdivN, Int.not_lt, Int.not_le] at g30
        refine Runs.rest [] [0, 7] rfl (by (try simp only [wrap_i64', wrap_u8, wrap_u16, wrap_u32, wrap_u64, wrap_i32, List.length_cons, List.length_nil, List.length_append, List.length_map, tmodN, tdivN]); and_intros <;> first | exact True.intro | omega | skip) ?_
        refine Runs.condS rfl (fun g35 => ?_) (fun g35 => ?_)
        · try simp only [decide_eq_true_eq, decide_eq_false_iff_not, notT, notF, beq_iff_eq, beq_eq_false_iff_ne, bne_iff_ne, bne_eq_false_iff_eq, tmodN, tdivN, Int.not_lt, Int.not_le] at g35
          exact absurd rfl g35
        · try simp only [decide_eq_true_eq, decide_eq_false_iff_not, notT, notF, beq_iff_eq, beq_eq_false_iff_ne, bne_iff_ne, bne_eq_false_iff_eq, tmodN, tdivN, Int.not_lt, Int.not_le] at g35
          refine Runs.skip ?_
          refine Runs.seq ?_
          refine Runs.seq ?_
          refine Runs.reg [] [] rfl (by (try simp only [wrap_i64', wrap_u8, wrap_u16, wrap_u32, wrap_u64, wrap_i32, List.length_cons, List.length_nil, List.length_append, List.length_map, tmodN, tdivN]); and_intros <;> first | exact True.intro | omega | skip) ?_
          refine Runs.block ?_
          -- loop 0
          refine Runs.loopF (σ := Nat) (fun i => i ≤ (pgLL (risL l) p d mar mx).length) (fun i => [(5, .sl 22 (pgLL (risL l) p d mar mx).length (tiEl (pgLL (risL l) p d mar mx)) false), (7, .ptr 1 0), (8, .int .i64 i)]) (fun i => [[.str p, .str d, .str mar, .str s4, .str s5, .str s6, .int .i64 mx, .int .i64 fr0], [.sl 22 (pgLL (risL l) p d mar mx).length (tiEl (pgLL (risL l) p d mar mx)) false, .bool (pgML (risL l) p d mar mx)]]) (fun i => (pgLL (risL l) p d mar mx).length - i) (0) (by first | exact True.intro | omega) (by exact agree_cons rfl (by first | with_reducible rfl | (refine congrArg (AV.int _) ?_; (try simp only [wrap_i64', wrap_u8, wrap_u16, wrap_u32, wrap_u64, wrap_i32, List.length_cons, List.length_nil, List.length_append, List.length_map, tmodN, tdivN]); omega) | rfl | skip) (agree_cons rfl (by first | with_reducible rfl | (refine congrArg (AV.int _) ?_; (try simp only [wrap_i64', wrap_u8, wrap_u16, wrap_u32, wrap_u64, wrap_i32, List.length_cons, List.length_nil, List.length_append, List.length_map, tmodN, tdivN]); omega) | rfl | skip) (agree_cons rfl (by first | with_reducible rfl | (refine congrArg (AV.int _) ?_; (try simp only [wrap_i64', wrap_u8, wrap_u16, wrap_u32, wrap_u64, wrap_i32, List.length_cons, List.length_nil, List.length_append, List.length_map, tmodN, tdivN]); omega) | rfl | skip) (trivial)))) (by rfl) (fun i hi ih => ?_)
          have hpl : (pgLL (risL l) p d mar mx).length ≤ 1048576 := (by have := uptoL_len (risL l) p d mar (risL l).length; have := risL_len l; unfold pgLL; split; exact Nat.zero_le _; rw [List.length_take]; unfold fullL; omega)
          refine Runs.seq ?_
          refine Runs.seq ?_
          refine Runs.reg [] [0, 1] rfl (by (try simp only [wrap_i64', wrap_u8, wrap_u16, wrap_u32, wrap_u64, wrap_i32, List.length_cons, List.length_nil, List.length_append, List.length_map, tmodN, tdivN]); and_intros <;> first | exact True.intro | omega | skip) ?_
          refine Runs.condS rfl (fun g39 => ?_) (fun g39 => ?_)
          · try simp only [decide_eq_true_eq, decide_eq_false_iff_not, notT, notF, beq_iff_eq, beq_eq_false_iff_ne, bne_iff_ne, bne_eq_false_iff_eq, tmodN, tdivN, Int.not_lt, Int.not_le] at g39
            refine Runs.skip ?_
            refine Runs.seq ?_
            refine Runs.block ?_
            refine Runs.seq ?_
            refine Runs.regD [(9, { res := .bool true })] [0, 1, 6] rfl rfl rfl (by and_intros <;> first | exact True.intro | omega | exact sameItem_ok _ | exact Nat.le_of_ble_eq_true rfl) ?_
            refine Runs.condF rfl ?_
            refine Runs.skip ?_
            refine Runs.inBlock ?_
            refine Runs.reg [] [] rfl (by (try simp only [wrap_i64', wrap_u8, wrap_u16, wrap_u32, wrap_u64, wrap_i32, List.length_cons, List.length_nil, List.length_append, List.length_map, tmodN, tdivN]); and_intros <;> first | exact True.intro | omega | skip) ?_
            exact ih (i + 1) _ _ (by first | exact True.intro | omega) (by omega) (by exact agree_cons rfl (by first | with_reducible rfl | (refine congrArg (AV.int _) ?_; (try simp only [wrap_i64', wrap_u8, wrap_u16, wrap_u32, wrap_u64, wrap_i32, List.length_cons, List.length_nil, List.length_append, List.length_map, tmodN, tdivN]); omega) | rfl | skip) (agree_cons rfl (by first | with_reducible rfl | (refine congrArg (AV.int _) ?_; (try simp only [wrap_i64', wrap_u8, wrap_u16, wrap_u32, wrap_u64, wrap_i32, List.length_cons, List.length_nil, List.length_append, List.length_map, tmodN, tdivN]); omega) | rfl | skip) (agree_cons rfl (by first | with_reducible rfl | (refine congrArg (AV.int _) ?_; (try simp only [wrap_i64', wrap_u8, wrap_u16, wrap_u32, wrap_u64, wrap_i32, List.length_cons, List.length_nil, List.length_append, List.length_map, tmodN, tdivN]); omega) | rfl | skip) (trivial)))) (by rfl)
          · try simp only [decide_eq_true_eq, decide_eq_false_iff_not, notT, notF, beq_iff_eq, beq_eq_false_iff_ne, bne_iff_ne, bne_eq_false_iff_eq, tmodN, tdivN, Int.not_lt, Int.not_le] at g39
            refine Runs.exit rfl ?_
            refine Runs.seq ?_
            refine Runs.reg [(0, { res := .bool true })] [] rfl (by and_intros <;> first | exact True.intro | exact awake23_ok) ?_
            refine Runs.drop 0 (Nat.zero_le _) rfl ?_
            exact Runs.retH Try.func8 rfl rfl (by rfl) (by rfl)

end Go.Proofs.LP
namespace Go.Proofs.LP
open Go Go.Am Go.RowKit Go.ChangeShapes Go.WideShapes Go.ChangeAt
variable {H : Type} {enc : TypeId × Value → H} {W : World} {base : Nat}
theorem cs44 : Try.prog.cellsOf 44 = 8 := by kernel_rfl
theorem cs9 : Try.prog.cellsOf 9 = 1 := by kernel_rfl
theorem cs3 : Try.prog.cellsOf 3 = 1 := by kernel_rfl
theorem arg_query {r : Reach} {v : Value} {d : DataW H} {p : List MemPlace} (hval : Value.okWide Try.prog W r base 44 v) (h : DataW.Trod enc Try.prog W 0 (fun _ => true) true 44 v d p) :
    ∃ (s0 s1 s2 s3 s4 s5 : List UInt8) (m k : Int), VR (G0 W) W [] (.agg [.str s0, .str s1, .str s2, .str s3, .str s4, .str s5, .int .i64 m, .int .i64 k]) v ∧
      d = .agg [.lit (.string s0), .lit (.string s1), .lit (.string s2), .lit (.string s3), .lit (.string s4), .lit (.string s5), .lit (.int .i64 m), .lit (.int .i64 k)] := by
  obtain ⟨cs, rfl, hsz⟩ := okWide_struct Try.underlying44 hval
  rw [cs44] at hsz
  obtain ⟨fuel, hf⟩ := h
  obtain ⟨xs, n, rfl, hx, hl, hxl, hfld⟩ := DataW.trod_struct Try.underlying44 hf
  match cs, hsz, hl, hfld with
  | ⟨[c0, c1, c2, c3, c4, c5, c6, c7]⟩, _, _, hfld =>
    match xs, hxl, hx, hfld with
    | [x0, x1, x2, x3, x4, x5, x6, x7], _, hx, hfld =>
      have e0 : DataW.trod enc Try.prog W 0 (fun _ => true) true n 9 [c0] = some x0 := by
        have h := hfld 0 _ rfl
        change DataW.trod enc Try.prog W 0 (fun _ => true) true n 9 (List.take (Try.prog.cellsOf 9) [c0, c1, c2, c3, c4, c5, c6, c7]) = some x0 at h
        rw [cs9] at h; exact h
      have e1 : DataW.trod enc Try.prog W 0 (fun _ => true) true n 9 [c1] = some x1 := by
        have h := hfld 1 _ rfl
        change DataW.trod enc Try.prog W 0 (fun _ => true) true n 9 (List.take (Try.prog.cellsOf 9) [c1, c2, c3, c4, c5, c6, c7]) = some x1 at h
        rw [cs9] at h; exact h
      have e2 : DataW.trod enc Try.prog W 0 (fun _ => true) true n 9 [c2] = some x2 := by
        have h := hfld 2 _ rfl
        change DataW.trod enc Try.prog W 0 (fun _ => true) true n 9 (List.take (Try.prog.cellsOf 9) [c2, c3, c4, c5, c6, c7]) = some x2 at h
        rw [cs9] at h; exact h
      have e3 : DataW.trod enc Try.prog W 0 (fun _ => true) true n 9 [c3] = some x3 := by
        have h := hfld 3 _ rfl
        change DataW.trod enc Try.prog W 0 (fun _ => true) true n 9 (List.take (Try.prog.cellsOf 9) [c3, c4, c5, c6, c7]) = some x3 at h
        rw [cs9] at h; exact h
      have e4 : DataW.trod enc Try.prog W 0 (fun _ => true) true n 9 [c4] = some x4 := by
        have h := hfld 4 _ rfl
        change DataW.trod enc Try.prog W 0 (fun _ => true) true n 9 (List.take (Try.prog.cellsOf 9) [c4, c5, c6, c7]) = some x4 at h
        rw [cs9] at h; exact h
      have e5 : DataW.trod enc Try.prog W 0 (fun _ => true) true n 9 [c5] = some x5 := by
        have h := hfld 5 _ rfl
        change DataW.trod enc Try.prog W 0 (fun _ => true) true n 9 (List.take (Try.prog.cellsOf 9) [c5, c6, c7]) = some x5 at h
        rw [cs9] at h; exact h
      have e6 : DataW.trod enc Try.prog W 0 (fun _ => true) true n 3 [c6] = some x6 := by
        have h := hfld 6 _ rfl
        change DataW.trod enc Try.prog W 0 (fun _ => true) true n 3 (List.take (Try.prog.cellsOf 3) [c6, c7]) = some x6 at h
        rw [cs3] at h; exact h
      have e7 : DataW.trod enc Try.prog W 0 (fun _ => true) true n 3 [c7] = some x7 := by
        have h := hfld 7 _ rfl
        change DataW.trod enc Try.prog W 0 (fun _ => true) true n 3 (List.take (Try.prog.cellsOf 3) [c7]) = some x7 at h
        rw [cs3] at h; exact h
      obtain ⟨t0, q0, r0, _⟩ := DataW.trod_string Try.underlying9 e0
      obtain ⟨t1, q1, r1, _⟩ := DataW.trod_string Try.underlying9 e1
      obtain ⟨t2, q2, r2, _⟩ := DataW.trod_string Try.underlying9 e2
      obtain ⟨t3, q3, r3, _⟩ := DataW.trod_string Try.underlying9 e3
      obtain ⟨t4, q4, r4, _⟩ := DataW.trod_string Try.underlying9 e4
      obtain ⟨t5, q5, r5, _⟩ := DataW.trod_string Try.underlying9 e5
      obtain ⟨t6, q6, r6, _⟩ := DataW.trod_int Try.underlying3 e6
      obtain ⟨t7, q7, r7, _⟩ := DataW.trod_int Try.underlying3 e7
      simp only [List.cons.injEq, and_true] at q0 q1 q2 q3 q4 q5 q6 q7
      subst q0 q1 q2 q3 q4 q5 q6 q7
      subst r0 r1 r2 r3 r4 r5 r6 r7
      simp only [Prod.mk.injEq] at hx
      refine ⟨t0.data.toList, t1.data.toList, t2.data.toList, t3.data.toList, t4.data.toList, t5.data.toList, t6, t7, ?_, hx.1⟩
      refine .agg _ _ [_, _, _, _, _, _, _, _] rfl fun q c v h1 h2 => ?_
      match q, h1, h2 with
      | 0, h1, h2 => simp at h1 h2; subst h1; subst h2; simpa using VR.str (G := G0 W) (w := W) [] t0.data.toList
      | 1, h1, h2 => simp at h1 h2; subst h1; subst h2; simpa using VR.str (G := G0 W) (w := W) [] t1.data.toList
      | 2, h1, h2 => simp at h1 h2; subst h1; subst h2; simpa using VR.str (G := G0 W) (w := W) [] t2.data.toList
      | 3, h1, h2 => simp at h1 h2; subst h1; subst h2; simpa using VR.str (G := G0 W) (w := W) [] t3.data.toList
      | 4, h1, h2 => simp at h1 h2; subst h1; subst h2; simpa using VR.str (G := G0 W) (w := W) [] t4.data.toList
      | 5, h1, h2 => simp at h1 h2; subst h1; subst h2; simpa using VR.str (G := G0 W) (w := W) [] t5.data.toList
      | 6, h1, h2 => simp at h1 h2; subst h1; subst h2; exact .int _ _ _
      | 7, h1, h2 => simp at h1 h2; subst h1; subst h2; exact .int _ _ _
      | q + 8, h1, _ => simp at h1
end Go.Proofs.LP

