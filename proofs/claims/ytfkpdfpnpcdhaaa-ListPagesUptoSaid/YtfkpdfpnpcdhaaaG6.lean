/- contracts. -/
import Derived.Test.YtfkpdfpnpcdhaaaG5
set_option maxRecDepth 100000
set_option linter.unusedVariables false
set_option linter.unusedSimpArgs false
set_option linter.unusedSectionVars false
namespace Go.Proofs.LP
open Go Go.Am Go.Proofs
variable [MM]
theorem bools_app (out : List Bool) (x : Bool) (o : Bool) : Imp (.sl 1 (out.length + 1) (apEl out.length (boolEl out) (elOf false 1 [.bool x])) o) (.sl 1 (out ++ [x]).length (boolEl (out ++ [x])) o) := by
  refine Imp.slEq (by simp) fun i hi => ?_
  rcases Nat.lt_or_ge i out.length with h | h
  · rw [apEl_lt h]
    simp [boolEl, List.getD_eq_getElem?_getD, List.getElem?_append_left h]
  · have : i = out.length := by omega
    subst this
    rw [apEl_ge (Nat.le_refl _)]
    simp [boolEl, elOf]
theorem out_take {l : List (List UInt8)} {mar : List UInt8} {i : Nat} (h : i < l.length) : outL (l.take (i + 1)) mar = outL (l.take i) mar ++ [sleL (l.getD i []) mar] := by
  unfold outL
  rw [List.take_add_one, List.getElem?_eq_getElem h, List.map_append, List.getD_eq_getElem?_getD, List.getElem?_eq_getElem h]; rfl

set_option maxHeartbeats 2000000 in
theorem rof_ok (l : List (List UInt8)) (p d mar s4 s5 s6 : List UInt8) (mx fr0 : Int) (hl : l.length ≤ 1048576) (hs : ∀ x, x ∈ l → x.length ≤ 1048576) (hd : d.length ≤ 1048576) (hso : Sor l) : FnOK Try.prog 35 [.sl 1 l.length (strEl l) false, .agg [.str p, .str d, .str mar, .str s4, .str s5, .str s6, .int .i64 mx, .int .i64 fr0]] [] (.agg [.sl 22 (pgLL l p d mar mx).length (tiEl (pgLL l p d mar mx)) false, .bool (pgML l p d mar mx)]) [] := by
  refine FnOK.of_runs Try.func35 rfl (Nat.le_of_ble_eq_true rfl) ?_
  refine Runs.seq ?_
  refine Runs.reg [] [] rfl (by (try simp only [wrap_i64', wrap_u8, wrap_u16, wrap_u32, wrap_u64, wrap_i32, List.length_cons, List.length_nil, List.length_append, List.length_map, tmodN, tdivN]); and_intros <;> first | exact True.intro | omega | skip) ?_
  refine Runs.seq ?_
  refine Runs.reg [] [] rfl (by (try simp only [wrap_i64', wrap_u8, wrap_u16, wrap_u32, wrap_u64, wrap_i32, List.length_cons, List.length_nil, List.length_append, List.length_map, tmodN, tdivN]); and_intros <;> first | exact True.intro | omega | skip) ?_
  refine Runs.seq ?_
  refine Runs.seq ?_
  refine Runs.reg [] [] rfl (by (try simp only [wrap_i64', wrap_u8, wrap_u16, wrap_u32, wrap_u64, wrap_i32, List.length_cons, List.length_nil, List.length_append, List.length_map, tmodN, tdivN]); and_intros <;> first | exact True.intro | omega | skip) ?_
  refine Runs.block ?_
  -- loop 0
  refine Runs.loopF (σ := Nat) (fun i => i ≤ l.length) (fun i => [(0, .sl 1 l.length (strEl l) false), (3, .ptr 0 0), (4, .ptr 1 0), (5, .sl 1 (outL (l.take i) mar).length (boolEl (outL (l.take i) mar)) true), (6, .int .i64 i)]) (fun i => [[.str p, .str d, .str mar, .str s4, .str s5, .str s6, .int .i64 mx, .int .i64 fr0], [.sl (Try.prog.cellsOf 64) 0 (fun _ => .bad) true, .bool false]]) (fun i => l.length - i) (0) (by first | exact True.intro | omega) (by exact agree_cons rfl (by first | with_reducible rfl | (refine congrArg (AV.int _) ?_; (try simp only [wrap_i64', wrap_u8, wrap_u16, wrap_u32, wrap_u64, wrap_i32, List.length_cons, List.length_nil, List.length_append, List.length_map, tmodN, tdivN]); omega) | rfl | skip) (agree_cons rfl (by first | with_reducible rfl | (refine congrArg (AV.int _) ?_; (try simp only [wrap_i64', wrap_u8, wrap_u16, wrap_u32, wrap_u64, wrap_i32, List.length_cons, List.length_nil, List.length_append, List.length_map, tmodN, tdivN]); omega) | rfl | skip) (agree_cons rfl (by first | with_reducible rfl | (refine congrArg (AV.int _) ?_; (try simp only [wrap_i64', wrap_u8, wrap_u16, wrap_u32, wrap_u64, wrap_i32, List.length_cons, List.length_nil, List.length_append, List.length_map, tmodN, tdivN]); omega) | rfl | skip) (agree_imp rfl (by exact Imp.slEq rfl (fun i hi => absurd hi (Nat.not_lt_zero _))) rfl rfl (agree_cons rfl (by first | with_reducible rfl | (refine congrArg (AV.int _) ?_; (try simp only [wrap_i64', wrap_u8, wrap_u16, wrap_u32, wrap_u64, wrap_i32, List.length_cons, List.length_nil, List.length_append, List.length_map, tmodN, tdivN]); omega) | rfl | skip) (trivial)))))) (by rfl) (fun i hi ih => ?_)
  have hol : (outL (l.take i) mar).length ≤ i := (by rw [out_len, List.length_take]; omega)
  refine Runs.seq ?_
  refine Runs.seq ?_
  refine Runs.reg [] [0, 1] rfl (by (try simp only [wrap_i64', wrap_u8, wrap_u16, wrap_u32, wrap_u64, wrap_i32, List.length_cons, List.length_nil, List.length_append, List.length_map, tmodN, tdivN]); and_intros <;> first | exact True.intro | omega | skip) ?_
  refine Runs.condS rfl (fun g10 => ?_) (fun g10 => ?_)
  · try simp only [decide_eq_true_eq, decide_eq_false_iff_not, notT, notF, beq_iff_eq, beq_eq_false_iff_ne, bne_iff_ne, bne_eq_false_iff_eq, tmodN, tdivN, Int.not_lt, Int.not_le] at g10
    refine Runs.skip ?_
    refine Runs.seq ?_
    refine Runs.block ?_
    refine Runs.regD [] [1, 2] rfl rfl rfl (by (try simp only [wrap_i64', wrap_u8, wrap_u16, wrap_u32, wrap_u64, wrap_i32, List.length_cons, List.length_nil, List.length_append, List.length_map, tmodN, tdivN]); and_intros <;> first | exact True.intro | omega | skip) ?_
    refine Runs.inBlock ?_
    refine Runs.reg [] [] rfl (by (try simp only [wrap_i64', wrap_u8, wrap_u16, wrap_u32, wrap_u64, wrap_i32, List.length_cons, List.length_nil, List.length_append, List.length_map, tmodN, tdivN]); and_intros <;> first | exact True.intro | omega | skip) ?_
    exact ih (i + 1) _ _ (by first | exact True.intro | omega) (by omega) (by exact agree_cons rfl (by first | with_reducible rfl | (refine congrArg (AV.int _) ?_; (try simp only [wrap_i64', wrap_u8, wrap_u16, wrap_u32, wrap_u64, wrap_i32, List.length_cons, List.length_nil, List.length_append, List.length_map, tmodN, tdivN]); omega) | rfl | skip) (agree_cons rfl (by first | with_reducible rfl | (refine congrArg (AV.int _) ?_; (try simp only [wrap_i64', wrap_u8, wrap_u16, wrap_u32, wrap_u64, wrap_i32, List.length_cons, List.length_nil, List.length_append, List.length_map, tmodN, tdivN]); omega) | rfl | skip) (agree_cons rfl (by first | with_reducible rfl | (refine congrArg (AV.int _) ?_; (try simp only [wrap_i64', wrap_u8, wrap_u16, wrap_u32, wrap_u64, wrap_i32, List.length_cons, List.length_nil, List.length_append, List.length_map, tmodN, tdivN]); omega) | rfl | skip) (agree_imp rfl (by rw [out_take (show i < l.length by omega)]; exact bools_app _ _ true) rfl rfl (agree_cons rfl (by first | with_reducible rfl | (refine congrArg (AV.int _) ?_; (try simp only [wrap_i64', wrap_u8, wrap_u16, wrap_u32, wrap_u64, wrap_i32, List.length_cons, List.length_nil, List.length_append, List.length_map, tmodN, tdivN]); omega) | rfl | skip) (trivial)))))) (by rfl)
  · try simp only [decide_eq_true_eq, decide_eq_false_iff_not, notT, notF, beq_iff_eq, beq_eq_false_iff_ne, bne_iff_ne, bne_eq_false_iff_eq, tmodN, tdivN, Int.not_lt, Int.not_le] at g10
    refine Runs.exit rfl ?_
    refine Runs.seq ?_
    obtain rfl : i = l.length := by omega
    rw [List.take_length, out_len]
    refine Runs.reg [(3, { res := .agg [.sl 22 (pgLL l p d mar mx).length (tiEl (pgLL l p d mar mx)) false, .bool (pgML l p d mar mx)] })] [0, 1] rfl (by and_intros <;> first | exact True.intro | omega | exact rpage_ok l p d mar s4 s5 s6 mx fr0 hl hs hd hso | exact Nat.le_of_ble_eq_true rfl) ?_
    exact dropAll rfl rfl (Runs.retH Try.func35 rfl rfl (by rfl) (by rfl))

end Go.Proofs.LP
