/- Pairs compared; a text escaped anew. -/
import Derived.Test.YtnohmijdpmelpaaGreatText
set_option maxRecDepth 100000
set_option linter.unusedVariables false
set_option linter.unusedSimpArgs false
namespace Go.Proofs.YtnohmijdpmelpaaGreat
open Go.Am

theorem below_ok (a b : Hd) : FnOK Tryz.prog 63 [.agg [.str a.1, .str a.2], .agg [.str b.1, .str b.2]] [] (.bool (belowP a b)) [] := by
  refine FnOK.of_runs Tryz.func63 rfl (Nat.le_of_ble_eq_true rfl) ?_
  refine Runs.seq ?_
  refine Runs.reg [] [] rfl (by (try simp only [wrap_i64', wrap_u8, wrap_u16, wrap_u32, wrap_u64, wrap_i32, List.length_cons, List.length_nil, List.length_append, List.length_map, tmodN, tdivN]); and_intros <;> first | exact True.intro | omega | skip) ?_
  refine Runs.seq ?_
  refine Runs.region ?_
  refine Runs.restTo 6 [] [] rfl (by (try simp only [wrap_i64', wrap_u8, wrap_u16, wrap_u32, wrap_u64, wrap_i32, List.length_cons, List.length_nil, List.length_append, List.length_map, tmodN, tdivN]); and_intros <;> first | exact True.intro | omega | skip) ?_
  refine Runs.splitS 10 rfl (fun g10 => ?_) (fun g10 => ?_)
  · try simp only [decide_eq_true_eq, decide_eq_false_iff_not, notT, notF, beq_iff_eq, beq_eq_false_iff_ne, bne_iff_ne, bne_eq_false_iff_eq, tmodN, tdivN, Int.not_lt, Int.not_le] at g10
    refine Runs.rest [] [] rfl (by (try simp only [wrap_i64', wrap_u8, wrap_u16, wrap_u32, wrap_u64, wrap_i32, List.length_cons, List.length_nil, List.length_append, List.length_map, tmodN, tdivN]); and_intros <;> first | exact True.intro | omega | skip) ?_
    refine Runs.drop 0 (Nat.le_refl _) rfl ?_
    exact Runs.retH Tryz.func63 rfl rfl (by refine congrArg AV.bool ?_; unfold belowP ltL; first | (rw [g10]; rfl) | (rw [g10, decide_eq_true g16]; rfl) | (rw [g10, decide_eq_false g16]; rfl)) rfl
  · try simp only [decide_eq_true_eq, decide_eq_false_iff_not, notT, notF, beq_iff_eq, beq_eq_false_iff_ne, bne_iff_ne, bne_eq_false_iff_eq, tmodN, tdivN, Int.not_lt, Int.not_le] at g10
    refine Runs.restTo 6 [] [] rfl (by (try simp only [wrap_i64', wrap_u8, wrap_u16, wrap_u32, wrap_u64, wrap_i32, List.length_cons, List.length_nil, List.length_append, List.length_map, tmodN, tdivN]); and_intros <;> first | exact True.intro | omega | skip) ?_
    refine Runs.splitS 16 rfl (fun g16 => ?_) (fun g16 => ?_)
    · try simp only [decide_eq_true_eq, decide_eq_false_iff_not, notT, notF, beq_iff_eq, beq_eq_false_iff_ne, bne_iff_ne, bne_eq_false_iff_eq, tmodN, tdivN, Int.not_lt, Int.not_le] at g16
      refine Runs.rest [] [] rfl (by (try simp only [wrap_i64', wrap_u8, wrap_u16, wrap_u32, wrap_u64, wrap_i32, List.length_cons, List.length_nil, List.length_append, List.length_map, tmodN, tdivN]); and_intros <;> first | exact True.intro | omega | skip) ?_
      refine Runs.drop 0 (Nat.le_refl _) rfl ?_
      exact Runs.retH Tryz.func63 rfl rfl (by refine congrArg AV.bool ?_; unfold belowP ltL; first | (rw [g10]; rfl) | (rw [g10, decide_eq_true g16]; rfl) | (rw [g10, decide_eq_false g16]; rfl)) rfl
    · try simp only [decide_eq_true_eq, decide_eq_false_iff_not, notT, notF, beq_iff_eq, beq_eq_false_iff_ne, bne_iff_ne, bne_eq_false_iff_eq, tmodN, tdivN, Int.not_lt, Int.not_le] at g16
      refine Runs.rest [] [] rfl (by (try simp only [wrap_i64', wrap_u8, wrap_u16, wrap_u32, wrap_u64, wrap_i32, List.length_cons, List.length_nil, List.length_append, List.length_map, tmodN, tdivN]); and_intros <;> first | exact True.intro | omega | skip) ?_
      refine Runs.drop 0 (Nat.le_refl _) rfl ?_
      exact Runs.retH Tryz.func63 rfl rfl (by refine congrArg AV.bool ?_; unfold belowP ltL; first | (rw [g10]; rfl) | (rw [g10, decide_eq_true g16]; rfl) | (rw [g10, decide_eq_false g16]; rfl)) rfl

theorem escaped_ok (s : List UInt8) (slash : Bool) (hs : s.length ≤ 16777214) : FnOK Tryz.prog 18 [.str s, .bool slash] [] (.tup [.str (escL ((unescL s).getD []) slash), .bool (unescL s).isSome]) [] := by
  refine FnOK.of_runs Tryz.func18 rfl (Nat.le_of_ble_eq_true rfl) ?_
  refine Runs.seq ?_
  refine Runs.reg [] [] rfl (by (try simp only [wrap_i64', wrap_u8, wrap_u16, wrap_u32, wrap_u64, wrap_i32, List.length_cons, List.length_nil, List.length_append, List.length_map, tmodN, tdivN]); and_intros <;> first | exact True.intro | omega | skip) ?_
  refine Runs.seq ?_
  refine Runs.reg [(1, { res := .tup [.str ((unescL s).getD []), .bool (unescL s).isSome] })] [0] rfl (by and_intros <;> first | exact True.intro | exact cunescF s hs) ?_
  refine Runs.seq ?_
  refine Runs.reg [(2, { res := .str (escL ((unescL s).getD []) slash) })] [0, 1, 3] rfl (by and_intros <;> first | exact True.intro | exact cescF _ _ (by cases e : unescL s with | none => simp | some x => have := unesc_le e; simp only [Option.getD_some]; omega)) ?_
  exact Runs.retH Tryz.func18 rfl rfl (by rfl) (by rfl)


end Go.Proofs.YtnohmijdpmelpaaGreat
