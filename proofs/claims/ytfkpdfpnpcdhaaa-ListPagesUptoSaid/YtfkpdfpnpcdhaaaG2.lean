/- contracts. -/
import Derived.Test.YtfkpdfpnpcdhaaaP1
import Derived.Test.YtfkpdfpnpcdhaaaG1
set_option maxRecDepth 100000
set_option linter.unusedVariables false
set_option linter.unusedSimpArgs false
set_option linter.unusedSectionVars false
namespace Go.Proofs.LP
open Go Go.Am Go.Proofs
variable [MM]
theorem uptoL_len (l : List (List UInt8)) (p d m : List UInt8) : ∀ k, (uptoL l p d m k).2.2.length ≤ k
  | 0 => Nat.le_refl _
  | k + 1 => by
    have ih := uptoL_len l p d m k
    simp only [uptoL]
    unfold stpL
    split
    · split
      · split
        · omega
        · simp; omega
      · split
        · omega
        · simp; omega
    · omega
theorem page_full (R p d m : List UInt8) (l : List (List UInt8)) (hl : l.length ≤ 60) (hs : ∀ x, x ∈ l → x.length ≤ 1048576) :
    FnOK Try.prog 33 [.sl 1 l.length (strEl l) false, .agg [.str p, .str d, .str m, .str [], .str [], .str [], .int .i64 1000, .int .i64 0]] [] (.tup [.sl 22 (fullL l p d m).length (tiEl (fullL l p d m)) false, .bool false]) [] := by
  have h := page_ok l p d m [] [] [] 1000 0 (by omega) (fun x hx => by have := hs x hx; omega)
  have hf : (fullL l p d m).length ≤ 60 := by have := uptoL_len l p d m l.length; unfold fullL; omega
  have e1 : pgLL l p d m 1000 = fullL l p d m := by unfold pgLL; rw [if_neg (by omega)]; exact List.take_of_length_le (show _ ≤ 1000 by omega)
  have e2 : pgML l p d m 1000 = false := by
    unfold pgML; rw [if_neg (by omega)]
    exact decide_eq_false (by show ¬ (1000 < _); omega)
  rw [e1, e2] at h
  exact h
theorem ris_small {l : List (List UInt8)} (hs : ∀ x, x ∈ l → x.length ≤ 1048576) : ∀ x, x ∈ risL l → x.length ≤ 1048576 := fun x hx => hs x (ris_mem hx)
abbrev mkP (m : List UInt8) : Ti → Bool := fun x => !sleL x.nm m
def mkC (A : List Ti) (m : List UInt8) (i : Nat) : Nat := ((A.take i).filter (mkP m)).length
theorem filt_at {A : List Ti} {P : Ti → Bool} {i : Nat} (hi : i < A.length) (hp : P (A.getD i ⟨[], false, 0⟩) = true) :
    ((A.take i).filter P).length < (A.filter P).length ∧ (A.filter P).getD ((A.take i).filter P).length ⟨[], false, 0⟩ = A.getD i ⟨[], false, 0⟩ ∧ ((A.take (i + 1)).filter P).length = ((A.take i).filter P).length + 1 := by
  have hg : A.getD i ⟨[], false, 0⟩ = A[i] := by rw [List.getD_eq_getElem?_getD, List.getElem?_eq_getElem hi]; rfl
  rw [hg] at hp ⊢
  have e : A.filter P = (A.take i).filter P ++ A[i] :: (A.drop (i + 1)).filter P := by
    conv => lhs; rw [← List.take_append_drop i A, List.drop_eq_getElem_cons hi, List.filter_append, List.filter_cons, if_pos hp]
  have e2 : A.take (i + 1) = A.take i ++ [A[i]] := by rw [List.take_add_one, List.getElem?_eq_getElem hi]; rfl
  refine ⟨by rw [e]; simp, ?_, ?_⟩
  · rw [e, List.getD_eq_getElem?_getD, List.getElem?_append_right (Nat.le_refl _), Nat.sub_self]; rfl
  · rw [e2, List.filter_append]; simp [hp]
theorem filt_no {A : List Ti} {P : Ti → Bool} {i : Nat} (hi : i < A.length) (hp : P (A.getD i ⟨[], false, 0⟩) = false) : ((A.take (i + 1)).filter P).length = ((A.take i).filter P).length := by
  have hg : A.getD i ⟨[], false, 0⟩ = A[i] := by rw [List.getD_eq_getElem?_getD, List.getElem?_eq_getElem hi]; rfl
  rw [hg] at hp
  have e2 : A.take (i + 1) = A.take i ++ [A[i]] := by rw [List.take_add_one, List.getElem?_eq_getElem hi]; rfl
  rw [e2, List.filter_append]; simp [hp]

theorem listMarkers_ok (l : List (List UInt8)) (m d : List UInt8) (hl : l.length ≤ 1048576) (hs : ∀ x, x ∈ l → x.length ≤ 1048576) : FnOK Try.prog 10 [.sl 1 l.length (strEl l) false, .str m, .str d] [] (.bool true) [] := by
  refine FnOK.of_runs Try.func10 rfl (Nat.le_of_ble_eq_true rfl) ?_
  refine Runs.seq ?_
  refine Runs.reg [] [] rfl (by (try simp only [wrap_i64', wrap_u8, wrap_u16, wrap_u32, wrap_u64, wrap_i32, List.length_cons, List.length_nil, List.length_append, List.length_map, tmodN, tdivN]); and_intros <;> first | exact True.intro | omega | skip) ?_
  refine Runs.seq ?_
  refine Runs.seq ?_
  refine Runs.reg [] [0] rfl (by (try simp only [wrap_i64', wrap_u8, wrap_u16, wrap_u32, wrap_u64, wrap_i32, List.length_cons, List.length_nil, List.length_append, List.length_map, tmodN, tdivN]); and_intros <;> first | exact True.intro | omega | skip) ?_
  refine Runs.condS rfl (fun g16 => ?_) (fun g16 => ?_)
  · try simp only [decide_eq_true_eq, decide_eq_false_iff_not, notT, notF, beq_iff_eq, beq_eq_false_iff_ne, bne_iff_ne, bne_eq_false_iff_eq, tmodN, tdivN, Int.not_lt, Int.not_le] at g16
    refine Runs.seq ?_
    refine Runs.reg [(0, { res := .bool true })] [] rfl (by and_intros <;> first | exact True.intro | exact awake23_ok) ?_
    exact Runs.retH Try.func10 rfl rfl (by rfl) (by rfl)
  · try simp only [decide_eq_true_eq, decide_eq_false_iff_not, notT, notF, beq_iff_eq, beq_eq_false_iff_ne, bne_iff_ne, bne_eq_false_iff_eq, tmodN, tdivN, Int.not_lt, Int.not_le] at g16
    refine Runs.skip ?_
    refine Runs.seq ?_
    refine Runs.reg [(1, { res := .sl 1 (risL l).length (strEl (risL l)) false })] [0] rfl (by and_intros <;> first | exact True.intro | exact rising_ok l hl) ?_
    refine Runs.seq ?_
    refine Runs.reg [(3, { res := .tup [.sl 22 (fullL (risL l) [] d []).length (tiEl (fullL (risL l) [] d [])) false, .bool false] })] [0, 1] rfl (by and_intros <;> first | exact True.intro | exact page_full [] [] d [] (risL l) (by rw [risL_len]; omega) (ris_small hs)) ?_
    refine Runs.seq ?_
    refine Runs.reg [(4, { res := .tup [.sl 22 (fullL (risL l) [] d m).length (tiEl (fullL (risL l) [] d m)) false, .bool false] })] [0, 1, 2] rfl (by and_intros <;> first | exact True.intro | exact page_full [] [] d m (risL l) (by rw [risL_len]; omega) (ris_small hs)) ?_
    refine Runs.seq ?_
    refine Runs.reg [] [] rfl (by (try simp only [wrap_i64', wrap_u8, wrap_u16, wrap_u32, wrap_u64, wrap_i32, List.length_cons, List.length_nil, List.length_append, List.length_map, tmodN, tdivN]); and_intros <;> first | exact True.intro | omega | skip) ?_
    refine Runs.seq ?_
    refine Runs.seq ?_
    refine Runs.reg [] [] rfl (by (try simp only [wrap_i64', wrap_u8, wrap_u16, wrap_u32, wrap_u64, wrap_i32, List.length_cons, List.length_nil, List.length_append, List.length_map, tmodN, tdivN]); and_intros <;> first | exact True.intro | omega | skip) ?_
    refine Runs.block ?_
    -- loop 0
    refine Runs.loopF (σ := Nat) (fun i => i ≤ (fullL (risL l) [] d []).length) (fun i => [(1, .str m), (8, .sl 22 (fullL (risL l) [] d []).length (tiEl (fullL (risL l) [] d [])) false), (10, .sl 22 (fullL (risL l) [] d m).length (tiEl (fullL (risL l) [] d m)) false), (11, .bool false), (12, .int .i64 (mkC (fullL (risL l) [] d []) m i)), (13, .int .i64 i)]) (fun _ => []) (fun i => (fullL (risL l) [] d []).length - i) (0) (by first | exact True.intro | omega) (by exact agree_cons rfl (by first | with_reducible rfl | (refine congrArg (AV.int _) ?_; (try simp only [wrap_i64', wrap_u8, wrap_u16, wrap_u32, wrap_u64, wrap_i32, List.length_cons, List.length_nil, List.length_append, List.length_map, tmodN, tdivN]); omega) | rfl | skip) (agree_cons rfl (by first | with_reducible rfl | (refine congrArg (AV.int _) ?_; (try simp only [wrap_i64', wrap_u8, wrap_u16, wrap_u32, wrap_u64, wrap_i32, List.length_cons, List.length_nil, List.length_append, List.length_map, tmodN, tdivN]); omega) | rfl | skip) (agree_cons rfl (by first | with_reducible rfl | (refine congrArg (AV.int _) ?_; (try simp only [wrap_i64', wrap_u8, wrap_u16, wrap_u32, wrap_u64, wrap_i32, List.length_cons, List.length_nil, List.length_append, List.length_map, tmodN, tdivN]); omega) | rfl | skip) (agree_cons rfl (by first | with_reducible rfl | (refine congrArg (AV.int _) ?_; (try simp only [wrap_i64', wrap_u8, wrap_u16, wrap_u32, wrap_u64, wrap_i32, List.length_cons, List.length_nil, List.length_append, List.length_map, tmodN, tdivN]); omega) | rfl | skip) (agree_cons rfl (by first | with_reducible rfl | (refine congrArg (AV.int _) ?_; (try simp only [wrap_i64', wrap_u8, wrap_u16, wrap_u32, wrap_u64, wrap_i32, List.length_cons, List.length_nil, List.length_append, List.length_map, tmodN, tdivN]); omega) | rfl | skip) (agree_cons rfl (by first | with_reducible rfl | (refine congrArg (AV.int _) ?_; (try simp only [wrap_i64', wrap_u8, wrap_u16, wrap_u32, wrap_u64, wrap_i32, List.length_cons, List.length_nil, List.length_append, List.length_map, tmodN, tdivN]); omega) | rfl | skip) (trivial))))))) (by rfl) (fun i hi ih => ?_)
    have hA60 : (fullL (risL l) [] d []).length ≤ 60 := (by have := uptoL_len (risL l) [] d [] (risL l).length; have := risL_len l; unfold fullL; omega); have hB60 : (fullL (risL l) [] d m).length ≤ 60 := (by have := uptoL_len (risL l) [] d m (risL l).length; have := risL_len l; unfold fullL; omega); have hB : (fullL (risL l) [] d m) = (fullL (risL l) [] d []).filter (mkP m) := full_markers [] d (risL l) m (ris_sor l)
    refine Runs.seq ?_
    refine Runs.seq ?_
    refine Runs.reg [] [0, 1] rfl (by (try simp only [wrap_i64', wrap_u8, wrap_u16, wrap_u32, wrap_u64, wrap_i32, List.length_cons, List.length_nil, List.length_append, List.length_map, tmodN, tdivN]); and_intros <;> first | exact True.intro | omega | skip) ?_
    refine Runs.condS rfl (fun g38 => ?_) (fun g38 => ?_)
    · try simp only [decide_eq_true_eq, decide_eq_false_iff_not, notT, notF, beq_iff_eq, beq_eq_false_iff_ne, bne_iff_ne, bne_eq_false_iff_eq, tmodN, tdivN, Int.not_lt, Int.not_le] at g38
      refine Runs.skip ?_
      refine Runs.seq ?_
      refine Runs.block ?_
      refine Runs.seq ?_
      refine Runs.seq ?_
      refine Runs.reg [] [0, 1, 5] rfl (by (try simp only [wrap_i64', wrap_u8, wrap_u16, wrap_u32, wrap_u64, wrap_i32, List.length_cons, List.length_nil, List.length_append, List.length_map, tmodN, tdivN]); and_intros <;> first | exact True.intro | omega | skip) ?_
      refine Runs.condS rfl (fun g47 => ?_) (fun g47 => ?_)
      · try simp only [decide_eq_true_eq, decide_eq_false_iff_not, notT, notF, beq_iff_eq, beq_eq_false_iff_ne, bne_iff_ne, bne_eq_false_iff_eq, tmodN, tdivN, Int.not_lt, Int.not_le] at g47
        have g47a : sleL ((fullL (risL l) [] d []).getD i ⟨[], false, 0⟩).nm m = true := g47; have f3 : mkC (fullL (risL l) [] d []) m (i + 1) = mkC (fullL (risL l) [] d []) m i := filt_no (by omega) (by simp only [mkP, g47a]; rfl)
        refine Runs.exit rfl ?_
        refine Runs.reg [] [] rfl (by (try simp only [wrap_i64', wrap_u8, wrap_u16, wrap_u32, wrap_u64, wrap_i32, List.length_cons, List.length_nil, List.length_append, List.length_map, tmodN, tdivN]); and_intros <;> first | exact True.intro | omega | skip) ?_
        exact ih (i + 1) _ _ (by first | exact True.intro | omega) (by omega) (by exact agree_cons rfl (by first | with_reducible rfl | (refine congrArg (AV.int _) ?_; (try simp only [wrap_i64', wrap_u8, wrap_u16, wrap_u32, wrap_u64, wrap_i32, List.length_cons, List.length_nil, List.length_append, List.length_map, tmodN, tdivN]); omega) | rfl | skip) (agree_cons rfl (by first | with_reducible rfl | (refine congrArg (AV.int _) ?_; (try simp only [wrap_i64', wrap_u8, wrap_u16, wrap_u32, wrap_u64, wrap_i32, List.length_cons, List.length_nil, List.length_append, List.length_map, tmodN, tdivN]); omega) | rfl | skip) (agree_cons rfl (by first | with_reducible rfl | (refine congrArg (AV.int _) ?_; (try simp only [wrap_i64', wrap_u8, wrap_u16, wrap_u32, wrap_u64, wrap_i32, List.length_cons, List.length_nil, List.length_append, List.length_map, tmodN, tdivN]); omega) | rfl | skip) (agree_cons rfl (by first | with_reducible rfl | (refine congrArg (AV.int _) ?_; (try simp only [wrap_i64', wrap_u8, wrap_u16, wrap_u32, wrap_u64, wrap_i32, List.length_cons, List.length_nil, List.length_append, List.length_map, tmodN, tdivN]); omega) | rfl | skip) (agree_cons rfl (by first | with_reducible rfl | (refine congrArg (AV.int _) ?_; (try simp only [wrap_i64', wrap_u8, wrap_u16, wrap_u32, wrap_u64, wrap_i32, List.length_cons, List.length_nil, List.length_append, List.length_map, tmodN, tdivN]); omega) | rfl | skip) (agree_cons rfl (by first | with_reducible rfl | (refine congrArg (AV.int _) ?_; (try simp only [wrap_i64', wrap_u8, wrap_u16, wrap_u32, wrap_u64, wrap_i32, List.length_cons, List.length_nil, List.length_append, List.length_map, tmodN, tdivN]); omega) | rfl | skip) (trivial))))))) (by rfl)
      · try simp only [decide_eq_true_eq, decide_eq_false_iff_not, notT, notF, beq_iff_eq, beq_eq_false_iff_ne, bne_iff_ne, bne_eq_false_iff_eq, tmodN, tdivN, Int.not_lt, Int.not_le] at g47
        have g47a : sleL ((fullL (risL l) [] d []).getD i ⟨[], false, 0⟩).nm m = false := g47; obtain ⟨f1, f2, f3⟩ := filt_at (A := (fullL (risL l) [] d [])) (P := mkP m) (i := i) (by omega) (by simp only [mkP, g47a]; rfl); rw [← hB] at f1 f2; change mkC (fullL (risL l) [] d []) m i < _ at f1; change List.getD _ (mkC (fullL (risL l) [] d []) m i) _ = _ at f2; change mkC (fullL (risL l) [] d []) m (i + 1) = mkC (fullL (risL l) [] d []) m i + 1 at f3
        refine Runs.skip ?_
        refine Runs.seq ?_
        refine Runs.seq ?_
        refine Runs.regD [(3, { res := .bool false }), (15, { res := .bool false }), (28, { res := .bool false })] [0, 1, 5, 6, 10, 11, 18, 19, 23, 24] rfl rfl rfl (by and_intros <;> first | exact True.intro | omega | exact congrArg AV.bool (decide_eq_false (by omega)) | (rw [Int.toNat_natCast, Int.toNat_natCast, f2]; simp)) ?_
        refine Runs.condF rfl ?_
        refine Runs.skip ?_
        refine Runs.reg [] [] rfl (by (try simp only [wrap_i64', wrap_u8, wrap_u16, wrap_u32, wrap_u64, wrap_i32, List.length_cons, List.length_nil, List.length_append, List.length_map, tmodN, tdivN]); and_intros <;> first | exact True.intro | omega | skip) ?_
        refine Runs.inBlock ?_
        refine Runs.reg [] [] rfl (by (try simp only [wrap_i64', wrap_u8, wrap_u16, wrap_u32, wrap_u64, wrap_i32, List.length_cons, List.length_nil, List.length_append, List.length_map, tmodN, tdivN]); and_intros <;> first | exact True.intro | omega | skip) ?_
        exact ih (i + 1) _ _ (by first | exact True.intro | omega) (by omega) (by exact agree_cons rfl (by first | with_reducible rfl | (refine congrArg (AV.int _) ?_; (try simp only [wrap_i64', wrap_u8, wrap_u16, wrap_u32, wrap_u64, wrap_i32, List.length_cons, List.length_nil, List.length_append, List.length_map, tmodN, tdivN]); omega) | rfl | skip) (agree_cons rfl (by first | with_reducible rfl | (refine congrArg (AV.int _) ?_; (try simp only [wrap_i64', wrap_u8, wrap_u16, wrap_u32, wrap_u64, wrap_i32, List.length_cons, List.length_nil, List.length_append, List.length_map, tmodN, tdivN]); omega) | rfl | skip) (agree_cons rfl (by first | with_reducible rfl | (refine congrArg (AV.int _) ?_; (try simp only [wrap_i64', wrap_u8, wrap_u16, wrap_u32, wrap_u64, wrap_i32, List.length_cons, List.length_nil, List.length_append, List.length_map, tmodN, tdivN]); omega) | rfl | skip) (agree_cons rfl (by first | with_reducible rfl | (refine congrArg (AV.int _) ?_; (try simp only [wrap_i64', wrap_u8, wrap_u16, wrap_u32, wrap_u64, wrap_i32, List.length_cons, List.length_nil, List.length_append, List.length_map, tmodN, tdivN]); omega) | rfl | skip) (agree_cons rfl (by first | with_reducible rfl | (refine congrArg (AV.int _) ?_; (try simp only [wrap_i64', wrap_u8, wrap_u16, wrap_u32, wrap_u64, wrap_i32, List.length_cons, List.length_nil, List.length_append, List.length_map, tmodN, tdivN]); omega) | rfl | skip) (agree_cons rfl (by first | with_reducible rfl | (refine congrArg (AV.int _) ?_; (try simp only [wrap_i64', wrap_u8, wrap_u16, wrap_u32, wrap_u64, wrap_i32, List.length_cons, List.length_nil, List.length_append, List.length_map, tmodN, tdivN]); omega) | rfl | skip) (trivial))))))) (by rfl)
    · try simp only [decide_eq_true_eq, decide_eq_false_iff_not, notT, notF, beq_iff_eq, beq_eq_false_iff_ne, bne_iff_ne, bne_eq_false_iff_eq, tmodN, tdivN, Int.not_lt, Int.not_le] at g38
      have hf : mkC (fullL (risL l) [] d []) m i = (fullL (risL l) [] d m).length := by (unfold mkC; rw [hB, List.take_of_length_le (by omega)])
      refine Runs.exit rfl ?_
      refine Runs.seq ?_
      refine Runs.region ?_
      refine Runs.restTo 9 [(3, { res := .bool true }), (9, { res := .bool true })] [0, 1, 5] rfl (by and_intros <;> first | exact True.intro | exact awake23_ok | (rw [hf]; simp)) ?_
      refine Runs.splitS 88 rfl (fun g88 => ?_) (fun g88 => ?_)
      · try simp only [decide_eq_true_eq, decide_eq_false_iff_not, notT, notF, beq_iff_eq, beq_eq_false_iff_ne, bne_iff_ne, bne_eq_false_iff_eq, tmodN, tdivN, Int.not_lt, Int.not_le] at g88
        refine Runs.rest [(3, { res := .bool true }), (9, { res := .bool true })] [0, 1, 5] rfl (by and_intros <;> first | exact True.intro | exact awake23_ok | (rw [hf]; simp)) ?_
        exact Runs.retH Try.func10 rfl rfl (by rfl) (by rfl)
      · try simp only [decide_eq_true_eq, decide_eq_false_iff_not, notT, notF, beq_iff_eq, beq_eq_false_iff_ne, bne_iff_ne, bne_eq_false_iff_eq, tmodN, tdivN, Int.not_lt, Int.not_le] at g88
        cases g88

end Go.Proofs.LP
