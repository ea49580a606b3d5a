/- contracts. -/
import Derived.Test.YtfkpdfpnpcdhaaaL9
set_option maxRecDepth 100000
set_option linter.unusedVariables false
set_option linter.unusedSimpArgs false
set_option linter.unusedSectionVars false
namespace Go.Proofs.LP
open Go Go.Am Go.Proofs
variable [MM]
theorem el4 {a b : Nat → AV} (h0 : a 0 = b 0) (h1 : a 1 = b 1) (h2 : a 2 = b 2) (h3 : a 3 = b 3) (i : Nat) (h : i < 4) : a i = b i := by
  rcases (show i = 0 ∨ i = 1 ∨ i = 2 ∨ i = 3 by omega) with rfl | rfl | rfl | rfl
  · exact h0
  · exact h1
  · exact h2
  · exact h3
abbrev awL : List (List UInt8) := [[97], [98, 47, 49], [98, 47, 50], [99]]
theorem awP : FnOK Try.prog 33 [.sl 1 4 (strEl awL) false, .agg [.str [], .str [47], .str [], .str [], .str [], .str [], .int .i64 2, .int .i64 0]] [] (.tup [.sl 22 2 (tiEl [⟨[97], false, 0⟩, ⟨[98, 47], true, 0⟩]) false, .bool true]) [] := by
  have h := page_ok awL [] [47] [] [] [] [] 2 0 (by decide) (by decide)
  rw [show pgLL awL [] [47] [] 2 = [⟨[97], false, 0⟩, ⟨[98, 47], true, 0⟩] by decide +kernel, show pgML awL [] [47] [] 2 = true by decide +kernel] at h
  exact h
theorem awG : FnOK Try.prog 30 [.str [97, 47, 98, 47, 99], .str [97, 47], .str [47]] [] (.tup [.str [97, 47, 98, 47], .bool true]) [] := by
  have h := group_ok [97, 47, 98, 47, 99] [97, 47] [47] (by decide)
  rw [show groupF [97, 47, 98, 47, 99] [97, 47] [47] = ([97, 47, 98, 47], true) by decide +kernel] at h
  exact h

theorem awake23_ok : FnOK Try.prog 32 [] [] (.bool true) [] := by
  refine FnOK.of_runs Try.func32 rfl (Nat.le_of_ble_eq_true rfl) ?_
  refine Runs.seq ?_
  refine Runs.reg [] [] rfl (by (try simp only [wrap_i64', wrap_u8, wrap_u16, wrap_u32, wrap_u64, wrap_i32, List.length_cons, List.length_nil, List.length_append, List.length_map, tmodN, tdivN]); and_intros <;> first | exact True.intro | omega | skip) ?_
  refine Runs.seq ?_
  refine Runs.reg [(0, { res := .tup [.str [97, 47, 98, 47], .bool true] })] [] rfl (by and_intros <;> first | exact True.intro | exact awG) ?_
  refine Runs.seq ?_
  refine Runs.reg [(2, { res := .tup [.sl 22 2 (tiEl [⟨[97], false, 0⟩, ⟨[98, 47], true, 0⟩]) false, .bool true] })] [] rfl (by and_intros <;> first | exact True.intro | decide | exact awP.arg ⟨⟨Imp.sl (m := 4) (by intro i hi; exact el4 (by rfl) (by rfl) (by rfl) (by rfl) i hi), rfl, rfl⟩, ⟨Imp.refl _, rfl, rfl⟩, True.intro⟩) ?_
  refine Runs.seq ?_
  refine Runs.region ?_
  refine Runs.restTo 2 [] [0, 2, 6, 11, 17, 24] rfl (by (try simp only [wrap_i64', wrap_u8, wrap_u16, wrap_u32, wrap_u64, wrap_i32, List.length_cons, List.length_nil, List.length_append, List.length_map, tmodN, tdivN]); and_intros <;> first | exact True.intro | omega | skip) ?_
  refine Runs.splitS 16 rfl (fun g16 => ?_) (fun g16 => ?_)
  · try simp only [decide_eq_true_eq, decide_eq_false_iff_not, notT, notF, beq_iff_eq, beq_eq_false_iff_ne, bne_iff_ne, bne_eq_false_iff_eq, tmodN, tdivN, Int.not_lt, Int.not_le] at g16
    refine Runs.restTo 4 [] [0, 2, 6, 11, 17, 24] rfl (by (try simp only [wrap_i64', wrap_u8, wrap_u16, wrap_u32, wrap_u64, wrap_i32, List.length_cons, List.length_nil, List.length_append, List.length_map, tmodN, tdivN]); and_intros <;> first | exact True.intro | omega | skip) ?_
    refine Runs.splitS 20 rfl (fun g20 => ?_) (fun g20 => ?_)
    · try simp only [decide_eq_true_eq, decide_eq_false_iff_not, notT, notF, beq_iff_eq, beq_eq_false_iff_ne, bne_iff_ne, bne_eq_false_iff_eq, tmodN, tdivN, Int.not_lt, Int.not_le] at g20
      refine Runs.restTo 5 [] [0, 2, 6, 11, 17, 24] rfl (by (try simp only [wrap_i64', wrap_u8, wrap_u16, wrap_u32, wrap_u64, wrap_i32, List.length_cons, List.length_nil, List.length_append, List.length_map, tmodN, tdivN]); and_intros <;> first | exact True.intro | omega | skip) ?_
      refine Runs.splitS 25 rfl (fun g25 => ?_) (fun g25 => ?_)
      · try simp only [decide_eq_true_eq, decide_eq_false_iff_not, notT, notF, beq_iff_eq, beq_eq_false_iff_ne, bne_iff_ne, bne_eq_false_iff_eq, tmodN, tdivN, Int.not_lt, Int.not_le] at g25
        refine Runs.restTo 6 [] [0, 2, 6, 11, 17, 24] rfl (by (try simp only [wrap_i64', wrap_u8, wrap_u16, wrap_u32, wrap_u64, wrap_i32, List.length_cons, List.length_nil, List.length_append, List.length_map, tmodN, tdivN]); and_intros <;> first | exact True.intro | omega | skip) ?_
        refine Runs.splitS 31 rfl (fun g31 => ?_) (fun g31 => ?_)
        · try simp only [decide_eq_true_eq, decide_eq_false_iff_not, notT, notF, beq_iff_eq, beq_eq_false_iff_ne, bne_iff_ne, bne_eq_false_iff_eq, tmodN, tdivN, Int.not_lt, Int.not_le] at g31
          refine Runs.restTo 7 [] [0, 2, 6, 11, 17, 24] rfl (by (try simp only [wrap_i64', wrap_u8, wrap_u16, wrap_u32, wrap_u64, wrap_i32, List.length_cons, List.length_nil, List.length_append, List.length_map, tmodN, tdivN]); and_intros <;> first | exact True.intro | omega | skip) ?_
          refine Runs.splitS 38 rfl (fun g38 => ?_) (fun g38 => ?_)
          · try simp only [decide_eq_true_eq, decide_eq_false_iff_not, notT, notF, beq_iff_eq, beq_eq_false_iff_ne, bne_iff_ne, bne_eq_false_iff_eq, tmodN, tdivN, Int.not_lt, Int.not_le] at g38
            refine Runs.rest [] [0, 2, 6, 11, 17, 24] rfl (by (try simp only [wrap_i64', wrap_u8, wrap_u16, wrap_u32, wrap_u64, wrap_i32, List.length_cons, List.length_nil, List.length_append, List.length_map, tmodN, tdivN]); and_intros <;> first | exact True.intro | omega | skip) ?_
            exact Runs.retH Try.func32 rfl rfl (by rfl) (by rfl)
          · try simp only [decide_eq_true_eq, decide_eq_false_iff_not, notT, notF, beq_iff_eq, beq_eq_false_iff_ne, bne_iff_ne, bne_eq_false_iff_eq, tmodN, tdivN, Int.not_lt, Int.not_le] at g38
            first | exact absurd rfl g38 | exact absurd g38 (by decide)
        · try simp only [decide_eq_true_eq, decide_eq_false_iff_not, notT, notF, beq_iff_eq, beq_eq_false_iff_ne, bne_iff_ne, bne_eq_false_iff_eq, tmodN, tdivN, Int.not_lt, Int.not_le] at g31
          first | exact absurd rfl g31 | exact absurd g31 (by decide)
      · try simp only [decide_eq_true_eq, decide_eq_false_iff_not, notT, notF, beq_iff_eq, beq_eq_false_iff_ne, bne_iff_ne, bne_eq_false_iff_eq, tmodN, tdivN, Int.not_lt, Int.not_le] at g25
        first | exact absurd rfl g25 | exact absurd g25 (by decide)
    · try simp only [decide_eq_true_eq, decide_eq_false_iff_not, notT, notF, beq_iff_eq, beq_eq_false_iff_ne, bne_iff_ne, bne_eq_false_iff_eq, tmodN, tdivN, Int.not_lt, Int.not_le] at g20
      first | exact absurd rfl g20 | exact absurd g20 (by decide)
  · try simp only [decide_eq_true_eq, decide_eq_false_iff_not, notT, notF, beq_iff_eq, beq_eq_false_iff_ne, bne_iff_ne, bne_eq_false_iff_eq, tmodN, tdivN, Int.not_lt, Int.not_le] at g16
    first | exact absurd rfl g16 | exact absurd g16 (by decide)

theorem listGroups_ok (s p d : List UInt8) (hs : s.length ≤ 1048576) (hd : d.length ≤ 1048576) : FnOK Try.prog 7 [.str s, .str p, .str d] [] (.bool true) [] := by
  refine FnOK.of_runs Try.func7 rfl (Nat.le_of_ble_eq_true rfl) ?_
  refine Runs.seq ?_
  refine Runs.reg [] [] rfl (by (try simp only [wrap_i64', wrap_u8, wrap_u16, wrap_u32, wrap_u64, wrap_i32, List.length_cons, List.length_nil, List.length_append, List.length_map, tmodN, tdivN]); and_intros <;> first | exact True.intro | omega | skip) ?_
  refine Runs.seq ?_
  refine Runs.reg [(3, { res := .tup [.str (groupF s p d).1, .bool (groupF s p d).2] })] [0, 1, 2] rfl (by and_intros <;> first | exact True.intro | exact group_ok s p d (by omega)) ?_
  refine Runs.seq ?_
  refine Runs.reg [(3, { res := .tup [.str (groupF s p d).1, .bool (groupF s p d).2] })] [0, 1, 2] rfl (by and_intros <;> first | exact True.intro | exact rgroup_ok s p d (by omega) (by omega)) ?_
  refine Runs.seq ?_
  refine Runs.region ?_
  refine Runs.restTo 4 [(9, { res := .bool true })] [0, 1, 4, 5] rfl (by and_intros <;> first | exact True.intro | exact awake23_ok) ?_
  refine Runs.splitS 28 rfl (fun g28 => ?_) (fun g28 => ?_)
  · try simp only [decide_eq_true_eq, decide_eq_false_iff_not, notT, notF, beq_iff_eq, beq_eq_false_iff_ne, bne_iff_ne, bne_eq_false_iff_eq, tmodN, tdivN, Int.not_lt, Int.not_le] at g28
    refine Runs.restTo 5 [(9, { res := .bool true })] [0, 1, 4, 5] rfl (by and_intros <;> first | exact True.intro | exact awake23_ok) ?_
    refine Runs.splitS 33 rfl (fun g33 => ?_) (fun g33 => ?_)
    · try simp only [decide_eq_true_eq, decide_eq_false_iff_not, notT, notF, beq_iff_eq, beq_eq_false_iff_ne, bne_iff_ne, bne_eq_false_iff_eq, tmodN, tdivN, Int.not_lt, Int.not_le] at g33
      refine Runs.rest [(9, { res := .bool true })] [0, 1, 4, 5] rfl (by and_intros <;> first | exact True.intro | exact awake23_ok) ?_
      exact Runs.retH Try.func7 rfl rfl (by rfl) (by rfl)
    · try simp only [decide_eq_true_eq, decide_eq_false_iff_not, notT, notF, beq_iff_eq, beq_eq_false_iff_ne, bne_iff_ne, bne_eq_false_iff_eq, tmodN, tdivN, Int.not_lt, Int.not_le] at g33
      simp at g33
  · try simp only [decide_eq_true_eq, decide_eq_false_iff_not, notT, notF, beq_iff_eq, beq_eq_false_iff_ne, bne_iff_ne, bne_eq_false_iff_eq, tmodN, tdivN, Int.not_lt, Int.not_le] at g28
    exact absurd rfl g28

end Go.Proofs.LP
