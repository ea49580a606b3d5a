/- Dates and days. -/
import Derived.Test.YtnohmijdpmelpaaGreatNum
set_option maxRecDepth 100000
set_option linter.unusedVariables false
set_option linter.unusedSimpArgs false
namespace Go.Proofs.YtnohmijdpmelpaaGreat
open Go Go.Am Go.Am.Runs

def leapN (y : Nat) : Bool := decide (y % 4 = 0) && !decide (y % 100 = 0) || decide (y % 400 = 0)
def sizeN (y m : Nat) : Nat := if m = 4 ∨ m = 6 ∨ m = 9 ∨ m = 11 then 30 else if m = 2 then (if leapN y = true then 29 else 28) else 31
def yearN (y : Nat) : Nat := if leapN y = true then 366 else 365
/-- days from 1970 to a year's first one -/
def befN (y : Nat) : Int := ((y - 1 : Nat) : Int) * 365 + ((y - 1) / 4 : Nat) - ((y - 1) / 100 : Nat) + ((y - 1) / 400 : Nat) - 719162
theorem leapN_iff (y : Nat) : leapN y = true ↔ (y % 4 = 0 ∧ ¬ y % 100 = 0) ∨ y % 400 = 0 := by unfold leapN; simp
theorem befN_step (y : Nat) (hy : 1 ≤ y) : befN (y + 1) = befN y + yearN y := by
  unfold befN yearN
  by_cases h : leapN y = true
  · rw [if_pos h]
    have := (leapN_iff y).1 h
    omega
  · rw [if_neg h]
    have : ¬ ((y % 4 = 0 ∧ ¬ y % 100 = 0) ∨ y % 400 = 0) := fun e => h ((leapN_iff y).2 e)
    omega
theorem befN_70 : befN 1970 = 0 := by decide
theorem sizeN_30 {y m : Nat} (h : m = 4 ∨ m = 6 ∨ m = 9 ∨ m = 11) : sizeN y m = 30 := if_pos h
theorem sizeN_29 {y m : Nat} (h : m = 2) (hl : leapN y = true) : sizeN y m = 29 := by unfold sizeN; rw [if_neg (by omega), if_pos h, if_pos hl]
theorem sizeN_28 {y m : Nat} (h : m = 2) (hl : leapN y = false) : sizeN y m = 28 := by unfold sizeN; rw [if_neg (by omega), if_pos h, if_neg (by rw [hl]; exact Bool.false_ne_true)]
theorem sizeN_31 {y m : Nat} (h : ¬ (m = 4 ∨ m = 6 ∨ m = 9 ∨ m = 11)) (h2 : m ≠ 2) : sizeN y m = 31 := by unfold sizeN; rw [if_neg h, if_neg h2]
theorem sizeN_bd (y m : Nat) : 28 ≤ sizeN y m ∧ sizeN y m ≤ 31 := by unfold sizeN; (repeat' split) <;> omega
theorem leap_t {y : Nat} (h : (y % 4 = 0 ∧ ¬ y % 100 = 0) ∨ y % 400 = 0) : leapN y = true := (leapN_iff y).2 h
theorem leap_f {y : Nat} (h : ¬ ((y % 4 = 0 ∧ ¬ y % 100 = 0) ∨ y % 400 = 0)) : leapN y = false := by
  cases e : leapN y with
  | false => rfl
  | true => exact absurd ((leapN_iff y).1 e) h

theorem leap_ok (y : Nat) (hy : y ≤ 100000) : FnOK Tryz.prog 146 [.int .i64 y] [] (.bool (leapN y)) [] := by
  refine FnOK.of_runs Tryz.func146 rfl (Nat.le_of_ble_eq_true rfl) ?_
  refine seq (reg [] [] rfl (by decide) ?_)
  refine seq (region (restTo 4 [] [0, 4, 9] rfl (by decide) ?_))
  refine splitS 6 rfl (fun g6 => ?_) (fun g6 => ?_)
  · try simp only [zg] at g6
    refine restTo 5 [] [0, 4, 9] rfl (by decide) ?_
    refine splitS 11 rfl (fun g11 => ?_) (fun g11 => ?_)
    · try simp only [zg] at g11
      refine rest [] [0, 4, 9] rfl (by decide) ?_
      exact retH Tryz.func146 rfl rfl (by refine congrArg AV.bool ?_; rw [Bool.eq_iff_iff, leapN_iff]; (try simp only [decide_eq_true_eq, decide_eq_false_iff_not, notT, notF, beq_iff_eq, beq_eq_false_iff_ne, bne_iff_ne, bne_eq_false_iff_eq, tmodN, tdivN, Int.not_lt, Int.not_le, Bool.false_eq_true, true_iff, false_iff]); omega) (by rfl)
    · try simp only [zg] at g11
      refine rest [] [0, 4, 9] rfl (by decide) ?_
      exact retH Tryz.func146 rfl rfl (by refine congrArg AV.bool ?_; rw [Bool.eq_iff_iff, leapN_iff]; (try simp only [decide_eq_true_eq, decide_eq_false_iff_not, notT, notF, beq_iff_eq, beq_eq_false_iff_ne, bne_iff_ne, bne_eq_false_iff_eq, tmodN, tdivN, Int.not_lt, Int.not_le, Bool.false_eq_true, true_iff, false_iff]); omega) (by rfl)
  · try simp only [zg] at g6
    refine rest [] [0, 4, 9] rfl (by decide) ?_
    exact retH Tryz.func146 rfl rfl (by refine congrArg AV.bool ?_; rw [Bool.eq_iff_iff, leapN_iff]; (try simp only [decide_eq_true_eq, decide_eq_false_iff_not, notT, notF, beq_iff_eq, beq_eq_false_iff_ne, bne_iff_ne, bne_eq_false_iff_eq, tmodN, tdivN, Int.not_lt, Int.not_le, Bool.false_eq_true, true_iff, false_iff]); omega) (by rfl)

theorem is_ok (t : Int) (h0 : -9223372036854775808 ≤ t) (h1 : t ≤ 9223372036854775807) : FnOK Tryz.prog 117 [.int .i64 t] [] (.bool (decide (0 ≤ t ∧ t ≤ 253402300799))) [] := by
  refine FnOK.of_runs Tryz.func117 rfl (Nat.le_of_ble_eq_true rfl) ?_
  refine seq (reg [] [] rfl (by decide) ?_)
  refine seq (region (restTo 3 [] [0, 3] rfl (by decide) ?_))
  refine splitS 5 rfl (fun g5 => ?_) (fun g5 => ?_)
  · try simp only [zg] at g5
    refine rest [] [0, 3] rfl (by decide) ?_
    exact retH Tryz.func117 rfl rfl (by refine congrArg AV.bool ?_; rw [Bool.eq_iff_iff]; simp; omega) (by rfl)
  · try simp only [zg] at g5
    refine rest [] [0, 3] rfl (by decide) ?_
    exact retH Tryz.func117 rfl rfl (by refine congrArg AV.bool ?_; rw [Bool.eq_iff_iff]; simp; omega) (by rfl)

theorem before_ok (y : Nat) (hy : y ≤ 100000) (h1 : 1 ≤ y) : FnOK Tryz.prog 116 [.int .i64 y] [] (.int .i64 (befN y)) [] := by
  refine FnOK.of_runs Tryz.func116 rfl (Nat.le_of_ble_eq_true rfl) ?_
  refine seq (reg [] [] rfl (by decide) ?_)
  refine seq ?_
  obtain ⟨z, rfl⟩ : ∃ z, y = z + 1 := ⟨y - 1, by omega⟩
  refine reg [(1, { res := .int .i64 (z : Nat) })] [] rfl (by and_intros <;> first | exact ⟨⟩ | (refine congrArg (AV.int _) ?_; rw [i64_id (by omega) (by omega)]; omega)) ?_
  refine seq ?_
  refine reg [(3, { res := .int .i64 (z / 4 : Nat) }), (6, { res := .int .i64 (z / 100 : Nat) }), (9, { res := .int .i64 (z / 400 : Nat) })] [0, 2, 5, 8] rfl (by and_intros <;> first | decide | (refine congrArg (AV.int _) ?_; rw [tdivN, i64_id (by omega) (by omega)]; rfl)) ?_
  exact retH Tryz.func116 rfl rfl (by refine congrArg (AV.int _) ?_; (try simp only [wrap_i64']); unfold befN; simp only [Nat.add_sub_cancel]; omega) (by rfl)

theorem year_ok (y : Nat) (hy : y ≤ 100000) : FnOK Tryz.prog 124 [.int .i64 y] [] (.int .i64 (yearN y)) [] := by
  refine FnOK.of_runs Tryz.func124 rfl (Nat.le_of_ble_eq_true rfl) ?_
  refine seq (reg [] [] rfl (by decide) ?_)
  refine seq (seq (reg [(1, { res := .bool (leapN y) })] [0] rfl (by and_intros <;> first | exact ⟨⟩ | exact leap_ok y hy) ?_))
  refine condS rfl (fun g4 => ?_) (fun g4 => ?_)
  · try simp only [zg] at g4
    refine seq (reg [] [] rfl (by decide) ?_)
    exact retH Tryz.func124 rfl rfl (by unfold yearN; rw [if_pos g4]; rfl) (by rfl)
  · try simp only [zg] at g4
    refine skip (seq (reg [] [] rfl (by decide) ?_))
    exact retH Tryz.func124 rfl rfl (by unfold yearN; rw [if_neg (by rw [g4]; exact Bool.false_ne_true)]; rfl) (by rfl)

theorem rsize_ok (y m : Nat) (hy : y ≤ 100000) (hm : m ≤ 100000) : FnOK Tryz.prog 123 [.int .i64 y, .int .i64 m] [] (.int .i64 (sizeN y m)) [] := by
  refine FnOK.of_runs Tryz.func123 rfl (Nat.le_of_ble_eq_true rfl) ?_
  refine seq (reg [] [] rfl (by decide) ?_)
  refine seq (seq (reg [] [0] rfl (by decide) ?_))
  refine block (seq (seq (reg [] [] rfl (by decide) ?_)))
  refine condS rfl (fun g6 => ?_) (fun g6 => ?_)
  · try simp only [zg] at g6
    refine skip ?_
    refine condS rfl (fun g6 => ?_) (fun g6 => ?_)
    · try simp only [zg] at g6
      refine seq (reg [] [] rfl (by decide) ?_)
      exact retH Tryz.func123 rfl rfl (by (refine congrArg (AV.int _) ?_; (rw [sizeN_30 (by omega)]; rfl))) (by rfl)
    · try simp only [zg] at g6
      refine seq (reg [] [] rfl (by decide) ?_)
      refine condS rfl (fun g11 => ?_) (fun g11 => ?_)
      · try simp only [zg] at g11
        refine seq (seq (reg [(1, { res := .bool (leapN y) })] [0] rfl (by and_intros <;> first | exact ⟨⟩ | exact leap_ok y hy) ?_))
        refine condS rfl (fun g14 => ?_) (fun g14 => ?_)
        · try simp only [zg] at g14
          refine seq (reg [] [] rfl (by decide) ?_)
          exact retH Tryz.func123 rfl rfl (by (exfalso; omega)) (by rfl)
        · try simp only [zg] at g14
          refine skip (seq (reg [] [] rfl (by decide) ?_))
          exact retH Tryz.func123 rfl rfl (by (exfalso; omega)) (by rfl)
      · try simp only [zg] at g11
        refine skip (inBlock (seq (reg [] [] rfl (by decide) ?_)))
        exact retH Tryz.func123 rfl rfl (by (exfalso; omega)) (by rfl)
  · try simp only [zg] at g6
    refine seq (reg [] [] rfl (by decide) ?_)
    refine condS rfl (fun g6 => ?_) (fun g6 => ?_)
    · try simp only [zg] at g6
      refine skip ?_
      refine condS rfl (fun g6 => ?_) (fun g6 => ?_)
      · try simp only [zg] at g6
        refine seq (reg [] [] rfl (by decide) ?_)
        exact retH Tryz.func123 rfl rfl (by (refine congrArg (AV.int _) ?_; (rw [sizeN_30 (by omega)]; rfl))) (by rfl)
      · try simp only [zg] at g6
        refine seq (reg [] [] rfl (by decide) ?_)
        refine condS rfl (fun g11 => ?_) (fun g11 => ?_)
        · try simp only [zg] at g11
          refine seq (seq (reg [(1, { res := .bool (leapN y) })] [0] rfl (by and_intros <;> first | exact ⟨⟩ | exact leap_ok y hy) ?_))
          refine condS rfl (fun g14 => ?_) (fun g14 => ?_)
          · try simp only [zg] at g14
            refine seq (reg [] [] rfl (by decide) ?_)
            exact retH Tryz.func123 rfl rfl (by (exfalso; omega)) (by rfl)
          · try simp only [zg] at g14
            refine skip (seq (reg [] [] rfl (by decide) ?_))
            exact retH Tryz.func123 rfl rfl (by (exfalso; omega)) (by rfl)
        · try simp only [zg] at g11
          refine skip (inBlock (seq (reg [] [] rfl (by decide) ?_)))
          exact retH Tryz.func123 rfl rfl (by (exfalso; omega)) (by rfl)
    · try simp only [zg] at g6
      refine seq (reg [] [] rfl (by decide) ?_)
      refine condS rfl (fun g6 => ?_) (fun g6 => ?_)
      · try simp only [zg] at g6
        refine skip ?_
        refine condS rfl (fun g6 => ?_) (fun g6 => ?_)
        · try simp only [zg] at g6
          refine seq (reg [] [] rfl (by decide) ?_)
          exact retH Tryz.func123 rfl rfl (by (refine congrArg (AV.int _) ?_; (rw [sizeN_30 (by omega)]; rfl))) (by rfl)
        · try simp only [zg] at g6
          refine seq (reg [] [] rfl (by decide) ?_)
          refine condS rfl (fun g11 => ?_) (fun g11 => ?_)
          · try simp only [zg] at g11
            refine seq (seq (reg [(1, { res := .bool (leapN y) })] [0] rfl (by and_intros <;> first | exact ⟨⟩ | exact leap_ok y hy) ?_))
            refine condS rfl (fun g14 => ?_) (fun g14 => ?_)
            · try simp only [zg] at g14
              refine seq (reg [] [] rfl (by decide) ?_)
              exact retH Tryz.func123 rfl rfl (by (exfalso; omega)) (by rfl)
            · try simp only [zg] at g14
              refine skip (seq (reg [] [] rfl (by decide) ?_))
              exact retH Tryz.func123 rfl rfl (by (exfalso; omega)) (by rfl)
          · try simp only [zg] at g11
            refine skip (inBlock (seq (reg [] [] rfl (by decide) ?_)))
            exact retH Tryz.func123 rfl rfl (by (exfalso; omega)) (by rfl)
      · try simp only [zg] at g6
        refine reg [] [] rfl (by decide) ?_
        refine condS rfl (fun g6 => ?_) (fun g6 => ?_)
        · try simp only [zg] at g6
          refine seq (reg [] [] rfl (by decide) ?_)
          exact retH Tryz.func123 rfl rfl (by (refine congrArg (AV.int _) ?_; (rw [sizeN_30 (by omega)]; rfl))) (by rfl)
        · try simp only [zg] at g6
          refine seq (reg [] [] rfl (by decide) ?_)
          refine condS rfl (fun g11 => ?_) (fun g11 => ?_)
          · try simp only [zg] at g11
            refine seq (seq (reg [(1, { res := .bool (leapN y) })] [0] rfl (by and_intros <;> first | exact ⟨⟩ | exact leap_ok y hy) ?_))
            refine condS rfl (fun g14 => ?_) (fun g14 => ?_)
            · try simp only [zg] at g14
              refine seq (reg [] [] rfl (by decide) ?_)
              exact retH Tryz.func123 rfl rfl (by first | (exfalso; omega) | (refine congrArg (AV.int _) ?_; (rw [sizeN_29 (by omega) (by assumption)]; rfl))) (by rfl)
            · try simp only [zg] at g14
              refine skip (seq (reg [] [] rfl (by decide) ?_))
              exact retH Tryz.func123 rfl rfl (by first | (exfalso; omega) | (refine congrArg (AV.int _) ?_; (rw [sizeN_28 (by omega) (by assumption)]; rfl))) (by rfl)
          · try simp only [zg] at g11
            refine skip (inBlock (seq (reg [] [] rfl (by decide) ?_)))
            exact retH Tryz.func123 rfl rfl (by (refine congrArg (AV.int _) ?_; (rw [sizeN_31 (by omega) (by omega)]; rfl))) (by rfl)

theorem csize_ok (y m : Nat) (hy : y ≤ 100000) (hm : m ≤ 100000) : FnOK Tryz.prog 115 [.int .i64 y, .int .i64 m] [] (.int .i64 (sizeN y m)) [] := by
  refine FnOK.of_runs Tryz.func115 rfl (Nat.le_of_ble_eq_true rfl) ?_
  refine seq (reg [] [] rfl (by decide) ?_)
  refine seq (seq (reg [] [0] rfl (by decide) ?_))
  refine block (seq (block (seq (block (block (seq (seq (seq (seq (reg [] [] rfl (by decide) ?_))))))))))
  refine condS rfl (fun g6 => ?_) (fun g6 => ?_)
  · try simp only [zg] at g6
    refine skip ?_
    refine condS rfl (fun g6 => ?_) (fun g6 => ?_)
    · try simp only [zg] at g6
      refine exit rfl (inBlock (seq (seq (reg [] [] rfl (by decide) ?_))))
      exact retH Tryz.func115 rfl rfl (by (refine congrArg (AV.int _) ?_; (rw [sizeN_30 (by omega)]; rfl))) (by rfl)
    · try simp only [zg] at g6
      refine skip (seq (seq (reg [] [] rfl (by decide) ?_)))
      refine condS rfl (fun g10 => ?_) (fun g10 => ?_)
      · try simp only [zg] at g10
        refine exit rfl (seq (seq (reg [] [] rfl (by decide) ?_)))
        exact retH Tryz.func115 rfl rfl (by (exfalso; omega)) (by rfl)
      · try simp only [zg] at g10
        refine skip (seq (reg [] [] rfl (by decide) ?_))
        refine condS rfl (fun g12 => ?_) (fun g12 => ?_)
        · try simp only [zg] at g12
          refine exit rfl (seq (seq (seq (region (restTo 4 [] [0, 4, 8] rfl (by decide) ?_)))))
          refine splitS 17 rfl (fun g17 => ?_) (fun g17 => ?_)
          · try simp only [zg] at g17
            refine restTo 4 [] [0, 4, 8] rfl (by decide) ?_
            refine splitS 21 rfl (fun g21 => ?_) (fun g21 => ?_)
            · try simp only [zg] at g21
              refine rest [] [0, 4, 8] rfl (by decide) ?_
              refine condT rfl (seq (reg [] [] rfl (by decide) ?_))
              exact retH Tryz.func115 rfl rfl (by (exfalso; omega)) (by rfl)
            · try simp only [zg] at g21
              refine rest [] [0, 4, 8] rfl (by decide) ?_
              refine condS rfl (fun g26 => ?_) (fun g26 => ?_)
              · try simp only [zg] at g26
                refine seq (reg [] [] rfl (by decide) ?_)
                exact retH Tryz.func115 rfl rfl (by (exfalso; omega)) (by rfl)
              · try simp only [zg] at g26
                refine skip (seq (reg [] [] rfl (by decide) ?_))
                exact retH Tryz.func115 rfl rfl (by (exfalso; omega)) (by rfl)
          · try simp only [zg] at g17
            refine rest [] [0, 4, 8] rfl (by decide) ?_
            refine condF rfl (skip (seq (reg [] [] rfl (by decide) ?_)))
            exact retH Tryz.func115 rfl rfl (by (exfalso; omega)) (by rfl)
        · try simp only [zg] at g12
          refine skip (exit rfl (seq (reg [] [] rfl (by decide) ?_)))
          exact retH Tryz.func115 rfl rfl (by (exfalso; omega)) (by rfl)
  · try simp only [zg] at g6
    refine seq (reg [] [] rfl (by decide) ?_)
    refine condS rfl (fun g6 => ?_) (fun g6 => ?_)
    · try simp only [zg] at g6
      refine skip ?_
      refine condS rfl (fun g6 => ?_) (fun g6 => ?_)
      · try simp only [zg] at g6
        refine exit rfl (inBlock (seq (seq (reg [] [] rfl (by decide) ?_))))
        exact retH Tryz.func115 rfl rfl (by (refine congrArg (AV.int _) ?_; (rw [sizeN_30 (by omega)]; rfl))) (by rfl)
      · try simp only [zg] at g6
        refine skip (seq (seq (reg [] [] rfl (by decide) ?_)))
        refine condS rfl (fun g10 => ?_) (fun g10 => ?_)
        · try simp only [zg] at g10
          refine exit rfl (seq (seq (reg [] [] rfl (by decide) ?_)))
          exact retH Tryz.func115 rfl rfl (by (exfalso; omega)) (by rfl)
        · try simp only [zg] at g10
          refine skip (seq (reg [] [] rfl (by decide) ?_))
          refine condS rfl (fun g12 => ?_) (fun g12 => ?_)
          · try simp only [zg] at g12
            refine exit rfl (seq (seq (seq (region (restTo 4 [] [0, 4, 8] rfl (by decide) ?_)))))
            refine splitS 17 rfl (fun g17 => ?_) (fun g17 => ?_)
            · try simp only [zg] at g17
              refine restTo 4 [] [0, 4, 8] rfl (by decide) ?_
              refine splitS 21 rfl (fun g21 => ?_) (fun g21 => ?_)
              · try simp only [zg] at g21
                refine rest [] [0, 4, 8] rfl (by decide) ?_
                refine condT rfl (seq (reg [] [] rfl (by decide) ?_))
                exact retH Tryz.func115 rfl rfl (by (exfalso; omega)) (by rfl)
              · try simp only [zg] at g21
                refine rest [] [0, 4, 8] rfl (by decide) ?_
                refine condS rfl (fun g26 => ?_) (fun g26 => ?_)
                · try simp only [zg] at g26
                  refine seq (reg [] [] rfl (by decide) ?_)
                  exact retH Tryz.func115 rfl rfl (by (exfalso; omega)) (by rfl)
                · try simp only [zg] at g26
                  refine skip (seq (reg [] [] rfl (by decide) ?_))
                  exact retH Tryz.func115 rfl rfl (by (exfalso; omega)) (by rfl)
            · try simp only [zg] at g17
              refine rest [] [0, 4, 8] rfl (by decide) ?_
              refine condF rfl (skip (seq (reg [] [] rfl (by decide) ?_)))
              exact retH Tryz.func115 rfl rfl (by (exfalso; omega)) (by rfl)
          · try simp only [zg] at g12
            refine skip (exit rfl (seq (reg [] [] rfl (by decide) ?_)))
            exact retH Tryz.func115 rfl rfl (by (exfalso; omega)) (by rfl)
    · try simp only [zg] at g6
      refine reg [] [] rfl (by decide) ?_
      refine condS rfl (fun g6 => ?_) (fun g6 => ?_)
      · try simp only [zg] at g6
        refine exit rfl (inBlock (seq (seq (reg [] [] rfl (by decide) ?_))))
        exact retH Tryz.func115 rfl rfl (by (refine congrArg (AV.int _) ?_; (rw [sizeN_30 (by omega)]; rfl))) (by rfl)
      · try simp only [zg] at g6
        refine skip (seq (seq (reg [] [] rfl (by decide) ?_)))
        refine condS rfl (fun g10 => ?_) (fun g10 => ?_)
        · try simp only [zg] at g10
          refine exit rfl (seq (seq (reg [] [] rfl (by decide) ?_)))
          exact retH Tryz.func115 rfl rfl (by (refine congrArg (AV.int _) ?_; (rw [sizeN_30 (by omega)]; rfl))) (by rfl)
        · try simp only [zg] at g10
          refine skip (seq (reg [] [] rfl (by decide) ?_))
          refine condS rfl (fun g12 => ?_) (fun g12 => ?_)
          · try simp only [zg] at g12
            refine exit rfl (seq (seq (seq (region (restTo 4 [] [0, 4, 8] rfl (by decide) ?_)))))
            refine splitS 17 rfl (fun g17 => ?_) (fun g17 => ?_)
            · try simp only [zg] at g17
              refine restTo 4 [] [0, 4, 8] rfl (by decide) ?_
              refine splitS 21 rfl (fun g21 => ?_) (fun g21 => ?_)
              · try simp only [zg] at g21
                refine rest [] [0, 4, 8] rfl (by decide) ?_
                refine condT rfl (seq (reg [] [] rfl (by decide) ?_))
                exact retH Tryz.func115 rfl rfl (by (refine congrArg (AV.int _) ?_; (rw [sizeN_29 (by omega) (by first | assumption | exact leap_t (by omega))]; rfl))) (by rfl)
              · try simp only [zg] at g21
                refine rest [] [0, 4, 8] rfl (by decide) ?_
                refine condS rfl (fun g26 => ?_) (fun g26 => ?_)
                · try simp only [zg] at g26
                  refine seq (reg [] [] rfl (by decide) ?_)
                  exact retH Tryz.func115 rfl rfl (by (refine congrArg (AV.int _) ?_; (rw [sizeN_29 (by omega) (by first | assumption | exact leap_t (by omega))]; rfl))) (by rfl)
                · try simp only [zg] at g26
                  refine skip (seq (reg [] [] rfl (by decide) ?_))
                  exact retH Tryz.func115 rfl rfl (by (refine congrArg (AV.int _) ?_; (rw [sizeN_28 (by omega) (by first | assumption | exact leap_f (by omega))]; rfl))) (by rfl)
            · try simp only [zg] at g17
              refine rest [] [0, 4, 8] rfl (by decide) ?_
              refine condF rfl (skip (seq (reg [] [] rfl (by decide) ?_)))
              exact retH Tryz.func115 rfl rfl (by (refine congrArg (AV.int _) ?_; (rw [sizeN_28 (by omega) (by first | assumption | exact leap_f (by omega))]; rfl))) (by rfl)
          · try simp only [zg] at g12
            refine skip (exit rfl (seq (reg [] [] rfl (by decide) ?_)))
            exact retH Tryz.func115 rfl rfl (by (refine congrArg (AV.int _) ?_; (rw [sizeN_31 (by omega) (by omega)]; rfl))) (by rfl)

theorem of1_ok (n lo hi : Int) : FnOK Tryz.prog 114 [.int .i64 n, .int .i64 lo, .int .i64 hi] [] (.bool (decide (lo ≤ n ∧ n ≤ hi))) [] := by
  refine FnOK.of_runs Tryz.func114 rfl (Nat.le_of_ble_eq_true rfl) ?_
  refine seq (reg [] [] rfl (by decide) ?_)
  refine seq (region (restTo 4 [] [0, 1, 4, 5] rfl (by decide) ?_))
  refine splitS 10 rfl (fun g10 => ?_) (fun g10 => ?_)
  · try simp only [zg] at g10
    refine rest [] [0, 1, 4, 5] rfl (by decide) ?_
    exact retH Tryz.func114 rfl rfl (by refine congrArg AV.bool ?_; rw [Bool.eq_iff_iff]; simp; omega) (by rfl)
  · try simp only [zg] at g10
    refine rest [] [0, 1, 4, 5] rfl (by decide) ?_
    exact retH Tryz.func114 rfl rfl (by refine congrArg AV.bool ?_; rw [Bool.eq_iff_iff]; simp; omega) (by rfl)

end Go.Proofs.YtnohmijdpmelpaaGreat
set_option maxRecDepth 100000
set_option linter.unusedVariables false
set_option linter.unusedSimpArgs false
namespace Go.Proofs.YtnohmijdpmelpaaGreat
open Go Go.Am Go.Am.Runs

/-- days of a year ahead of a month -/
def monN (y : Nat) : Nat → Nat
  | 0 => 0
  | 1 => 0
  | m + 2 => monN y (m + 1) + sizeN y (m + 1)
theorem monN_step (y : Nat) {m : Nat} (h : 1 ≤ m) : monN y (m + 1) = monN y m + sizeN y m := by
  obtain ⟨k, rfl⟩ : ∃ k, m = k + 1 := ⟨m - 1, by omega⟩
  rfl
theorem monN_mono (y : Nat) (a : Nat) (ha : 1 ≤ a) : ∀ b, a ≤ b → monN y a ≤ monN y b
  | 0, h => by omega
  | b + 1, h => by
    by_cases e : a = b + 1
    · rw [e]; exact Nat.le_refl _
    · have := monN_mono y a ha b (by omega)
      rw [monN_step y (by omega)]; omega
theorem yearN_bd (y : Nat) : 365 ≤ yearN y ∧ yearN y ≤ 366 := by unfold yearN; split <;> omega
theorem befN_mono (a : Nat) (ha : 1 ≤ a) : ∀ b, a ≤ b → befN a + 365 * ((b - a : Nat) : Int) ≤ befN b ∧ befN b ≤ befN a + 366 * ((b - a : Nat) : Int)
  | 0, h => by omega
  | b + 1, h => by
    by_cases e : a = b + 1
    · subst e; simp
    · have ih := befN_mono a ha b (by omega)
      have hy := yearN_bd b
      rw [befN_step b (by omega)]
      have : ((b + 1 - a : Nat) : Int) = ((b - a : Nat) : Int) + 1 := by omega
      rw [this]; omega
/-- a day's date: year, day of the year, month, day of the month (from 0) -/
structure DateOf (n y r m q : Nat) : Prop where
  y1 : 1970 ≤ y
  y2 : y ≤ 9999
  e1 : (n : Int) = befN y + r
  l1 : r < yearN y
  m1 : 1 ≤ m
  m2 : m ≤ 12
  e2 : r = monN y m + q
  l2 : q < sizeN y m
theorem DateOf.le {n y r m q : Nat} (h : DateOf n y r m q) {k : Nat} (hk : 1 ≤ k) (hn : befN k ≤ n) : k ≤ y := by
  by_cases e : k ≤ y
  · exact e
  · exfalso
    have h1 := (befN_mono (y + 1) (by omega) k (by omega)).1
    have h2 := befN_step y (by have := h.y1; omega)
    have := h.e1; have := h.l1
    omega
theorem DateOf.yeq {n y r m q : Nat} (h : DateOf n y r m q) {k : Nat} (hk : 1 ≤ k) (h1 : befN k ≤ n) (h2 : (n : Int) < befN (k + 1)) : k = y := by
  have hle := h.le hk h1
  by_cases e : k = y
  · exact e
  · exfalso
    have h3 := (befN_mono (k + 1) (by omega) y (by omega)).1
    have := h.e1
    omega
theorem DateOf.mle {n y r m q : Nat} (h : DateOf n y r m q) {k : Nat} (hk : 1 ≤ k) (hn : monN y k ≤ r) : k ≤ m := by
  by_cases e : k ≤ m
  · exact e
  · exfalso
    have h1 := monN_mono y (m + 1) (by omega) k (by omega)
    rw [monN_step y h.m1] at h1
    have := h.e2; have := h.l2; omega
theorem DateOf.meq {n y r m q : Nat} (h : DateOf n y r m q) {k : Nat} (hk : 1 ≤ k) (h1 : monN y k ≤ r) (h2 : r < monN y (k + 1)) : k = m := by
  have hle := h.mle hk h1
  by_cases e : k = m
  · exact e
  · exfalso
    have h3 := monN_mono y (k + 1) (by omega) m (by omega)
    have := h.e2; omega
theorem bef_start (n : Nat) : befN (1970 + n / 366) ≤ n := by
  have := (befN_mono 1970 (by omega) (1970 + n / 366) (by omega)).2
  rw [befN_70] at this
  have e : ((1970 + n / 366 - 1970 : Nat) : Int) = ((n / 366 : Nat) : Int) := by omega
  rw [e] at this
  omega
theorem is_true {t : Nat} (ht : t ≤ 253402300799) : FnOK Tryz.prog 117 [.int .i64 t] [] (.bool true) [] := by
  have := is_ok (t : Int) (by omega) (by omega)
  rwa [decide_eq_true (by omega)] at this

theorem civil_ok {n y r m q : Nat} (h : DateOf n y r m q) (t : Nat) (ht : t ≤ 253402300799) (hn : n = t / 86400) : FnOK Tryz.prog 78 [.int .i64 t] [] (.tup [.int .i64 y, .int .i64 m, .int .i64 (q + 1 : Nat), .int .i64 (t / 3600 % 24 : Nat), .int .i64 (t / 60 % 60 : Nat), .int .i64 (t % 60 : Nat), .bool true]) [] := by
  refine FnOK.of_runs Tryz.func78 rfl (Nat.le_of_ble_eq_true rfl) ?_
  refine seq (reg [] [] rfl (by decide) ?_)
  refine seq (seq ?_)
  have y1 := h.y1; have y2 := h.y2; have e1 := h.e1; have l1 := h.l1; have m1 := h.m1; have m2 := h.m2; have e2 := h.e2; have l2 := h.l2; have yb := yearN_bd y; have sb := sizeN_bd y m; have hn2 : n ≤ 2932896 := by omega
  refine reg [(1, { res := .bool true })] [0] rfl (by and_intros <;> first | exact ⟨⟩ | exact is_true ht) ?_
  refine condF rfl (skip (seq ?_))
  refine reg [(1, { res := .int .i64 (n : Nat) })] [0] rfl (by and_intros <;> first | decide | (refine congrArg (AV.int _) ?_; (try simp only [tdivN, tmodN]); (rw [i64_id (by omega) (by omega)]); omega)) ?_
  refine seq ?_
  refine reg [(1, { res := .int .i64 (n / 366 : Nat) }), (2, { res := .int .i64 (1970 + n / 366 : Nat) })] [0] rfl (by and_intros <;> first | decide | (refine congrArg (AV.int _) ?_; (try simp only [tdivN, tmodN]); (rw [i64_id (by omega) (by omega)]); omega)) ?_
  refine seq (block ?_)
  -- loop 0
  refine loopF (σ := Nat) (fun k => befN k ≤ n ∧ 1970 ≤ k ∧ k ≤ y) (fun k => [(0, .int .i64 t), (2, .int .i64 k), (9, .int .i64 n)]) (fun _ => []) (fun k => y - k) (1970 + n / 366) (by exact ⟨bef_start n, by omega, h.le (by omega) (bef_start n)⟩) (by exact zag rfl) (by rfl) (fun k hi ih => ?_)
  replace hi : befN k ≤ n ∧ 1970 ≤ k ∧ k ≤ y := hi; have hi3 := hi.2.2; have hi2 := hi.2.1
  refine seq (seq ?_)
  refine reg [(1, { res := .int .i64 (k + 1 : Nat) }), (2, { res := .int .i64 (befN (k + 1)) })] [0, 3] rfl (by and_intros <;> first | exact ⟨⟩ | exact before_ok (k + 1) (by omega) (by omega) | (refine congrArg (AV.int _) ?_; (try simp only [tdivN, tmodN]); (rw [i64_id (by omega) (by omega)]); omega)) ?_
  refine condS rfl (fun g22 => ?_) (fun g22 => ?_)
  · try simp only [zg] at g22
    refine skip (block ?_)
    refine reg [(1, { res := .int .i64 (k + 1 : Nat) })] [] rfl (by and_intros <;> first | exact ⟨⟩ | (refine congrArg (AV.int _) ?_; (try simp only [tdivN, tmodN]); (rw [i64_id (by omega) (by omega)]); omega)) ?_
    refine inBlock ?_
    exact ih (k + 1) _ _ (by exact ⟨g22, by omega, h.le (by omega) g22⟩) (by have := h.le (k := k + 1) (by omega) g22; omega) (by exact zag rfl) (by rfl)
  · try simp only [zg] at g22
    have hky : y = k := (h.yeq (by omega) hi.1 g22).symm; subst hky
    refine exit rfl (seq ?_)
    refine reg [(2, { res := .int .i64 (befN y) }), (3, { res := .int .i64 (r : Nat) })] [1] rfl (by and_intros <;> first | exact ⟨⟩ | exact before_ok y (by omega) (by omega) | (refine congrArg (AV.int _) ?_; (try simp only [tdivN, tmodN]); (rw [i64_id (by omega) (by omega)]); omega)) ?_
    refine seq (reg [] [] rfl (by decide) ?_)
    refine seq (block ?_)
    -- loop 1
    refine loopF (σ := Nat) (fun k => 1 ≤ k ∧ k ≤ m ∧ monN y k ≤ r) (fun k => [(0, .int .i64 t), (2, .int .i64 y), (3, .int .i64 k), (9, .int .i64 (r - monN y k : Nat))]) (fun _ => []) (fun k => m - k) (1) (by exact ⟨by omega, by omega, Nat.zero_le _⟩) (by exact zag rfl) (by rfl) (fun k hk ih => ?_)
    replace hk : 1 ≤ k ∧ k ≤ m ∧ monN y k ≤ r := hk; have hk1 := hk.1; have hk2 := hk.2.1; have hk3 := hk.2.2
    refine seq (seq (reg [(3, { res := .int .i64 (sizeN y k) })] [0, 1, 2] rfl (by and_intros <;> first | exact ⟨⟩ | exact csize_ok y k (by omega) (by omega)) ?_))
    refine condS rfl (fun g33 => ?_) (fun g33 => ?_)
    · try simp only [zg] at g33
      refine skip (block (seq ?_))
      refine reg [(3, { res := .int .i64 (sizeN y k) }), (4, { res := .int .i64 (r - monN y (k + 1) : Nat) })] [1, 2] rfl (by have ms := monN_step y (m := k) (by omega); have sk := sizeN_bd y k; and_intros <;> first | exact ⟨⟩ | exact csize_ok y k (by omega) (by omega) | (refine congrArg (AV.int _) ?_; (try simp only [tdivN, tmodN]); (rw [i64_id (by omega) (by omega)]); omega)) ?_
      refine reg [(1, { res := .int .i64 (k + 1 : Nat) })] [] rfl (by and_intros <;> first | exact ⟨⟩ | (refine congrArg (AV.int _) ?_; (try simp only [tdivN, tmodN]); (rw [i64_id (by omega) (by omega)]); omega)) ?_
      refine inBlock ?_
      exact ih (k + 1) _ _ (by have ms := monN_step y (m := k) (by omega); exact ⟨by omega, h.mle (by omega) (by omega), by omega⟩) (by have ms := monN_step y (m := k) (by omega); have := h.mle (k := k + 1) (by omega) (by omega); omega) (by exact zag rfl) (by rfl)
    · try simp only [zg] at g33
      have ms := monN_step y (m := k) hk.1; have hkm : m = k := (h.meq (by omega) hk.2.2 (by omega)).symm; subst hkm
      refine exit rfl (seq ?_)
      refine reg [(3, { res := .int .i64 (q + 1 : Nat) }), (5, { res := .int .i64 (t / 3600 : Nat) }), (6, { res := .int .i64 (t / 3600 % 24 : Nat) }), (8, { res := .int .i64 (t / 60 : Nat) }), (9, { res := .int .i64 (t / 60 % 60 : Nat) }), (11, { res := .int .i64 (t % 60 : Nat) })] [2, 4, 7, 10] rfl (by and_intros <;> first | decide | (refine congrArg (AV.int _) ?_; (try simp only [tdivN, tmodN]); (first | rw [i64_id (by omega) (by omega)] | skip); omega)) ?_
      exact retH Tryz.func78 rfl rfl (by rfl) (by rfl)

end Go.Proofs.YtnohmijdpmelpaaGreat
set_option maxRecDepth 100000
set_option linter.unusedVariables false
set_option linter.unusedSimpArgs false
namespace Go.Proofs.YtnohmijdpmelpaaGreat
open Go Go.Am Go.Am.Runs

/-- so many digits of a number -/
def digK (n k : Nat) : List UInt8 := (List.range k).map fun i => UInt8.ofNat (48 + n / 10 ^ (k - 1 - i) % 10)
def dB (n k j : Nat) : List AV := (List.range k).map fun i => .int .u8 (if k ≤ i + j then ((UInt8.ofNat (48 + n / 10 ^ (k - 1 - i) % 10)).toNat : Int) else 0)
theorem dB_len (n k j : Nat) : (dB n k j).length = k := by simp [dB]
theorem dB_set (n k j : Nat) (h : j < k) : (dB n k j).set (k - 1 - j) (.int .u8 (UInt8.ofNat (48 + n / 10 ^ j % 10)).toNat) = dB n k (j + 1) := by
  apply List.ext_getElem?
  intro i
  simp only [dB, List.getElem?_set, List.getElem?_map, List.length_map, List.length_range]
  by_cases hi : i < k
  · rw [List.getElem?_range hi]
    by_cases e : k - 1 - j = i
    · subst e
      rw [if_pos rfl, if_pos (by omega)]
      simp only [Option.map_some]
      rw [if_pos (by omega), show k - 1 - (k - 1 - j) = j by omega]
    · rw [if_neg e]
      simp only [Option.map_some]
      by_cases h1 : k ≤ i + j
      · rw [if_pos h1, if_pos (by omega)]
      · rw [if_neg h1, if_neg (by omega)]
  · rw [List.getElem?_eq_none (by simp; omega), if_neg (by omega)]; rfl
theorem dB_zero (n k : Nat) : dB n k 0 = rep k [.int .u8 0] := by
  unfold dB rep
  rw [List.map_congr_left (g := fun _ => AV.int .u8 0) (fun i hi => by rw [if_neg (by have := List.mem_range.1 hi; omega)])]
  rw [List.map_const', List.length_range]; simp
theorem u8dig (z : Nat) : IntKind.u8.wrap (48 + ((z % 10 : Nat) : Int)) = ((UInt8.ofNat (48 + z % 10)).toNat : Int) := by
  rw [u8_id (by omega) (by omega)]
  have : (UInt8.ofNat (48 + z % 10)).toNat = 48 + z % 10 := by simp; omega
  rw [this]; omega
theorem dB_done (n k : Nat) : ((dB n k k).drop 0).take k = (digK n k).map fun c => .int .u8 c.toNat := by
  rw [List.drop_zero, List.take_of_length_le (by rw [dB_len]; exact Nat.le_refl _)]
  unfold dB digK
  rw [List.map_map]
  exact List.map_congr_left fun i hi => by simp
theorem digK_len (n k : Nat) : (digK n k).length = k := by simp [digK]

theorem put_ok (n k : Nat) (hn : n < 100000000) (hk : k ≤ 8) : FnOK Tryz.prog 79 [.int .i64 n, .int .i64 k] [] (.str (digK n k)) [] := by
  refine FnOK.of_runs Tryz.func79 rfl (Nat.le_of_ble_eq_true rfl) ?_
  refine seq (reg [] [] rfl (by decide) ?_)
  refine seq (reg [] [0] rfl (by and_intros <;> first | trivial | omega) ?_)
  refine seq (seq (reg [] [0] rfl (by decide) ?_))
  refine block ?_
  -- loop 0
  refine loopF (σ := Nat) (fun j => j ≤ k) (fun j => [(0, .int .i64 (n / 10 ^ j : Nat)), (5, .hs 0 0 k k), (6, .int .i64 ((k : Int) - 1 - j))]) (fun j => [dB n k j]) (fun j => k - j) (0) (by exact Nat.zero_le _) (by exact agree_cons rfl (by (refine congrArg (AV.int _) ?_; (try simp only [wrap_i64', wrap_u8, wrap_u16, wrap_u32, wrap_u64, wrap_i32, List.length_cons, List.length_nil, List.length_append, List.length_map, tmodN, tdivN]); omega)) (agree_cons rfl (by first | with_reducible rfl | (refine congrArg (AV.int _) ?_; (try simp only [wrap_i64', wrap_u8, wrap_u16, wrap_u32, wrap_u64, wrap_i32, List.length_cons, List.length_nil, List.length_append, List.length_map, tmodN, tdivN]); omega) | rfl | skip) (agree_cons rfl (by first | with_reducible rfl | (refine congrArg (AV.int _) ?_; (try simp only [wrap_i64', wrap_u8, wrap_u16, wrap_u32, wrap_u64, wrap_i32, List.length_cons, List.length_nil, List.length_append, List.length_map, tmodN, tdivN]); omega) | rfl | skip) (trivial)))) (by rw [Int.toNat_natCast, dB_zero]; rfl) (fun j hj ih => ?_)
  replace hj : j ≤ k := hj; have hle : n / 10 ^ j ≤ n := Nat.div_le_self _ _
  refine seq (seq (reg [] [0] rfl (by decide) ?_))
  refine condS rfl (fun g12 => ?_) (fun g12 => ?_)
  · try simp only [zg] at g12
    refine skip (seq (block (seq ?_)))
    refine reg [(3, { res := .int .i64 (n / 10 ^ j % 10 : Nat) }), (4, { res := .int .u8 (n / 10 ^ j % 10 : Nat) }), (5, { res := .int .u8 (UInt8.ofNat (48 + n / 10 ^ j % 10)).toNat })] [0, 1, 2] rfl (by rw [dB_len]; generalize n / 10 ^ j = z at hle ⊢; and_intros <;> first | decide | (refine congrArg (AV.int _) ?_; rw [tmodN]; rfl) | exact congrArg (AV.int _) (u8dig z) | (refine congrArg (AV.int _) ?_; exact u8_id (by omega) (by omega)) | omega) ?_
    refine reg [(1, { res := .int .i64 (n / 10 ^ (j + 1) : Nat) })] [] rfl (by have hz2 : n / 10 ^ (j + 1) = n / 10 ^ j / 10 := (by rw [Nat.pow_succ, Nat.div_div_eq_div_mul]); rw [hz2]; generalize n / 10 ^ j = z at hle ⊢; and_intros <;> first | decide | (refine congrArg (AV.int _) ?_; rw [tdivN, i64_id (by omega) (by omega)]; rfl)) ?_
    refine inBlock (reg [] [] rfl (by decide) ?_)
    exact ih (j + 1) _ _ (by omega) (by omega) (by exact agree_cons rfl (by rfl) (agree_cons rfl (by first | rfl | (refine congrArg (AV.int _) ?_; simp only [wrap_i64', tdivN, tmodN]; omega) | skip) (agree_cons rfl (by first | rfl | (refine congrArg (AV.int _) ?_; simp only [wrap_i64', tdivN, tmodN]; omega) | skip) (trivial)))) (by rw [show 0 + ((k : Int) - 1 - j).toNat * 1 = k - 1 - j by omega]; exact congrArg (fun x => [x]) (dB_set n k j (by omega)))
  · try simp only [zg] at g12
    refine exit rfl (seq ?_)
    have hjk : j = k := by omega
    subst hjk
    refine freezeB 5 (digK n j) rfl rfl (Nat.zero_le _) (Nat.le_refl _) (by rw [dB_len]; omega) (dB_done n j) ?_
    refine reg [] [0] rfl (by decide) ?_
    refine drop 0 (Nat.le_refl _) rfl ?_
    exact retH Tryz.func79 rfl rfl (by rfl) (by rfl)


def dayT (y m q : Nat) : List UInt8 := digK y 4 ++ digK m 2 ++ digK (q + 1) 2
def basT (y m q t : Nat) : List UInt8 := dayT y m q ++ [84] ++ digK (t / 3600 % 24) 2 ++ digK (t / 60 % 60) 2 ++ digK (t % 60) 2 ++ [90]
theorem dayT_len (y m q : Nat) : (dayT y m q).length = 8 := by unfold dayT; simp [digK_len]
theorem basT_len (y m q t : Nat) : (basT y m q t).length = 16 := by unfold basT; simp [digK_len, dayT_len]

theorem day_ok {n y r m q : Nat} (h : DateOf n y r m q) (t : Nat) (ht : t ≤ 253402300799) (hn : n = t / 86400) : FnOK Tryz.prog 38 [.int .i64 t] [] (.str (dayT y m q)) [] := by
  refine FnOK.of_runs Tryz.func38 rfl (Nat.le_of_ble_eq_true rfl) ?_
  refine seq (reg [] [] rfl (by decide) ?_)
  refine seq ?_
  have y1 := h.y1; have y2 := h.y2; have m1 := h.m1; have m2 := h.m2; have l2 := h.l2; have sb := sizeN_bd y m; have hd := dayT_len y m q; have d1 := digK_len y 4; have d2 := digK_len m 2; have d3 := digK_len (q + 1) 2; have d4 := digK_len (t / 3600 % 24) 2; have d5 := digK_len (t / 60 % 60) 2; have d6 := digK_len (t % 60) 2
  refine reg [(1, { res := .tup [.int .i64 y, .int .i64 m, .int .i64 (q + 1 : Nat), .int .i64 (t / 3600 % 24 : Nat), .int .i64 (t / 60 % 60 : Nat), .int .i64 (t % 60 : Nat), .bool true] })] [0] rfl (by and_intros <;> first | exact ⟨⟩ | exact civil_ok h t ht hn) ?_
  refine seq (seq (reg [] [0] rfl (by decide) ?_))
  refine condF rfl (skip (seq (reg [(1, { res := .str (digK y 4) }), (3, { res := .str (digK m 2) }), (6, { res := .str (digK (q + 1) 2) })] [0, 2, 5] rfl (by (try simp only [List.length_append, List.length_cons, List.length_nil]); and_intros <;> first | exact ⟨⟩ | omega | exact put_ok y 4 (by omega) (by omega) | exact put_ok m 2 (by omega) (by omega) | exact put_ok (q + 1) 2 (by omega) (by omega)) ?_)))
  exact retH Tryz.func38 rfl rfl (by rfl) (by rfl)

theorem basic_ok {n y r m q : Nat} (h : DateOf n y r m q) (t : Nat) (ht : t ≤ 253402300799) (hn : n = t / 86400) : FnOK Tryz.prog 77 [.int .i64 t] [] (.str (basT y m q t)) [] := by
  refine FnOK.of_runs Tryz.func77 rfl (Nat.le_of_ble_eq_true rfl) ?_
  refine seq (reg [] [] rfl (by decide) ?_)
  refine seq ?_
  have y1 := h.y1; have y2 := h.y2; have m1 := h.m1; have m2 := h.m2; have l2 := h.l2; have sb := sizeN_bd y m; have hd := dayT_len y m q; have d1 := digK_len y 4; have d2 := digK_len m 2; have d3 := digK_len (q + 1) 2; have d4 := digK_len (t / 3600 % 24) 2; have d5 := digK_len (t / 60 % 60) 2; have d6 := digK_len (t % 60) 2
  refine reg [(1, { res := .tup [.int .i64 y, .int .i64 m, .int .i64 (q + 1 : Nat), .int .i64 (t / 3600 % 24 : Nat), .int .i64 (t / 60 % 60 : Nat), .int .i64 (t % 60 : Nat), .bool true] })] [0] rfl (by and_intros <;> first | exact ⟨⟩ | exact civil_ok h t ht hn) ?_
  refine seq (seq (reg [] [0] rfl (by decide) ?_))
  refine condF rfl (skip (seq (reg [(1, { res := .str (dayT y m q) }), (4, { res := .str (digK (t / 3600 % 24) 2) }), (7, { res := .str (digK (t / 60 % 60) 2) }), (10, { res := .str (digK (t % 60) 2) })] [0, 3, 6, 9] rfl (by (try simp only [List.length_append, List.length_cons, List.length_nil]); and_intros <;> first | exact ⟨⟩ | omega | exact day_ok h t ht hn | exact put_ok (t / 3600 % 24) 2 (by omega) (by omega) | exact put_ok (t / 60 % 60) 2 (by omega) (by omega) | exact put_ok (t % 60) 2 (by omega) (by omega)) ?_)))
  exact retH Tryz.func77 rfl rfl (by rfl) (by rfl)

end Go.Proofs.YtnohmijdpmelpaaGreat
