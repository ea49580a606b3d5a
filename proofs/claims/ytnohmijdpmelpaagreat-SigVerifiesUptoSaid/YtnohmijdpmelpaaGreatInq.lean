/- A claim in the target; a claim. -/
import Derived.Test.YtnohmijdpmelpaaGreatFld
import Derived.Test.YtnohmijdpmelpaaGreatMg
set_option maxRecDepth 100000
set_option linter.unusedVariables false
set_option linter.unusedSimpArgs false
namespace Go.Proofs.YtnohmijdpmelpaaGreat
open Go Go.Am Go.Am.Runs

abbrev qNm : List (List UInt8) := [[88, 45, 65, 109, 122, 45, 65, 108, 103, 111, 114, 105, 116, 104, 109], [88, 45, 65, 109, 122, 45, 67, 114, 101, 100, 101, 110, 116, 105, 97, 108], [88, 45, 65, 109, 122, 45, 68, 97, 116, 101], [88, 45, 65, 109, 122, 45, 69, 120, 112, 105, 114, 101, 115], [88, 45, 65, 109, 122, 45, 83, 105, 103, 110, 101, 100, 72, 101, 97, 100, 101, 114, 115], [88, 45, 65, 109, 122, 45, 83, 105, 103, 110, 97, 116, 117, 114, 101]]
abbrev nmA : AV := .agg [.str [88, 45, 65, 109, 122, 45, 65, 108, 103, 111, 114, 105, 116, 104, 109], .str [88, 45, 65, 109, 122, 45, 67, 114, 101, 100, 101, 110, 116, 105, 97, 108], .str [88, 45, 65, 109, 122, 45, 68, 97, 116, 101], .str [88, 45, 65, 109, 122, 45, 69, 120, 112, 105, 114, 101, 115], .str [88, 45, 65, 109, 122, 45, 83, 105, 103, 110, 101, 100, 72, 101, 97, 100, 101, 114, 115], .str [88, 45, 65, 109, 122, 45, 83, 105, 103, 110, 97, 116, 117, 114, 101]]
def rawQ (q : List Hd) (i : Nat) : List UInt8 := (allL q (qNm.getD i [])).getD 0 []
def uQ (q : List Hd) (i : Nat) : Option (List UInt8) := unescL (rawQ q i)
def vQ (q : List Hd) (i : Nat) : List UInt8 := (uQ q i).getD []
def QOne (q : List Hd) : Prop := ∀ i, i < 6 → (allL q (qNm.getD i [])).length = 1
def QUn (q : List Hd) : Prop := ∀ i, i < 6 → (uQ q i).isSome = true
def QFit (q : List Hd) : Prop := vQ q 0 = algoN ∧ (intF (vQ q 3)).isSome = true ∧ 1 ≤ (intF (vQ q 3)).getD 0 ∧ (intF (vQ q 3)).getD 0 ≤ 604800 ∧ digsL (vQ q 5) = true
instance (q : List Hd) : Decidable (QOne q) := by unfold QOne; exact inferInstance
instance (q : List Hd) : Decidable (QUn q) := by unfold QUn; exact inferInstance
instance (q : List Hd) : Decidable (QFit q) := by unfold QFit; exact inferInstance
def qryC (q : List Hd) : Sum Int Cl := if QOne q then (if QUn q then (if QFit q then .inr ⟨vQ q 1, vQ q 4, vQ q 5, vQ q 2, (intF (vQ q 3)).getD 0, true⟩ else .inl 304) else .inl 331) else .inl 304
def arrN (f : Nat → List UInt8) (i : Nat) : List AV := (List.range 6).map fun j => .str (if j < i then f j else [])
theorem arrN_len (f : Nat → List UInt8) (i : Nat) : (arrN f i).length = 6 := by simp [arrN]
theorem arrN_set (f : Nat → List UInt8) {i : Nat} (hi : i < 6) : (arrN f i).set i (.str (f i)) = arrN f (i + 1) := by
  apply List.ext_getElem?
  intro j
  simp only [arrN, List.getElem?_set, List.getElem?_map, List.length_map, List.length_range]
  by_cases hj : j < 6
  · rw [List.getElem?_range hj]
    by_cases e : i = j
    · subst e
      rw [if_pos rfl, if_pos hi]
      simp
    · rw [if_neg e]
      simp only [Option.map_some]
      by_cases h : j < i
      · rw [if_pos h, if_pos (by omega)]
      · rw [if_neg h, if_neg (by omega)]
  · rw [List.getElem?_eq_none (by simp; omega), if_neg (by omega)]; rfl
theorem arrN_six (f : Nat → List UInt8) : arrN f 6 = [.str (f 0), .str (f 1), .str (f 2), .str (f 3), .str (f 4), .str (f 5)] := rfl
theorem qNm_len (i : Nat) : (qNm.getD i []).length ≤ 100 := by
  match i with
  | 0 => decide
  | 1 => decide
  | 2 => decide
  | 3 => decide
  | 4 => decide
  | 5 => decide
  | i + 6 => exact Nat.zero_le _
theorem allL_mem {q : List Hd} {n : List UInt8} {x : List UInt8} (h : x ∈ allL q n) : x = [] ∨ ∃ p ∈ q, x = p.2 := aN_mem q n q.length x h
theorem rawQ_le {q : List Hd} {B : Nat} (hq : ∀ p ∈ q, p.1.length ≤ B ∧ p.2.length ≤ B) (i : Nat) : (rawQ q i).length ≤ B := by
  refine getD_le (B := B) (fun x hx => ?_) 0
  rcases allL_mem hx with rfl | ⟨p, hp, rfl⟩
  · simp
  · exact (hq p hp).2
theorem vQ_le {q : List Hd} {B : Nat} (hq : ∀ p ∈ q, p.1.length ≤ B ∧ p.2.length ≤ B) (i : Nat) : (vQ q i).length ≤ B := by
  have h := rawQ_le hq i
  unfold vQ
  cases e : uQ q i with
  | none => simp
  | some x => have := unesc_le e; simp only [Option.getD_some]; omega
theorem one_no {q : List Hd} {i : Nat} (hi : i < 6) (h : (allL q (qNm.getD i [])).length ≠ 1) : ¬ QOne q := fun k => h (k i hi)
theorem un_no {q : List Hd} {i : Nat} (hi : i < 6) (h : (uQ q i).isSome = false) : ¬ QUn q := fun k => by rw [k i hi] at h; cases h

theorem names_ok : FnOK Tryz.prog 109 [] [] nmA [] := by
  refine FnOK.of_runs Tryz.func109 rfl (Nat.le_of_ble_eq_true rfl) ?_
  refine seq (reg [] [] rfl (by decide) ?_)
  refine seq (reg [] [] rfl (by and_intros <;> decide) ?_)
  exact retD Tryz.func109 rfl rfl rfl (by rfl) (by rfl) rfl

set_option maxHeartbeats 1000000 in
theorem inq_one (q : List Hd) (hl : q.length ≤ 16777216) (hq : ∀ p ∈ q, p.1.length ≤ 8388608 ∧ p.2.length ≤ 8388608) (hk : ¬ QOne q) : FnOK Tryz.prog 73 [.ptr 0 0, .sl 2 q.length (hdEl q) false] [clZ] (.int .i64 304) [clZ] := by
  refine FnOK.of_runs Tryz.func73 rfl (Nat.le_of_ble_eq_true rfl) ?_
  refine seq (reg [] [] rfl (by decide) ?_)
  refine seq (reg [] [] rfl (by decide) ?_)
  refine seq (seq (reg [(0, { res := nmA })] [] rfl (by and_intros <;> first | decide | exact names_ok) ?_))
  refine block ?_
  -- loop 0
  refine loopF (σ := Nat) (fun i => i ≤ 6 ∧ ∀ j, j < i → (allL q (qNm.getD j [])).length = 1) (fun i => [(0, .ptr 0 0), (1, .sl 2 q.length (hdEl q) false), (5, .ptr 1 0), (16, nmA), (17, .int .i64 i)]) (fun i => [clZ, arrN (rawQ q) i]) (fun i => 6 - i) (0) (by exact ⟨Nat.zero_le _, fun j h => absurd h (Nat.not_lt_zero _)⟩) (by exact agree_cons rfl (by rfl) (agree_cons rfl (by rfl) (agree_cons rfl (by rfl) (agree_cons rfl (by rfl) (agree_cons rfl (by rfl) (trivial)))))) (by rfl) (fun i hi ih => ?_)
  replace hi : i ≤ 6 ∧ ∀ j, j < i → (allL q (qNm.getD j [])).length = 1 := hi; have hi1 := hi.1; have hnl := qNm_len i; have hal := arrN_len (rawQ q) i
  refine seq (reg [] [] rfl (by decide) ?_)
  refine seq ?_
  refine condS rfl (fun g18 => ?_) (fun g18 => ?_)
  · try simp only [zg] at g18
    refine skip (seq (block (seq (reg [(1, { res := .str (qNm.getD i []) })] [0] rfl (by and_intros <;> first | exact ⟨⟩ | omega | exact zl rfl | (have h6 : i = 0 ∨ i = 1 ∨ i = 2 ∨ i = 3 ∨ i = 4 ∨ i = 5 := (by omega); rcases h6 with rfl | rfl | rfl | rfl | rfl | rfl <;> rfl)) ?_))))
    refine seq (reg [(2, { res := .sl 1 (allL q (qNm.getD i [])).length (strEl (allL q (qNm.getD i []))) false })] [0, 1] rfl (by and_intros <;> first | decide | exact all_ok q (qNm.getD i []) (by omega)) ?_)
    refine seq (seq (reg [] [0] rfl (by decide) ?_))
    refine condS rfl (fun g26 => ?_) (fun g26 => ?_)
    · try simp only [zg] at g26
      refine seq (reg [] [] rfl (by decide) ?_)
      refine drop 1 (Nat.le_refl _) rfl ?_
      exact retH Tryz.func73 rfl rfl (by rfl) (by rfl)
    · try simp only [zg] at g26
      refine skip (reg [(3, { res := .str (rawQ q i) })] [0, 1] rfl (by rw [arrN_len] at *; and_intros <;> first | exact ⟨⟩ | omega | rfl) ?_)
      refine inBlock (reg [] [] rfl (by decide) ?_)
      exact ih (i + 1) _ _ (by exact ⟨by omega, fun k hk => by rcases Nat.lt_or_ge k i with h | h; exact hi.2 k h; (rw [show k = i by omega]; omega)⟩) (by omega) (by exact agree_cons rfl (by rfl) (agree_cons rfl (by first | rfl | (refine congrArg (AV.int _) ?_; simp only [wrap_i64', tdivN, tmodN]; omega) | skip) (agree_cons rfl (by first | rfl | (refine congrArg (AV.int _) ?_; simp only [wrap_i64', tdivN, tmodN]; omega) | skip) (agree_cons rfl (by first | rfl | (refine congrArg (AV.int _) ?_; simp only [wrap_i64', tdivN, tmodN]; omega) | skip) (agree_cons rfl (by first | rfl | (refine congrArg (AV.int _) ?_; simp only [wrap_i64', tdivN, tmodN]; omega) | skip) (trivial)))))) (by rw [show 0 + Int.toNat (i : Int) * 1 = i by rw [Int.toNat_natCast]; omega]; exact congrArg (fun x => [clZ, x]) (arrN_set (rawQ q) (by omega)))
  · try simp only [zg] at g18
    exact absurd (fun j hj => hi.2 j (by omega)) hk

set_option maxHeartbeats 1000000 in
theorem inq_un (q : List Hd) (hl : q.length ≤ 16777216) (hq : ∀ p ∈ q, p.1.length ≤ 8388608 ∧ p.2.length ≤ 8388608) (ho : QOne q) (hk : ¬ QUn q) : FnOK Tryz.prog 73 [.ptr 0 0, .sl 2 q.length (hdEl q) false] [clZ] (.int .i64 331) [clZ] := by
  refine FnOK.of_runs Tryz.func73 rfl (Nat.le_of_ble_eq_true rfl) ?_
  refine seq (reg [] [] rfl (by decide) ?_)
  refine seq (reg [] [] rfl (by decide) ?_)
  refine seq (seq (reg [(0, { res := nmA })] [] rfl (by and_intros <;> first | decide | exact names_ok) ?_))
  refine block ?_
  -- loop 0
  refine loopF (σ := Nat) (fun i => i ≤ 6 ∧ ∀ j, j < i → (allL q (qNm.getD j [])).length = 1) (fun i => [(0, .ptr 0 0), (1, .sl 2 q.length (hdEl q) false), (5, .ptr 1 0), (16, nmA), (17, .int .i64 i)]) (fun i => [clZ, arrN (rawQ q) i]) (fun i => 6 - i) (0) (by exact ⟨Nat.zero_le _, fun j h => absurd h (Nat.not_lt_zero _)⟩) (by exact agree_cons rfl (by rfl) (agree_cons rfl (by rfl) (agree_cons rfl (by rfl) (agree_cons rfl (by rfl) (agree_cons rfl (by rfl) (trivial)))))) (by rfl) (fun i hi ih => ?_)
  replace hi : i ≤ 6 ∧ ∀ j, j < i → (allL q (qNm.getD j [])).length = 1 := hi; have hi1 := hi.1; have hnl := qNm_len i; have hal := arrN_len (rawQ q) i
  refine seq (reg [] [] rfl (by decide) ?_)
  refine seq ?_
  refine condS rfl (fun g18 => ?_) (fun g18 => ?_)
  · try simp only [zg] at g18
    refine skip (seq (block (seq (reg [(1, { res := .str (qNm.getD i []) })] [0] rfl (by and_intros <;> first | exact ⟨⟩ | omega | exact zl rfl | (have h6 : i = 0 ∨ i = 1 ∨ i = 2 ∨ i = 3 ∨ i = 4 ∨ i = 5 := (by omega); rcases h6 with rfl | rfl | rfl | rfl | rfl | rfl <;> rfl)) ?_))))
    refine seq (reg [(2, { res := .sl 1 (allL q (qNm.getD i [])).length (strEl (allL q (qNm.getD i []))) false })] [0, 1] rfl (by and_intros <;> first | decide | exact all_ok q (qNm.getD i []) (by omega)) ?_)
    refine seq (seq (reg [] [0] rfl (by decide) ?_))
    refine condS rfl (fun g26 => ?_) (fun g26 => ?_)
    · try simp only [zg] at g26
      exact absurd (ho i (by omega)) (by omega)
    · try simp only [zg] at g26
      refine skip (reg [(3, { res := .str (rawQ q i) })] [0, 1] rfl (by rw [arrN_len] at *; and_intros <;> first | exact ⟨⟩ | omega | rfl) ?_)
      refine inBlock (reg [] [] rfl (by decide) ?_)
      exact ih (i + 1) _ _ (by exact ⟨by omega, fun k hk => by rcases Nat.lt_or_ge k i with h | h; exact hi.2 k h; (rw [show k = i by omega]; omega)⟩) (by omega) (by exact agree_cons rfl (by rfl) (agree_cons rfl (by first | rfl | (refine congrArg (AV.int _) ?_; simp only [wrap_i64', tdivN, tmodN]; omega) | skip) (agree_cons rfl (by first | rfl | (refine congrArg (AV.int _) ?_; simp only [wrap_i64', tdivN, tmodN]; omega) | skip) (agree_cons rfl (by first | rfl | (refine congrArg (AV.int _) ?_; simp only [wrap_i64', tdivN, tmodN]; omega) | skip) (agree_cons rfl (by first | rfl | (refine congrArg (AV.int _) ?_; simp only [wrap_i64', tdivN, tmodN]; omega) | skip) (trivial)))))) (by rw [show 0 + Int.toNat (i : Int) * 1 = i by rw [Int.toNat_natCast]; omega]; exact congrArg (fun x => [clZ, x]) (arrN_set (rawQ q) (by omega)))
  · try simp only [zg] at g18
    refine exit rfl (seq ?_)
    obtain rfl : i = 6 := by omega
    have hone : QOne q := fun j hj => hi.2 j hj
    refine reg [] [] rfl (by decide) ?_
    refine seq (seq (reg [(0, { res := .agg [.str (rawQ q 0), .str (rawQ q 1), .str (rawQ q 2), .str (rawQ q 3), .str (rawQ q 4), .str (rawQ q 5)] })] [] rfl (by and_intros <;> first | exact ⟨⟩ | rfl | exact zl rfl) ?_))
    refine block ?_
    -- loop 1
    refine loopF (σ := Nat) (fun j => j ≤ 6 ∧ ∀ k, k < j → (uQ q k).isSome = true) (fun j => [(0, .ptr 0 0), (9, .ptr 2 0), (33, .agg [.str (rawQ q 0), .str (rawQ q 1), .str (rawQ q 2), .str (rawQ q 3), .str (rawQ q 4), .str (rawQ q 5)]), (34, .int .i64 j)]) (fun j => [clZ, arrN (rawQ q) 6, arrN (vQ q) j]) (fun j => 6 - j) (0) (by exact ⟨Nat.zero_le _, fun j h => absurd h (Nat.not_lt_zero _)⟩) (by exact zag rfl) (by rfl) (fun j hj jh => ?_)
    replace hj : j ≤ 6 ∧ ∀ k, k < j → (uQ q k).isSome = true := hj; have hj1 := hj.1; have hrl := rawQ_le hq j; have hvl := arrN_len (vQ q) j
    refine seq (reg [] [] rfl (by decide) ?_)
    refine seq ?_
    refine condS rfl (fun g35 => ?_) (fun g35 => ?_)
    · try simp only [zg] at g35
      refine skip (seq (block (seq (reg [(1, { res := .str (rawQ q j) })] [0] rfl (by and_intros <;> first | exact ⟨⟩ | omega | exact zl rfl | (have h6 : j = 0 ∨ j = 1 ∨ j = 2 ∨ j = 3 ∨ j = 4 ∨ j = 5 := (by omega); rcases h6 with rfl | rfl | rfl | rfl | rfl | rfl <;> rfl)) ?_))))
      refine seq (reg [(1, { res := .tup [.str (vQ q j), .bool (uQ q j).isSome] })] [0] rfl (by and_intros <;> first | decide | exact cunescF (rawQ q j) (by omega)) ?_)
      refine seq (seq (reg [] [0] rfl (by decide) ?_))
      refine condS rfl (fun g44 => ?_) (fun g44 => ?_)
      · try simp only [zg] at g44
        refine seq (reg [] [] rfl (by decide) ?_)
        refine drop 1 (Nat.le_refl _) rfl ?_
        exact retH Tryz.func73 rfl rfl (by rfl) (by rfl)
      · try simp only [zg] at g44
        refine skip (reg [] [0, 1] rfl (by and_intros <;> first | exact ⟨⟩ | omega) ?_)
        refine inBlock (reg [] [] rfl (by decide) ?_)
        exact jh (j + 1) _ _ (by exact ⟨by omega, fun k hk => by rcases Nat.lt_or_ge k j with h | h; exact hj.2 k h; (rw [show k = j by omega]; simp_all)⟩) (by omega) (by exact agree_cons rfl (by rfl) (agree_cons rfl (by first | rfl | (refine congrArg (AV.int _) ?_; simp only [wrap_i64', tdivN, tmodN]; omega) | skip) (agree_cons rfl (by first | rfl | (refine congrArg (AV.int _) ?_; simp only [wrap_i64', tdivN, tmodN]; omega) | skip) (agree_cons rfl (by first | rfl | (refine congrArg (AV.int _) ?_; simp only [wrap_i64', tdivN, tmodN]; omega) | skip) (trivial))))) (by rw [show 0 + Int.toNat (j : Int) * 1 = j by rw [Int.toNat_natCast]; omega]; exact congrArg (fun x => [clZ, arrN (rawQ q) 6, x]) (arrN_set (vQ q) (by omega)))
    · try simp only [zg] at g35
      exact absurd (fun j hk => hj.2 j (by omega)) hk

set_option maxHeartbeats 1000000 in
theorem inq_fit (q : List Hd) (hl : q.length ≤ 16777216) (hq : ∀ p ∈ q, p.1.length ≤ 8388608 ∧ p.2.length ≤ 8388608) (ho : QOne q) (hu : QUn q) (hk : ¬ QFit q) : FnOK Tryz.prog 73 [.ptr 0 0, .sl 2 q.length (hdEl q) false] [clZ] (.int .i64 304) [clZ] := by
  refine FnOK.of_runs Tryz.func73 rfl (Nat.le_of_ble_eq_true rfl) ?_
  refine seq (reg [] [] rfl (by decide) ?_)
  refine seq (reg [] [] rfl (by decide) ?_)
  refine seq (seq (reg [(0, { res := nmA })] [] rfl (by and_intros <;> first | decide | exact names_ok) ?_))
  refine block ?_
  -- loop 0
  refine loopF (σ := Nat) (fun i => i ≤ 6 ∧ ∀ j, j < i → (allL q (qNm.getD j [])).length = 1) (fun i => [(0, .ptr 0 0), (1, .sl 2 q.length (hdEl q) false), (5, .ptr 1 0), (16, nmA), (17, .int .i64 i)]) (fun i => [clZ, arrN (rawQ q) i]) (fun i => 6 - i) (0) (by exact ⟨Nat.zero_le _, fun j h => absurd h (Nat.not_lt_zero _)⟩) (by exact agree_cons rfl (by rfl) (agree_cons rfl (by rfl) (agree_cons rfl (by rfl) (agree_cons rfl (by rfl) (agree_cons rfl (by rfl) (trivial)))))) (by rfl) (fun i hi ih => ?_)
  replace hi : i ≤ 6 ∧ ∀ j, j < i → (allL q (qNm.getD j [])).length = 1 := hi; have hi1 := hi.1; have hnl := qNm_len i; have hal := arrN_len (rawQ q) i
  refine seq (reg [] [] rfl (by decide) ?_)
  refine seq ?_
  refine condS rfl (fun g18 => ?_) (fun g18 => ?_)
  · try simp only [zg] at g18
    refine skip (seq (block (seq (reg [(1, { res := .str (qNm.getD i []) })] [0] rfl (by and_intros <;> first | exact ⟨⟩ | omega | exact zl rfl | (have h6 : i = 0 ∨ i = 1 ∨ i = 2 ∨ i = 3 ∨ i = 4 ∨ i = 5 := (by omega); rcases h6 with rfl | rfl | rfl | rfl | rfl | rfl <;> rfl)) ?_))))
    refine seq (reg [(2, { res := .sl 1 (allL q (qNm.getD i [])).length (strEl (allL q (qNm.getD i []))) false })] [0, 1] rfl (by and_intros <;> first | decide | exact all_ok q (qNm.getD i []) (by omega)) ?_)
    refine seq (seq (reg [] [0] rfl (by decide) ?_))
    refine condS rfl (fun g26 => ?_) (fun g26 => ?_)
    · try simp only [zg] at g26
      exact absurd (ho i (by omega)) (by omega)
    · try simp only [zg] at g26
      refine skip (reg [(3, { res := .str (rawQ q i) })] [0, 1] rfl (by rw [arrN_len] at *; and_intros <;> first | exact ⟨⟩ | omega | rfl) ?_)
      refine inBlock (reg [] [] rfl (by decide) ?_)
      exact ih (i + 1) _ _ (by exact ⟨by omega, fun k hk => by rcases Nat.lt_or_ge k i with h | h; exact hi.2 k h; (rw [show k = i by omega]; omega)⟩) (by omega) (by exact agree_cons rfl (by rfl) (agree_cons rfl (by first | rfl | (refine congrArg (AV.int _) ?_; simp only [wrap_i64', tdivN, tmodN]; omega) | skip) (agree_cons rfl (by first | rfl | (refine congrArg (AV.int _) ?_; simp only [wrap_i64', tdivN, tmodN]; omega) | skip) (agree_cons rfl (by first | rfl | (refine congrArg (AV.int _) ?_; simp only [wrap_i64', tdivN, tmodN]; omega) | skip) (agree_cons rfl (by first | rfl | (refine congrArg (AV.int _) ?_; simp only [wrap_i64', tdivN, tmodN]; omega) | skip) (trivial)))))) (by rw [show 0 + Int.toNat (i : Int) * 1 = i by rw [Int.toNat_natCast]; omega]; exact congrArg (fun x => [clZ, x]) (arrN_set (rawQ q) (by omega)))
  · try simp only [zg] at g18
    refine exit rfl (seq ?_)
    obtain rfl : i = 6 := by omega
    have hone : QOne q := fun j hj => hi.2 j hj
    refine reg [] [] rfl (by decide) ?_
    refine seq (seq (reg [(0, { res := .agg [.str (rawQ q 0), .str (rawQ q 1), .str (rawQ q 2), .str (rawQ q 3), .str (rawQ q 4), .str (rawQ q 5)] })] [] rfl (by and_intros <;> first | exact ⟨⟩ | rfl | exact zl rfl) ?_))
    refine block ?_
    -- loop 1
    refine loopF (σ := Nat) (fun j => j ≤ 6 ∧ ∀ k, k < j → (uQ q k).isSome = true) (fun j => [(0, .ptr 0 0), (9, .ptr 2 0), (33, .agg [.str (rawQ q 0), .str (rawQ q 1), .str (rawQ q 2), .str (rawQ q 3), .str (rawQ q 4), .str (rawQ q 5)]), (34, .int .i64 j)]) (fun j => [clZ, arrN (rawQ q) 6, arrN (vQ q) j]) (fun j => 6 - j) (0) (by exact ⟨Nat.zero_le _, fun j h => absurd h (Nat.not_lt_zero _)⟩) (by exact zag rfl) (by rfl) (fun j hj jh => ?_)
    replace hj : j ≤ 6 ∧ ∀ k, k < j → (uQ q k).isSome = true := hj; have hj1 := hj.1; have hrl := rawQ_le hq j; have hvl := arrN_len (vQ q) j
    refine seq (reg [] [] rfl (by decide) ?_)
    refine seq ?_
    refine condS rfl (fun g35 => ?_) (fun g35 => ?_)
    · try simp only [zg] at g35
      refine skip (seq (block (seq (reg [(1, { res := .str (rawQ q j) })] [0] rfl (by and_intros <;> first | exact ⟨⟩ | omega | exact zl rfl | (have h6 : j = 0 ∨ j = 1 ∨ j = 2 ∨ j = 3 ∨ j = 4 ∨ j = 5 := (by omega); rcases h6 with rfl | rfl | rfl | rfl | rfl | rfl <;> rfl)) ?_))))
      refine seq (reg [(1, { res := .tup [.str (vQ q j), .bool (uQ q j).isSome] })] [0] rfl (by and_intros <;> first | decide | exact cunescF (rawQ q j) (by omega)) ?_)
      refine seq (seq (reg [] [0] rfl (by decide) ?_))
      refine condS rfl (fun g44 => ?_) (fun g44 => ?_)
      · try simp only [zg] at g44
        exact absurd (hu j (by omega)) (by simp_all)
      · try simp only [zg] at g44
        refine skip (reg [] [0, 1] rfl (by and_intros <;> first | exact ⟨⟩ | omega) ?_)
        refine inBlock (reg [] [] rfl (by decide) ?_)
        exact jh (j + 1) _ _ (by exact ⟨by omega, fun k hk => by rcases Nat.lt_or_ge k j with h | h; exact hj.2 k h; (rw [show k = j by omega]; simp_all)⟩) (by omega) (by exact agree_cons rfl (by rfl) (agree_cons rfl (by first | rfl | (refine congrArg (AV.int _) ?_; simp only [wrap_i64', tdivN, tmodN]; omega) | skip) (agree_cons rfl (by first | rfl | (refine congrArg (AV.int _) ?_; simp only [wrap_i64', tdivN, tmodN]; omega) | skip) (agree_cons rfl (by first | rfl | (refine congrArg (AV.int _) ?_; simp only [wrap_i64', tdivN, tmodN]; omega) | skip) (trivial))))) (by rw [show 0 + Int.toNat (j : Int) * 1 = j by rw [Int.toNat_natCast]; omega]; exact congrArg (fun x => [clZ, arrN (rawQ q) 6, x]) (arrN_set (vQ q) (by omega)))
    · try simp only [zg] at g35
      refine exit rfl (seq ?_)
      obtain rfl : j = 6 := by omega
      have hqun : QUn q := fun k hk => hj.2 k hk
      have w1 := vQ_le hq 3; have w2 := vQ_le hq 5; have w3 := vQ_le hq 4
      refine heap (H2 := [clZ, arrN (rawQ q) 6, [.str (vQ q 0), .str (vQ q 1), .str (vQ q 2), .str (vQ q 3), .str (vQ q 4), .str (vQ q 5)]]) (by rw [arrN_six (vQ q)]) ?_
      refine reg [(2, { res := .tup [.int .i64 ((intF (vQ q 3)).getD 0 : Nat), .bool (intF (vQ q 3)).isSome] })] [] rfl (by and_intros <;> first | decide | exact int_ok (vQ q 3) (by omega)) ?_
      refine seq (seq (region (restTo 4 [(18, { res := .bool (digsL (vQ q 5)) })] [4, 8, 12] rfl (by and_intros <;> decide) ?_)))
      refine splitS 58 rfl (fun g58 => ?_) (fun g58 => ?_)
      · try simp only [zg] at g58
        refine rest [(18, { res := .bool (digsL (vQ q 5)) })] [4, 8, 12] rfl (by and_intros <;> decide) ?_
        refine condT rfl (seq (reg [] [] rfl (by decide) ?_))
        refine drop 1 (Nat.le_refl _) rfl ?_
        exact retH Tryz.func73 rfl rfl (by rfl) (by rfl)
      · try simp only [zg] at g58
        refine restTo 4 [(18, { res := .bool (digsL (vQ q 5)) })] [4, 8, 12] rfl (by and_intros <;> decide) ?_
        refine splitS 62 rfl (fun g62 => ?_) (fun g62 => ?_)
        · try simp only [zg] at g62
          refine rest [(18, { res := .bool (digsL (vQ q 5)) })] [4, 8, 12] rfl (by and_intros <;> decide) ?_
          refine condT rfl (seq (reg [] [] rfl (by decide) ?_))
          refine drop 1 (Nat.le_refl _) rfl ?_
          exact retH Tryz.func73 rfl rfl (by rfl) (by rfl)
        · try simp only [zg] at g62
          refine restTo 4 [(18, { res := .bool (digsL (vQ q 5)) })] [4, 8, 12] rfl (by and_intros <;> decide) ?_
          refine splitS 66 rfl (fun g66 => ?_) (fun g66 => ?_)
          · try simp only [zg] at g66
            refine rest [(18, { res := .bool (digsL (vQ q 5)) })] [4, 8, 12] rfl (by and_intros <;> decide) ?_
            refine condT rfl (seq (reg [] [] rfl (by decide) ?_))
            refine drop 1 (Nat.le_refl _) rfl ?_
            exact retH Tryz.func73 rfl rfl (by rfl) (by rfl)
          · try simp only [zg] at g66
            refine restTo 4 [(18, { res := .bool (digsL (vQ q 5)) })] [4, 8, 12] rfl (by and_intros <;> decide) ?_
            refine splitS 70 rfl (fun g70 => ?_) (fun g70 => ?_)
            · try simp only [zg] at g70
              refine rest [(18, { res := .bool (digsL (vQ q 5)) })] [4, 8, 12] rfl (by and_intros <;> decide) ?_
              refine condT rfl (seq (reg [] [] rfl (by decide) ?_))
              refine drop 1 (Nat.le_refl _) rfl ?_
              exact retH Tryz.func73 rfl rfl (by rfl) (by rfl)
            · try simp only [zg] at g70
              refine rest [(18, { res := .bool (digsL (vQ q 5)) })] [4, 8, 12] rfl (by and_intros <;> first | decide | exact cdigits_ok (vQ q 5) (by omega)) ?_
              refine condS rfl (fun g75 => ?_) (fun g75 => ?_)
              · try simp only [zg] at g75
                refine seq (reg [] [] rfl (by decide) ?_)
                refine drop 1 (Nat.le_refl _) rfl ?_
                exact retH Tryz.func73 rfl rfl (by rfl) (by rfl)
              · try simp only [zg] at g75
                exact absurd (show QFit q by unfold QFit; refine ⟨?_, ?_, ?_, ?_, ?_⟩ <;> omega) hk

set_option maxHeartbeats 1000000 in
theorem inq_ok (q : List Hd) (hl : q.length ≤ 16777216) (hq : ∀ p ∈ q, p.1.length ≤ 8388608 ∧ p.2.length ≤ 8388608) (ho : QOne q) (hu : QUn q) (hk : QFit q) : FnOK Tryz.prog 73 [.ptr 0 0, .sl 2 q.length (hdEl q) false] [clZ] (.int .i64 0) [clB (vQ q 1) (vQ q 2) (vQ q 5) (splitL (vQ q 4) 59) ((intF (vQ q 3)).getD 0) true unsP] := by
  refine FnOK.of_runs Tryz.func73 rfl (Nat.le_of_ble_eq_true rfl) ?_
  refine seq (reg [] [] rfl (by decide) ?_)
  refine seq (reg [] [] rfl (by decide) ?_)
  refine seq (seq (reg [(0, { res := nmA })] [] rfl (by and_intros <;> first | decide | exact names_ok) ?_))
  refine block ?_
  -- loop 0
  refine loopF (σ := Nat) (fun i => i ≤ 6 ∧ ∀ j, j < i → (allL q (qNm.getD j [])).length = 1) (fun i => [(0, .ptr 0 0), (1, .sl 2 q.length (hdEl q) false), (5, .ptr 1 0), (16, nmA), (17, .int .i64 i)]) (fun i => [clZ, arrN (rawQ q) i]) (fun i => 6 - i) (0) (by exact ⟨Nat.zero_le _, fun j h => absurd h (Nat.not_lt_zero _)⟩) (by exact agree_cons rfl (by rfl) (agree_cons rfl (by rfl) (agree_cons rfl (by rfl) (agree_cons rfl (by rfl) (agree_cons rfl (by rfl) (trivial)))))) (by rfl) (fun i hi ih => ?_)
  replace hi : i ≤ 6 ∧ ∀ j, j < i → (allL q (qNm.getD j [])).length = 1 := hi; have hi1 := hi.1; have hnl := qNm_len i; have hal := arrN_len (rawQ q) i
  refine seq (reg [] [] rfl (by decide) ?_)
  refine seq ?_
  refine condS rfl (fun g18 => ?_) (fun g18 => ?_)
  · try simp only [zg] at g18
    refine skip (seq (block (seq (reg [(1, { res := .str (qNm.getD i []) })] [0] rfl (by and_intros <;> first | exact ⟨⟩ | omega | exact zl rfl | (have h6 : i = 0 ∨ i = 1 ∨ i = 2 ∨ i = 3 ∨ i = 4 ∨ i = 5 := (by omega); rcases h6 with rfl | rfl | rfl | rfl | rfl | rfl <;> rfl)) ?_))))
    refine seq (reg [(2, { res := .sl 1 (allL q (qNm.getD i [])).length (strEl (allL q (qNm.getD i []))) false })] [0, 1] rfl (by and_intros <;> first | decide | exact all_ok q (qNm.getD i []) (by omega)) ?_)
    refine seq (seq (reg [] [0] rfl (by decide) ?_))
    refine condS rfl (fun g26 => ?_) (fun g26 => ?_)
    · try simp only [zg] at g26
      exact absurd (ho i (by omega)) (by omega)
    · try simp only [zg] at g26
      refine skip (reg [(3, { res := .str (rawQ q i) })] [0, 1] rfl (by rw [arrN_len] at *; and_intros <;> first | exact ⟨⟩ | omega | rfl) ?_)
      refine inBlock (reg [] [] rfl (by decide) ?_)
      exact ih (i + 1) _ _ (by exact ⟨by omega, fun k hk => by rcases Nat.lt_or_ge k i with h | h; exact hi.2 k h; (rw [show k = i by omega]; omega)⟩) (by omega) (by exact agree_cons rfl (by rfl) (agree_cons rfl (by first | rfl | (refine congrArg (AV.int _) ?_; simp only [wrap_i64', tdivN, tmodN]; omega) | skip) (agree_cons rfl (by first | rfl | (refine congrArg (AV.int _) ?_; simp only [wrap_i64', tdivN, tmodN]; omega) | skip) (agree_cons rfl (by first | rfl | (refine congrArg (AV.int _) ?_; simp only [wrap_i64', tdivN, tmodN]; omega) | skip) (agree_cons rfl (by first | rfl | (refine congrArg (AV.int _) ?_; simp only [wrap_i64', tdivN, tmodN]; omega) | skip) (trivial)))))) (by rw [show 0 + Int.toNat (i : Int) * 1 = i by rw [Int.toNat_natCast]; omega]; exact congrArg (fun x => [clZ, x]) (arrN_set (rawQ q) (by omega)))
  · try simp only [zg] at g18
    refine exit rfl (seq ?_)
    obtain rfl : i = 6 := by omega
    have hone : QOne q := fun j hj => hi.2 j hj
    refine reg [] [] rfl (by decide) ?_
    refine seq (seq (reg [(0, { res := .agg [.str (rawQ q 0), .str (rawQ q 1), .str (rawQ q 2), .str (rawQ q 3), .str (rawQ q 4), .str (rawQ q 5)] })] [] rfl (by and_intros <;> first | exact ⟨⟩ | rfl | exact zl rfl) ?_))
    refine block ?_
    -- loop 1
    refine loopF (σ := Nat) (fun j => j ≤ 6 ∧ ∀ k, k < j → (uQ q k).isSome = true) (fun j => [(0, .ptr 0 0), (9, .ptr 2 0), (33, .agg [.str (rawQ q 0), .str (rawQ q 1), .str (rawQ q 2), .str (rawQ q 3), .str (rawQ q 4), .str (rawQ q 5)]), (34, .int .i64 j)]) (fun j => [clZ, arrN (rawQ q) 6, arrN (vQ q) j]) (fun j => 6 - j) (0) (by exact ⟨Nat.zero_le _, fun j h => absurd h (Nat.not_lt_zero _)⟩) (by exact zag rfl) (by rfl) (fun j hj jh => ?_)
    replace hj : j ≤ 6 ∧ ∀ k, k < j → (uQ q k).isSome = true := hj; have hj1 := hj.1; have hrl := rawQ_le hq j; have hvl := arrN_len (vQ q) j
    refine seq (reg [] [] rfl (by decide) ?_)
    refine seq ?_
    refine condS rfl (fun g35 => ?_) (fun g35 => ?_)
    · try simp only [zg] at g35
      refine skip (seq (block (seq (reg [(1, { res := .str (rawQ q j) })] [0] rfl (by and_intros <;> first | exact ⟨⟩ | omega | exact zl rfl | (have h6 : j = 0 ∨ j = 1 ∨ j = 2 ∨ j = 3 ∨ j = 4 ∨ j = 5 := (by omega); rcases h6 with rfl | rfl | rfl | rfl | rfl | rfl <;> rfl)) ?_))))
      refine seq (reg [(1, { res := .tup [.str (vQ q j), .bool (uQ q j).isSome] })] [0] rfl (by and_intros <;> first | decide | exact cunescF (rawQ q j) (by omega)) ?_)
      refine seq (seq (reg [] [0] rfl (by decide) ?_))
      refine condS rfl (fun g44 => ?_) (fun g44 => ?_)
      · try simp only [zg] at g44
        exact absurd (hu j (by omega)) (by simp_all)
      · try simp only [zg] at g44
        refine skip (reg [] [0, 1] rfl (by and_intros <;> first | exact ⟨⟩ | omega) ?_)
        refine inBlock (reg [] [] rfl (by decide) ?_)
        exact jh (j + 1) _ _ (by exact ⟨by omega, fun k hk => by rcases Nat.lt_or_ge k j with h | h; exact hj.2 k h; (rw [show k = j by omega]; simp_all)⟩) (by omega) (by exact agree_cons rfl (by rfl) (agree_cons rfl (by first | rfl | (refine congrArg (AV.int _) ?_; simp only [wrap_i64', tdivN, tmodN]; omega) | skip) (agree_cons rfl (by first | rfl | (refine congrArg (AV.int _) ?_; simp only [wrap_i64', tdivN, tmodN]; omega) | skip) (agree_cons rfl (by first | rfl | (refine congrArg (AV.int _) ?_; simp only [wrap_i64', tdivN, tmodN]; omega) | skip) (trivial))))) (by rw [show 0 + Int.toNat (j : Int) * 1 = j by rw [Int.toNat_natCast]; omega]; exact congrArg (fun x => [clZ, arrN (rawQ q) 6, x]) (arrN_set (vQ q) (by omega)))
    · try simp only [zg] at g35
      refine exit rfl (seq ?_)
      obtain rfl : j = 6 := by omega
      have hqun : QUn q := fun k hk => hj.2 k hk
      have w1 := vQ_le hq 3; have w2 := vQ_le hq 5; have w3 := vQ_le hq 4
      refine heap (H2 := [clZ, arrN (rawQ q) 6, [.str (vQ q 0), .str (vQ q 1), .str (vQ q 2), .str (vQ q 3), .str (vQ q 4), .str (vQ q 5)]]) (by rw [arrN_six (vQ q)]) ?_
      refine reg [(2, { res := .tup [.int .i64 ((intF (vQ q 3)).getD 0 : Nat), .bool (intF (vQ q 3)).isSome] })] [] rfl (by and_intros <;> first | decide | exact int_ok (vQ q 3) (by omega)) ?_
      refine seq (seq (region (restTo 4 [(18, { res := .bool (digsL (vQ q 5)) })] [4, 8, 12] rfl (by and_intros <;> decide) ?_)))
      refine splitS 58 rfl (fun g58 => ?_) (fun g58 => ?_)
      · try simp only [zg] at g58
        obtain ⟨k1, k2, k3, k4, k5⟩ := hk; exfalso; (simp_all; done)
      · try simp only [zg] at g58
        refine restTo 4 [(18, { res := .bool (digsL (vQ q 5)) })] [4, 8, 12] rfl (by and_intros <;> decide) ?_
        refine splitS 62 rfl (fun g62 => ?_) (fun g62 => ?_)
        · try simp only [zg] at g62
          obtain ⟨k1, k2, k3, k4, k5⟩ := hk; exfalso; (simp_all; done)
        · try simp only [zg] at g62
          refine restTo 4 [(18, { res := .bool (digsL (vQ q 5)) })] [4, 8, 12] rfl (by and_intros <;> decide) ?_
          refine splitS 66 rfl (fun g66 => ?_) (fun g66 => ?_)
          · try simp only [zg] at g66
            obtain ⟨k1, k2, k3, k4, k5⟩ := hk; exfalso; omega
          · try simp only [zg] at g66
            refine restTo 4 [(18, { res := .bool (digsL (vQ q 5)) })] [4, 8, 12] rfl (by and_intros <;> decide) ?_
            refine splitS 70 rfl (fun g70 => ?_) (fun g70 => ?_)
            · try simp only [zg] at g70
              obtain ⟨k1, k2, k3, k4, k5⟩ := hk; exfalso; omega
            · try simp only [zg] at g70
              refine rest [(18, { res := .bool (digsL (vQ q 5)) })] [4, 8, 12] rfl (by and_intros <;> first | decide | exact cdigits_ok (vQ q 5) (by omega)) ?_
              refine condS rfl (fun g75 => ?_) (fun g75 => ?_)
              · try simp only [zg] at g75
                obtain ⟨k1, k2, k3, k4, k5⟩ := hk; exfalso; (simp_all; done)
              · try simp only [zg] at g75
                refine skip (seq (regX [(6, { L := [2], res := .str (vQ q 1) }), (8, { L := [2], res := .str (vQ q 2) }), (11, { L := [2], res := .str (vQ q 4) }), (12, { res := .sl 1 (splitL (vQ q 4) 59).length (strEl (splitL (vQ q 4) 59)) false }), (14, { L := [2], res := .str (vQ q 5) }), (17, { L := [0], res := .bad }), (20, { L := [0], res := .bad }), (23, { L := [0], res := .bad }), (26, { L := [0], res := .bad }), (29, { L := [0], res := .bad })] [0, 1, 2, 3, 4, 9] rfl rfl rfl (by and_intros <;> first | exact zl rfl | decide | rfl | exact split_ok (vQ q 4) 59 (by omega)) ?_))
                refine seq (reg [] [0, 1] rfl (by and_intros <;> first | exact zl rfl | decide) ?_)
                refine seq (reg [] [] rfl (by decide) ?_)
                refine drop 1 (Nat.le_refl _) rfl ?_
                exact retH Tryz.func73 rfl rfl (by rfl) (by rfl)

end Go.Proofs.YtnohmijdpmelpaaGreat
set_option maxRecDepth 100000
set_option linter.unusedVariables false
set_option linter.unusedSimpArgs false
namespace Go.Proofs.YtnohmijdpmelpaaGreat
open Go Go.Am Go.Am.Runs

abbrev authL (hd : List Hd) : List (List UInt8) := allL hd authN
abbrev xsgL (t : List UInt8) : List (List UInt8) := allL (queryQ t) xsigN
/-- who asks: an error, or a claim -/
def claimC (t : List UInt8) (hd : List Hd) : Sum Int Cl :=
  if (authL hd).length = 0 ∧ (xsgL t).length = 0 then .inl 300
  else if (0 < (authL hd).length ∧ 0 < (xsgL t).length) ∨ 1 < (authL hd).length then .inl 332
  else if 0 < (xsgL t).length then qryC (queryQ t) else hdrC hd ((authL hd).getD 0 [])
abbrev rqB (m t : List UInt8) (hd : List Hd) (body : List UInt8) : List AV := [.str m, .str t, .sl 2 hd.length (hdEl hd) false, .bs body false]
/-- bounds on a request -/
structure RB (t : List UInt8) (hd : List Hd) : Prop where
  lt : t.length ≤ 2097152
  lh : hd.length ≤ 4194304
  lv : ∀ p ∈ hd, p.1.length ≤ 4194304 ∧ p.2.length ≤ 4194304
theorem RB.q {t hd} (b : RB t hd) : (queryQ t).length ≤ 16777216 ∧ ∀ p ∈ queryQ t, p.1.length ≤ 8388608 ∧ p.2.length ≤ 8388608 := by
  have h1 := queryQ_len t
  have h2 := query_part t
  have := b.lt
  exact ⟨by omega, fun p hp => by have := h2 p hp; omega⟩
theorem RB.auth {t hd} (b : RB t hd) (n : List UInt8) (i : Nat) : ((allL hd n).getD i []).length ≤ 4194304 := by
  refine getD_le (B := 4194304) (fun x hx => ?_) i
  rcases allL_mem hx with rfl | ⟨p, hp, rfl⟩
  · simp
  · exact (b.lv p hp).2

theorem clm_300 (m t : List UInt8) (hd : List Hd) (body : List UInt8) (o : Bool) (b : RB t hd) (hl1 : (authL hd).length = 0) (hl2 : (xsgL t).length = 0) : FnOK Tryz.prog 36 [.agg [.str m, .str t, .sl 2 hd.length (hdEl hd) false, .bs body o]] [] (.tup [.bad, .int .i64 300]) [] := by
  refine FnOK.of_runs Tryz.func36 rfl (Nat.le_of_ble_eq_true rfl) ?_
  refine seq (reg [] [] rfl (by decide) ?_)
  refine seq ?_
  have hb := b.lt; have hh := b.lh; have hq := b.q; have hau : ((authL hd).getD 0 []).length ≤ 4194304 := b.auth authN 0
  refine reg [(2, { res := .tup [.str (queryP t), .sl 2 (queryQ t).length (hdEl (queryQ t)) false] })] [] rfl (by and_intros <;> first | decide | exact query_ok t (by omega)) ?_
  refine seq (reg [(2, { res := .sl 1 (authL hd).length (strEl (authL hd)) false })] [] rfl (by and_intros <;> first | decide | exact all_ok hd authN (by omega)) ?_)
  refine seq ?_
  refine reg [(1, { res := .sl 1 (xsgL t).length (strEl (xsgL t)) false }), (3, { res := .bool false })] [0] rfl (by and_intros <;> first | decide | exact all_ok (queryQ t) xsigN (by omega) | (refine congrArg AV.bool ?_; simp only [decide_eq_true_eq, decide_eq_false_iff_not, notT, notF, beq_iff_eq, beq_eq_false_iff_ne, bne_iff_ne, bne_eq_false_iff_eq, tmodN, tdivN, Int.not_lt, Int.not_le]; omega)) ?_
  refine seq (reg [] [] rfl (by decide) ?_)
  refine seq (block (seq (region ?_)))
  refine rest [(2, { res := .bool true })] [0, 4] rfl (by and_intros <;> first | decide | (refine congrArg AV.bool ?_; simp only [decide_eq_true_eq, decide_eq_false_iff_not, notT, notF, beq_iff_eq, beq_eq_false_iff_ne, bne_iff_ne, bne_eq_false_iff_eq, tmodN, tdivN, Int.not_lt, Int.not_le]; omega)) ?_
  refine condT rfl (seq (reg [] [] rfl (by decide) ?_))
  refine drop 0 (Nat.zero_le _) rfl ?_
  exact frame [(2, .bad), (3, .int .i64 300)] (by exact agree_imp rfl (Imp.bad _) rfl rfl (agree_cons rfl (by rfl) trivial)) (retH Tryz.func36 rfl rfl (by rfl) (by rfl))

theorem clm_332a (m t : List UInt8) (hd : List Hd) (body : List UInt8) (o : Bool) (b : RB t hd) (hl1 : 0 < (authL hd).length) (hl2 : 0 < (xsgL t).length) : FnOK Tryz.prog 36 [.agg [.str m, .str t, .sl 2 hd.length (hdEl hd) false, .bs body o]] [] (.tup [.bad, .int .i64 332]) [] := by
  refine FnOK.of_runs Tryz.func36 rfl (Nat.le_of_ble_eq_true rfl) ?_
  refine seq (reg [] [] rfl (by decide) ?_)
  refine seq ?_
  have hb := b.lt; have hh := b.lh; have hq := b.q; have hau : ((authL hd).getD 0 []).length ≤ 4194304 := b.auth authN 0
  refine reg [(2, { res := .tup [.str (queryP t), .sl 2 (queryQ t).length (hdEl (queryQ t)) false] })] [] rfl (by and_intros <;> first | decide | exact query_ok t (by omega)) ?_
  refine seq (reg [(2, { res := .sl 1 (authL hd).length (strEl (authL hd)) false })] [] rfl (by and_intros <;> first | decide | exact all_ok hd authN (by omega)) ?_)
  refine seq ?_
  refine reg [(1, { res := .sl 1 (xsgL t).length (strEl (xsgL t)) false }), (3, { res := .bool true })] [0] rfl (by and_intros <;> first | decide | exact all_ok (queryQ t) xsigN (by omega) | (refine congrArg AV.bool ?_; simp only [decide_eq_true_eq, decide_eq_false_iff_not, notT, notF, beq_iff_eq, beq_eq_false_iff_ne, bne_iff_ne, bne_eq_false_iff_eq, tmodN, tdivN, Int.not_lt, Int.not_le]; omega)) ?_
  refine seq (reg [] [] rfl (by decide) ?_)
  refine seq (block (seq (region ?_)))
  refine rest [(2, { res := .bool false })] [0, 4] rfl (by and_intros <;> first | decide | (refine congrArg AV.bool ?_; simp only [decide_eq_true_eq, decide_eq_false_iff_not, notT, notF, beq_iff_eq, beq_eq_false_iff_ne, bne_iff_ne, bne_eq_false_iff_eq, tmodN, tdivN, Int.not_lt, Int.not_le]; omega)) ?_
  refine condF rfl (seq (seq (region ?_)))
  refine rest [(2, { res := .bool true })] [0, 4] rfl (by and_intros <;> first | decide | (refine congrArg AV.bool ?_; simp only [decide_eq_true_eq, decide_eq_false_iff_not, notT, notF, beq_iff_eq, beq_eq_false_iff_ne, bne_iff_ne, bne_eq_false_iff_eq, tmodN, tdivN, Int.not_lt, Int.not_le]; omega)) ?_
  refine condT rfl (skip (condT rfl (seq (reg [] [] rfl (by decide) ?_))))
  refine drop 0 (Nat.zero_le _) rfl ?_
  exact frame [(2, .bad), (3, .int .i64 332)] (by exact agree_imp rfl (Imp.bad _) rfl rfl (agree_cons rfl (by rfl) trivial)) (retH Tryz.func36 rfl rfl (by rfl) (by rfl))

theorem clm_332b (m t : List UInt8) (hd : List Hd) (body : List UInt8) (o : Bool) (b : RB t hd) (hl1 : 1 < (authL hd).length) (hl2 : (xsgL t).length = 0) : FnOK Tryz.prog 36 [.agg [.str m, .str t, .sl 2 hd.length (hdEl hd) false, .bs body o]] [] (.tup [.bad, .int .i64 332]) [] := by
  refine FnOK.of_runs Tryz.func36 rfl (Nat.le_of_ble_eq_true rfl) ?_
  refine seq (reg [] [] rfl (by decide) ?_)
  refine seq ?_
  have hb := b.lt; have hh := b.lh; have hq := b.q; have hau : ((authL hd).getD 0 []).length ≤ 4194304 := b.auth authN 0
  refine reg [(2, { res := .tup [.str (queryP t), .sl 2 (queryQ t).length (hdEl (queryQ t)) false] })] [] rfl (by and_intros <;> first | decide | exact query_ok t (by omega)) ?_
  refine seq (reg [(2, { res := .sl 1 (authL hd).length (strEl (authL hd)) false })] [] rfl (by and_intros <;> first | decide | exact all_ok hd authN (by omega)) ?_)
  refine seq ?_
  refine reg [(1, { res := .sl 1 (xsgL t).length (strEl (xsgL t)) false }), (3, { res := .bool false })] [0] rfl (by and_intros <;> first | decide | exact all_ok (queryQ t) xsigN (by omega) | (refine congrArg AV.bool ?_; simp only [decide_eq_true_eq, decide_eq_false_iff_not, notT, notF, beq_iff_eq, beq_eq_false_iff_ne, bne_iff_ne, bne_eq_false_iff_eq, tmodN, tdivN, Int.not_lt, Int.not_le]; omega)) ?_
  refine seq (reg [] [] rfl (by decide) ?_)
  refine seq (block (seq (region ?_)))
  refine rest [(2, { res := .bool false })] [0, 4] rfl (by and_intros <;> first | decide | (refine congrArg AV.bool ?_; simp only [decide_eq_true_eq, decide_eq_false_iff_not, notT, notF, beq_iff_eq, beq_eq_false_iff_ne, bne_iff_ne, bne_eq_false_iff_eq, tmodN, tdivN, Int.not_lt, Int.not_le]; omega)) ?_
  refine condF rfl (seq (seq (region ?_)))
  refine rest [(2, { res := .bool true })] [0, 4] rfl (by and_intros <;> first | decide | (refine congrArg AV.bool ?_; simp only [decide_eq_true_eq, decide_eq_false_iff_not, notT, notF, beq_iff_eq, beq_eq_false_iff_ne, bne_iff_ne, bne_eq_false_iff_eq, tmodN, tdivN, Int.not_lt, Int.not_le]; omega)) ?_
  refine condF rfl ?_
  refine reg [(2, { res := .bool true })] [0] rfl (by and_intros <;> first | decide | (refine congrArg AV.bool ?_; simp only [decide_eq_true_eq, decide_eq_false_iff_not, notT, notF, beq_iff_eq, beq_eq_false_iff_ne, bne_iff_ne, bne_eq_false_iff_eq, tmodN, tdivN, Int.not_lt, Int.not_le]; omega)) ?_
  refine condT rfl (seq (reg [] [] rfl (by decide) ?_))
  refine drop 0 (Nat.zero_le _) rfl ?_
  exact frame [(2, .bad), (3, .int .i64 332)] (by exact agree_imp rfl (Imp.bad _) rfl rfl (agree_cons rfl (by rfl) trivial)) (retH Tryz.func36 rfl rfl (by rfl) (by rfl))

theorem clm_q1 (m t : List UInt8) (hd : List Hd) (body : List UInt8) (o : Bool) (b : RB t hd) (hl1 : (authL hd).length = 0) (hl2 : 0 < (xsgL t).length) (hk : ¬ QOne (queryQ t)) : FnOK Tryz.prog 36 [.agg [.str m, .str t, .sl 2 hd.length (hdEl hd) false, .bs body o]] [] (.tup [.bad, .int .i64 304]) [] := by
  refine FnOK.of_runs Tryz.func36 rfl (Nat.le_of_ble_eq_true rfl) ?_
  refine seq (reg [] [] rfl (by decide) ?_)
  refine seq ?_
  have hb := b.lt; have hh := b.lh; have hq := b.q; have hau : ((authL hd).getD 0 []).length ≤ 4194304 := b.auth authN 0
  refine reg [(2, { res := .tup [.str (queryP t), .sl 2 (queryQ t).length (hdEl (queryQ t)) false] })] [] rfl (by and_intros <;> first | decide | exact query_ok t (by omega)) ?_
  refine seq (reg [(2, { res := .sl 1 (authL hd).length (strEl (authL hd)) false })] [] rfl (by and_intros <;> first | decide | exact all_ok hd authN (by omega)) ?_)
  refine seq ?_
  refine reg [(1, { res := .sl 1 (xsgL t).length (strEl (xsgL t)) false }), (3, { res := .bool true })] [0] rfl (by and_intros <;> first | decide | exact all_ok (queryQ t) xsigN (by omega) | (refine congrArg AV.bool ?_; simp only [decide_eq_true_eq, decide_eq_false_iff_not, notT, notF, beq_iff_eq, beq_eq_false_iff_ne, bne_iff_ne, bne_eq_false_iff_eq, tmodN, tdivN, Int.not_lt, Int.not_le]; omega)) ?_
  refine seq (reg [] [] rfl (by decide) ?_)
  refine seq (block (seq (region ?_)))
  refine rest [(2, { res := .bool true })] [0, 4] rfl (by and_intros <;> first | decide | (refine congrArg AV.bool ?_; simp only [decide_eq_true_eq, decide_eq_false_iff_not, notT, notF, beq_iff_eq, beq_eq_false_iff_ne, bne_iff_ne, bne_eq_false_iff_eq, tmodN, tdivN, Int.not_lt, Int.not_le]; omega)) ?_
  refine condF rfl (seq (seq (region ?_)))
  refine rest [(2, { res := .bool false })] [0, 4] rfl (by and_intros <;> first | decide | (refine congrArg AV.bool ?_; simp only [decide_eq_true_eq, decide_eq_false_iff_not, notT, notF, beq_iff_eq, beq_eq_false_iff_ne, bne_iff_ne, bne_eq_false_iff_eq, tmodN, tdivN, Int.not_lt, Int.not_le]; omega)) ?_
  refine condF rfl ?_
  refine reg [(2, { res := .bool false })] [0] rfl (by and_intros <;> first | decide | (refine congrArg AV.bool ?_; simp only [decide_eq_true_eq, decide_eq_false_iff_not, notT, notF, beq_iff_eq, beq_eq_false_iff_ne, bne_iff_ne, bne_eq_false_iff_eq, tmodN, tdivN, Int.not_lt, Int.not_le]; omega)) ?_
  refine condF rfl (seq (reg [] [0] rfl (by decide) ?_))
  refine condT rfl (seq (reg [(3, { L := [1], res := .int .i64 304, H' := [clZ] })] [0, 1, 2] rfl (by and_intros <;> first | decide | rfl | exact inq_one (queryQ t) hq.1 hq.2 hk) ?_))
  refine drop 0 (Nat.zero_le _) rfl ?_
  exact frame [(2, .bad), (3, .int .i64 304)] (by exact agree_imp rfl (Imp.bad _) rfl rfl (agree_cons rfl (by rfl) trivial)) (retH Tryz.func36 rfl rfl (by rfl) (by rfl))

theorem clm_q2 (m t : List UInt8) (hd : List Hd) (body : List UInt8) (o : Bool) (b : RB t hd) (hl1 : (authL hd).length = 0) (hl2 : 0 < (xsgL t).length) (ho : QOne (queryQ t)) (hk : ¬ QUn (queryQ t)) : FnOK Tryz.prog 36 [.agg [.str m, .str t, .sl 2 hd.length (hdEl hd) false, .bs body o]] [] (.tup [.bad, .int .i64 331]) [] := by
  refine FnOK.of_runs Tryz.func36 rfl (Nat.le_of_ble_eq_true rfl) ?_
  refine seq (reg [] [] rfl (by decide) ?_)
  refine seq ?_
  have hb := b.lt; have hh := b.lh; have hq := b.q; have hau : ((authL hd).getD 0 []).length ≤ 4194304 := b.auth authN 0
  refine reg [(2, { res := .tup [.str (queryP t), .sl 2 (queryQ t).length (hdEl (queryQ t)) false] })] [] rfl (by and_intros <;> first | decide | exact query_ok t (by omega)) ?_
  refine seq (reg [(2, { res := .sl 1 (authL hd).length (strEl (authL hd)) false })] [] rfl (by and_intros <;> first | decide | exact all_ok hd authN (by omega)) ?_)
  refine seq ?_
  refine reg [(1, { res := .sl 1 (xsgL t).length (strEl (xsgL t)) false }), (3, { res := .bool true })] [0] rfl (by and_intros <;> first | decide | exact all_ok (queryQ t) xsigN (by omega) | (refine congrArg AV.bool ?_; simp only [decide_eq_true_eq, decide_eq_false_iff_not, notT, notF, beq_iff_eq, beq_eq_false_iff_ne, bne_iff_ne, bne_eq_false_iff_eq, tmodN, tdivN, Int.not_lt, Int.not_le]; omega)) ?_
  refine seq (reg [] [] rfl (by decide) ?_)
  refine seq (block (seq (region ?_)))
  refine rest [(2, { res := .bool true })] [0, 4] rfl (by and_intros <;> first | decide | (refine congrArg AV.bool ?_; simp only [decide_eq_true_eq, decide_eq_false_iff_not, notT, notF, beq_iff_eq, beq_eq_false_iff_ne, bne_iff_ne, bne_eq_false_iff_eq, tmodN, tdivN, Int.not_lt, Int.not_le]; omega)) ?_
  refine condF rfl (seq (seq (region ?_)))
  refine rest [(2, { res := .bool false })] [0, 4] rfl (by and_intros <;> first | decide | (refine congrArg AV.bool ?_; simp only [decide_eq_true_eq, decide_eq_false_iff_not, notT, notF, beq_iff_eq, beq_eq_false_iff_ne, bne_iff_ne, bne_eq_false_iff_eq, tmodN, tdivN, Int.not_lt, Int.not_le]; omega)) ?_
  refine condF rfl ?_
  refine reg [(2, { res := .bool false })] [0] rfl (by and_intros <;> first | decide | (refine congrArg AV.bool ?_; simp only [decide_eq_true_eq, decide_eq_false_iff_not, notT, notF, beq_iff_eq, beq_eq_false_iff_ne, bne_iff_ne, bne_eq_false_iff_eq, tmodN, tdivN, Int.not_lt, Int.not_le]; omega)) ?_
  refine condF rfl (seq (reg [] [0] rfl (by decide) ?_))
  refine condT rfl (seq (reg [(3, { L := [1], res := .int .i64 331, H' := [clZ] })] [0, 1, 2] rfl (by and_intros <;> first | decide | rfl | exact inq_un (queryQ t) hq.1 hq.2 ho hk) ?_))
  refine drop 0 (Nat.zero_le _) rfl ?_
  exact frame [(2, .bad), (3, .int .i64 331)] (by exact agree_imp rfl (Imp.bad _) rfl rfl (agree_cons rfl (by rfl) trivial)) (retH Tryz.func36 rfl rfl (by rfl) (by rfl))

theorem clm_q3 (m t : List UInt8) (hd : List Hd) (body : List UInt8) (o : Bool) (b : RB t hd) (hl1 : (authL hd).length = 0) (hl2 : 0 < (xsgL t).length) (ho : QOne (queryQ t)) (hu : QUn (queryQ t)) (hk : ¬ QFit (queryQ t)) : FnOK Tryz.prog 36 [.agg [.str m, .str t, .sl 2 hd.length (hdEl hd) false, .bs body o]] [] (.tup [.bad, .int .i64 304]) [] := by
  refine FnOK.of_runs Tryz.func36 rfl (Nat.le_of_ble_eq_true rfl) ?_
  refine seq (reg [] [] rfl (by decide) ?_)
  refine seq ?_
  have hb := b.lt; have hh := b.lh; have hq := b.q; have hau : ((authL hd).getD 0 []).length ≤ 4194304 := b.auth authN 0
  refine reg [(2, { res := .tup [.str (queryP t), .sl 2 (queryQ t).length (hdEl (queryQ t)) false] })] [] rfl (by and_intros <;> first | decide | exact query_ok t (by omega)) ?_
  refine seq (reg [(2, { res := .sl 1 (authL hd).length (strEl (authL hd)) false })] [] rfl (by and_intros <;> first | decide | exact all_ok hd authN (by omega)) ?_)
  refine seq ?_
  refine reg [(1, { res := .sl 1 (xsgL t).length (strEl (xsgL t)) false }), (3, { res := .bool true })] [0] rfl (by and_intros <;> first | decide | exact all_ok (queryQ t) xsigN (by omega) | (refine congrArg AV.bool ?_; simp only [decide_eq_true_eq, decide_eq_false_iff_not, notT, notF, beq_iff_eq, beq_eq_false_iff_ne, bne_iff_ne, bne_eq_false_iff_eq, tmodN, tdivN, Int.not_lt, Int.not_le]; omega)) ?_
  refine seq (reg [] [] rfl (by decide) ?_)
  refine seq (block (seq (region ?_)))
  refine rest [(2, { res := .bool true })] [0, 4] rfl (by and_intros <;> first | decide | (refine congrArg AV.bool ?_; simp only [decide_eq_true_eq, decide_eq_false_iff_not, notT, notF, beq_iff_eq, beq_eq_false_iff_ne, bne_iff_ne, bne_eq_false_iff_eq, tmodN, tdivN, Int.not_lt, Int.not_le]; omega)) ?_
  refine condF rfl (seq (seq (region ?_)))
  refine rest [(2, { res := .bool false })] [0, 4] rfl (by and_intros <;> first | decide | (refine congrArg AV.bool ?_; simp only [decide_eq_true_eq, decide_eq_false_iff_not, notT, notF, beq_iff_eq, beq_eq_false_iff_ne, bne_iff_ne, bne_eq_false_iff_eq, tmodN, tdivN, Int.not_lt, Int.not_le]; omega)) ?_
  refine condF rfl ?_
  refine reg [(2, { res := .bool false })] [0] rfl (by and_intros <;> first | decide | (refine congrArg AV.bool ?_; simp only [decide_eq_true_eq, decide_eq_false_iff_not, notT, notF, beq_iff_eq, beq_eq_false_iff_ne, bne_iff_ne, bne_eq_false_iff_eq, tmodN, tdivN, Int.not_lt, Int.not_le]; omega)) ?_
  refine condF rfl (seq (reg [] [0] rfl (by decide) ?_))
  refine condT rfl (seq (reg [(3, { L := [1], res := .int .i64 304, H' := [clZ] })] [0, 1, 2] rfl (by and_intros <;> first | decide | rfl | exact inq_fit (queryQ t) hq.1 hq.2 ho hu hk) ?_))
  refine drop 0 (Nat.zero_le _) rfl ?_
  exact frame [(2, .bad), (3, .int .i64 304)] (by exact agree_imp rfl (Imp.bad _) rfl rfl (agree_cons rfl (by rfl) trivial)) (retH Tryz.func36 rfl rfl (by rfl) (by rfl))

theorem clm_qok (m t : List UInt8) (hd : List Hd) (body : List UInt8) (o : Bool) (b : RB t hd) (hl1 : (authL hd).length = 0) (hl2 : 0 < (xsgL t).length) (ho : QOne (queryQ t)) (hu : QUn (queryQ t)) (hk : QFit (queryQ t)) : FnOK Tryz.prog 36 [.agg [.str m, .str t, .sl 2 hd.length (hdEl hd) false, .bs body o]] [] (.tup [.ptr 1 0, .int .i64 0]) [rqB m t hd body, clB (vQ (queryQ t) 1) (vQ (queryQ t) 2) (vQ (queryQ t) 5) (splitL (vQ (queryQ t) 4) 59) ((intF (vQ (queryQ t) 3)).getD 0) true unsP] := by
  refine FnOK.of_runs Tryz.func36 rfl (Nat.le_of_ble_eq_true rfl) ?_
  refine seq (reg [] [] rfl (by decide) ?_)
  refine seq ?_
  have hb := b.lt; have hh := b.lh; have hq := b.q; have hau : ((authL hd).getD 0 []).length ≤ 4194304 := b.auth authN 0
  refine reg [(2, { res := .tup [.str (queryP t), .sl 2 (queryQ t).length (hdEl (queryQ t)) false] })] [] rfl (by and_intros <;> first | decide | exact query_ok t (by omega)) ?_
  refine seq (reg [(2, { res := .sl 1 (authL hd).length (strEl (authL hd)) false })] [] rfl (by and_intros <;> first | decide | exact all_ok hd authN (by omega)) ?_)
  refine seq ?_
  refine reg [(1, { res := .sl 1 (xsgL t).length (strEl (xsgL t)) false }), (3, { res := .bool true })] [0] rfl (by and_intros <;> first | decide | exact all_ok (queryQ t) xsigN (by omega) | (refine congrArg AV.bool ?_; simp only [decide_eq_true_eq, decide_eq_false_iff_not, notT, notF, beq_iff_eq, beq_eq_false_iff_ne, bne_iff_ne, bne_eq_false_iff_eq, tmodN, tdivN, Int.not_lt, Int.not_le]; omega)) ?_
  refine seq (reg [] [] rfl (by decide) ?_)
  refine seq (block (seq (region ?_)))
  refine rest [(2, { res := .bool true })] [0, 4] rfl (by and_intros <;> first | decide | (refine congrArg AV.bool ?_; simp only [decide_eq_true_eq, decide_eq_false_iff_not, notT, notF, beq_iff_eq, beq_eq_false_iff_ne, bne_iff_ne, bne_eq_false_iff_eq, tmodN, tdivN, Int.not_lt, Int.not_le]; omega)) ?_
  refine condF rfl (seq (seq (region ?_)))
  refine rest [(2, { res := .bool false })] [0, 4] rfl (by and_intros <;> first | decide | (refine congrArg AV.bool ?_; simp only [decide_eq_true_eq, decide_eq_false_iff_not, notT, notF, beq_iff_eq, beq_eq_false_iff_ne, bne_iff_ne, bne_eq_false_iff_eq, tmodN, tdivN, Int.not_lt, Int.not_le]; omega)) ?_
  refine condF rfl ?_
  refine reg [(2, { res := .bool false })] [0] rfl (by and_intros <;> first | decide | (refine congrArg AV.bool ?_; simp only [decide_eq_true_eq, decide_eq_false_iff_not, notT, notF, beq_iff_eq, beq_eq_false_iff_ne, bne_iff_ne, bne_eq_false_iff_eq, tmodN, tdivN, Int.not_lt, Int.not_le]; omega)) ?_
  refine condF rfl (seq (reg [] [0] rfl (by decide) ?_))
  refine condT rfl (seq (reg [(3, { L := [1], res := .int .i64 0, H' := [clB (vQ (queryQ t) 1) (vQ (queryQ t) 2) (vQ (queryQ t) 5) (splitL (vQ (queryQ t) 4) 59) ((intF (vQ (queryQ t) 3)).getD 0) true unsP] })] [0, 1, 2] rfl (by and_intros <;> first | decide | rfl | exact inq_ok (queryQ t) hq.1 hq.2 ho hu hk) ?_))
  exact retH Tryz.func36 rfl rfl (by rfl) (by rfl)

theorem clm_h1 (m t : List UInt8) (hd : List Hd) (body : List UInt8) (o : Bool) (b : RB t hd) (hl1 : (authL hd).length = 1) (hl2 : (xsgL t).length = 0) (hk : ¬ HdrOK ((authL hd).getD 0 [])) : FnOK Tryz.prog 36 [.agg [.str m, .str t, .sl 2 hd.length (hdEl hd) false, .bs body o]] [] (.tup [.bad, .int .i64 304]) [] := by
  refine FnOK.of_runs Tryz.func36 rfl (Nat.le_of_ble_eq_true rfl) ?_
  refine seq (reg [] [] rfl (by decide) ?_)
  refine seq ?_
  have hb := b.lt; have hh := b.lh; have hq := b.q; have hau : ((authL hd).getD 0 []).length ≤ 4194304 := b.auth authN 0
  refine reg [(2, { res := .tup [.str (queryP t), .sl 2 (queryQ t).length (hdEl (queryQ t)) false] })] [] rfl (by and_intros <;> first | decide | exact query_ok t (by omega)) ?_
  refine seq (reg [(2, { res := .sl 1 (authL hd).length (strEl (authL hd)) false })] [] rfl (by and_intros <;> first | decide | exact all_ok hd authN (by omega)) ?_)
  refine seq ?_
  refine reg [(1, { res := .sl 1 (xsgL t).length (strEl (xsgL t)) false }), (3, { res := .bool false })] [0] rfl (by and_intros <;> first | decide | exact all_ok (queryQ t) xsigN (by omega) | (refine congrArg AV.bool ?_; simp only [decide_eq_true_eq, decide_eq_false_iff_not, notT, notF, beq_iff_eq, beq_eq_false_iff_ne, bne_iff_ne, bne_eq_false_iff_eq, tmodN, tdivN, Int.not_lt, Int.not_le]; omega)) ?_
  refine seq (reg [] [] rfl (by decide) ?_)
  refine seq (block (seq (region ?_)))
  refine rest [(2, { res := .bool false })] [0, 4] rfl (by and_intros <;> first | decide | (refine congrArg AV.bool ?_; simp only [decide_eq_true_eq, decide_eq_false_iff_not, notT, notF, beq_iff_eq, beq_eq_false_iff_ne, bne_iff_ne, bne_eq_false_iff_eq, tmodN, tdivN, Int.not_lt, Int.not_le]; omega)) ?_
  refine condF rfl (seq (seq (region ?_)))
  refine rest [(2, { res := .bool true })] [0, 4] rfl (by and_intros <;> first | decide | (refine congrArg AV.bool ?_; simp only [decide_eq_true_eq, decide_eq_false_iff_not, notT, notF, beq_iff_eq, beq_eq_false_iff_ne, bne_iff_ne, bne_eq_false_iff_eq, tmodN, tdivN, Int.not_lt, Int.not_le]; omega)) ?_
  refine condF rfl ?_
  refine reg [(2, { res := .bool false })] [0] rfl (by and_intros <;> first | decide | (refine congrArg AV.bool ?_; simp only [decide_eq_true_eq, decide_eq_false_iff_not, notT, notF, beq_iff_eq, beq_eq_false_iff_ne, bne_iff_ne, bne_eq_false_iff_eq, tmodN, tdivN, Int.not_lt, Int.not_le]; omega)) ?_
  refine condF rfl (seq (reg [] [0] rfl (by decide) ?_))
  refine condF rfl (skip (inBlock (seq (regD [(6, { L := [1], res := .int .i64 304, H' := [clZ] })] [0, 1, 3] rfl rfl rfl (by and_intros <;> first | decide | rfl | omega | exact inh_bad m t hd body false ((authL hd).getD 0 []) (by omega) (by omega) hk) ?_))))
  refine drop 0 (Nat.zero_le _) rfl ?_
  exact frame [(2, .bad), (3, .int .i64 304)] (by exact agree_imp rfl (Imp.bad _) rfl rfl (agree_cons rfl (by rfl) trivial)) (retH Tryz.func36 rfl rfl (by rfl) (by rfl))

theorem clm_h2 (m t : List UInt8) (hd : List Hd) (body : List UInt8) (o : Bool) (b : RB t hd) (hl1 : (authL hd).length = 1) (hl2 : (xsgL t).length = 0) (hk : HdrOK ((authL hd).getD 0 [])) (hd1 : (allL hd xdateN).length ≠ 1) : FnOK Tryz.prog 36 [.agg [.str m, .str t, .sl 2 hd.length (hdEl hd) false, .bs body o]] [] (.tup [.bad, .int .i64 300]) [] := by
  refine FnOK.of_runs Tryz.func36 rfl (Nat.le_of_ble_eq_true rfl) ?_
  refine seq (reg [] [] rfl (by decide) ?_)
  refine seq ?_
  have hb := b.lt; have hh := b.lh; have hq := b.q; have hau : ((authL hd).getD 0 []).length ≤ 4194304 := b.auth authN 0
  refine reg [(2, { res := .tup [.str (queryP t), .sl 2 (queryQ t).length (hdEl (queryQ t)) false] })] [] rfl (by and_intros <;> first | decide | exact query_ok t (by omega)) ?_
  refine seq (reg [(2, { res := .sl 1 (authL hd).length (strEl (authL hd)) false })] [] rfl (by and_intros <;> first | decide | exact all_ok hd authN (by omega)) ?_)
  refine seq ?_
  refine reg [(1, { res := .sl 1 (xsgL t).length (strEl (xsgL t)) false }), (3, { res := .bool false })] [0] rfl (by and_intros <;> first | decide | exact all_ok (queryQ t) xsigN (by omega) | (refine congrArg AV.bool ?_; simp only [decide_eq_true_eq, decide_eq_false_iff_not, notT, notF, beq_iff_eq, beq_eq_false_iff_ne, bne_iff_ne, bne_eq_false_iff_eq, tmodN, tdivN, Int.not_lt, Int.not_le]; omega)) ?_
  refine seq (reg [] [] rfl (by decide) ?_)
  refine seq (block (seq (region ?_)))
  refine rest [(2, { res := .bool false })] [0, 4] rfl (by and_intros <;> first | decide | (refine congrArg AV.bool ?_; simp only [decide_eq_true_eq, decide_eq_false_iff_not, notT, notF, beq_iff_eq, beq_eq_false_iff_ne, bne_iff_ne, bne_eq_false_iff_eq, tmodN, tdivN, Int.not_lt, Int.not_le]; omega)) ?_
  refine condF rfl (seq (seq (region ?_)))
  refine rest [(2, { res := .bool true })] [0, 4] rfl (by and_intros <;> first | decide | (refine congrArg AV.bool ?_; simp only [decide_eq_true_eq, decide_eq_false_iff_not, notT, notF, beq_iff_eq, beq_eq_false_iff_ne, bne_iff_ne, bne_eq_false_iff_eq, tmodN, tdivN, Int.not_lt, Int.not_le]; omega)) ?_
  refine condF rfl ?_
  refine reg [(2, { res := .bool false })] [0] rfl (by and_intros <;> first | decide | (refine congrArg AV.bool ?_; simp only [decide_eq_true_eq, decide_eq_false_iff_not, notT, notF, beq_iff_eq, beq_eq_false_iff_ne, bne_iff_ne, bne_eq_false_iff_eq, tmodN, tdivN, Int.not_lt, Int.not_le]; omega)) ?_
  refine condF rfl (seq (reg [] [0] rfl (by decide) ?_))
  refine condF rfl (skip (inBlock (seq (regD [(6, { L := [1], res := .int .i64 300, H' := [clB (hC ((authL hd).getD 0 [])) [] (hG ((authL hd).getD 0 [])) (splitL (hS ((authL hd).getD 0 [])) 59) 0 false []] })] [0, 1, 3] rfl rfl rfl (by and_intros <;> first | decide | rfl | omega | exact inh_nod m t hd body false ((authL hd).getD 0 []) (by omega) (by omega) hk hd1) ?_))))
  refine drop 0 (Nat.zero_le _) rfl ?_
  exact frame [(2, .bad), (3, .int .i64 300)] (by exact agree_imp rfl (Imp.bad _) rfl rfl (agree_cons rfl (by rfl) trivial)) (retH Tryz.func36 rfl rfl (by rfl) (by rfl))

theorem clm_hok (m t : List UInt8) (hd : List Hd) (body : List UInt8) (o : Bool) (b : RB t hd) (hl1 : (authL hd).length = 1) (hl2 : (xsgL t).length = 0) (hk : HdrOK ((authL hd).getD 0 [])) (hd1 : (allL hd xdateN).length = 1) : FnOK Tryz.prog 36 [.agg [.str m, .str t, .sl 2 hd.length (hdEl hd) false, .bs body o]] [] (.tup [.ptr 1 0, .int .i64 0]) [rqB m t hd body, clB (hC ((authL hd).getD 0 [])) ((allL hd xdateN).getD 0 []) (hG ((authL hd).getD 0 [])) (splitL (hS ((authL hd).getD 0 [])) 59) 0 false []] := by
  refine FnOK.of_runs Tryz.func36 rfl (Nat.le_of_ble_eq_true rfl) ?_
  refine seq (reg [] [] rfl (by decide) ?_)
  refine seq ?_
  have hb := b.lt; have hh := b.lh; have hq := b.q; have hau : ((authL hd).getD 0 []).length ≤ 4194304 := b.auth authN 0
  refine reg [(2, { res := .tup [.str (queryP t), .sl 2 (queryQ t).length (hdEl (queryQ t)) false] })] [] rfl (by and_intros <;> first | decide | exact query_ok t (by omega)) ?_
  refine seq (reg [(2, { res := .sl 1 (authL hd).length (strEl (authL hd)) false })] [] rfl (by and_intros <;> first | decide | exact all_ok hd authN (by omega)) ?_)
  refine seq ?_
  refine reg [(1, { res := .sl 1 (xsgL t).length (strEl (xsgL t)) false }), (3, { res := .bool false })] [0] rfl (by and_intros <;> first | decide | exact all_ok (queryQ t) xsigN (by omega) | (refine congrArg AV.bool ?_; simp only [decide_eq_true_eq, decide_eq_false_iff_not, notT, notF, beq_iff_eq, beq_eq_false_iff_ne, bne_iff_ne, bne_eq_false_iff_eq, tmodN, tdivN, Int.not_lt, Int.not_le]; omega)) ?_
  refine seq (reg [] [] rfl (by decide) ?_)
  refine seq (block (seq (region ?_)))
  refine rest [(2, { res := .bool false })] [0, 4] rfl (by and_intros <;> first | decide | (refine congrArg AV.bool ?_; simp only [decide_eq_true_eq, decide_eq_false_iff_not, notT, notF, beq_iff_eq, beq_eq_false_iff_ne, bne_iff_ne, bne_eq_false_iff_eq, tmodN, tdivN, Int.not_lt, Int.not_le]; omega)) ?_
  refine condF rfl (seq (seq (region ?_)))
  refine rest [(2, { res := .bool true })] [0, 4] rfl (by and_intros <;> first | decide | (refine congrArg AV.bool ?_; simp only [decide_eq_true_eq, decide_eq_false_iff_not, notT, notF, beq_iff_eq, beq_eq_false_iff_ne, bne_iff_ne, bne_eq_false_iff_eq, tmodN, tdivN, Int.not_lt, Int.not_le]; omega)) ?_
  refine condF rfl ?_
  refine reg [(2, { res := .bool false })] [0] rfl (by and_intros <;> first | decide | (refine congrArg AV.bool ?_; simp only [decide_eq_true_eq, decide_eq_false_iff_not, notT, notF, beq_iff_eq, beq_eq_false_iff_ne, bne_iff_ne, bne_eq_false_iff_eq, tmodN, tdivN, Int.not_lt, Int.not_le]; omega)) ?_
  refine condF rfl (seq (reg [] [0] rfl (by decide) ?_))
  refine condF rfl (skip (inBlock (seq (regD [(6, { L := [1], res := .int .i64 0, H' := [clB (hC ((authL hd).getD 0 [])) ((allL hd xdateN).getD 0 []) (hG ((authL hd).getD 0 [])) (splitL (hS ((authL hd).getD 0 [])) 59) 0 false []] })] [0, 1, 3] rfl rfl rfl (by and_intros <;> first | decide | rfl | omega | exact inh_ok m t hd body false ((authL hd).getD 0 []) (by omega) (by omega) hk hd1) ?_))))
  exact retH Tryz.func36 rfl rfl (by rfl) (by rfl)


/-- a claim's block -/
abbrev clBk (c : Cl) : List AV := clB c.cred c.date c.sig (splitL c.sg 59) c.exp c.q (bif c.q then unsP else [])
theorem claimed_bad (m t : List UInt8) (hd : List Hd) (body : List UInt8) (o : Bool) (b : RB t hd) {e : Int} (h : claimC t hd = .inl e) : FnOK Tryz.prog 36 [.agg [.str m, .str t, .sl 2 hd.length (hdEl hd) false, .bs body o]] [] (.tup [.bad, .int .i64 e]) [] := by
  unfold claimC at h
  split at h
  · rename_i k; cases h; exact clm_300 m t hd body o b k.1 k.2
  · rename_i k0
    split at h
    · rename_i k
      cases h
      by_cases h2 : 0 < (xsgL t).length
      · exact clm_332a m t hd body o b (by omega) h2
      · exact clm_332b m t hd body o b (by omega) (by omega)
    · rename_i k
      split at h
      · rename_i k2
        unfold qryC at h
        split at h
        · rename_i q1
          split at h
          · rename_i q2
            split at h
            · cases h
            · rename_i q3; cases h; exact clm_q3 m t hd body o b (by omega) k2 q1 q2 q3
          · rename_i q2; cases h; exact clm_q2 m t hd body o b (by omega) k2 q1 q2
        · rename_i q1; cases h; exact clm_q1 m t hd body o b (by omega) k2 q1
      · unfold hdrC at h
        split at h
        · rename_i q1
          split at h
          · cases h
          · rename_i q2; cases h; exact clm_h2 m t hd body o b (by omega) (by omega) q1 q2
        · rename_i q1; cases h; exact clm_h1 m t hd body o b (by omega) (by omega) q1
theorem claimed_ok (m t : List UInt8) (hd : List Hd) (body : List UInt8) (o : Bool) (b : RB t hd) {c : Cl} (h : claimC t hd = .inr c) : FnOK Tryz.prog 36 [.agg [.str m, .str t, .sl 2 hd.length (hdEl hd) false, .bs body o]] [] (.tup [.ptr 1 0, .int .i64 0]) [rqB m t hd body, clBk c] := by
  unfold claimC at h
  split at h
  · cases h
  · rename_i k0
    split at h
    · cases h
    · rename_i k
      split at h
      · rename_i k2
        unfold qryC at h
        split at h
        · rename_i q1
          split at h
          · rename_i q2
            split at h
            · rename_i q3; cases h; exact clm_qok m t hd body o b (by omega) k2 q1 q2 q3
            · cases h
          · cases h
        · cases h
      · unfold hdrC at h
        split at h
        · rename_i q1
          split at h
          · rename_i q2; cases h; have h3 := clm_hok m t hd body o b (by omega) (by omega) q1 q2; unfold clBk; dsimp only [cond_false]; exact h3
          · cases h
        · cases h

end Go.Proofs.YtnohmijdpmelpaaGreat
