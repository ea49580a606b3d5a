/- Parts of the proof. -/
import Derived.Test.YtdigohaeakclfaaGreatDoorMa10
set_option maxRecDepth 100000
set_option linter.unusedVariables false
set_option linter.unusedSimpArgs false
namespace Go.Proofs.YtdigohaeakclfaaGreatDoor
open Go.Am Go.Am.Runs

def hvU (c : UInt8) : Option Nat := if 48 ≤ c.toNat ∧ c.toNat ≤ 57 then some (c.toNat - 48) else if 97 ≤ c.toNat ∧ c.toNat ≤ 102 then some (c.toNat - 87) else if 65 ≤ c.toNat ∧ c.toNat ≤ 70 then some (c.toNat - 55) else none
def hvI (c : UInt8) : Int := if 48 ≤ c.toNat ∧ c.toNat ≤ 57 then (c.toNat : Int) - 48 else if 97 ≤ c.toNat ∧ c.toNat ≤ 102 then (c.toNat : Int) - 87 else if 65 ≤ c.toNat ∧ c.toNat ≤ 70 then (c.toNat : Int) - 55 else -1
theorem hvI_eq (c : UInt8) : hvI c = match hvU c with
  | some d => (d : Int)
  | none => -1 := by
  unfold hvI hvU
  repeat' split
  all_goals first | (simp_all; omega) | simp_all
def alnum (c : UInt8) : Bool := decide (65 ≤ c.toNat ∧ c.toNat ≤ 90 ∨ 97 ≤ c.toNat ∧ c.toNat ≤ 122 ∨ 48 ≤ c.toNat ∧ c.toNat ≤ 57)
def blk (c : UInt8) : Bool := decide (c.toNat = 32 ∨ c.toNat = 9)
def InI (s : List UInt8) (c : UInt8) (i : Nat) : Prop := i ≤ s.length ∧ c ∉ s.take i
theorem in_hit {s : List UInt8} {c : UInt8} {i : Nat} (hi : i < s.length) (e : s.getD i 0 = c) : s.contains c = true := by
  rw [List.getD_eq_getElem?_getD, List.getElem?_eq_getElem hi] at e
  simp only [Option.getD_some] at e
  rw [List.contains_iff_mem, ← e]; exact List.getElem_mem hi
theorem in_step {s : List UInt8} {c : UInt8} {i : Nat} (h : InI s c i) (hi : i < s.length) (e : s.getD i 0 ≠ c) : InI s c (i + 1) := by
  refine ⟨by omega, ?_⟩
  rw [List.getD_eq_getElem?_getD, List.getElem?_eq_getElem hi] at e
  simp only [Option.getD_some] at e
  rw [List.take_add_one, List.getElem?_eq_getElem hi]
  simp only [Option.toList_some, List.mem_append, List.mem_singleton, not_or]
  exact ⟨h.2, fun x => e x.symm⟩
theorem in_done {s : List UInt8} {c : UInt8} {i : Nat} (h : InI s c i) (hi : s.length ≤ i) : s.contains c = false := by
  have := h.2
  rw [List.take_of_length_le hi] at this
  simpa using this
theorem u8l (c : UInt8) : c.toNat < 256 := c.toNat_lt
theorem hvU_lt {c : UInt8} {d : Nat} (h : hvU c = some d) : d < 16 := by
  unfold hvU at h
  repeat' split at h
  all_goals first | (cases h; omega) | cases h

theorem cdigit_ok (c : UInt8) : FnOK Tryz.prog 141 [.int .u8 c.toNat] [] (.tup [.int .u8 ((hvU c).getD 0 : Nat), .bool (hvU c).isSome]) [] := by
  refine FnOK.of_runs Tryz.func141 rfl (Nat.le_of_ble_eq_true rfl) ?_
  refine seq (reg [] [] rfl (by decide) ?_)
  refine seq (block (seq (region (restTo 3 [] [0, 3] rfl (by decide) ?_))))
  refine splitS 7 rfl (fun g7 => ?_) (fun g7 => ?_)
  · try simp only [zg] at g7
    refine rest [] [0, 3] rfl (by decide) ?_
    refine condS rfl (fun g4 => ?_) (fun g4 => ?_)
    · try simp only [zg] at g4
      refine seq (reg [] [0] rfl (by decide) ?_)
      exact retH Tryz.func141 rfl rfl (by have := u8l c; simp only [hvU]; (try simp only [wrap_u8]); (repeat' split) <;> first | (exfalso; omega) | (simp <;> omega)) (by rfl)
    · try simp only [zg] at g4
      refine seq (region (restTo 3 [] [0, 3] rfl (by decide) ?_))
      refine splitS 16 rfl (fun g16 => ?_) (fun g16 => ?_)
      · try simp only [zg] at g16
        refine rest [] [0, 3] rfl (by decide) ?_
        refine condS rfl (fun g13 => ?_) (fun g13 => ?_)
        · try simp only [zg] at g13
          refine seq (reg [] [0] rfl (by decide) ?_)
          exact retH Tryz.func141 rfl rfl (by have := u8l c; simp only [hvU]; (try simp only [wrap_u8]); (repeat' split) <;> first | (exfalso; omega) | (simp <;> omega)) (by rfl)
        · try simp only [zg] at g13
          refine seq (region (restTo 3 [] [0, 3] rfl (by decide) ?_))
          refine splitS 26 rfl (fun g26 => ?_) (fun g26 => ?_)
          · try simp only [zg] at g26
            refine rest [] [0, 3] rfl (by decide) ?_
            refine condS rfl (fun g23 => ?_) (fun g23 => ?_)
            · try simp only [zg] at g23
              refine seq (reg [] [0] rfl (by decide) ?_)
              exact retH Tryz.func141 rfl rfl (by have := u8l c; simp only [hvU]; (try simp only [wrap_u8]); (repeat' split) <;> (exfalso; omega)) (by rfl)
            · try simp only [zg] at g23
              refine skip (inBlock (seq (reg [] [] rfl (by decide) ?_)))
              exact retH Tryz.func141 rfl rfl (by have := u8l c; simp only [hvU]; (try simp only [wrap_u8]); (repeat' split) <;> first | (exfalso; omega) | (simp <;> omega)) (by rfl)
          · try simp only [zg] at g26
            refine rest [] [0, 3] rfl (by decide) ?_
            refine condF rfl (skip (inBlock (seq (reg [] [] rfl (by decide) ?_))))
            exact retH Tryz.func141 rfl rfl (by have := u8l c; simp only [hvU]; (try simp only [wrap_u8]); (repeat' split) <;> (exfalso; omega)) (by rfl)
      · try simp only [zg] at g16
        refine rest [] [0, 3] rfl (by decide) ?_
        refine condF rfl (seq (region (restTo 3 [] [0, 3] rfl (by decide) ?_)))
        refine splitS 26 rfl (fun g26 => ?_) (fun g26 => ?_)
        · try simp only [zg] at g26
          refine rest [] [0, 3] rfl (by decide) ?_
          refine condS rfl (fun g23 => ?_) (fun g23 => ?_)
          · try simp only [zg] at g23
            refine seq (reg [] [0] rfl (by decide) ?_)
            exact retH Tryz.func141 rfl rfl (by have := u8l c; simp only [hvU]; (try simp only [wrap_u8]); (repeat' split) <;> first | (exfalso; omega) | (simp <;> omega)) (by rfl)
          · try simp only [zg] at g23
            refine skip (inBlock (seq (reg [] [] rfl (by decide) ?_)))
            exact retH Tryz.func141 rfl rfl (by have := u8l c; simp only [hvU]; (try simp only [wrap_u8]); (repeat' split) <;> first | (exfalso; omega) | (simp <;> omega)) (by rfl)
        · try simp only [zg] at g26
          refine rest [] [0, 3] rfl (by decide) ?_
          refine condF rfl (skip (inBlock (seq (reg [] [] rfl (by decide) ?_))))
          exact retH Tryz.func141 rfl rfl (by have := u8l c; simp only [hvU]; (try simp only [wrap_u8]); (repeat' split) <;> first | (exfalso; omega) | (simp <;> omega)) (by rfl)
  · try simp only [zg] at g7
    refine rest [] [0, 3] rfl (by decide) ?_
    refine condF rfl (seq (region (restTo 3 [] [0, 3] rfl (by decide) ?_)))
    refine splitS 16 rfl (fun g16 => ?_) (fun g16 => ?_)
    · try simp only [zg] at g16
      refine rest [] [0, 3] rfl (by decide) ?_
      refine condS rfl (fun g13 => ?_) (fun g13 => ?_)
      · try simp only [zg] at g13
        refine seq (reg [] [0] rfl (by decide) ?_)
        exact retH Tryz.func141 rfl rfl (by have := u8l c; simp only [hvU]; (try simp only [wrap_u8]); (repeat' split) <;> (exfalso; omega)) (by rfl)
      · try simp only [zg] at g13
        refine seq (region (restTo 3 [] [0, 3] rfl (by decide) ?_))
        refine splitS 26 rfl (fun g26 => ?_) (fun g26 => ?_)
        · try simp only [zg] at g26
          refine rest [] [0, 3] rfl (by decide) ?_
          refine condS rfl (fun g23 => ?_) (fun g23 => ?_)
          · try simp only [zg] at g23
            refine seq (reg [] [0] rfl (by decide) ?_)
            exact retH Tryz.func141 rfl rfl (by have := u8l c; simp only [hvU]; (try simp only [wrap_u8]); (repeat' split) <;> (exfalso; omega)) (by rfl)
          · try simp only [zg] at g23
            refine skip (inBlock (seq (reg [] [] rfl (by decide) ?_)))
            exact retH Tryz.func141 rfl rfl (by have := u8l c; simp only [hvU]; (try simp only [wrap_u8]); (repeat' split) <;> (exfalso; omega)) (by rfl)
        · try simp only [zg] at g26
          refine rest [] [0, 3] rfl (by decide) ?_
          refine condF rfl (skip (inBlock (seq (reg [] [] rfl (by decide) ?_))))
          exact retH Tryz.func141 rfl rfl (by have := u8l c; simp only [hvU]; (try simp only [wrap_u8]); (repeat' split) <;> (exfalso; omega)) (by rfl)
    · try simp only [zg] at g16
      refine rest [] [0, 3] rfl (by decide) ?_
      refine condF rfl (seq (region (restTo 3 [] [0, 3] rfl (by decide) ?_)))
      refine splitS 26 rfl (fun g26 => ?_) (fun g26 => ?_)
      · try simp only [zg] at g26
        refine rest [] [0, 3] rfl (by decide) ?_
        refine condS rfl (fun g23 => ?_) (fun g23 => ?_)
        · try simp only [zg] at g23
          refine seq (reg [] [0] rfl (by decide) ?_)
          exact retH Tryz.func141 rfl rfl (by have := u8l c; simp only [hvU]; (try simp only [wrap_u8]); (repeat' split) <;> (exfalso; omega)) (by rfl)
        · try simp only [zg] at g23
          refine skip (inBlock (seq (reg [] [] rfl (by decide) ?_)))
          exact retH Tryz.func141 rfl rfl (by have := u8l c; simp only [hvU]; (try simp only [wrap_u8]); (repeat' split) <;> (exfalso; omega)) (by rfl)
      · try simp only [zg] at g26
        refine rest [] [0, 3] rfl (by decide) ?_
        refine condF rfl (skip (inBlock (seq (reg [] [] rfl (by decide) ?_))))
        exact retH Tryz.func141 rfl rfl (by have := u8l c; simp only [hvU]; (try simp only [wrap_u8]); (repeat' split) <;> first | (exfalso; omega) | (simp <;> omega)) (by rfl)

theorem rDigit_ok (c : UInt8) : FnOK Tryz.prog 112 [.int .u8 c.toNat] [] (.int .i64 (hvI c)) [] := by
  refine FnOK.of_runs Tryz.func112 rfl (Nat.le_of_ble_eq_true rfl) ?_
  refine seq (reg [] [] rfl (by decide) ?_)
  refine seq (block (seq (region (restTo 3 [] [0, 3] rfl (by decide) ?_))))
  refine splitS 6 rfl (fun g6 => ?_) (fun g6 => ?_)
  · try simp only [zg] at g6
    refine rest [] [0, 3] rfl (by decide) ?_
    refine condS rfl (fun g3 => ?_) (fun g3 => ?_)
    · try simp only [zg] at g3
      refine seq (reg [] [0] rfl (by decide) ?_)
      exact retH Tryz.func112 rfl rfl (by have := u8l c; simp only [hvI]; (try simp only [wrap_u8, wrap_i64']); (repeat' split) <;> (refine congrArg (AV.int _) ?_; omega)) (by rfl)
    · try simp only [zg] at g3
      refine seq (region (restTo 3 [] [0, 3] rfl (by decide) ?_))
      refine splitS 16 rfl (fun g16 => ?_) (fun g16 => ?_)
      · try simp only [zg] at g16
        refine rest [] [0, 3] rfl (by decide) ?_
        refine condS rfl (fun g13 => ?_) (fun g13 => ?_)
        · try simp only [zg] at g13
          refine seq (reg [] [0] rfl (by decide) ?_)
          exact retH Tryz.func112 rfl rfl (by have := u8l c; simp only [hvI]; (try simp only [wrap_u8, wrap_i64']); (repeat' split) <;> (refine congrArg (AV.int _) ?_; omega)) (by rfl)
        · try simp only [zg] at g13
          refine seq (region (restTo 3 [] [0, 3] rfl (by decide) ?_))
          refine splitS 27 rfl (fun g27 => ?_) (fun g27 => ?_)
          · try simp only [zg] at g27
            refine rest [] [0, 3] rfl (by decide) ?_
            refine condS rfl (fun g24 => ?_) (fun g24 => ?_)
            · try simp only [zg] at g24
              refine seq (reg [] [0] rfl (by decide) ?_)
              exact retH Tryz.func112 rfl rfl (by have := u8l c; simp only [hvI]; (try simp only [wrap_u8, wrap_i64']); (repeat' split) <;> (refine congrArg (AV.int _) ?_; omega)) (by rfl)
            · try simp only [zg] at g24
              refine skip (inBlock (seq (reg [] [] rfl (by decide) ?_)))
              exact retH Tryz.func112 rfl rfl (by have := u8l c; simp only [hvI]; (try simp only [wrap_u8, wrap_i64']); (repeat' split) <;> (refine congrArg (AV.int _) ?_; omega)) (by rfl)
          · try simp only [zg] at g27
            refine rest [] [0, 3] rfl (by decide) ?_
            refine condF rfl (skip (inBlock (seq (reg [] [] rfl (by decide) ?_))))
            exact retH Tryz.func112 rfl rfl (by have := u8l c; simp only [hvI]; (try simp only [wrap_u8, wrap_i64']); (repeat' split) <;> (refine congrArg (AV.int _) ?_; omega)) (by rfl)
      · try simp only [zg] at g16
        refine rest [] [0, 3] rfl (by decide) ?_
        refine condF rfl (seq (region (restTo 3 [] [0, 3] rfl (by decide) ?_)))
        refine splitS 27 rfl (fun g27 => ?_) (fun g27 => ?_)
        · try simp only [zg] at g27
          refine rest [] [0, 3] rfl (by decide) ?_
          refine condS rfl (fun g24 => ?_) (fun g24 => ?_)
          · try simp only [zg] at g24
            refine seq (reg [] [0] rfl (by decide) ?_)
            exact retH Tryz.func112 rfl rfl (by have := u8l c; simp only [hvI]; (try simp only [wrap_u8, wrap_i64']); (repeat' split) <;> (refine congrArg (AV.int _) ?_; omega)) (by rfl)
          · try simp only [zg] at g24
            refine skip (inBlock (seq (reg [] [] rfl (by decide) ?_)))
            exact retH Tryz.func112 rfl rfl (by have := u8l c; simp only [hvI]; (try simp only [wrap_u8, wrap_i64']); (repeat' split) <;> (refine congrArg (AV.int _) ?_; omega)) (by rfl)
        · try simp only [zg] at g27
          refine rest [] [0, 3] rfl (by decide) ?_
          refine condF rfl (skip (inBlock (seq (reg [] [] rfl (by decide) ?_))))
          exact retH Tryz.func112 rfl rfl (by have := u8l c; simp only [hvI]; (try simp only [wrap_u8, wrap_i64']); (repeat' split) <;> (refine congrArg (AV.int _) ?_; omega)) (by rfl)
  · try simp only [zg] at g6
    refine rest [] [0, 3] rfl (by decide) ?_
    refine condF rfl (seq (region (restTo 3 [] [0, 3] rfl (by decide) ?_)))
    refine splitS 16 rfl (fun g16 => ?_) (fun g16 => ?_)
    · try simp only [zg] at g16
      refine rest [] [0, 3] rfl (by decide) ?_
      refine condS rfl (fun g13 => ?_) (fun g13 => ?_)
      · try simp only [zg] at g13
        refine seq (reg [] [0] rfl (by decide) ?_)
        exact retH Tryz.func112 rfl rfl (by have := u8l c; simp only [hvI]; (try simp only [wrap_u8, wrap_i64']); (repeat' split) <;> (refine congrArg (AV.int _) ?_; omega)) (by rfl)
      · try simp only [zg] at g13
        refine seq (region (restTo 3 [] [0, 3] rfl (by decide) ?_))
        refine splitS 27 rfl (fun g27 => ?_) (fun g27 => ?_)
        · try simp only [zg] at g27
          refine rest [] [0, 3] rfl (by decide) ?_
          refine condS rfl (fun g24 => ?_) (fun g24 => ?_)
          · try simp only [zg] at g24
            refine seq (reg [] [0] rfl (by decide) ?_)
            exact retH Tryz.func112 rfl rfl (by have := u8l c; simp only [hvI]; (try simp only [wrap_u8, wrap_i64']); (repeat' split) <;> (refine congrArg (AV.int _) ?_; omega)) (by rfl)
          · try simp only [zg] at g24
            refine skip (inBlock (seq (reg [] [] rfl (by decide) ?_)))
            exact retH Tryz.func112 rfl rfl (by have := u8l c; simp only [hvI]; (try simp only [wrap_u8, wrap_i64']); (repeat' split) <;> (refine congrArg (AV.int _) ?_; omega)) (by rfl)
        · try simp only [zg] at g27
          refine rest [] [0, 3] rfl (by decide) ?_
          refine condF rfl (skip (inBlock (seq (reg [] [] rfl (by decide) ?_))))
          exact retH Tryz.func112 rfl rfl (by have := u8l c; simp only [hvI]; (try simp only [wrap_u8, wrap_i64']); (repeat' split) <;> (refine congrArg (AV.int _) ?_; omega)) (by rfl)
    · try simp only [zg] at g16
      refine rest [] [0, 3] rfl (by decide) ?_
      refine condF rfl (seq (region (restTo 3 [] [0, 3] rfl (by decide) ?_)))
      refine splitS 27 rfl (fun g27 => ?_) (fun g27 => ?_)
      · try simp only [zg] at g27
        refine rest [] [0, 3] rfl (by decide) ?_
        refine condS rfl (fun g24 => ?_) (fun g24 => ?_)
        · try simp only [zg] at g24
          refine seq (reg [] [0] rfl (by decide) ?_)
          exact retH Tryz.func112 rfl rfl (by have := u8l c; simp only [hvI]; (try simp only [wrap_u8, wrap_i64']); (repeat' split) <;> (refine congrArg (AV.int _) ?_; omega)) (by rfl)
        · try simp only [zg] at g24
          refine skip (inBlock (seq (reg [] [] rfl (by decide) ?_)))
          exact retH Tryz.func112 rfl rfl (by have := u8l c; simp only [hvI]; (try simp only [wrap_u8, wrap_i64']); (repeat' split) <;> (refine congrArg (AV.int _) ?_; omega)) (by rfl)
      · try simp only [zg] at g27
        refine rest [] [0, 3] rfl (by decide) ?_
        refine condF rfl (skip (inBlock (seq (reg [] [] rfl (by decide) ?_))))
        exact retH Tryz.func112 rfl rfl (by have := u8l c; simp only [hvI]; (try simp only [wrap_u8, wrap_i64']); (repeat' split) <;> (refine congrArg (AV.int _) ?_; omega)) (by rfl)

theorem letter_ok (c : UInt8) : FnOK Tryz.prog 81 [.int .u8 c.toNat] [] (.bool (alnum c)) [] := by
  refine FnOK.of_runs Tryz.func81 rfl (Nat.le_of_ble_eq_true rfl) ?_
  refine seq (reg [] [] rfl (by decide) ?_)
  refine seq (region (restTo 3 [] [0, 3, 7, 10, 15, 18] rfl (by decide) ?_))
  refine splitS 5 rfl (fun g5 => ?_) (fun g5 => ?_)
  · try simp only [zg] at g5
    refine restTo 4 [] [0, 3, 7, 10, 15, 18] rfl (by decide) ?_
    refine splitS 9 rfl (fun g9 => ?_) (fun g9 => ?_)
    · try simp only [zg] at g9
      refine rest [] [0, 3, 7, 10, 15, 18] rfl (by decide) ?_
      exact retH Tryz.func81 rfl rfl (by have := u8l c; refine congrArg AV.bool (Bool.eq_iff_iff.2 ?_); simp only [alnum, decide_eq_true_eq, beq_iff_eq, Bool.false_eq_true, eq_self, true_iff, iff_true, false_iff, iff_false]; omega) (by rfl)
    · try simp only [zg] at g9
      refine restTo 3 [] [0, 3, 7, 10, 15, 18] rfl (by decide) ?_
      refine splitS 12 rfl (fun g12 => ?_) (fun g12 => ?_)
      · try simp only [zg] at g12
        refine restTo 5 [] [0, 3, 7, 10, 15, 18] rfl (by decide) ?_
        refine splitS 17 rfl (fun g17 => ?_) (fun g17 => ?_)
        · try simp only [zg] at g17
          refine rest [] [0, 3, 7, 10, 15, 18] rfl (by decide) ?_
          exact retH Tryz.func81 rfl rfl (by have := u8l c; refine congrArg AV.bool (Bool.eq_iff_iff.2 ?_); simp only [alnum, decide_eq_true_eq, beq_iff_eq, Bool.false_eq_true, eq_self, true_iff, iff_true, false_iff, iff_false]; omega) (by rfl)
        · try simp only [zg] at g17
          refine restTo 3 [] [0, 3, 7, 10, 15, 18] rfl (by decide) ?_
          refine splitS 20 rfl (fun g20 => ?_) (fun g20 => ?_)
          · try simp only [zg] at g20
            refine rest [] [0, 3, 7, 10, 15, 18] rfl (by decide) ?_
            exact retH Tryz.func81 rfl rfl (by have := u8l c; refine congrArg AV.bool (Bool.eq_iff_iff.2 ?_); simp only [alnum, decide_eq_true_eq, beq_iff_eq, Bool.false_eq_true, eq_self, true_iff, iff_true, false_iff, iff_false]; omega) (by rfl)
          · try simp only [zg] at g20
            refine rest [] [0, 3, 7, 10, 15, 18] rfl (by decide) ?_
            exact retH Tryz.func81 rfl rfl (by have := u8l c; refine congrArg AV.bool (Bool.eq_iff_iff.2 ?_); simp only [alnum, decide_eq_true_eq, beq_iff_eq, Bool.false_eq_true, eq_self, true_iff, iff_true, false_iff, iff_false]; omega) (by rfl)
      · try simp only [zg] at g12
        refine restTo 8 [] [0, 3, 7, 10, 15, 18] rfl (by decide) ?_
        refine splitS 20 rfl (fun g20 => ?_) (fun g20 => ?_)
        · try simp only [zg] at g20
          refine rest [] [0, 3, 7, 10, 15, 18] rfl (by decide) ?_
          exact retH Tryz.func81 rfl rfl (by have := u8l c; refine congrArg AV.bool (Bool.eq_iff_iff.2 ?_); simp only [alnum, decide_eq_true_eq, beq_iff_eq, Bool.false_eq_true, eq_self, true_iff, iff_true, false_iff, iff_false]; omega) (by rfl)
        · try simp only [zg] at g20
          refine rest [] [0, 3, 7, 10, 15, 18] rfl (by decide) ?_
          exact retH Tryz.func81 rfl rfl (by have := u8l c; refine congrArg AV.bool (Bool.eq_iff_iff.2 ?_); simp only [alnum, decide_eq_true_eq, beq_iff_eq, Bool.false_eq_true, eq_self, true_iff, iff_true, false_iff, iff_false]; omega) (by rfl)
  · try simp only [zg] at g5
    refine restTo 7 [] [0, 3, 7, 10, 15, 18] rfl (by decide) ?_
    refine splitS 12 rfl (fun g12 => ?_) (fun g12 => ?_)
    · try simp only [zg] at g12
      refine restTo 5 [] [0, 3, 7, 10, 15, 18] rfl (by decide) ?_
      refine splitS 17 rfl (fun g17 => ?_) (fun g17 => ?_)
      · try simp only [zg] at g17
        refine rest [] [0, 3, 7, 10, 15, 18] rfl (by decide) ?_
        exact retH Tryz.func81 rfl rfl (by have := u8l c; refine congrArg AV.bool (Bool.eq_iff_iff.2 ?_); simp only [alnum, decide_eq_true_eq, beq_iff_eq, Bool.false_eq_true, eq_self, true_iff, iff_true, false_iff, iff_false]; omega) (by rfl)
      · try simp only [zg] at g17
        refine restTo 3 [] [0, 3, 7, 10, 15, 18] rfl (by decide) ?_
        refine splitS 20 rfl (fun g20 => ?_) (fun g20 => ?_)
        · try simp only [zg] at g20
          refine rest [] [0, 3, 7, 10, 15, 18] rfl (by decide) ?_
          exact retH Tryz.func81 rfl rfl (by have := u8l c; refine congrArg AV.bool (Bool.eq_iff_iff.2 ?_); simp only [alnum, decide_eq_true_eq, beq_iff_eq, Bool.false_eq_true, eq_self, true_iff, iff_true, false_iff, iff_false]; omega) (by rfl)
        · try simp only [zg] at g20
          refine rest [] [0, 3, 7, 10, 15, 18] rfl (by decide) ?_
          exact retH Tryz.func81 rfl rfl (by have := u8l c; refine congrArg AV.bool (Bool.eq_iff_iff.2 ?_); simp only [alnum, decide_eq_true_eq, beq_iff_eq, Bool.false_eq_true, eq_self, true_iff, iff_true, false_iff, iff_false]; omega) (by rfl)
    · try simp only [zg] at g12
      refine restTo 8 [] [0, 3, 7, 10, 15, 18] rfl (by decide) ?_
      refine splitS 20 rfl (fun g20 => ?_) (fun g20 => ?_)
      · try simp only [zg] at g20
        refine rest [] [0, 3, 7, 10, 15, 18] rfl (by decide) ?_
        exact retH Tryz.func81 rfl rfl (by have := u8l c; refine congrArg AV.bool (Bool.eq_iff_iff.2 ?_); simp only [alnum, decide_eq_true_eq, beq_iff_eq, Bool.false_eq_true, eq_self, true_iff, iff_true, false_iff, iff_false]; omega) (by rfl)
      · try simp only [zg] at g20
        refine rest [] [0, 3, 7, 10, 15, 18] rfl (by decide) ?_
        exact retH Tryz.func81 rfl rfl (by have := u8l c; refine congrArg AV.bool (Bool.eq_iff_iff.2 ?_); simp only [alnum, decide_eq_true_eq, beq_iff_eq, Bool.false_eq_true, eq_self, true_iff, iff_true, false_iff, iff_false]; omega) (by rfl)

theorem alnum_ok (c : UInt8) : FnOK Tryz.prog 85 [.int .u8 c.toNat] [] (.bool (alnum c)) [] := by
  refine FnOK.of_runs Tryz.func85 rfl (Nat.le_of_ble_eq_true rfl) ?_
  refine seq (reg [] [] rfl (by decide) ?_)
  refine seq (region (restTo 3 [] [0, 3, 7, 10, 15, 18] rfl (by decide) ?_))
  refine splitS 5 rfl (fun g5 => ?_) (fun g5 => ?_)
  · try simp only [zg] at g5
    refine restTo 4 [] [0, 3, 7, 10, 15, 18] rfl (by decide) ?_
    refine splitS 9 rfl (fun g9 => ?_) (fun g9 => ?_)
    · try simp only [zg] at g9
      refine rest [] [0, 3, 7, 10, 15, 18] rfl (by decide) ?_
      exact retH Tryz.func85 rfl rfl (by have := u8l c; refine congrArg AV.bool (Bool.eq_iff_iff.2 ?_); simp only [alnum, decide_eq_true_eq, beq_iff_eq, Bool.false_eq_true, eq_self, true_iff, iff_true, false_iff, iff_false]; omega) (by rfl)
    · try simp only [zg] at g9
      refine restTo 3 [] [0, 3, 7, 10, 15, 18] rfl (by decide) ?_
      refine splitS 12 rfl (fun g12 => ?_) (fun g12 => ?_)
      · try simp only [zg] at g12
        refine restTo 5 [] [0, 3, 7, 10, 15, 18] rfl (by decide) ?_
        refine splitS 17 rfl (fun g17 => ?_) (fun g17 => ?_)
        · try simp only [zg] at g17
          refine rest [] [0, 3, 7, 10, 15, 18] rfl (by decide) ?_
          exact retH Tryz.func85 rfl rfl (by have := u8l c; refine congrArg AV.bool (Bool.eq_iff_iff.2 ?_); simp only [alnum, decide_eq_true_eq, beq_iff_eq, Bool.false_eq_true, eq_self, true_iff, iff_true, false_iff, iff_false]; omega) (by rfl)
        · try simp only [zg] at g17
          refine restTo 3 [] [0, 3, 7, 10, 15, 18] rfl (by decide) ?_
          refine splitS 20 rfl (fun g20 => ?_) (fun g20 => ?_)
          · try simp only [zg] at g20
            refine rest [] [0, 3, 7, 10, 15, 18] rfl (by decide) ?_
            exact retH Tryz.func85 rfl rfl (by have := u8l c; refine congrArg AV.bool (Bool.eq_iff_iff.2 ?_); simp only [alnum, decide_eq_true_eq, beq_iff_eq, Bool.false_eq_true, eq_self, true_iff, iff_true, false_iff, iff_false]; omega) (by rfl)
          · try simp only [zg] at g20
            refine rest [] [0, 3, 7, 10, 15, 18] rfl (by decide) ?_
            exact retH Tryz.func85 rfl rfl (by have := u8l c; refine congrArg AV.bool (Bool.eq_iff_iff.2 ?_); simp only [alnum, decide_eq_true_eq, beq_iff_eq, Bool.false_eq_true, eq_self, true_iff, iff_true, false_iff, iff_false]; omega) (by rfl)
      · try simp only [zg] at g12
        refine restTo 8 [] [0, 3, 7, 10, 15, 18] rfl (by decide) ?_
        refine splitS 20 rfl (fun g20 => ?_) (fun g20 => ?_)
        · try simp only [zg] at g20
          refine rest [] [0, 3, 7, 10, 15, 18] rfl (by decide) ?_
          exact retH Tryz.func85 rfl rfl (by have := u8l c; refine congrArg AV.bool (Bool.eq_iff_iff.2 ?_); simp only [alnum, decide_eq_true_eq, beq_iff_eq, Bool.false_eq_true, eq_self, true_iff, iff_true, false_iff, iff_false]; omega) (by rfl)
        · try simp only [zg] at g20
          refine rest [] [0, 3, 7, 10, 15, 18] rfl (by decide) ?_
          exact retH Tryz.func85 rfl rfl (by have := u8l c; refine congrArg AV.bool (Bool.eq_iff_iff.2 ?_); simp only [alnum, decide_eq_true_eq, beq_iff_eq, Bool.false_eq_true, eq_self, true_iff, iff_true, false_iff, iff_false]; omega) (by rfl)
  · try simp only [zg] at g5
    refine restTo 7 [] [0, 3, 7, 10, 15, 18] rfl (by decide) ?_
    refine splitS 12 rfl (fun g12 => ?_) (fun g12 => ?_)
    · try simp only [zg] at g12
      refine restTo 5 [] [0, 3, 7, 10, 15, 18] rfl (by decide) ?_
      refine splitS 17 rfl (fun g17 => ?_) (fun g17 => ?_)
      · try simp only [zg] at g17
        refine rest [] [0, 3, 7, 10, 15, 18] rfl (by decide) ?_
        exact retH Tryz.func85 rfl rfl (by have := u8l c; refine congrArg AV.bool (Bool.eq_iff_iff.2 ?_); simp only [alnum, decide_eq_true_eq, beq_iff_eq, Bool.false_eq_true, eq_self, true_iff, iff_true, false_iff, iff_false]; omega) (by rfl)
      · try simp only [zg] at g17
        refine restTo 3 [] [0, 3, 7, 10, 15, 18] rfl (by decide) ?_
        refine splitS 20 rfl (fun g20 => ?_) (fun g20 => ?_)
        · try simp only [zg] at g20
          refine rest [] [0, 3, 7, 10, 15, 18] rfl (by decide) ?_
          exact retH Tryz.func85 rfl rfl (by have := u8l c; refine congrArg AV.bool (Bool.eq_iff_iff.2 ?_); simp only [alnum, decide_eq_true_eq, beq_iff_eq, Bool.false_eq_true, eq_self, true_iff, iff_true, false_iff, iff_false]; omega) (by rfl)
        · try simp only [zg] at g20
          refine rest [] [0, 3, 7, 10, 15, 18] rfl (by decide) ?_
          exact retH Tryz.func85 rfl rfl (by have := u8l c; refine congrArg AV.bool (Bool.eq_iff_iff.2 ?_); simp only [alnum, decide_eq_true_eq, beq_iff_eq, Bool.false_eq_true, eq_self, true_iff, iff_true, false_iff, iff_false]; omega) (by rfl)
    · try simp only [zg] at g12
      refine restTo 8 [] [0, 3, 7, 10, 15, 18] rfl (by decide) ?_
      refine splitS 20 rfl (fun g20 => ?_) (fun g20 => ?_)
      · try simp only [zg] at g20
        refine rest [] [0, 3, 7, 10, 15, 18] rfl (by decide) ?_
        exact retH Tryz.func85 rfl rfl (by have := u8l c; refine congrArg AV.bool (Bool.eq_iff_iff.2 ?_); simp only [alnum, decide_eq_true_eq, beq_iff_eq, Bool.false_eq_true, eq_self, true_iff, iff_true, false_iff, iff_false]; omega) (by rfl)
      · try simp only [zg] at g20
        refine rest [] [0, 3, 7, 10, 15, 18] rfl (by decide) ?_
        exact retH Tryz.func85 rfl rfl (by have := u8l c; refine congrArg AV.bool (Bool.eq_iff_iff.2 ?_); simp only [alnum, decide_eq_true_eq, beq_iff_eq, Bool.false_eq_true, eq_self, true_iff, iff_true, false_iff, iff_false]; omega) (by rfl)

theorem blank_ok (c : UInt8) : FnOK Tryz.prog 106 [.int .u8 c.toNat] [] (.bool (blk c)) [] := by
  refine FnOK.of_runs Tryz.func106 rfl (Nat.le_of_ble_eq_true rfl) ?_
  refine seq (reg [] [] rfl (by decide) ?_)
  refine seq (region (restTo 3 [] [0, 3] rfl (by decide) ?_))
  refine splitS 5 rfl (fun g5 => ?_) (fun g5 => ?_)
  · try simp only [zg] at g5
    refine rest [] [0, 3] rfl (by decide) ?_
    exact retH Tryz.func106 rfl rfl (by have := u8l c; refine congrArg AV.bool (Bool.eq_iff_iff.2 ?_); simp only [blk, decide_eq_true_eq, beq_iff_eq, Bool.false_eq_true, eq_self, true_iff, iff_true, false_iff, iff_false]; omega) (by rfl)
  · try simp only [zg] at g5
    refine rest [] [0, 3] rfl (by decide) ?_
    exact retH Tryz.func106 rfl rfl (by have := u8l c; refine congrArg AV.bool (Bool.eq_iff_iff.2 ?_); simp only [blk, decide_eq_true_eq, beq_iff_eq, Bool.false_eq_true, eq_self, true_iff, iff_true, false_iff, iff_false]; omega) (by rfl)

theorem rin_ok (s : List UInt8) (c : UInt8) (hs : s.length ≤ 16777216) : FnOK Tryz.prog 86 [.str s, .int .u8 c.toNat] [] (.bool (s.contains c)) [] := by
  refine FnOK.of_runs Tryz.func86 rfl (Nat.le_of_ble_eq_true rfl) ?_
  refine seq (reg [] [] rfl (by decide) ?_)
  refine seq (seq (reg [] [] rfl (by decide) ?_))
  refine block ?_
  -- loop 0
  refine loopF (σ := Nat) (fun i => InI s c i) (fun i => [(0, .str s), (1, .int .u8 c.toNat), (5, .int .i64 i)]) (fun _ => []) (fun i => s.length - i) (0) (by exact ⟨Nat.zero_le _, by simp⟩) (by exact zag rfl) (by rfl) (fun i hi ih => ?_)
  have hi : InI s c i := hi; have hle := hi.1
  refine seq (seq (reg [] [0, 1] rfl (by decide) ?_))
  refine condS rfl (fun g9 => ?_) (fun g9 => ?_)
  · try simp only [zg] at g9
    refine skip (seq (block (seq (reg [] [0, 1, 3] rfl (by and_intros <;> first | trivial | omega) ?_))))
    refine condS rfl (fun g16 => ?_) (fun g16 => ?_)
    · try simp only [zg] at g16
      refine seq (reg [] [] rfl (by decide) ?_)
      exact retH Tryz.func86 rfl rfl (by rw [in_hit (by omega) (UInt8.toNat_inj.1 (Int.ofNat_inj.1 g16))]) (by rfl)
    · try simp only [zg] at g16
      refine skip (inBlock (reg [] [] rfl (by decide) ?_))
      exact ih (i + 1) _ _ (by exact in_step hi (by omega) (fun e => g16 (by rw [← e]; rfl))) (by omega) (by exact agree_cons rfl (by first | rfl | (refine congrArg (AV.int _) ?_; simp only [wrap_i64', tdivN, tmodN]; omega)) (agree_cons rfl (by first | rfl | (refine congrArg (AV.int _) ?_; simp only [wrap_i64', tdivN, tmodN]; omega) | skip) (agree_cons rfl (by first | rfl | (refine congrArg (AV.int _) ?_; simp only [wrap_i64', tdivN, tmodN]; omega) | skip) (trivial)))) (by rfl)
  · try simp only [zg] at g9
    refine exit rfl (seq (reg [] [] rfl (by decide) ?_))
    exact retH Tryz.func86 rfl rfl (by rw [in_done hi (by omega)]) (by rfl)


def ltrim (s : List UInt8) : List UInt8 := s.dropWhile blk
def rtrim (s : List UInt8) : List UInt8 := (s.reverse.dropWhile blk).reverse
def trimL (s : List UInt8) : List UInt8 := rtrim (ltrim s)
theorem ltrim_nil {x : List UInt8} (h : x = []) : ltrim x = x := by subst h; rfl
theorem ltrim_stop {x : List UInt8} (h : blk (x.getD 0 0) = false) : ltrim x = x := by
  cases x with
  | nil => rfl
  | cons c r => simp only [List.getD_cons_zero] at h; unfold ltrim; rw [List.dropWhile_cons_of_neg (by simp [h])]
theorem ltrim_step {x : List UInt8} (h0 : x ≠ []) (h : blk (x.getD 0 0) = true) : ltrim (x.drop 1) = ltrim x := by
  cases x with
  | nil => exact absurd rfl h0
  | cons c r => simp only [List.getD_cons_zero] at h; unfold ltrim; rw [List.dropWhile_cons_of_pos h]; rfl
theorem last_rev {x : List UInt8} (h0 : x ≠ []) : ∃ l c, x = l ++ [c] ∧ x.getD (x.length - 1) 0 = c ∧ x.take (x.length - 1) = l := by
  obtain ⟨l, c, rfl⟩ : ∃ l c, x = l ++ [c] := ⟨x.dropLast, x.getLast h0, (List.dropLast_concat_getLast h0).symm⟩
  refine ⟨l, c, rfl, ?_, ?_⟩
  · simp [List.getD_eq_getElem?_getD]
  · simp
theorem rtrim_nil {x : List UInt8} (h : x = []) : rtrim x = x := by subst h; rfl
theorem rtrim_stop {x : List UInt8} (h0 : x ≠ []) (h : blk (x.getD (x.length - 1) 0) = false) : rtrim x = x := by
  obtain ⟨l, c, e, h1, _⟩ := last_rev h0
  rw [h1] at h; subst e
  unfold rtrim
  rw [List.reverse_append, List.reverse_cons, List.reverse_nil, List.nil_append, List.singleton_append, List.dropWhile_cons_of_neg (by simp [h])]
  simp
theorem rtrim_step {x : List UInt8} (h0 : x ≠ []) (h : blk (x.getD (x.length - 1) 0) = true) : rtrim (x.take (x.length - 1)) = rtrim x := by
  obtain ⟨l, c, e, h1, h2⟩ := last_rev h0
  rw [h2]; rw [h1] at h; subst e
  unfold rtrim
  rw [List.reverse_append, List.reverse_cons, List.reverse_nil, List.nil_append, List.singleton_append, List.dropWhile_cons_of_pos h]
theorem ne_len {x : List UInt8} (h : x ≠ []) : 0 < x.length := List.length_pos_iff.2 h
theorem blk_eq (c : UInt8) : blk c = true ↔ ((c.toNat : Int) = 32 ∨ (c.toNat : Int) = 9) := by simp only [blk, decide_eq_true_eq]; omega

theorem ctrim_ok (s : List UInt8) (hs : s.length ≤ 16777216) : FnOK Tryz.prog 105 [.str s] [] (.str (trimL s)) [] := by
  refine FnOK.of_runs Tryz.func105 rfl (Nat.le_of_ble_eq_true rfl) ?_
  refine seq (reg [] [] rfl (by decide) ?_)
  refine seq (block ?_)
  -- loop 0
  refine loopF (σ := List UInt8) (fun x => ltrim x = ltrim s ∧ x.length ≤ s.length) (fun x => [(0, .str x)]) (fun _ => []) (fun x => x.length) (s) (by exact ⟨rfl, Nat.le_refl _⟩) (by exact zag rfl) (by rfl) (fun x hi ih => ?_)
  obtain ⟨hi1, hi2⟩ : ltrim x = ltrim s ∧ x.length ≤ s.length := hi
  refine seq (seq (region (restTo 3 [(5, { res := .bool (blk (x.getD (Int.toNat 0) 0)) })] [0, 3] rfl (by and_intros <;> first | exact ⟨⟩ | exact blank_ok _) ?_)))
  refine splitS 5 rfl (fun g5 => ?_) (fun g5 => ?_)
  · try simp only [zg] at g5
    have gne : x ≠ [] := g5; have hlx := ne_len gne
    refine rest [(5, { res := .bool (blk (x.getD (Int.toNat 0) 0)) })] [0, 3] rfl (by and_intros <;> first | exact ⟨⟩ | omega | exact blank_ok _) ?_
    refine condS rfl (fun g9 => ?_) (fun g9 => ?_)
    · try simp only [zg] at g9
      have gbl : blk (x.getD 0 0) = true := g9
      refine skip (block (reg [] [] rfl (by and_intros <;> first | exact ⟨⟩ | omega) ?_))
      refine inBlock ?_
      exact ih (x.drop 1) _ _ (by exact ⟨(ltrim_step gne gbl).trans hi1, by rw [List.length_drop]; omega⟩) (by have := ne_len gne; rw [List.length_drop]; omega) (by exact agree_cons rfl (by (refine congrArg AV.str ?_; (rw [Int.toNat_natCast, List.take_length]; rfl))) (trivial)) (by rfl)
    · try simp only [zg] at g9
      have hst := ltrim_stop (x := x) (by simpa using g9)
      refine exit rfl (seq (block ?_))
      -- loop 1
      refine loopF (σ := List UInt8) (fun y => rtrim y = trimL s ∧ y.length ≤ s.length) (fun y => [(0, .str y)]) (fun _ => []) (fun y => y.length) (x) (by exact ⟨by rw [trimL, ← hi1, hst], hi2⟩) (by exact zag rfl) (by rfl) (fun y hj jh => ?_)
      obtain ⟨hj1, hj2⟩ : rtrim y = trimL s ∧ y.length ≤ s.length := hj
      refine seq (seq (region (restTo 3 [(8, { res := .bool (blk (y.getD (IntKind.i64.wrap ((y.length : Int) - 1)).toNat 0)) })] [0, 3, 4] rfl (by and_intros <;> first | exact ⟨⟩ | (rw [i64_id (by omega) (by omega)]; omega)) ?_)))
      refine splitS 14 rfl (fun g14 => ?_) (fun g14 => ?_)
      · try simp only [zg] at g14
        have gne2 : y ≠ [] := g14; have hly := ne_len gne2; have hw : (IntKind.i64.wrap ((y.length : Int) - 1)).toNat = y.length - 1 := by rw [i64_id (by omega) (by omega)]; omega
        refine rest [(8, { res := .bool (blk (y.getD (IntKind.i64.wrap ((y.length : Int) - 1)).toNat 0)) })] [0, 3, 4] rfl (by and_intros <;> first | exact ⟨⟩ | exact blank_ok _ | (rw [i64_id (by omega) (by omega)]; omega)) ?_
        refine condS rfl (fun g21 => ?_) (fun g21 => ?_)
        · try simp only [zg] at g21
          have gbl2 : blk (y.getD (y.length - 1) 0) = true := by rw [← hw]; exact g21
          refine skip (block (reg [] [0, 1] rfl (by and_intros <;> first | exact ⟨⟩ | omega | (rw [i64_id (by omega) (by omega)]; omega)) ?_))
          refine inBlock ?_
          exact jh (y.take (y.length - 1)) _ _ (by exact ⟨(rtrim_step gne2 gbl2).trans hj1, by rw [List.length_take]; omega⟩) (by have := ne_len gne2; rw [List.length_take]; omega) (by exact agree_cons rfl (by (refine congrArg AV.str ?_; (rw [hw]; rfl))) (trivial)) (by rfl)
        · try simp only [zg] at g21
          have hst2 := rtrim_stop (x := y) gne2 (by rw [← hw]; simpa using g21)
          refine exit rfl (seq (reg [] [0] rfl (by decide) ?_))
          exact retH Tryz.func105 rfl rfl (by rw [← hj1, hst2]) (by rfl)
      · try simp only [zg] at g14
        have hst2 := rtrim_nil (x := y) (by simpa using g14)
        refine rest [(8, { res := .bool (blk (y.getD (IntKind.i64.wrap ((y.length : Int) - 1)).toNat 0)) })] [0, 3, 4] rfl (by and_intros <;> first | exact ⟨⟩ | (rw [i64_id (by omega) (by omega)]; omega)) ?_
        refine condF rfl (exit rfl (seq (reg [] [0] rfl (by decide) ?_)))
        exact retH Tryz.func105 rfl rfl (by rw [← hj1, hst2]) (by rfl)
  · try simp only [zg] at g5
    have hst := ltrim_nil (x := x) (by simpa using g5)
    refine rest [(5, { res := .bool (blk (x.getD (Int.toNat 0) 0)) })] [0, 3] rfl (by and_intros <;> first | exact ⟨⟩ | exact blank_ok _) ?_
    refine condF rfl (exit rfl (seq (block ?_)))
    -- loop 1
    refine loopF (σ := List UInt8) (fun y => rtrim y = trimL s ∧ y.length ≤ s.length) (fun y => [(0, .str y)]) (fun _ => []) (fun y => y.length) (x) (by exact ⟨by rw [trimL, ← hi1, hst], hi2⟩) (by exact zag rfl) (by rfl) (fun y hj jh => ?_)
    obtain ⟨hj1, hj2⟩ : rtrim y = trimL s ∧ y.length ≤ s.length := hj
    refine seq (seq (region (restTo 3 [(8, { res := .bool (blk (y.getD (IntKind.i64.wrap ((y.length : Int) - 1)).toNat 0)) })] [0, 3, 4] rfl (by and_intros <;> first | exact ⟨⟩ | (rw [i64_id (by omega) (by omega)]; omega)) ?_)))
    refine splitS 14 rfl (fun g14 => ?_) (fun g14 => ?_)
    · try simp only [zg] at g14
      have gne2 : y ≠ [] := g14; have hly := ne_len gne2; have hw : (IntKind.i64.wrap ((y.length : Int) - 1)).toNat = y.length - 1 := by rw [i64_id (by omega) (by omega)]; omega
      refine rest [(8, { res := .bool (blk (y.getD (IntKind.i64.wrap ((y.length : Int) - 1)).toNat 0)) })] [0, 3, 4] rfl (by and_intros <;> first | exact ⟨⟩ | exact blank_ok _ | (rw [i64_id (by omega) (by omega)]; omega)) ?_
      refine condS rfl (fun g21 => ?_) (fun g21 => ?_)
      · try simp only [zg] at g21
        have gbl2 : blk (y.getD (y.length - 1) 0) = true := by rw [← hw]; exact g21
        refine skip (block (reg [] [0, 1] rfl (by and_intros <;> first | exact ⟨⟩ | omega | (rw [i64_id (by omega) (by omega)]; omega)) ?_))
        refine inBlock ?_
        exact jh (y.take (y.length - 1)) _ _ (by exact ⟨(rtrim_step gne2 gbl2).trans hj1, by rw [List.length_take]; omega⟩) (by have := ne_len gne2; rw [List.length_take]; omega) (by exact agree_cons rfl (by (refine congrArg AV.str ?_; (rw [hw]; rfl))) (trivial)) (by rfl)
      · try simp only [zg] at g21
        have hst2 := rtrim_stop (x := y) gne2 (by rw [← hw]; simpa using g21)
        refine exit rfl (seq (reg [] [0] rfl (by decide) ?_))
        exact retH Tryz.func105 rfl rfl (by rw [← hj1, hst2]) (by rfl)
    · try simp only [zg] at g14
      have hst2 := rtrim_nil (x := y) (by simpa using g14)
      refine rest [(8, { res := .bool (blk (y.getD (IntKind.i64.wrap ((y.length : Int) - 1)).toNat 0)) })] [0, 3, 4] rfl (by and_intros <;> first | exact ⟨⟩ | (rw [i64_id (by omega) (by omega)]; omega)) ?_
      refine condF rfl (exit rfl (seq (reg [] [0] rfl (by decide) ?_)))
      exact retH Tryz.func105 rfl rfl (by rw [← hj1, hst2]) (by rfl)

theorem rtrim_ok (s : List UInt8) (hs : s.length ≤ 16777216) : FnOK Tryz.prog 114 [.str s] [] (.str (trimL s)) [] := by
  refine FnOK.of_runs Tryz.func114 rfl (Nat.le_of_ble_eq_true rfl) ?_
  refine seq (reg [] [] rfl (by decide) ?_)
  refine seq (block ?_)
  -- loop 0
  refine loopF (σ := List UInt8) (fun x => ltrim x = ltrim s ∧ x.length ≤ s.length) (fun x => [(0, .str x)]) (fun _ => []) (fun x => x.length) (s) (by exact ⟨rfl, Nat.le_refl _⟩) (by exact zag rfl) (by rfl) (fun x hi ih => ?_)
  obtain ⟨hi1, hi2⟩ : ltrim x = ltrim s ∧ x.length ≤ s.length := hi
  refine seq (seq (region (restTo 4 [] [0, 4, 8] rfl (by and_intros <;> first | exact ⟨⟩ | exact zl rfl) ?_)))
  refine splitS 6 rfl (fun g6 => ?_) (fun g6 => ?_)
  · try simp only [zg] at g6
    have gne : x ≠ [] := (fun e => by subst e; simp at g6); have hlx := ne_len gne
    refine restTo 4 [] [0, 4, 8] rfl (by and_intros <;> first | exact ⟨⟩ | omega | exact zl rfl) ?_
    refine splitS 10 rfl (fun g10 => ?_) (fun g10 => ?_)
    · try simp only [zg] at g10
      have gbl : blk (x.getD 0 0) = true := (blk_eq _).2 (.inl g10)
      refine rest [] [0, 4, 8] rfl (by and_intros <;> first | exact ⟨⟩ | exact zl rfl) ?_
      refine condT rfl (skip (block (reg [] [] rfl (by and_intros <;> first | exact ⟨⟩ | omega) ?_)))
      refine inBlock ?_
      exact ih (x.drop 1) _ _ (by exact ⟨(ltrim_step gne gbl).trans hi1, by rw [List.length_drop]; omega⟩) (by have := ne_len gne; rw [List.length_drop]; omega) (by exact agree_cons rfl (by (refine congrArg AV.str ?_; (rw [Int.toNat_natCast, List.take_length]; rfl))) (trivial)) (by rfl)
    · try simp only [zg] at g10
      refine rest [] [0, 4, 8] rfl (by and_intros <;> first | exact ⟨⟩ | omega | exact zl rfl) ?_
      refine condS rfl (fun g15 => ?_) (fun g15 => ?_)
      · try simp only [zg] at g15
        have gbl : blk (x.getD 0 0) = true := (blk_eq _).2 (.inr g15)
        refine skip (block (reg [] [] rfl (by and_intros <;> first | exact ⟨⟩ | omega) ?_))
        refine inBlock ?_
        exact ih (x.drop 1) _ _ (by exact ⟨(ltrim_step gne gbl).trans hi1, by rw [List.length_drop]; omega⟩) (by have := ne_len gne; rw [List.length_drop]; omega) (by exact agree_cons rfl (by (refine congrArg AV.str ?_; (rw [Int.toNat_natCast, List.take_length]; rfl))) (trivial)) (by rfl)
      · try simp only [zg] at g15
        have hst := ltrim_stop (x := x) (by rw [← Bool.not_eq_true, blk_eq]; rintro (h | h); exact g10 h; exact g15 h)
        refine exit rfl (seq (block ?_))
        -- loop 1
        refine loopF (σ := List UInt8) (fun y => rtrim y = trimL s ∧ y.length ≤ s.length) (fun y => [(0, .str y)]) (fun _ => []) (fun y => y.length) (x) (by exact ⟨by rw [trimL, ← hi1, hst], hi2⟩) (by exact zag rfl) (by rfl) (fun y hj jh => ?_)
        obtain ⟨hj1, hj2⟩ : rtrim y = trimL s ∧ y.length ≤ s.length := hj
        refine seq (seq (region (restTo 4 [] [0, 4, 5, 11, 12] rfl (by and_intros <;> first | exact ⟨⟩ | (rw [i64_id (by omega) (by omega)]; omega)) ?_)))
        refine splitS 21 rfl (fun g21 => ?_) (fun g21 => ?_)
        · try simp only [zg] at g21
          have gne2 : y ≠ [] := (fun e => by subst e; simp at g21); have hly := ne_len gne2; have hw : (IntKind.i64.wrap ((y.length : Int) - 1)).toNat = y.length - 1 := by rw [i64_id (by omega) (by omega)]; omega
          refine restTo 7 [] [0, 4, 5, 11, 12] rfl (by and_intros <;> first | exact ⟨⟩ | (rw [i64_id (by omega) (by omega)]; omega)) ?_
          refine splitS 28 rfl (fun g28 => ?_) (fun g28 => ?_)
          · try simp only [zg] at g28
            have gbl2 : blk (y.getD (y.length - 1) 0) = true := (blk_eq _).2 (.inl (by rw [← hw]; exact g28))
            refine rest [] [0, 4, 5, 11, 12] rfl (by and_intros <;> first | exact ⟨⟩ | (rw [i64_id (by omega) (by omega)]; omega)) ?_
            refine condT rfl (skip (block (reg [] [0, 1] rfl (by and_intros <;> first | exact ⟨⟩ | omega | (rw [i64_id (by omega) (by omega)]; omega)) ?_)))
            refine inBlock ?_
            exact jh (y.take (y.length - 1)) _ _ (by exact ⟨(rtrim_step gne2 gbl2).trans hj1, by rw [List.length_take]; omega⟩) (by have := ne_len gne2; rw [List.length_take]; omega) (by exact agree_cons rfl (by (refine congrArg AV.str ?_; (rw [hw]; rfl))) (trivial)) (by rfl)
          · try simp only [zg] at g28
            refine rest [] [0, 4, 5, 11, 12] rfl (by and_intros <;> first | exact ⟨⟩ | (rw [i64_id (by omega) (by omega)]; omega)) ?_
            refine condS rfl (fun g36 => ?_) (fun g36 => ?_)
            · try simp only [zg] at g36
              have gbl2 : blk (y.getD (y.length - 1) 0) = true := (blk_eq _).2 (.inr (by rw [← hw]; exact g36))
              refine skip (block (reg [] [0, 1] rfl (by and_intros <;> first | exact ⟨⟩ | omega | (rw [i64_id (by omega) (by omega)]; omega)) ?_))
              refine inBlock ?_
              exact jh (y.take (y.length - 1)) _ _ (by exact ⟨(rtrim_step gne2 gbl2).trans hj1, by rw [List.length_take]; omega⟩) (by have := ne_len gne2; rw [List.length_take]; omega) (by exact agree_cons rfl (by (refine congrArg AV.str ?_; (rw [hw]; rfl))) (trivial)) (by rfl)
            · try simp only [zg] at g36
              have hst2 := rtrim_stop (x := y) gne2 (by rw [← Bool.not_eq_true, blk_eq, ← hw]; rintro (h | h); exact g28 h; exact g36 h)
              refine exit rfl (seq (reg [] [0] rfl (by decide) ?_))
              exact retH Tryz.func114 rfl rfl (by rw [← hj1, hst2]) (by rfl)
        · try simp only [zg] at g21
          have hst2 := rtrim_nil (x := y) (List.eq_nil_of_length_eq_zero (by omega))
          refine rest [] [0, 4, 5, 11, 12] rfl (by and_intros <;> first | exact ⟨⟩ | (rw [i64_id (by omega) (by omega)]; omega)) ?_
          refine condF rfl (exit rfl (seq (reg [] [0] rfl (by decide) ?_)))
          exact retH Tryz.func114 rfl rfl (by rw [← hj1, hst2]) (by rfl)
  · try simp only [zg] at g6
    have hst := ltrim_nil (x := x) (List.eq_nil_of_length_eq_zero (by omega))
    refine rest [] [0, 4, 8] rfl (by and_intros <;> first | exact ⟨⟩ | exact zl rfl) ?_
    refine condF rfl (exit rfl (seq (block ?_)))
    -- loop 1
    refine loopF (σ := List UInt8) (fun y => rtrim y = trimL s ∧ y.length ≤ s.length) (fun y => [(0, .str y)]) (fun _ => []) (fun y => y.length) (x) (by exact ⟨by rw [trimL, ← hi1, hst], hi2⟩) (by exact zag rfl) (by rfl) (fun y hj jh => ?_)
    obtain ⟨hj1, hj2⟩ : rtrim y = trimL s ∧ y.length ≤ s.length := hj
    refine seq (seq (region (restTo 4 [] [0, 4, 5, 11, 12] rfl (by and_intros <;> first | exact ⟨⟩ | (rw [i64_id (by omega) (by omega)]; omega)) ?_)))
    refine splitS 21 rfl (fun g21 => ?_) (fun g21 => ?_)
    · try simp only [zg] at g21
      have gne2 : y ≠ [] := (fun e => by subst e; simp at g21); have hly := ne_len gne2; have hw : (IntKind.i64.wrap ((y.length : Int) - 1)).toNat = y.length - 1 := by rw [i64_id (by omega) (by omega)]; omega
      refine restTo 7 [] [0, 4, 5, 11, 12] rfl (by and_intros <;> first | exact ⟨⟩ | (rw [i64_id (by omega) (by omega)]; omega)) ?_
      refine splitS 28 rfl (fun g28 => ?_) (fun g28 => ?_)
      · try simp only [zg] at g28
        have gbl2 : blk (y.getD (y.length - 1) 0) = true := (blk_eq _).2 (.inl (by rw [← hw]; exact g28))
        refine rest [] [0, 4, 5, 11, 12] rfl (by and_intros <;> first | exact ⟨⟩ | (rw [i64_id (by omega) (by omega)]; omega)) ?_
        refine condT rfl (skip (block (reg [] [0, 1] rfl (by and_intros <;> first | exact ⟨⟩ | omega | (rw [i64_id (by omega) (by omega)]; omega)) ?_)))
        refine inBlock ?_
        exact jh (y.take (y.length - 1)) _ _ (by exact ⟨(rtrim_step gne2 gbl2).trans hj1, by rw [List.length_take]; omega⟩) (by have := ne_len gne2; rw [List.length_take]; omega) (by exact agree_cons rfl (by (refine congrArg AV.str ?_; (rw [hw]; rfl))) (trivial)) (by rfl)
      · try simp only [zg] at g28
        refine rest [] [0, 4, 5, 11, 12] rfl (by and_intros <;> first | exact ⟨⟩ | (rw [i64_id (by omega) (by omega)]; omega)) ?_
        refine condS rfl (fun g36 => ?_) (fun g36 => ?_)
        · try simp only [zg] at g36
          have gbl2 : blk (y.getD (y.length - 1) 0) = true := (blk_eq _).2 (.inr (by rw [← hw]; exact g36))
          refine skip (block (reg [] [0, 1] rfl (by and_intros <;> first | exact ⟨⟩ | omega | (rw [i64_id (by omega) (by omega)]; omega)) ?_))
          refine inBlock ?_
          exact jh (y.take (y.length - 1)) _ _ (by exact ⟨(rtrim_step gne2 gbl2).trans hj1, by rw [List.length_take]; omega⟩) (by have := ne_len gne2; rw [List.length_take]; omega) (by exact agree_cons rfl (by (refine congrArg AV.str ?_; (rw [hw]; rfl))) (trivial)) (by rfl)
        · try simp only [zg] at g36
          have hst2 := rtrim_stop (x := y) gne2 (by rw [← Bool.not_eq_true, blk_eq, ← hw]; rintro (h | h); exact g28 h; exact g36 h)
          refine exit rfl (seq (reg [] [0] rfl (by decide) ?_))
          exact retH Tryz.func114 rfl rfl (by rw [← hj1, hst2]) (by rfl)
    · try simp only [zg] at g21
      have hst2 := rtrim_nil (x := y) (List.eq_nil_of_length_eq_zero (by omega))
      refine rest [] [0, 4, 5, 11, 12] rfl (by and_intros <;> first | exact ⟨⟩ | (rw [i64_id (by omega) (by omega)]; omega)) ?_
      refine condF rfl (exit rfl (seq (reg [] [0] rfl (by decide) ?_)))
      exact retH Tryz.func114 rfl rfl (by rw [← hj1, hst2]) (by rfl)


theorem idx_hit : ∀ {s : List UInt8} {c : UInt8} {i : Nat}, InI s c i → i < s.length → s.getD i 0 = c → Lib.indexByte s c = i := by
  intro s c i h hi e
  have hm : s[i]? = some c := by
    rw [List.getElem?_eq_getElem hi]
    rw [List.getD_eq_getElem?_getD, List.getElem?_eq_getElem hi] at e
    simpa using e
  rcases Int.lt_or_le (Lib.indexByte s c) 0 with hn | hp
  · have := Lib.indexByte_ge s c
    exact absurd hm (Lib.indexByte_none (by omega) i)
  · obtain ⟨j, hj⟩ := Int.eq_ofNat_of_zero_le hp
    have h2 := Lib.indexByte_some hj
    rw [hj]
    rcases Nat.lt_trichotomy i j with h | h | h
    · exact absurd hm (h2.2 i h)
    · rw [h]
    · exfalso
      have hj2 : j < s.length := (List.getElem?_eq_some_iff.1 h2.1).1
      refine (by assumption : InI s c i).2 ?_
      rw [List.mem_take_iff_getElem]
      refine ⟨j, by omega, ?_⟩
      have := h2.1
      rw [List.getElem?_eq_getElem hj2] at this
      simpa using this
theorem idx_miss {s : List UInt8} {c : UInt8} {i : Nat} (h : InI s c i) (hi : s.length ≤ i) : ¬ 0 ≤ Lib.indexByte s c := by
  intro hp
  obtain ⟨j, hj⟩ := Int.eq_ofNat_of_zero_le hp
  have h2 := (Lib.indexByte_some hj).1
  have := h.2
  rw [List.take_of_length_le hi] at this
  exact this (List.mem_of_getElem? h2)
def foldN (t : List UInt8) : Nat → List UInt8
  | 0 => []
  | i + 1 => if blk (t.getD i 0) = true then (if blk (t.getD (i - 1) 0) = true then foldN t i else foldN t i ++ [32]) else foldN t i ++ [t.getD i 0]
def foldL (s : List UInt8) : List UInt8 := foldN (trimL s) (trimL s).length
theorem foldN_len (t : List UInt8) : ∀ i, (foldN t i).length ≤ i
  | 0 => Nat.le_refl _
  | i + 1 => by
    have := foldN_len t i
    unfold foldN
    repeat' split
    all_goals ((try simp only [List.length_append, List.length_cons, List.length_nil]); omega)
theorem ltrim_len (s : List UInt8) : (ltrim s).length ≤ s.length := (List.dropWhile_suffix _).length_le
theorem trimL_len (s : List UInt8) : (trimL s).length ≤ s.length := by
  have h1 := (List.dropWhile_suffix blk (l := (ltrim s).reverse)).length_le
  have h2 := ltrim_len s
  unfold trimL rtrim
  rw [List.length_reverse]; rw [List.length_reverse] at h1; omega
theorem trimL_head (s : List UInt8) (h : trimL s ≠ []) : blk ((trimL s).getD 0 0) = false := by
  have hp : trimL s <+: ltrim s := by
    unfold trimL rtrim
    have := List.dropWhile_suffix blk (l := (ltrim s).reverse)
    have h2 := List.reverse_prefix.2 this
    rwa [List.reverse_reverse] at h2
  obtain ⟨r, hr⟩ := hp
  cases ht : trimL s with
  | nil => exact absurd ht h
  | cons c l =>
    rw [ht] at hr
    simp only [List.getD_cons_zero]
    have : ltrim s = c :: (l ++ r) := by rw [← hr]; rfl
    unfold ltrim at this
    have h3 := List.head?_dropWhile_not blk s
    rw [this] at h3
    simpa using h3
def joinN (l : List (List UInt8)) (sep : List UInt8) : Nat → List UInt8
  | 0 => []
  | i + 1 => (if 0 < i then joinN l sep i ++ sep else joinN l sep i) ++ l.getD i []
def joinL (l : List (List UInt8)) (sep : List UInt8) : List UInt8 := joinN l sep l.length
theorem joinN_succ (l : List (List UInt8)) (sep : List UInt8) (i : Nat) : joinN l sep (i + 1) = (if 0 < i then joinN l sep i ++ sep else joinN l sep i) ++ l.getD i [] := rfl
theorem joinN_mono (l : List (List UInt8)) (sep : List UInt8) (i : Nat) : ∀ j, i ≤ j → (joinN l sep i).length ≤ (joinN l sep j).length
  | 0, h => by rw [show i = 0 by omega]; exact Nat.le_refl _
  | j + 1, h => by
    rcases Nat.lt_or_ge j i with h1 | h1
    · rw [show i = j + 1 by omega]; exact Nat.le_refl _
    · have := joinN_mono l sep i j h1
      rw [joinN_succ]
      split <;> simp only [List.length_append] <;> omega
theorem joinN_step (l : List (List UInt8)) (sep : List UInt8) (i : Nat) (h : i < l.length) : (if 0 < i then (joinN l sep i).length + sep.length else (joinN l sep i).length) + (l.getD i []).length ≤ (joinL l sep).length := by
  have := joinN_mono l sep (i + 1) l.length h
  unfold joinL
  refine Nat.le_trans ?_ this
  rw [joinN_succ]
  split <;> simp only [List.length_append] <;> omega

theorem rcut_ok (s : List UInt8) (c : UInt8) (hs : s.length ≤ 16777216) : FnOK Tryz.prog 43 [.str s, .int .u8 c.toNat] [] (.tup [.str (cutF s c).1, .str (cutF s c).2.1, .bool (cutF s c).2.2]) [] := by
  refine FnOK.of_runs Tryz.func43 rfl (Nat.le_of_ble_eq_true rfl) ?_
  refine seq (reg [] [] rfl (by decide) ?_)
  refine seq (seq (reg [] [] rfl (by decide) ?_))
  refine block ?_
  -- loop 0
  refine loopF (σ := Nat) (fun i => InI s c i) (fun i => [(0, .str s), (1, .int .u8 c.toNat), (7, .int .i64 i)]) (fun _ => []) (fun i => s.length - i) (0) (by exact ⟨Nat.zero_le _, by simp⟩) (by exact zag rfl) (by rfl) (fun i hi ih => ?_)
  have hi : InI s c i := hi; have hle := hi.1
  refine seq (seq (reg [] [0, 1] rfl (by decide) ?_))
  refine condS rfl (fun g11 => ?_) (fun g11 => ?_)
  · try simp only [zg] at g11
    refine skip (seq (block (seq (reg [] [0, 1, 3] rfl (by and_intros <;> first | trivial | omega) ?_))))
    refine condS rfl (fun g18 => ?_) (fun g18 => ?_)
    · try simp only [zg] at g18
      have hci := cut_some (idx_hit hi (by omega) (UInt8.toNat_inj.1 (Int.ofNat_inj.1 g18)))
      refine seq (regD [] [0, 1, 3, 4] rfl rfl rfl (by and_intros <;> first | exact ⟨⟩ | omega | (rw [i64_id (by omega) (by omega)]; omega)) ?_)
      exact retH Tryz.func43 rfl rfl (by rw [hci.1]; exact congrArg AV.tup (by rw [i64_id (by omega) (by omega), Int.toNat_natCast, Int.toNat_natCast, List.take_length]; rfl)) (by rfl)
    · try simp only [zg] at g18
      refine skip (inBlock (reg [] [] rfl (by decide) ?_))
      exact ih (i + 1) _ _ (by exact in_step hi (by omega) (fun e => g18 (by rw [← e]; rfl))) (by omega) (by exact agree_cons rfl (by first | rfl | (refine congrArg (AV.int _) ?_; simp only [wrap_i64', tdivN, tmodN]; omega)) (agree_cons rfl (by first | rfl | (refine congrArg (AV.int _) ?_; simp only [wrap_i64', tdivN, tmodN]; omega) | skip) (agree_cons rfl (by first | rfl | (refine congrArg (AV.int _) ?_; simp only [wrap_i64', tdivN, tmodN]; omega) | skip) (trivial)))) (by rfl)
  · try simp only [zg] at g11
    refine exit rfl (seq (reg [] [0] rfl (by decide) ?_))
    exact retH Tryz.func43 rfl rfl (by rw [cut_none (s := s) (c := c) (idx_miss hi (by omega))]) (by rfl)

theorem rsplit_ok (s : List UInt8) (c : UInt8) (hs : s.length ≤ 16777216) : FnOK Tryz.prog 84 [.str s, .int .u8 c.toNat] [] (.sl 1 (splitL s c).length (strEl (splitL s c)) false) [] := by
  refine FnOK.of_runs Tryz.func84 rfl (Nat.le_of_ble_eq_true rfl) ?_
  refine seq (reg [] [] rfl (by decide) ?_)
  refine seq (reg [] [] rfl (by decide) ?_)
  refine seq (reg [] [] rfl (by decide) ?_)
  refine seq (seq (reg [] [] rfl (by decide) ?_))
  refine block ?_
  -- loop 0
  refine loopF (σ := Nat) (fun i => i ≤ s.length) (fun i => [(0, .str s), (1, .int .u8 c.toNat), (5, .sl 1 (spI s c i).1.length (strEl (spI s c i).1) true), (6, .int .i64 (spI s c i).2), (7, .int .i64 i)]) (fun _ => []) (fun i => s.length - i) (0) (by exact Nat.zero_le _) (by exact agree_cons rfl (by rfl) (agree_cons rfl (by rfl) (agree_imp rfl (by exact Imp.slEq rfl (fun i hi => absurd hi (Nat.not_lt_zero _))) rfl rfl (agree_cons rfl (by rfl) (agree_cons rfl (by rfl) (trivial)))))) (by rfl) (fun i hi ih => ?_)
  replace hi : i ≤ s.length := hi; have hle := spI_le s c i
  refine seq (seq (reg [] [0, 1] rfl (by decide) ?_))
  refine condS rfl (fun g11 => ?_) (fun g11 => ?_)
  · try simp only [zg] at g11
    refine skip (seq (block (seq (reg [] [0, 1, 3] rfl (by and_intros <;> first | exact ⟨⟩ | omega) ?_))))
    refine condS rfl (fun g18 => ?_) (fun g18 => ?_)
    · try simp only [zg] at g18
      have hsp : spI s c (i + 1) = ((spI s c i).1 ++ [(s.take i).drop (spI s c i).2], i + 1) := if_pos (Int.ofNat_inj.1 g18)
      refine seq (reg [] [] rfl (by and_intros <;> first | exact ⟨⟩ | omega) ?_)
      refine reg [] [0] rfl (by decide) ?_
      refine inBlock (reg [] [] rfl (by decide) ?_)
      exact ih (i + 1) _ _ (by omega) (by omega) (by exact agree_cons rfl (by first | rfl | (refine congrArg (AV.int _) ?_; simp only [wrap_i64', tdivN, tmodN]; omega)) (agree_cons rfl (by first | rfl | (refine congrArg (AV.int _) ?_; simp only [wrap_i64', tdivN, tmodN]; omega) | skip) (agree_imp rfl (by (rw [hsp]; exact st_app rfl _ rfl)) rfl rfl (agree_cons rfl (by (rw [hsp, i64_id (by omega) (by omega)]; rfl)) (agree_cons rfl (by first | rfl | (refine congrArg (AV.int _) ?_; simp only [wrap_i64', tdivN, tmodN]; omega) | skip) (trivial)))))) (by rfl)
    · try simp only [zg] at g18
      have hsp : spI s c (i + 1) = spI s c i := if_neg (fun e => g18 (Int.ofNat_inj.2 e))
      refine skip (inBlock (reg [] [] rfl (by decide) ?_))
      exact ih (i + 1) _ _ (by omega) (by omega) (by exact agree_cons rfl (by first | rfl | (refine congrArg (AV.int _) ?_; simp only [wrap_i64', tdivN, tmodN]; omega)) (agree_cons rfl (by first | rfl | (refine congrArg (AV.int _) ?_; simp only [wrap_i64', tdivN, tmodN]; omega) | skip) (agree_imp rfl (by (rw [hsp]; exact Imp.refl _)) rfl rfl (agree_cons rfl (by (rw [hsp]; done)) (agree_cons rfl (by first | rfl | (refine congrArg (AV.int _) ?_; simp only [wrap_i64', tdivN, tmodN]; omega) | skip) (trivial)))))) (by rfl)
  · try simp only [zg] at g11
    refine exit rfl (seq ?_)
    obtain rfl : i = s.length := by omega
    have e : List.drop ((spI s c s.length).2 : Int).toNat (List.take (s.length : Int).toNat s) = s.drop (spI s c s.length).2 := by rw [Int.toNat_natCast, Int.toNat_natCast, List.take_length]
    refine reg [] [] rfl (by and_intros <;> first | exact ⟨⟩ | omega) ?_
    refine frame [(4, .sl 1 (splitL s c).length (strEl (splitL s c)) true)] (by exact agree_imp rfl (by exact st_app rfl (splitL s c) (by rw [e]; rfl)) rfl rfl trivial) ?_
    exact frame [(4, .sl 1 (splitL s c).length (strEl (splitL s c)) false)] (by exact agree_imp rfl (by exact imp_off rfl (fun i _ => rfl)) rfl rfl trivial) (retH Tryz.func84 rfl rfl rfl rfl)

theorem rquery_ok (t : List UInt8) (ht : t.length ≤ 8388608) : FnOK Tryz.prog 41 [.str t] [] (.tup [.str (queryP t), .sl 2 (queryQ t).length (hdEl (queryQ t)) false]) [] := by
  refine FnOK.of_runs Tryz.func41 rfl (Nat.le_of_ble_eq_true rfl) ?_
  refine seq (reg [] [] rfl (by decide) ?_)
  refine seq ?_
  obtain ⟨q, hq⟩ : ∃ q, q = (cutF t 63).2.1 := ⟨_, rfl⟩; have hql : q.length ≤ t.length := (by rw [hq]; exact (cut_len t 63).2); obtain ⟨ps, hps⟩ : ∃ ps, ps = splitL q 38 := ⟨_, rfl⟩; have hpl : ps.length ≤ q.length + 1 := (by rw [hps]; exact splitL_len q 38)
  refine reg [(1, { res := .tup [.str (queryP t), .str q, .bool (cutF t 63).2.2] })] [0] rfl (by and_intros <;> first | exact ⟨⟩ | (rw [hq]; exact rcut_ok t 63 (by omega))) ?_
  refine seq (reg [] [] rfl (by decide) ?_)
  refine seq (reg [(1, { res := .sl 1 ps.length (strEl ps) false })] [0] rfl (by and_intros <;> first | exact ⟨⟩ | (rw [hps]; exact rsplit_ok q 38 (by omega))) ?_)
  refine seq (seq (reg [] [] rfl (by decide) ?_))
  refine block ?_
  -- loop 0
  refine loopF (σ := Nat) (fun i => i ≤ ps.length) (fun i => [(4, .str (queryP t)), (7, .sl 2 (qN ps i).length (hdEl (qN ps i)) true), (8, .sl 1 ps.length (strEl ps) false), (9, .int .i64 i)]) (fun _ => []) (fun i => ps.length - i) (0) (by exact Nat.zero_le _) (by exact agree_cons rfl (by rfl) (agree_imp rfl (by exact Imp.slEq rfl (fun i hi => absurd hi (Nat.not_lt_zero _))) rfl rfl (agree_cons rfl (by rfl) (agree_cons rfl (by rfl) (trivial))))) (by rfl) (fun i hi ih => ?_)
  replace hi : i ≤ ps.length := hi; have hqn := qN_len ps i
  refine seq (seq (reg [] [0, 1] rfl (by decide) ?_))
  refine condS rfl (fun g24 => ?_) (fun g24 => ?_)
  · try simp only [zg] at g24
    refine skip (seq (block (seq (reg [] [0, 1] rfl (by and_intros <;> first | exact ⟨⟩ | omega) ?_))))
    refine condS rfl (fun g31 => ?_) (fun g31 => ?_)
    · try simp only [zg] at g31
      have hqs : qN ps (i + 1) = qN ps i ++ [((cutF (ps.getD i []) 61).1, (cutF (ps.getD i []) 61).2.1)] := if_neg g31
      refine seq (reg [(4, { res := .tup [.str (cutF (ps.getD i []) 61).1, .str (cutF (ps.getD i []) 61).2.1, .bool (cutF (ps.getD i []) 61).2.2] })] [0, 1] rfl (by and_intros <;> first | exact ⟨⟩ | omega | exact rcut_ok _ 61 (by have h := split_part q 38 i; rw [← hps] at h; exact Nat.le_trans h (by omega))) ?_)
      refine reg [] [] rfl (by and_intros <;> first | exact ⟨⟩ | omega) ?_
      refine inBlock (reg [] [] rfl (by decide) ?_)
      exact ih (i + 1) _ _ (by omega) (by omega) (by exact agree_cons rfl (by first | rfl | (refine congrArg (AV.int _) ?_; simp only [wrap_i64', tdivN, tmodN]; omega)) (agree_imp rfl (by (rw [hqs]; exact hd_app rfl)) rfl rfl (agree_cons rfl (by first | rfl | (refine congrArg (AV.int _) ?_; simp only [wrap_i64', tdivN, tmodN]; omega) | skip) (agree_cons rfl (by first | rfl | (refine congrArg (AV.int _) ?_; simp only [wrap_i64', tdivN, tmodN]; omega) | skip) (trivial))))) (by rfl)
    · try simp only [zg] at g31
      have hqs : qN ps (i + 1) = qN ps i := if_pos (by simpa using g31)
      refine skip (inBlock (reg [] [] rfl (by decide) ?_))
      exact ih (i + 1) _ _ (by omega) (by omega) (by exact agree_cons rfl (by first | rfl | (refine congrArg (AV.int _) ?_; simp only [wrap_i64', tdivN, tmodN]; omega)) (agree_imp rfl (by (rw [hqs]; exact Imp.refl _)) rfl rfl (agree_cons rfl (by first | rfl | (refine congrArg (AV.int _) ?_; simp only [wrap_i64', tdivN, tmodN]; omega) | skip) (agree_cons rfl (by first | rfl | (refine congrArg (AV.int _) ?_; simp only [wrap_i64', tdivN, tmodN]; omega) | skip) (trivial))))) (by rfl)
  · try simp only [zg] at g24
    refine exit rfl (seq (reg [] [0, 1] rfl (by decide) ?_))
    exact frame [(2, .str (queryP t)), (3, .sl 2 (queryQ t).length (hdEl (queryQ t)) false)] (by exact agree_cons rfl (by rfl) (agree_imp rfl (by rw [queryQ, ← hq, ← hps, show ps.length = i by omega]; exact imp_off rfl (fun i _ => rfl)) rfl rfl trivial)) (retH Tryz.func41 rfl rfl rfl rfl)

theorem rall_ok (l : List Hd) (name : List UInt8) (hl : l.length ≤ 16777216) : FnOK Tryz.prog 42 [.sl 2 l.length (hdEl l) false, .str name] [] (.sl 1 (allL l name).length (strEl (allL l name)) false) [] := by
  refine FnOK.of_runs Tryz.func42 rfl (Nat.le_of_ble_eq_true rfl) ?_
  refine seq (reg [] [] rfl (by decide) ?_)
  refine seq (reg [] [] rfl (by decide) ?_)
  refine seq (seq (reg [] [] rfl (by decide) ?_))
  refine block ?_
  -- loop 0
  refine loopF (σ := Nat) (fun i => i ≤ l.length) (fun i => [(0, .sl 2 l.length (hdEl l) false), (1, .str name), (5, .sl 1 (aN l name i).length (strEl (aN l name i)) true), (6, .int .i64 i)]) (fun _ => []) (fun i => l.length - i) (0) (by exact Nat.zero_le _) (by exact agree_cons rfl (by rfl) (agree_cons rfl (by rfl) (agree_imp rfl (by exact Imp.slEq rfl (fun i hi => absurd hi (Nat.not_lt_zero _))) rfl rfl (agree_cons rfl (by rfl) (trivial))))) (by rfl) (fun i hi ih => ?_)
  replace hi : i ≤ l.length := hi; have han := aN_len l name i
  refine seq (seq (reg [] [0, 1] rfl (by decide) ?_))
  refine condS rfl (fun g10 => ?_) (fun g10 => ?_)
  · try simp only [zg] at g10
    refine skip (seq (block (seq (reg [] [0, 1, 5] rfl (by and_intros <;> first | exact ⟨⟩ | omega | exact zl rfl) ?_))))
    refine condS rfl (fun g19 => ?_) (fun g19 => ?_)
    · try simp only [zg] at g19
      have has : aN l name (i + 1) = aN l name i ++ [(l.getD i ([], [])).2] := if_pos g19
      refine reg [] [] rfl (by and_intros <;> first | exact ⟨⟩ | omega) ?_
      refine inBlock (reg [] [] rfl (by decide) ?_)
      exact ih (i + 1) _ _ (by omega) (by omega) (by exact agree_cons rfl (by first | rfl | (refine congrArg (AV.int _) ?_; simp only [wrap_i64', tdivN, tmodN]; omega)) (agree_cons rfl (by first | rfl | (refine congrArg (AV.int _) ?_; simp only [wrap_i64', tdivN, tmodN]; omega) | skip) (agree_imp rfl (by (rw [has]; exact st_app rfl _ rfl)) rfl rfl (agree_cons rfl (by first | rfl | (refine congrArg (AV.int _) ?_; simp only [wrap_i64', tdivN, tmodN]; omega) | skip) (trivial))))) (by rfl)
    · try simp only [zg] at g19
      have has : aN l name (i + 1) = aN l name i := if_neg g19
      refine skip (inBlock (reg [] [] rfl (by decide) ?_))
      exact ih (i + 1) _ _ (by omega) (by omega) (by exact agree_cons rfl (by first | rfl | (refine congrArg (AV.int _) ?_; simp only [wrap_i64', tdivN, tmodN]; omega)) (agree_cons rfl (by first | rfl | (refine congrArg (AV.int _) ?_; simp only [wrap_i64', tdivN, tmodN]; omega) | skip) (agree_imp rfl (by (rw [has]; exact Imp.refl _)) rfl rfl (agree_cons rfl (by first | rfl | (refine congrArg (AV.int _) ?_; simp only [wrap_i64', tdivN, tmodN]; omega) | skip) (trivial))))) (by rfl)
  · try simp only [zg] at g10
    refine exit rfl (seq (reg [] [0] rfl (by decide) ?_))
    exact frame [(4, .sl 1 (allL l name).length (strEl (allL l name)) false)] (by exact agree_imp rfl (by rw [allL, show l.length = i by omega]; exact imp_off rfl (fun i _ => rfl)) rfl rfl trivial) (retH Tryz.func42 rfl rfl rfl rfl)

theorem rjoin_ok (l : List (List UInt8)) (sep : List UInt8) (hl : l.length ≤ 16777216) (hj : (joinL l sep).length ≤ 17592186044416) : FnOK Tryz.prog 34 [.sl 1 l.length (strEl l) false, .str sep] [] (.str (joinL l sep)) [] := by
  refine FnOK.of_runs Tryz.func34 rfl (Nat.le_of_ble_eq_true rfl) ?_
  refine seq (reg [] [] rfl (by decide) ?_)
  refine seq (reg [] [] rfl (by decide) ?_)
  refine seq (seq (reg [] [] rfl (by decide) ?_))
  refine block ?_
  -- loop 0
  refine loopF (σ := Nat) (fun i => i ≤ l.length) (fun i => [(0, .sl 1 l.length (strEl l) false), (1, .str sep), (5, .str (joinN l sep i)), (6, .int .i64 i)]) (fun _ => []) (fun i => l.length - i) (0) (by exact Nat.zero_le _) (by exact zag rfl) (by rfl) (fun i hi ih => ?_)
  replace hi : i ≤ l.length := hi
  refine seq (seq (reg [] [0, 1] rfl (by decide) ?_))
  refine condS rfl (fun g10 => ?_) (fun g10 => ?_)
  · try simp only [zg] at g10
    have hst := joinN_step l sep i (by omega)
    refine skip (seq (block (seq (seq (reg [] [0] rfl (by decide) ?_)))))
    refine condS rfl (fun g14 => ?_) (fun g14 => ?_)
    · try simp only [zg] at g14
      have hjn : joinN l sep (i + 1) = (joinN l sep i ++ sep) ++ l.getD i [] := (by rw [joinN_succ, if_pos (by omega)]); rw [if_pos (by omega)] at hst
      refine reg [] [1] rfl (by and_intros <;> first | trivial | omega) ?_
      refine reg [] [1, 2] rfl (by (try simp only [List.length_append, Int.toNat_natCast]); and_intros <;> first | exact ⟨⟩ | omega) ?_
      refine inBlock (reg [] [] rfl (by decide) ?_)
      exact ih (i + 1) _ _ (by omega) (by omega) (by exact agree_cons rfl (by first | rfl | (refine congrArg (AV.int _) ?_; simp only [wrap_i64', tdivN, tmodN]; omega)) (agree_cons rfl (by first | rfl | (refine congrArg (AV.int _) ?_; simp only [wrap_i64', tdivN, tmodN]; omega) | skip) (agree_cons rfl (by first | (rw [hjn]; rfl) | skip) (agree_cons rfl (by first | rfl | (refine congrArg (AV.int _) ?_; simp only [wrap_i64', tdivN, tmodN]; omega) | skip) (trivial))))) (by rfl)
    · try simp only [zg] at g14
      have hjn : joinN l sep (i + 1) = joinN l sep i ++ l.getD i [] := (by rw [joinN_succ, if_neg (by omega)]); rw [if_neg (by omega)] at hst
      refine skip (reg [] [1, 2] rfl (by (try simp only [List.length_append, Int.toNat_natCast]); and_intros <;> first | exact ⟨⟩ | omega) ?_)
      refine inBlock (reg [] [] rfl (by decide) ?_)
      exact ih (i + 1) _ _ (by omega) (by omega) (by exact agree_cons rfl (by first | rfl | (refine congrArg (AV.int _) ?_; simp only [wrap_i64', tdivN, tmodN]; omega)) (agree_cons rfl (by first | rfl | (refine congrArg (AV.int _) ?_; simp only [wrap_i64', tdivN, tmodN]; omega) | skip) (agree_cons rfl (by first | (rw [hjn]; rfl) | skip) (agree_cons rfl (by first | rfl | (refine congrArg (AV.int _) ?_; simp only [wrap_i64', tdivN, tmodN]; omega) | skip) (trivial))))) (by rfl)
  · try simp only [zg] at g10
    refine exit rfl (seq (reg [] [0] rfl (by decide) ?_))
    exact retH Tryz.func34 rfl rfl (by rw [joinL, show l.length = i by omega]) (by rfl)


theorem fold_no {t : List UInt8} {i : Nat} (h : blk (t.getD i 0) = false) : foldN t (i + 1) = foldN t i ++ [t.getD i 0] := by unfold foldN; rw [if_neg (by rw [h]; exact Bool.false_ne_true)]; cases i <;> rfl
theorem fold_dup {t : List UInt8} {i : Nat} (h : blk (t.getD i 0) = true) (h2 : blk (t.getD (i - 1) 0) = true) : foldN t (i + 1) = foldN t i := by conv => lhs; unfold foldN; rw [if_pos h, if_pos h2]
theorem fold_sp {t : List UInt8} {i : Nat} (h : blk (t.getD i 0) = true) (h2 : blk (t.getD (i - 1) 0) = false) : foldN t (i + 1) = foldN t i ++ [32] := by conv => lhs; unfold foldN; rw [if_pos h, if_neg (by rw [h2]; exact Bool.false_ne_true)]
theorem fold_pos {t : List UInt8} {i : Nat} (hd : t ≠ [] → blk (t.getD 0 0) = false) (h : blk (t.getD i 0) = true) (hi : i < t.length) : 0 < i := by
  rcases Nat.eq_zero_or_pos i with e | e
  · subst e; rw [hd (fun e => by subst e; simp at hi)] at h; cases h
  · exact e
theorem piece1 {t : List UInt8} {i : Nat} (hi : i < t.length) : (t.take (i + 1)).drop i = [t.getD i 0] := by
  rw [List.take_add_one, List.drop_append_of_le_length (by rw [List.length_take]; omega), List.drop_take_self, List.getD_eq_getElem?_getD, List.getElem?_eq_getElem hi]; rfl
theorem wm1 {i : Nat} (h : 0 < i) (h2 : i ≤ 16777216) : (IntKind.i64.wrap ((i : Int) - 1)).toNat = i - 1 := by rw [i64_id (by omega) (by omega)]; omega
theorem wm1' {i : Nat} (h : 0 < i) (h2 : i ≤ 16777216) : IntKind.i64.wrap ((i : Int) - 1) = ((i - 1 : Nat) : Int) := by rw [i64_id (by omega) (by omega)]; omega

theorem cfold_ok (s : List UInt8) (hs : s.length ≤ 16777216) : FnOK Tryz.prog 65 [.str s] [] (.str (foldL s)) [] := by
  refine FnOK.of_runs Tryz.func65 rfl (Nat.le_of_ble_eq_true rfl) ?_
  refine seq (reg [] [] rfl (by decide) ?_)
  refine seq ?_
  obtain ⟨t, ht⟩ : ∃ t, t = trimL s := ⟨_, rfl⟩; have hd : t ≠ [] → blk (t.getD 0 0) = false := (by rw [ht]; exact trimL_head s); have htl : t.length ≤ s.length := (by rw [ht]; exact trimL_len s)
  refine reg [(1, { res := .str t })] [] rfl (by and_intros <;> first | exact ⟨⟩ | (rw [ht]; exact ctrim_ok s hs)) ?_
  refine seq (reg [] [0] rfl (by and_intros <;> first | trivial | omega) ?_)
  refine seq (seq (reg [] [0] rfl (by decide) ?_))
  refine block ?_
  -- loop 0
  refine loopF (σ := Nat) (fun i => i ≤ t.length) (fun i => [(0, .str t), (3, .bs (foldN t i) true), (11, .int .i64 t.length), (12, .int .i64 i)]) (fun _ => []) (fun i => t.length - i) (0) (by exact Nat.zero_le _) (by exact zag rfl) (by rfl) (fun i hi ih => ?_)
  replace hi : i ≤ t.length := hi; have hfl := foldN_len t i
  refine seq (reg [] [] rfl (by decide) ?_)
  refine seq ?_
  refine condS rfl (fun g13 => ?_) (fun g13 => ?_)
  · try simp only [zg] at g13
    refine skip (seq (block (seq (reg [] [0] rfl (by decide) ?_))))
    refine block (seq (reg [(3, { res := .bool (blk (t.getD (i : Int).toNat 0)) })] [0, 1] rfl (by and_intros <;> first | exact ⟨⟩ | omega | exact blank_ok _) ?_))
    refine condS rfl (fun g15 => ?_) (fun g15 => ?_)
    · try simp only [zg] at g15
      have gb : blk (t.getD i 0) = false := by simpa using g15
      refine reg [] [] rfl (by have := u8l (t.getD i 0); simp only [List.length_cons, List.length_nil, List.length_map]; and_intros <;> first | exact ⟨⟩ | omega | (intro z hz; simp only [List.mem_cons, List.not_mem_nil, or_false] at hz; subst hz; first | omega | (rw [Int.toNat_natCast]; omega))) ?_
      refine inBlock (inBlock (reg [] [] rfl (by decide) ?_))
      exact ih (i + 1) _ _ (by omega) (by omega) (by exact agree_cons rfl (by rfl) (agree_cons rfl (by (rw [fold_no gb]; exact congrArg (AV.bs · true) (by simp only [List.map_cons, List.map_nil, toB_u8]; rfl))) (agree_cons rfl (by first | rfl | (refine congrArg (AV.int _) ?_; simp only [wrap_i64', tdivN, tmodN]; omega) | skip) (agree_cons rfl (by first | rfl | (refine congrArg (AV.int _) ?_; simp only [wrap_i64', tdivN, tmodN]; omega) | skip) (trivial))))) (by rfl)
    · try simp only [zg] at g15
      have gb : blk (t.getD i 0) = true := (by simpa using g15); have hi0 := fold_pos hd gb (by omega)
      refine seq (reg [(4, { res := .bool (blk (t.getD (IntKind.i64.wrap ((i : Int) - 1)).toNat 0)) })] [0, 1] rfl (by and_intros <;> first | exact ⟨⟩ | exact blank_ok _ | (rw [wm1' hi0 (by omega)]; omega)) ?_)
      refine condS rfl (fun g27 => ?_) (fun g27 => ?_)
      · try simp only [zg] at g27
        have gp : blk (t.getD (i - 1) 0) = false := by rw [← wm1 hi0 (by omega)]; simpa using g27
        refine reg [] [] rfl (by have := u8l (t.getD i 0); simp only [List.length_cons, List.length_nil, List.length_map]; and_intros <;> first | exact ⟨⟩ | omega | (intro z hz; simp only [List.mem_cons, List.not_mem_nil, or_false] at hz; subst hz; omega)) ?_
        refine inBlock (inBlock (reg [] [] rfl (by decide) ?_))
        exact ih (i + 1) _ _ (by omega) (by omega) (by exact agree_cons rfl (by rfl) (agree_cons rfl (by first | (rw [fold_no gb]; exact congrArg (AV.bs · true) (by simp only [List.map_cons, List.map_nil, toB_u8]; rfl)) | (rw [fold_sp gb gp]; rfl)) (agree_cons rfl (by first | rfl | (refine congrArg (AV.int _) ?_; simp only [wrap_i64', tdivN, tmodN]; omega) | skip) (agree_cons rfl (by first | rfl | (refine congrArg (AV.int _) ?_; simp only [wrap_i64', tdivN, tmodN]; omega) | skip) (trivial))))) (by rfl)
      · try simp only [zg] at g27
        have gp : blk (t.getD (i - 1) 0) = true := by rw [← wm1 hi0 (by omega)]; simpa using g27
        refine skip (inBlock (inBlock (reg [] [] rfl (by decide) ?_)))
        exact ih (i + 1) _ _ (by omega) (by omega) (by exact agree_cons rfl (by rfl) (agree_cons rfl (by first | (rw [fold_no gb]; exact congrArg (AV.bs · true) (by simp only [List.map_cons, List.map_nil, toB_u8]; rfl)) | (rw [fold_dup gb gp]; done)) (agree_cons rfl (by first | rfl | (refine congrArg (AV.int _) ?_; simp only [wrap_i64', tdivN, tmodN]; omega) | skip) (agree_cons rfl (by first | rfl | (refine congrArg (AV.int _) ?_; simp only [wrap_i64', tdivN, tmodN]; omega) | skip) (trivial))))) (by rfl)
  · try simp only [zg] at g13
    refine exit rfl (seq (reg [] [0] rfl (by decide) ?_))
    exact retH Tryz.func65 rfl rfl (by rw [foldL, ← ht, show t.length = i by omega]) (by rfl)

theorem rfold_ok (s : List UInt8) (hs : s.length ≤ 16777216) : FnOK Tryz.prog 74 [.str s] [] (.str (foldL s)) [] := by
  refine FnOK.of_runs Tryz.func74 rfl (Nat.le_of_ble_eq_true rfl) ?_
  refine seq (reg [] [] rfl (by decide) ?_)
  refine seq ?_
  obtain ⟨t, ht⟩ : ∃ t, t = trimL s := ⟨_, rfl⟩; have hd : t ≠ [] → blk (t.getD 0 0) = false := (by rw [ht]; exact trimL_head s); have htl : t.length ≤ s.length := (by rw [ht]; exact trimL_len s)
  refine reg [(1, { res := .str t })] [] rfl (by and_intros <;> first | exact ⟨⟩ | (rw [ht]; exact rtrim_ok s hs)) ?_
  refine seq (reg [] [] rfl (by decide) ?_)
  refine seq (seq (reg [] [] rfl (by decide) ?_))
  refine block ?_
  -- loop 0
  refine loopF (σ := Nat) (fun i => i ≤ t.length) (fun i => [(0, .str t), (3, .str (foldN t i)), (4, .int .i64 i)]) (fun _ => []) (fun i => t.length - i) (0) (by exact Nat.zero_le _) (by exact zag rfl) (by rfl) (fun i hi ih => ?_)
  replace hi : i ≤ t.length := hi; have hfl := foldN_len t i
  refine seq (seq (reg [] [0, 1] rfl (by decide) ?_))
  refine condS rfl (fun g11 => ?_) (fun g11 => ?_)
  · try simp only [zg] at g11
    refine skip (seq (block (seq (region (restTo 5 [] [0, 1, 5, 6] rfl (by and_intros <;> first | exact ⟨⟩ | omega) ?_)))))
    refine splitS 18 rfl (fun g18 => ?_) (fun g18 => ?_)
    · try simp only [zg] at g18
      have gb : blk (t.getD i 0) = true := (blk_eq _).2 (.inl g18); have hi0 := fold_pos hd gb (by omega); have hwi := wm1 hi0 (by omega)
      refine rest [] [0, 1, 5, 6] rfl (by and_intros <;> exact ⟨⟩) ?_
      refine seq (seq (region (restTo 8 [] [0, 2, 3, 8, 9] rfl (by and_intros <;> first | exact ⟨⟩ | (rw [wm1' hi0 (by omega)]; omega)) ?_)))
      refine splitS 31 rfl (fun g31 => ?_) (fun g31 => ?_)
      · try simp only [zg] at g31
        have gp : blk (t.getD (i - 1) 0) = true := (blk_eq _).2 (.inl (by rw [← hwi]; exact g31))
        refine rest [] [0, 2, 3, 8, 9] rfl (by and_intros <;> first | exact ⟨⟩ | (rw [wm1' hi0 (by omega)]; omega)) ?_
        refine condT rfl (exit rfl (reg [] [] rfl (by decide) ?_))
        exact ih (i + 1) _ _ (by omega) (by omega) (by exact agree_cons rfl (by rfl) (agree_cons rfl (by first | (rw [fold_no gb, i1 i (by omega), Int.toNat_natCast, piece1 (by omega)]; done) | (rw [fold_dup gb gp]; done)) (agree_cons rfl (by first | (refine congrArg (AV.int _) ?_; simp only [wrap_i64', tdivN, tmodN]; omega) | skip) (trivial)))) (by rfl)
      · try simp only [zg] at g31
        refine rest [] [0, 2, 3, 8, 9] rfl (by and_intros <;> first | exact ⟨⟩ | (rw [wm1' hi0 (by omega)]; omega)) ?_
        refine condS rfl (fun g38 => ?_) (fun g38 => ?_)
        · try simp only [zg] at g38
          have gp : blk (t.getD (i - 1) 0) = true := (blk_eq _).2 (.inr (by rw [← hwi]; exact g38))
          refine exit rfl (reg [] [] rfl (by decide) ?_)
          exact ih (i + 1) _ _ (by omega) (by omega) (by exact agree_cons rfl (by rfl) (agree_cons rfl (by first | (rw [fold_no gb, i1 i (by omega), Int.toNat_natCast, piece1 (by omega)]; done) | (rw [fold_dup gb gp]; done)) (agree_cons rfl (by first | (refine congrArg (AV.int _) ?_; simp only [wrap_i64', tdivN, tmodN]; omega) | skip) (trivial)))) (by rfl)
        · try simp only [zg] at g38
          have gp : blk (t.getD (i - 1) 0) = false := by rw [← Bool.not_eq_true, blk_eq, ← hwi]; rintro (h | h); exact g31 h; exact g38 h
          refine skip (seq (reg [] [0] rfl (by decide) ?_))
          refine condT rfl (reg [] [] rfl (by simp only [List.length_cons, List.length_nil, List.length_append]; and_intros <;> first | exact ⟨⟩ | omega) ?_)
          refine inBlock (reg [] [] rfl (by decide) ?_)
          exact ih (i + 1) _ _ (by omega) (by omega) (by exact agree_cons rfl (by rfl) (agree_cons rfl (by first | (rw [fold_no gb, i1 i (by omega), Int.toNat_natCast, piece1 (by omega)]; done) | (rw [fold_sp gb gp]; done)) (agree_cons rfl (by first | (refine congrArg (AV.int _) ?_; simp only [wrap_i64', tdivN, tmodN]; omega) | skip) (trivial)))) (by rfl)
    · try simp only [zg] at g18
      refine rest [] [0, 1, 5, 6] rfl (by and_intros <;> first | exact ⟨⟩ | omega) ?_
      refine seq (seq (region (restTo 2 [] [0, 2, 3, 8, 9] rfl (by and_intros <;> first | exact ⟨⟩ | (rw [wm1' hi0 (by omega)]; omega)) ?_)))
      refine splitS 25 rfl (fun g25 => ?_) (fun g25 => ?_)
      · try simp only [zg] at g25
        have gb : blk (t.getD i 0) = true := (blk_eq _).2 (.inr g25); have hi0 := fold_pos hd gb (by omega); have hwi := wm1 hi0 (by omega)
        refine restTo 6 [] [0, 2, 3, 8, 9] rfl (by and_intros <;> first | exact ⟨⟩ | (rw [wm1' hi0 (by omega)]; omega)) ?_
        refine splitS 31 rfl (fun g31 => ?_) (fun g31 => ?_)
        · try simp only [zg] at g31
          have gp : blk (t.getD (i - 1) 0) = true := (blk_eq _).2 (.inl (by rw [← hwi]; exact g31))
          refine rest [] [0, 2, 3, 8, 9] rfl (by and_intros <;> first | exact ⟨⟩ | (rw [wm1' hi0 (by omega)]; omega)) ?_
          refine condT rfl (exit rfl (reg [] [] rfl (by decide) ?_))
          exact ih (i + 1) _ _ (by omega) (by omega) (by exact agree_cons rfl (by rfl) (agree_cons rfl (by first | (rw [fold_no gb, i1 i (by omega), Int.toNat_natCast, piece1 (by omega)]; done) | (rw [fold_dup gb gp]; done)) (agree_cons rfl (by first | (refine congrArg (AV.int _) ?_; simp only [wrap_i64', tdivN, tmodN]; omega) | skip) (trivial)))) (by rfl)
        · try simp only [zg] at g31
          refine rest [] [0, 2, 3, 8, 9] rfl (by and_intros <;> first | exact ⟨⟩ | (rw [wm1' hi0 (by omega)]; omega)) ?_
          refine condS rfl (fun g38 => ?_) (fun g38 => ?_)
          · try simp only [zg] at g38
            have gp : blk (t.getD (i - 1) 0) = true := (blk_eq _).2 (.inr (by rw [← hwi]; exact g38))
            refine exit rfl (reg [] [] rfl (by decide) ?_)
            exact ih (i + 1) _ _ (by omega) (by omega) (by exact agree_cons rfl (by rfl) (agree_cons rfl (by first | (rw [fold_no gb, i1 i (by omega), Int.toNat_natCast, piece1 (by omega)]; done) | (rw [fold_dup gb gp]; done)) (agree_cons rfl (by first | (refine congrArg (AV.int _) ?_; simp only [wrap_i64', tdivN, tmodN]; omega) | skip) (trivial)))) (by rfl)
          · try simp only [zg] at g38
            have gp : blk (t.getD (i - 1) 0) = false := by rw [← Bool.not_eq_true, blk_eq, ← hwi]; rintro (h | h); exact g31 h; exact g38 h
            refine skip (seq (reg [] [0] rfl (by decide) ?_))
            refine condS rfl (fun g39 => ?_) (fun g39 => ?_)
            · try simp only [zg] at g39
              refine reg [] [] rfl (by simp only [List.length_cons, List.length_nil, List.length_append]; and_intros <;> first | exact ⟨⟩ | omega) ?_
              refine inBlock (reg [] [] rfl (by decide) ?_)
              exact ih (i + 1) _ _ (by omega) (by omega) (by exact agree_cons rfl (by rfl) (agree_cons rfl (by first | (rw [fold_no gb, i1 i (by omega), Int.toNat_natCast, piece1 (by omega)]; done) | (rw [fold_sp gb gp]; done)) (agree_cons rfl (by first | (refine congrArg (AV.int _) ?_; simp only [wrap_i64', tdivN, tmodN]; omega) | skip) (trivial)))) (by rfl)
            · try simp only [zg] at g39
              refine reg [] [1, 2, 3] rfl (by rw [i1 i (by omega), Int.toNat_natCast, piece1 (by omega)]; simp only [List.length_cons, List.length_nil, List.length_append]; and_intros <;> first | omega | (rw [i64_id (by omega) (by omega)]; omega)) ?_
              refine inBlock (reg [] [] rfl (by decide) ?_)
              exact ih (i + 1) _ _ (by omega) (by omega) (by exact agree_cons rfl (by rfl) (agree_cons rfl (by first | (rw [fold_no gb, i1 i (by omega), Int.toNat_natCast, piece1 (by omega)]; done) | (exfalso; omega)) (agree_cons rfl (by first | (refine congrArg (AV.int _) ?_; simp only [wrap_i64', tdivN, tmodN]; omega) | skip) (trivial)))) (by rfl)
      · try simp only [zg] at g25
        have gb : blk (t.getD i 0) = false := by rw [← Bool.not_eq_true, blk_eq]; rintro (h | h); exact g18 h; exact g25 h
        refine rest [] [0, 2, 3, 8, 9] rfl (by and_intros <;> first | exact ⟨⟩ | (rw [wm1' hi0 (by omega)]; omega)) ?_
        refine condF rfl (skip (seq (reg [] [0] rfl (by decide) ?_)))
        refine condS rfl (fun g39 => ?_) (fun g39 => ?_)
        · try simp only [zg] at g39
          refine reg [] [] rfl (by simp only [List.length_cons, List.length_nil, List.length_append]; and_intros <;> first | exact ⟨⟩ | omega) ?_
          refine inBlock (reg [] [] rfl (by decide) ?_)
          exact ih (i + 1) _ _ (by omega) (by omega) (by exact agree_cons rfl (by rfl) (agree_cons rfl (by first | (rw [fold_no gb, i1 i (by omega), Int.toNat_natCast, piece1 (by omega)]; done) | (exfalso; omega)) (agree_cons rfl (by first | (refine congrArg (AV.int _) ?_; simp only [wrap_i64', tdivN, tmodN]; omega) | skip) (trivial)))) (by rfl)
        · try simp only [zg] at g39
          refine reg [] [1, 2, 3] rfl (by rw [i1 i (by omega), Int.toNat_natCast, piece1 (by omega)]; simp only [List.length_cons, List.length_nil, List.length_append]; and_intros <;> first | exact ⟨⟩ | omega | (rw [i64_id (by omega) (by omega)]; omega)) ?_
          refine inBlock (reg [] [] rfl (by decide) ?_)
          exact ih (i + 1) _ _ (by omega) (by omega) (by exact agree_cons rfl (by rfl) (agree_cons rfl (by (rw [fold_no gb, i1 i (by omega), Int.toNat_natCast, piece1 (by omega)]; done)) (agree_cons rfl (by first | (refine congrArg (AV.int _) ?_; simp only [wrap_i64', tdivN, tmodN]; omega) | skip) (trivial)))) (by rfl)
  · try simp only [zg] at g11
    refine exit rfl (seq (reg [] [0] rfl (by decide) ?_))
    exact retH Tryz.func74 rfl rfl (by rw [foldL, ← ht, show t.length = i by omega]) (by rfl)


def unescL : List UInt8 → Option (List UInt8)
  | [] => some []
  | [c] => if c = 37 then none else some [c]
  | [c, a] => if c = 37 then none else (unescL [a]).map (c :: ·)
  | c :: a :: b :: r => if c = 37 then (match hvU a, hvU b with
    | some x, some y => (unescL r).map (UInt8.ofNat (16 * x + y) :: ·)
    | _, _ => none) else (unescL (a :: b :: r)).map (c :: ·)
theorem une_ne {c : UInt8} (h : c ≠ 37) (r : List UInt8) : unescL (c :: r) = (unescL r).map (c :: ·) := by
  match r with
  | [] => unfold unescL; rw [if_neg h]; rfl
  | [a] => conv => lhs; unfold unescL; rw [if_neg h]
  | a :: b :: r => conv => lhs; unfold unescL; rw [if_neg h]
theorem une_short {r : List UInt8} (h : r.length < 2) : unescL (37 :: r) = none := by
  match r, h with
  | [], _ => rfl
  | [a], _ => rfl
theorem une_bad {a b : UInt8} (r : List UInt8) (h : hvU a = none ∨ hvU b = none) : unescL (37 :: a :: b :: r) = none := by
  conv => lhs; unfold unescL; rw [if_pos rfl]
  rcases h with h | h
  · rw [h]
  · rw [h]; cases hvU a <;> rfl
theorem une_hit {a b : UInt8} {x y : Nat} (r : List UInt8) (h1 : hvU a = some x) (h2 : hvU b = some y) : unescL (37 :: a :: b :: r) = (unescL r).map (UInt8.ofNat (16 * x + y) :: ·) := by
  conv => lhs; unfold unescL; rw [if_pos rfl, h1, h2]
structure UsI (s : List UInt8) (i : Nat) (out : List UInt8) : Prop where
  le : i ≤ s.length
  eq : unescL s = (unescL (s.drop i)).map (out ++ ·)
  len : out.length ≤ i
theorem UsI.start (s : List UInt8) : UsI s 0 [] := ⟨Nat.zero_le _, by simp, Nat.le_refl _⟩
theorem dropC {s : List UInt8} {i : Nat} (hi : i < s.length) : s.drop i = s.getD i 0 :: s.drop (i + 1) := by
  rw [List.drop_eq_getElem_cons hi, List.getD_eq_getElem?_getD, List.getElem?_eq_getElem hi]; rfl
theorem UsI.one {s : List UInt8} {i : Nat} {out : List UInt8} (h : UsI s i out) (hi : i < s.length) (hc : s.getD i 0 ≠ 37) : UsI s (i + 1) (out ++ [s.getD i 0]) := by
  refine ⟨hi, ?_, by simp only [List.length_append, List.length_cons, List.length_nil]; have := h.len; omega⟩
  rw [h.eq, dropC hi, une_ne hc, Option.map_map]
  congr 1; funext x; simp
theorem UsI.short {s : List UInt8} {i : Nat} {out : List UInt8} (h : UsI s i out) (hi : i < s.length) (hc : s.getD i 0 = 37) (h2 : s.length ≤ i + 2) : unescL s = none := by
  rw [h.eq, dropC hi, hc, une_short (by rw [List.length_drop]; omega)]; rfl
theorem UsI.bad {s : List UInt8} {i : Nat} {out : List UInt8} (h : UsI s i out) (hc : s.getD i 0 = 37) (h2 : i + 2 < s.length) (hb : hvU (s.getD (i + 1) 0) = none ∨ hvU (s.getD (i + 2) 0) = none) : unescL s = none := by
  rw [h.eq, dropC (by omega), dropC (i := i + 1) (by omega), dropC (i := i + 2) h2, hc, une_bad _ hb]; rfl
theorem UsI.three {s : List UInt8} {i : Nat} {out : List UInt8} {x y : Nat} (h : UsI s i out) (hc : s.getD i 0 = 37) (h2 : i + 2 < s.length) (hx : hvU (s.getD (i + 1) 0) = some x) (hy : hvU (s.getD (i + 2) 0) = some y) : UsI s (i + 3) (out ++ [UInt8.ofNat (16 * x + y)]) := by
  refine ⟨by omega, ?_, by simp only [List.length_append, List.length_cons, List.length_nil]; have := h.len; omega⟩
  rw [h.eq, dropC (by omega), dropC (i := i + 1) (by omega), dropC (i := i + 2) h2, hc, une_hit _ hx hy, Option.map_map]
  congr 1; funext z; simp
theorem UsI.done {s : List UInt8} {i : Nat} {out : List UInt8} (h : UsI s i out) (hi : s.length ≤ i) : unescL s = some out := by
  rw [h.eq, List.drop_eq_nil_of_le hi]; simp [unescL]
theorem hvI_neg {c : UInt8} (h : hvI c < 0) : hvU c = none := by
  rw [hvI_eq] at h
  cases e : hvU c with
  | none => rfl
  | some d => rw [e] at h; simp at h; omega
theorem hvI_some {c : UInt8} (h : 0 ≤ hvI c) : ∃ d, hvU c = some d ∧ hvI c = d ∧ d < 16 := by
  rw [hvI_eq] at h ⊢
  cases e : hvU c with
  | none => rw [e] at h; simp at h
  | some d => exact ⟨d, rfl, rfl, hvU_lt e⟩
theorem w1 {i : Nat} (h : i ≤ 16777216) : IntKind.i64.wrap ((i : Int) + 1) = ((i + 1 : Nat) : Int) := by rw [i64_id (by omega) (by omega)]; rfl
theorem w2 {i : Nat} (h : i ≤ 16777216) : IntKind.i64.wrap ((i : Int) + 2) = ((i + 2 : Nat) : Int) := by rw [i64_id (by omega) (by omega)]; rfl
theorem u16 {x y : Nat} (hx : x < 16) (hy : y < 16) : IntKind.u8.wrap (IntKind.i64.wrap (IntKind.i64.wrap (16 * (x : Int)) + (y : Int))) = ((16 * x + y : Nat) : Int) := by
  rw [i64_id (x := 16 * (x : Int)) (by omega) (by omega), i64_id (by omega) (by omega), wrap_u8]; omega

theorem runesc_ok (s : List UInt8) (hs : s.length ≤ 16777214) : FnOK Tryz.prog 72 [.str s] [] (.tup [.str ((unescL s).getD []), .bool (unescL s).isSome]) [] := by
  refine FnOK.of_runs Tryz.func72 rfl (Nat.le_of_ble_eq_true rfl) ?_
  refine seq (reg [] [] rfl (by decide) ?_)
  refine seq (reg [] [] rfl (by decide) ?_)
  refine seq (seq (reg [] [] rfl (by decide) ?_))
  refine block ?_
  -- loop 0
  refine loopF (σ := Nat × List UInt8) (fun p => UsI s p.1 p.2) (fun p => [(0, .str s), (4, .bs p.2 true), (5, .int .i64 p.1)]) (fun _ => []) (fun p => s.length - p.1) ((0, [])) (by exact UsI.start s) (by exact zag rfl) (by rfl) (fun ⟨i, out⟩ hi ih => ?_)
  have hi : UsI s i out := hi; have hle := hi.le; have hlen := hi.len
  refine seq (seq (reg [] [0, 1] rfl (by decide) ?_))
  refine condS rfl (fun g9 => ?_) (fun g9 => ?_)
  · try simp only [zg] at g9
    refine skip (seq (block (seq (seq (reg [] [0, 1] rfl (by and_intros <;> first | trivial | omega) ?_)))))
    refine condS rfl (fun g15 => ?_) (fun g15 => ?_)
    · try simp only [zg] at g15
      have hne : s.getD i 0 ≠ 37 := fun e => g15 (by rw [Int.toNat_natCast, e]; rfl)
      refine seq (reg [] [] rfl (by have := u8l (s.getD i 0); simp only [List.length_cons, List.length_nil, List.length_map]; and_intros <;> first | exact ⟨⟩ | omega | (intro z hz; simp only [List.mem_cons, List.not_mem_nil, or_false] at hz; subst hz; first | omega | (rw [Int.toNat_natCast]; omega))) ?_)
      refine exit rfl (reg [] [] rfl (by decide) ?_)
      exact ih (i + 1, out ++ [s.getD i 0]) _ _ (by exact hi.one (by omega) hne) (by simp only; omega) (by exact agree_cons rfl (by rfl) (agree_cons rfl (by first | exact congrArg (AV.bs · true) (by simp only [List.map_cons, List.map_nil, toB_u8]; rfl) | (rw [u16 hx16 hy16]; exact congrArg (AV.bs · true) (by simp only [List.map_cons, List.map_nil, toB_ofNat]))) (agree_cons rfl (by first | (refine congrArg (AV.int _) ?_; simp only [wrap_i64', tdivN, tmodN]; omega) | skip) (trivial)))) (by rfl)
    · try simp only [zg] at g15
      have h37 : s.getD i 0 = 37 := UInt8.toNat_inj.1 (Int.ofNat_inj.1 (by simpa using g15))
      refine skip (seq (seq (region (restTo 6 [(10, { res := .int .i64 (hvI (s.getD (IntKind.i64.wrap ((i : Int) + 1)).toNat 0)) }), (18, { res := .int .i64 (hvI (s.getD (IntKind.i64.wrap ((i : Int) + 2)).toNat 0)) })] [0, 2, 6, 7, 14, 15] rfl (by (try rw [w1 (by omega)]); (try rw [w2 (by omega)]); and_intros <;> first | exact ⟨⟩ | exact rDigit_ok _) ?_))))
      refine splitS 27 rfl (fun g27 => ?_) (fun g27 => ?_)
      · try simp only [zg] at g27
        refine rest [(10, { res := .int .i64 (hvI (s.getD (IntKind.i64.wrap ((i : Int) + 1)).toNat 0)) }), (18, { res := .int .i64 (hvI (s.getD (IntKind.i64.wrap ((i : Int) + 2)).toNat 0)) })] [0, 2, 6, 7, 14, 15] rfl (by (try rw [w1 (by omega)]); (try rw [w2 (by omega)]); and_intros <;> first | exact ⟨⟩ | exact rDigit_ok _) ?_
        refine condT rfl (seq (reg [] [] rfl (by decide) ?_))
        exact retH Tryz.func72 rfl rfl (by rw [hi.short (by omega) h37 (by rw [w2 (by omega)] at g27; omega)]; rfl) (by rfl)
      · try simp only [zg] at g27
        rw [w2 (by omega)] at g27
        refine restTo 8 [(10, { res := .int .i64 (hvI (s.getD (IntKind.i64.wrap ((i : Int) + 1)).toNat 0)) }), (18, { res := .int .i64 (hvI (s.getD (IntKind.i64.wrap ((i : Int) + 2)).toNat 0)) })] [0, 2, 6, 7, 14, 15] rfl (by (try rw [w1 (by omega)]); (try rw [w2 (by omega)]); and_intros <;> first | exact ⟨⟩ | omega | exact rDigit_ok _) ?_
        refine splitS 35 rfl (fun g35 => ?_) (fun g35 => ?_)
        · try simp only [zg] at g35
          rw [w1 (by omega)] at g35; have hbad := hvI_neg g35
          refine rest [(10, { res := .int .i64 (hvI (s.getD (IntKind.i64.wrap ((i : Int) + 1)).toNat 0)) }), (18, { res := .int .i64 (hvI (s.getD (IntKind.i64.wrap ((i : Int) + 2)).toNat 0)) })] [0, 2, 6, 7, 14, 15] rfl (by (try rw [w1 (by omega)]); (try rw [w2 (by omega)]); and_intros <;> first | exact ⟨⟩ | exact rDigit_ok _) ?_
          refine condT rfl (seq (reg [] [] rfl (by decide) ?_))
          exact retH Tryz.func72 rfl rfl (by rw [hi.bad h37 (by omega) (.inl hbad)]; rfl) (by rfl)
        · try simp only [zg] at g35
          rw [w1 (by omega)] at g35; obtain ⟨x, hx, hxi, hx16⟩ := hvI_some g35
          refine rest [(10, { res := .int .i64 (hvI (s.getD (IntKind.i64.wrap ((i : Int) + 1)).toNat 0)) }), (18, { res := .int .i64 (hvI (s.getD (IntKind.i64.wrap ((i : Int) + 2)).toNat 0)) })] [0, 2, 6, 7, 14, 15] rfl (by (try rw [w1 (by omega)]); (try rw [w2 (by omega)]); and_intros <;> first | exact ⟨⟩ | omega | exact rDigit_ok _) ?_
          refine condS rfl (fun g42 => ?_) (fun g42 => ?_)
          · try simp only [zg] at g42
            rw [w2 (by omega)] at g42; have hbad := hvI_neg g42
            refine seq (reg [] [] rfl (by decide) ?_)
            exact retH Tryz.func72 rfl rfl (by rw [hi.bad h37 (by omega) (.inr hbad)]; rfl) (by rfl)
          · try simp only [zg] at g42
            rw [w2 (by omega)] at g42; obtain ⟨y, hy, hyi, hy16⟩ := hvI_some g42
            refine skip (seq (regD [(5, { res := .int .i64 x }), (11, { res := .int .i64 y })] [1, 2, 7, 8] rfl rfl rfl (by rw [w1 (by omega), w2 (by omega), u16 hx16 hy16]; simp only [List.length_cons, List.length_nil, List.length_map]; and_intros <;> first | exact ⟨⟩ | omega | (rw [← hxi]; exact rDigit_ok _) | (rw [← hyi]; exact rDigit_ok _) | (intro z hz; simp only [List.mem_cons, List.not_mem_nil, or_false] at hz; subst hz; omega)) ?_))
            refine reg [] [] rfl (by decide) ?_
            refine inBlock (reg [] [] rfl (by decide) ?_)
            exact ih (i + 3, out ++ [UInt8.ofNat (16 * x + y)]) _ _ (by exact hi.three h37 (by omega) hx hy) (by simp only; omega) (by exact agree_cons rfl (by rfl) (agree_cons rfl (by (rw [u16 hx16 hy16]; exact congrArg (AV.bs · true) (by simp only [List.map_cons, List.map_nil, toB_ofNat]))) (agree_cons rfl (by first | (refine congrArg (AV.int _) ?_; simp only [wrap_i64', tdivN, tmodN]; omega) | skip) (trivial)))) (by rfl)
  · try simp only [zg] at g9
    refine exit rfl (seq (reg [] [0] rfl (by decide) ?_))
    exact retH Tryz.func72 rfl rfl (by rw [hi.done (by omega)]; rfl) (by rfl)


def HXU : List UInt8 := [48, 49, 50, 51, 52, 53, 54, 55, 56, 57, 65, 66, 67, 68, 69, 70]
def safe (slash : Bool) (c : UInt8) : Bool := alnum c || ([45, 46, 95, 126] : List UInt8).contains c || (slash && decide (c.toNat = 47))
def escB (slash : Bool) (c : UInt8) : List UInt8 := if safe slash c = true then [c] else [37, HXU.getD (c.toNat / 16) 0, HXU.getD (c.toNat % 16) 0]
def escL (s : List UInt8) (slash : Bool) : List UInt8 := s.flatMap (escB slash)
theorem escB_len (slash : Bool) (c : UInt8) : (escB slash c).length ≤ 3 := by unfold escB; split <;> simp
theorem escL_len (slash : Bool) : ∀ s : List UInt8, (escL s slash).length ≤ 3 * s.length
  | [] => by simp [escL]
  | c :: s => by
    have h1 := escL_len slash s
    have h2 := escB_len slash c
    have e : escL (c :: s) slash = escB slash c ++ escL s slash := rfl
    rw [e]; simp only [List.length_append, List.length_cons]; omega
theorem esc_step {s : List UInt8} {slash : Bool} {i : Nat} (hi : i < s.length) : escL (s.take (i + 1)) slash = escL (s.take i) slash ++ escB slash (s.getD i 0) := by
  rw [List.take_add_one, List.getElem?_eq_getElem hi, List.getD_eq_getElem?_getD, List.getElem?_eq_getElem hi]
  simp only [escL, List.flatMap_append, Option.toList_some, List.flatMap_cons, List.flatMap_nil, List.append_nil, Option.getD_some]
theorem esc_safe {slash : Bool} {c : UInt8} (h : safe slash c = true) : escB slash c = [c] := if_pos h
theorem esc_un {slash : Bool} {c : UInt8} (h : safe slash c = false) : escB slash c = [37, HXU.getD (c.toNat / 16) 0, HXU.getD (c.toNat % 16) 0] := if_neg (by rw [h]; exact Bool.false_ne_true)
theorem hxu_at {d : Nat} (h : d < 16) : (HXU.take (IntKind.u8.wrap ((d : Int) + 1)).toNat).drop (d : Int).toNat = [HXU.getD d 0] := by
  have : ∀ d : Fin 16, (HXU.take (IntKind.u8.wrap ((d.val : Int) + 1)).toNat).drop (d.val : Int).toNat = [HXU.getD d.val 0] := by decide
  exact this ⟨d, h⟩
theorem q16 (c : UInt8) : (c.toNat : Int).tdiv 16 = ((c.toNat / 16 : Nat) : Int) := rfl
theorem r16 (c : UInt8) : (c.toNat : Int).tmod 16 = ((c.toNat % 16 : Nat) : Int) := rfl

theorem resc_ok (s : List UInt8) (slash : Bool) (hs : s.length ≤ 16777216) : FnOK Tryz.prog 44 [.str s, .bool slash] [] (.str (escL s slash)) [] := by
  refine FnOK.of_runs Tryz.func44 rfl (Nat.le_of_ble_eq_true rfl) ?_
  refine seq (reg [] [] rfl (by decide) ?_)
  refine seq (reg [] [] rfl (by decide) ?_)
  refine seq (seq (reg [] [] rfl (by decide) ?_))
  refine block ?_
  -- loop 0
  refine loopF (σ := Nat) (fun i => i ≤ s.length) (fun i => [(0, .str s), (1, .bool slash), (5, .str (escL (s.take i) slash)), (6, .int .i64 i)]) (fun _ => []) (fun i => s.length - i) (0) (by exact Nat.zero_le _) (by exact zag rfl) (by rfl) (fun i hi ih => ?_)
  replace hi : i ≤ s.length := hi; have hel := escL_len slash (s.take i); rw [List.length_take] at hel; obtain ⟨c, hc⟩ : ∃ c, c = s.getD i 0 := ⟨_, rfl⟩
  refine seq (seq (reg [] [0, 1] rfl (by decide) ?_))
  refine condS rfl (fun g13 => ?_) (fun g13 => ?_)
  · try simp only [zg] at g13
    have hcu := u8l c
    refine skip (seq (block (seq (reg [] [0, 1] rfl (by and_intros <;> first | trivial | omega) ?_))))
    refine seq (frame [(0, .str s), (1, .bool slash), (5, .str (escL (s.take i) slash)), (6, .int .i64 i), (7, .int .u8 c.toNat)] (by exact agree_cons rfl (by rfl) (agree_cons rfl (by rfl) (agree_cons rfl (by rfl) (agree_cons rfl (by rfl) (agree_cons rfl (by rw [hc]; rfl) trivial))))) ?_)
    refine region (restTo 3 [(1, { res := .bool (alnum c) }), (4, { res := .bool (([45, 46, 95, 126] : List UInt8).contains c) })] [0, 3, 7, 9] rfl (by and_intros <;> first | exact ⟨⟩ | exact alnum_ok _ | exact rin_ok _ _ (by decide)) ?_)
    refine splitS 21 rfl (fun g21 => ?_) (fun g21 => ?_)
    · try simp only [zg] at g21
      have hsf : safe slash c = true := by unfold safe; rw [show alnum c = true from g21]; rfl
      refine rest [(1, { res := .bool (alnum c) }), (4, { res := .bool (([45, 46, 95, 126] : List UInt8).contains c) })] [0, 3, 7, 9] rfl (by and_intros <;> first | exact ⟨⟩ | exact rin_ok _ _ (by decide)) ?_
      refine condT rfl (reg [] [1, 2, 3] rfl (by rw [i1 i (by omega), Int.toNat_natCast, piece1 (by omega)]; simp only [List.length_cons, List.length_nil, List.length_append]; and_intros <;> first | exact ⟨⟩ | omega | (rw [i64_id (by omega) (by omega)]; omega)) ?_)
      refine inBlock (reg [] [] rfl (by decide) ?_)
      exact ih (i + 1) _ _ (by omega) (by omega) (by exact agree_cons rfl (by rfl) (agree_cons rfl (by first | rfl | (refine congrArg (AV.int _) ?_; simp only [wrap_i64', tdivN, tmodN]; omega) | skip) (agree_cons rfl (by first | (rw [esc_step (by omega), ← hc, esc_safe hsf, i1 i (by omega), Int.toNat_natCast, piece1 (by omega), ← hc]; done) | skip) (agree_cons rfl (by first | rfl | (refine congrArg (AV.int _) ?_; simp only [wrap_i64', tdivN, tmodN]; omega) | skip) (trivial))))) (by rfl)
    · try simp only [zg] at g21
      refine restTo 4 [(1, { res := .bool (alnum c) }), (4, { res := .bool (([45, 46, 95, 126] : List UInt8).contains c) })] [0, 3, 7, 9] rfl (by and_intros <;> first | exact ⟨⟩ | exact rin_ok _ _ (by decide)) ?_
      refine splitS 25 rfl (fun g25 => ?_) (fun g25 => ?_)
      · try simp only [zg] at g25
        have hsf : safe slash c = true := by unfold safe; rw [show ([45, 46, 95, 126] : List UInt8).contains c = true from g25, Bool.or_true]; rfl
        refine rest [(1, { res := .bool (alnum c) }), (4, { res := .bool (([45, 46, 95, 126] : List UInt8).contains c) })] [0, 3, 7, 9] rfl (by and_intros <;> first | exact ⟨⟩ | exact rin_ok _ _ (by decide)) ?_
        refine condT rfl (reg [] [1, 2, 3] rfl (by rw [i1 i (by omega), Int.toNat_natCast, piece1 (by omega)]; simp only [List.length_cons, List.length_nil, List.length_append]; and_intros <;> first | exact ⟨⟩ | omega | (rw [i64_id (by omega) (by omega)]; omega)) ?_)
        refine inBlock (reg [] [] rfl (by decide) ?_)
        exact ih (i + 1) _ _ (by omega) (by omega) (by exact agree_cons rfl (by rfl) (agree_cons rfl (by first | rfl | (refine congrArg (AV.int _) ?_; simp only [wrap_i64', tdivN, tmodN]; omega) | skip) (agree_cons rfl (by first | (rw [esc_step (by omega), ← hc, esc_safe hsf, i1 i (by omega), Int.toNat_natCast, piece1 (by omega), ← hc]; done) | skip) (agree_cons rfl (by first | rfl | (refine congrArg (AV.int _) ?_; simp only [wrap_i64', tdivN, tmodN]; omega) | skip) (trivial))))) (by rfl)
      · try simp only [zg] at g25
        refine restTo 2 [(1, { res := .bool (alnum c) }), (4, { res := .bool (([45, 46, 95, 126] : List UInt8).contains c) })] [0, 3, 7, 9] rfl (by and_intros <;> first | exact ⟨⟩ | exact rin_ok _ _ (by decide)) ?_
        refine splitS 27 rfl (fun g27 => ?_) (fun g27 => ?_)
        · try simp only [zg] at g27
          refine rest [(1, { res := .bool (alnum c) }), (4, { res := .bool (([45, 46, 95, 126] : List UInt8).contains c) })] [0, 3, 7, 9] rfl (by and_intros <;> first | exact ⟨⟩ | exact rin_ok _ _ (by decide)) ?_
          refine condS rfl (fun g31 => ?_) (fun g31 => ?_)
          · try simp only [zg] at g31
            have hsf : safe slash c = true := by unfold safe; rw [show slash = true from g27]; simp; omega
            refine reg [] [1, 2, 3] rfl (by rw [i1 i (by omega), Int.toNat_natCast, piece1 (by omega)]; simp only [List.length_cons, List.length_nil, List.length_append]; and_intros <;> first | exact ⟨⟩ | omega | (rw [i64_id (by omega) (by omega)]; omega)) ?_
            refine inBlock (reg [] [] rfl (by decide) ?_)
            exact ih (i + 1) _ _ (by omega) (by omega) (by exact agree_cons rfl (by rfl) (agree_cons rfl (by first | rfl | (refine congrArg (AV.int _) ?_; simp only [wrap_i64', tdivN, tmodN]; omega) | skip) (agree_cons rfl (by first | (rw [esc_step (by omega), ← hc, esc_safe hsf, i1 i (by omega), Int.toNat_natCast, piece1 (by omega), ← hc]; done) | skip) (agree_cons rfl (by first | rfl | (refine congrArg (AV.int _) ?_; simp only [wrap_i64', tdivN, tmodN]; omega) | skip) (trivial))))) (by rfl)
          · try simp only [zg] at g31
            have hsf : safe slash c = false := by unfold safe; rw [show alnum c = false from g21, show ([45, 46, 95, 126] : List UInt8).contains c = false from g25]; simp; omega
            refine seq ?_
            refine reg [(1, { res := .int .u8 ((c.toNat / 16 : Nat) : Int) })] [0] rfl (by and_intros <;> first | (refine congrArg (AV.int _) ?_; rw [q16, wrap_u8]; omega) | decide) ?_
            refine seq ?_
            refine reg [(1, { res := .int .u8 ((c.toNat % 16 : Nat) : Int) })] [0] rfl (by and_intros <;> first | exact ⟨⟩ | omega | (refine congrArg (AV.int _) ?_; rw [r16, wrap_u8]; omega) | (rw [r16])) ?_
            refine regD [(5, { res := .str [HXU.getD (c.toNat / 16) 0] }), (10, { res := .str [HXU.getD (c.toNat % 16) 0] })] [2, 3, 7, 8] rfl rfl rfl (by have e1 := hxu_at (d := c.toNat / 16) (by omega); have e2 := hxu_at (d := c.toNat % 16) (by omega); simp only [List.length_cons, List.length_nil, List.length_append]; and_intros <;> first | exact ⟨⟩ | exact congrArg AV.str e1 | exact congrArg AV.str e2 | omega | (rw [wrap_u8]; omega)) ?_
            refine inBlock (reg [] [] rfl (by decide) ?_)
            exact ih (i + 1) _ _ (by omega) (by omega) (by exact agree_cons rfl (by rfl) (agree_cons rfl (by first | rfl | (refine congrArg (AV.int _) ?_; simp only [wrap_i64', tdivN, tmodN]; omega) | skip) (agree_cons rfl (by first | (rw [esc_step (by omega), ← hc, esc_safe hsf, i1 i (by omega), Int.toNat_natCast, piece1 (by omega), ← hc]; done) | (rw [esc_step (by omega), ← hc, esc_un hsf]; simp; done) | skip) (agree_cons rfl (by first | rfl | (refine congrArg (AV.int _) ?_; simp only [wrap_i64', tdivN, tmodN]; omega) | skip) (trivial))))) (by rfl)
        · try simp only [zg] at g27
          have hsf : safe slash c = false := by unfold safe; rw [show alnum c = false from g21, show ([45, 46, 95, 126] : List UInt8).contains c = false from g25, show slash = false from g27]; rfl
          refine rest [(1, { res := .bool (alnum c) }), (4, { res := .bool (([45, 46, 95, 126] : List UInt8).contains c) })] [0, 3, 7, 9] rfl (by and_intros <;> first | exact ⟨⟩ | exact rin_ok _ _ (by decide)) ?_
          refine condF rfl (seq ?_)
          refine reg [(1, { res := .int .u8 ((c.toNat / 16 : Nat) : Int) })] [0] rfl (by and_intros <;> first | (refine congrArg (AV.int _) ?_; rw [q16, wrap_u8]; omega) | decide) ?_
          refine seq ?_
          refine reg [(1, { res := .int .u8 ((c.toNat % 16 : Nat) : Int) })] [0] rfl (by and_intros <;> first | exact ⟨⟩ | omega | (refine congrArg (AV.int _) ?_; rw [r16, wrap_u8]; omega) | (rw [r16])) ?_
          refine regD [(5, { res := .str [HXU.getD (c.toNat / 16) 0] }), (10, { res := .str [HXU.getD (c.toNat % 16) 0] })] [2, 3, 7, 8] rfl rfl rfl (by have e1 := hxu_at (d := c.toNat / 16) (by omega); have e2 := hxu_at (d := c.toNat % 16) (by omega); simp only [List.length_cons, List.length_nil, List.length_append]; and_intros <;> first | exact ⟨⟩ | exact congrArg AV.str e1 | exact congrArg AV.str e2 | omega | (rw [wrap_u8]; omega)) ?_
          refine inBlock (reg [] [] rfl (by decide) ?_)
          exact ih (i + 1) _ _ (by omega) (by omega) (by exact agree_cons rfl (by rfl) (agree_cons rfl (by first | rfl | (refine congrArg (AV.int _) ?_; simp only [wrap_i64', tdivN, tmodN]; omega) | skip) (agree_cons rfl (by first | (rw [esc_step (by omega), ← hc, esc_safe hsf, i1 i (by omega), Int.toNat_natCast, piece1 (by omega), ← hc]; done) | (rw [esc_step (by omega), ← hc, esc_un hsf]; simp; done) | skip) (agree_cons rfl (by first | rfl | (refine congrArg (AV.int _) ?_; simp only [wrap_i64', tdivN, tmodN]; omega) | skip) (trivial))))) (by rfl)
  · try simp only [zg] at g13
    refine exit rfl (seq (reg [] [0] rfl (by decide) ?_))
    exact retH Tryz.func44 rfl rfl (by rw [show i = s.length by omega, List.take_length]) (by rfl)

end Go.Proofs.YtdigohaeakclfaaGreatDoor
