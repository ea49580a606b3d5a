/- The owner of a claim, its time, its payload. -/
import Derived.Test.YtnohmijdpmelpaaGreatInq
set_option maxRecDepth 100000
set_option linter.unusedVariables false
set_option linter.unusedSimpArgs false
namespace Go.Proofs.YtnohmijdpmelpaaGreat
open Go Go.Am Go.Am.Runs

def ownN (cred day : List UInt8) : List UInt8 := (cutsL cred ([47] ++ day ++ scopeS)).1
def OwnOK (cred day : List UInt8) : Prop := (cutsL cred ([47] ++ day ++ scopeS)).2 = true ∧ ownN cred day ≠ [] ∧ ¬ 0 ≤ Lib.indexByte (ownN cred day) 47
instance (cred day : List UInt8) : Decidable (OwnOK cred day) := by unfold OwnOK; exact inferInstance
/-- the first key of a name, among the first i -/
def keyN (keys : List Hd) (nm : List UInt8) : Option Hd := keys.find? fun k => k.1 == nm
def ownC (cred day : List UInt8) (keys : List Hd) : Sum Int Hd := if OwnOK cred day then (match keyN keys (ownN cred day) with | some k => .inr k | none => .inl 302) else .inl 304
def keyNo (keys : List Hd) (nm : List UInt8) (i : Nat) : Prop := ∀ j, j < i → (keys.getD j ([], [])).1 ≠ nm
theorem keyN_hit {keys : List Hd} {nm : List UInt8} {i : Nat} (hi : i < keys.length) (h0 : keyNo keys nm i) (h : (keys.getD i ([], [])).1 = nm) : keyN keys nm = some (keys.getD i ([], [])) := by
  unfold keyN
  have e : keys.getD i ([], []) = keys[i] := by rw [List.getD_eq_getElem?_getD, List.getElem?_eq_getElem hi]; rfl
  rw [e] at h ⊢
  rw [List.find?_eq_some_iff_getElem]
  refine ⟨by simpa using h, i, hi, rfl, fun j hj => ?_⟩
  have := h0 j hj
  rw [List.getD_eq_getElem?_getD, List.getElem?_eq_getElem (by omega)] at this
  simpa using this
theorem keyN_none {keys : List Hd} {nm : List UInt8} (h0 : keyNo keys nm keys.length) : keyN keys nm = none := by
  unfold keyN
  rw [List.find?_eq_none]
  intro x hx
  obtain ⟨j, hj, rfl⟩ := List.getElem_of_mem hx
  have := h0 j hj
  rw [List.getD_eq_getElem?_getD, List.getElem?_eq_getElem hj] at this
  simpa using this
theorem ownC_bad {cred day : List UInt8} {keys : List Hd} (h : ¬ OwnOK cred day) : ownC cred day keys = .inl 304 := if_neg h
theorem ownC_no {cred day : List UInt8} {keys : List Hd} (h : OwnOK cred day) (hk : keyN keys (ownN cred day) = none) : ownC cred day keys = .inl 302 := by unfold ownC; rw [if_pos h, hk]
theorem ownC_key {cred day : List UInt8} {keys : List Hd} {k : Hd} (h : OwnOK cred day) (hk : keyN keys (ownN cred day) = some k) : ownC cred day keys = .inr k := by unfold ownC; rw [if_pos h, hk]
def ownA (r : Sum Int Hd) : AV := match r with
  | .inl e => .tup [.agg [.str [], .str []], .int .i64 e]
  | .inr k => .tup [.agg [.str k.1, .str k.2], .int .i64 0]
theorem owner_ok {cred date sig : List UInt8} {sg : List (List UInt8)} {exp : Nat} {q : Bool} {pay : List UInt8} (day : List UInt8) (keys : List Hd) (hc : cred.length ≤ 8388608) (hd : day.length = 8) (hl : keys.length ≤ 4194304) : FnOK Tryz.prog 39 [.ptr 0 0, .str day, .sl 2 keys.length (hdEl keys) false] [clB cred date sig sg exp q pay] (ownA (ownC cred day keys)) [clB cred date sig sg exp q pay] := by
  refine FnOK.of_runs Tryz.func39 rfl (Nat.le_of_ble_eq_true rfl) ?_
  refine seq (reg [] [] rfl (by decide) ?_)
  refine seq (reg [(7, { res := .tup [.str (ownN cred day), .bool (cutsL cred ([47] ++ day ++ scopeS)).2] })] [0, 4] rfl (by (try simp only [List.length_append, List.length_cons, List.length_nil]); and_intros <;> first | exact ⟨⟩ | omega | exact cuts_ok cred ([47] ++ day ++ scopeS) (by omega) (by simp only [List.length_append, List.length_cons, List.length_nil]; omega)) ?_)
  refine seq (seq (region (restTo 3 [(8, { res := .bool (decide (0 ≤ Lib.indexByte (ownN cred day) 47)) })] [0, 3, 7] rfl (by and_intros <;> decide) ?_)))
  refine splitS 25 rfl (fun g25 => ?_) (fun g25 => ?_)
  · try simp only [zg] at g25
    refine rest [(8, { res := .bool (decide (0 ≤ Lib.indexByte (ownN cred day) 47)) })] [0, 3, 7] rfl (by and_intros <;> decide) ?_
    refine condT rfl (seq (reg [] [] rfl (by and_intros <;> decide) ?_))
    exact retD Tryz.func39 rfl rfl rfl (by rw [ownC_bad (fun h => by unfold OwnOK at h; simp_all)]; rfl) (by rfl) rfl
  · try simp only [zg] at g25
    refine restTo 4 [(8, { res := .bool (decide (0 ≤ Lib.indexByte (ownN cred day) 47)) })] [0, 3, 7] rfl (by and_intros <;> decide) ?_
    refine splitS 29 rfl (fun g29 => ?_) (fun g29 => ?_)
    · try simp only [zg] at g29
      refine rest [(8, { res := .bool (decide (0 ≤ Lib.indexByte (ownN cred day) 47)) })] [0, 3, 7] rfl (by and_intros <;> decide) ?_
      refine condT rfl (seq (reg [] [] rfl (by and_intros <;> decide) ?_))
      exact retD Tryz.func39 rfl rfl rfl (by rw [ownC_bad (fun h => by unfold OwnOK at h; simp_all)]; rfl) (by rfl) rfl
    · try simp only [zg] at g29
      refine rest [(8, { res := .bool (decide (0 ≤ Lib.indexByte (ownN cred day) 47)) })] [0, 3, 7] rfl (by and_intros <;> first | decide | exact cont_ok (ownN cred day) 47) ?_
      refine condS rfl (fun g32 => ?_) (fun g32 => ?_)
      · try simp only [zg] at g32
        refine seq (reg [] [] rfl (by and_intros <;> decide) ?_)
        exact retD Tryz.func39 rfl rfl rfl (by rw [ownC_bad (fun h => by unfold OwnOK at h; simp_all)]; rfl) (by rfl) rfl
      · try simp only [zg] at g32
        refine skip (seq (seq ?_))
        have hok : OwnOK cred day := ⟨g25, g29, fun h => by omega⟩
        refine reg [] [0] rfl (by decide) ?_
        refine block ?_
        -- loop 0
        refine loopF (σ := Nat) (fun i => i ≤ keys.length ∧ keyNo keys (ownN cred day) i) (fun i => [(6, .ptr 1 0), (8, .str (ownN cred day)), (34, .sl 2 keys.length (hdEl keys) false), (35, .int .i64 keys.length), (36, .int .i64 i)]) (fun _ => [clB cred date sig sg exp q pay, [.str [], .str []]]) (fun i => keys.length - i) (0) (by exact ⟨Nat.zero_le _, fun j h => absurd h (Nat.not_lt_zero _)⟩) (by exact zag rfl) (by rfl) (fun i hi ih => ?_)
        replace hi : i ≤ keys.length ∧ keyNo keys (ownN cred day) i := hi; have hi1 := hi.1
        refine seq (reg [] [] rfl (by decide) ?_)
        refine seq ?_
        refine condS rfl (fun g37 => ?_) (fun g37 => ?_)
        · try simp only [zg] at g37
          refine skip (seq (block (seq (reg [] [] rfl (by and_intros <;> first | omega | exact zl rfl | exact ⟨⟩) ?_))))
          refine seq (reg [] [2] rfl (by and_intros <;> decide) ?_)
          refine condS rfl (fun g43 => ?_) (fun g43 => ?_)
          · try simp only [zg] at g43
            refine seq (reg [] [] rfl (by and_intros <;> first | exact zl rfl | decide) ?_)
            exact retD Tryz.func39 rfl rfl rfl (by rw [ownC_key hok (keyN_hit (show i < keys.length by omega) hi.2 g43)]; rfl) (by rfl) rfl
          · try simp only [zg] at g43
            refine skip (inBlock (reg [] [] rfl (by decide) ?_))
            refine drop 2 (Nat.le_of_ble_eq_true rfl) rfl ?_
            exact ih (i + 1) _ _ (by exact ⟨by omega, fun j hj => by rcases Nat.lt_or_ge j i with h | h; exact hi.2 j h; (rw [show j = i by omega]; exact g43)⟩) (by omega) (by exact agree_cons rfl (by rfl) (agree_cons rfl (by first | rfl | (refine congrArg (AV.int _) ?_; simp only [wrap_i64', tdivN, tmodN]; omega) | skip) (agree_cons rfl (by first | rfl | (refine congrArg (AV.int _) ?_; simp only [wrap_i64', tdivN, tmodN]; omega) | skip) (agree_cons rfl (by first | rfl | (refine congrArg (AV.int _) ?_; simp only [wrap_i64', tdivN, tmodN]; omega) | skip) (agree_cons rfl (by first | rfl | (refine congrArg (AV.int _) ?_; simp only [wrap_i64', tdivN, tmodN]; omega) | skip) (trivial)))))) (by rfl)
        · try simp only [zg] at g37
          refine exit rfl (seq (reg [] [] rfl (by and_intros <;> decide) ?_))
          exact retD Tryz.func39 rfl rfl rfl (by rw [ownC_no hok (keyN_none (by have h := hi.2; rwa [show i = keys.length by omega] at h))]; rfl) (by rfl) rfl


def lateC (q : Bool) (exp t : Nat) (now : Int) : Int :=
  if q = true then (if now < (t : Int) - 900 then 303 else if (t : Int) + exp < now then 300 else 0)
  else (if now < (t : Int) - 900 ∨ (t : Int) + 900 < now then 303 else 0)
/-- a claim, as the document has it -/
def clA (r : Sum Int Cl) : AV := match r with
  | .inl e => .agg [.str [], .str [], .str [], .str [], .int .i64 0, .bool false, .int .i64 e]
  | .inr c => .agg [.str c.cred, .str c.sg, .str c.sig, .str c.date, .int .i64 c.exp, .bool c.q, .int .i64 0]
/-- what is wrong with a body -/
def payC (pay body : List UInt8) : Int := if digsL pay = true then (if pay = hexL (shaS body) then 0 else 305) else (if pay = unsP ∨ pay = strP then 0 else 319)

theorem late_ok {cred date sig : List UInt8} {sg : List (List UInt8)} {exp : Nat} {q : Bool} {pay : List UInt8} (t : Nat) (now : Int) (ht : t ≤ 253402300799) (he : exp ≤ 604800) (h0 : -9223372036854775808 ≤ now) (h1 : now ≤ 9223372036854775807) : FnOK Tryz.prog 40 [.ptr 0 0, .int .i64 t, .int .i64 now] [clB cred date sig sg exp q pay] (.int .i64 (lateC q exp t now)) [clB cred date sig sg exp q pay] := by
  refine FnOK.of_runs Tryz.func40 rfl (Nat.le_of_ble_eq_true rfl) ?_
  refine seq (reg [] [] rfl (by decide) ?_)
  refine seq (block (seq (seq ?_)))
  refine reg [(2, { res := .int .i64 ((t : Int) - 900) })] [0, 1] rfl (by and_intros <;> first | decide | (refine congrArg (AV.int _) ?_; rw [i64_id (by omega) (by omega)])) ?_
  refine condS rfl (fun g7 => ?_) (fun g7 => ?_)
  · try simp only [zg] at g7
    refine skip ?_
    refine condS rfl (fun g7 => ?_) (fun g7 => ?_)
    · try simp only [zg] at g7
      refine seq (reg [] [] rfl (by decide) ?_)
      exact retH Tryz.func40 rfl rfl (by refine congrArg (AV.int _) ?_; unfold lateC; (repeat' split) <;> omega) (by rfl)
    · try simp only [zg] at g7
      refine seq (region (restTo 5 [(11, { res := .int .i64 ((t : Int) + exp) })] [0, 5, 6, 7] rfl (by and_intros <;> decide) ?_))
      refine splitS 28 rfl (fun g28 => ?_) (fun g28 => ?_)
      · try simp only [zg] at g28
        refine rest [(11, { res := .int .i64 ((t : Int) + exp) })] [0, 5, 6, 7] rfl (by and_intros <;> first | decide | (refine congrArg (AV.int _) ?_; rw [i64_id (by omega) (by omega)])) ?_
        refine condS rfl (fun g23 => ?_) (fun g23 => ?_)
        · try simp only [zg] at g23
          refine seq (reg [] [] rfl (by decide) ?_)
          exact retH Tryz.func40 rfl rfl (by refine congrArg (AV.int _) ?_; unfold lateC; (repeat' split) <;> omega) (by rfl)
        · try simp only [zg] at g23
          refine skip (inBlock (seq (reg [] [] rfl (by decide) ?_)))
          exact retH Tryz.func40 rfl rfl (by refine congrArg (AV.int _) ?_; unfold lateC; (repeat' split) <;> omega) (by rfl)
      · try simp only [zg] at g28
        refine rest [(11, { res := .int .i64 ((t : Int) + exp) })] [0, 5, 6, 7] rfl (by and_intros <;> decide) ?_
        refine condF rfl (skip (inBlock (seq (reg [] [] rfl (by decide) ?_))))
        exact retH Tryz.func40 rfl rfl (by refine congrArg (AV.int _) ?_; unfold lateC; (repeat' split) <;> omega) (by rfl)
  · try simp only [zg] at g7
    refine region (restTo 6 [(8, { res := .int .i64 ((t : Int) + 900) })] [0, 6, 7] rfl (by and_intros <;> decide) ?_)
    refine splitS 17 rfl (fun g17 => ?_) (fun g17 => ?_)
    · try simp only [zg] at g17
      refine rest [(8, { res := .int .i64 ((t : Int) + 900) })] [0, 6, 7] rfl (by and_intros <;> first | decide | (refine congrArg (AV.int _) ?_; rw [i64_id (by omega) (by omega)])) ?_
      refine condS rfl (fun g7 => ?_) (fun g7 => ?_)
      · try simp only [zg] at g7
        refine seq (reg [] [] rfl (by decide) ?_)
        exact retH Tryz.func40 rfl rfl (by refine congrArg (AV.int _) ?_; unfold lateC; (repeat' split) <;> (simp_all; done)) (by rfl)
      · try simp only [zg] at g7
        refine seq (region (restTo 5 [(11, { res := .int .i64 ((t : Int) + exp) })] [0, 5, 6, 7] rfl (by and_intros <;> decide) ?_))
        refine splitS 28 rfl (fun g28 => ?_) (fun g28 => ?_)
        · try simp only [zg] at g28
          refine rest [(11, { res := .int .i64 ((t : Int) + exp) })] [0, 5, 6, 7] rfl (by and_intros <;> first | decide | (refine congrArg (AV.int _) ?_; rw [i64_id (by omega) (by omega)])) ?_
          refine condS rfl (fun g23 => ?_) (fun g23 => ?_)
          · try simp only [zg] at g23
            refine seq (reg [] [] rfl (by decide) ?_)
            exact retH Tryz.func40 rfl rfl (by refine congrArg (AV.int _) ?_; unfold lateC; (repeat' split) <;> omega) (by rfl)
          · try simp only [zg] at g23
            refine skip (inBlock (seq (reg [] [] rfl (by decide) ?_)))
            exact retH Tryz.func40 rfl rfl (by refine congrArg (AV.int _) ?_; unfold lateC; (repeat' split) <;> omega) (by rfl)
        · try simp only [zg] at g28
          refine rest [(11, { res := .int .i64 ((t : Int) + exp) })] [0, 5, 6, 7] rfl (by and_intros <;> decide) ?_
          refine condF rfl (skip (inBlock (seq (reg [] [] rfl (by decide) ?_))))
          exact retH Tryz.func40 rfl rfl (by refine congrArg (AV.int _) ?_; unfold lateC; (repeat' split) <;> first | omega | (simp_all; done)) (by rfl)
    · try simp only [zg] at g17
      refine rest [(8, { res := .int .i64 ((t : Int) + 900) })] [0, 6, 7] rfl (by and_intros <;> decide) ?_
      refine condF rfl (seq (region (restTo 5 [(11, { res := .int .i64 ((t : Int) + exp) })] [0, 5, 6, 7] rfl (by and_intros <;> decide) ?_)))
      refine splitS 28 rfl (fun g28 => ?_) (fun g28 => ?_)
      · try simp only [zg] at g28
        refine rest [(11, { res := .int .i64 ((t : Int) + exp) })] [0, 5, 6, 7] rfl (by and_intros <;> first | decide | (refine congrArg (AV.int _) ?_; rw [i64_id (by omega) (by omega)])) ?_
        refine condS rfl (fun g23 => ?_) (fun g23 => ?_)
        · try simp only [zg] at g23
          refine seq (reg [] [] rfl (by decide) ?_)
          exact retH Tryz.func40 rfl rfl (by refine congrArg (AV.int _) ?_; unfold lateC; (repeat' split) <;> omega) (by rfl)
        · try simp only [zg] at g23
          refine skip (inBlock (seq (reg [] [] rfl (by decide) ?_)))
          exact retH Tryz.func40 rfl rfl (by refine congrArg (AV.int _) ?_; unfold lateC; (repeat' split) <;> omega) (by rfl)
      · try simp only [zg] at g28
        refine rest [(11, { res := .int .i64 ((t : Int) + exp) })] [0, 5, 6, 7] rfl (by and_intros <;> decide) ?_
        refine condF rfl (skip (inBlock (seq (reg [] [] rfl (by decide) ?_))))
        exact retH Tryz.func40 rfl rfl (by refine congrArg (AV.int _) ?_; unfold lateC; (repeat' split) <;> (simp_all; done)) (by rfl)

theorem rlate_ok (c : Cl) (t : Nat) (now : Int) (ht : t ≤ 253402300799) (he : c.exp ≤ 604800) (h0 : -9223372036854775808 ≤ now) (h1 : now ≤ 9223372036854775807) : FnOK Tryz.prog 49 [clA (.inr c), .int .i64 t, .int .i64 now] [] (.int .i64 (lateC c.q c.exp t now)) [] := by
  refine FnOK.of_runs Tryz.func49 rfl (Nat.le_of_ble_eq_true rfl) ?_
  refine seq (reg [] [] rfl (by decide) ?_)
  refine seq ?_
  refine reg [(1, { res := .int .i64 (max now (-5000)) })] [] rfl (by and_intros <;> first | decide | (refine congrArg (AV.int _) ?_; simp only [cond_false]; split <;> omega)) ?_
  refine seq (seq (reg [] [] rfl (by decide) ?_))
  refine condS rfl (fun g10 => ?_) (fun g10 => ?_)
  · try simp only [zg] at g10
    refine seq (block (seq (region (restTo 4 [(6, { res := .int .i64 ((t : Int) - max now (-5000)) })] [0, 1, 4, 5] rfl (by and_intros <;> decide) ?_))))
    refine splitS 15 rfl (fun g15 => ?_) (fun g15 => ?_)
    · try simp only [zg] at g15
      refine rest [(6, { res := .int .i64 ((t : Int) - max now (-5000)) })] [0, 1, 4, 5] rfl (by and_intros <;> first | decide | (refine congrArg (AV.int _) ?_; rw [i64_id (by omega) (by omega)])) ?_
      refine condS rfl (fun g11 => ?_) (fun g11 => ?_)
      · try simp only [zg] at g11
        refine seq (reg [] [] rfl (by decide) ?_)
        refine drop 0 (Nat.zero_le _) rfl ?_
        exact retH Tryz.func49 rfl rfl (by refine congrArg (AV.int _) ?_; unfold lateC; (repeat' split) <;> omega) (by rfl)
      · try simp only [zg] at g11
        refine seq (region (restTo 4 [(6, { res := .int .i64 (max now (-5000) - (t : Int)) })] [0, 1, 4, 5] rfl (by and_intros <;> decide) ?_))
        refine splitS 25 rfl (fun g25 => ?_) (fun g25 => ?_)
        · try simp only [zg] at g25
          refine rest [(6, { res := .int .i64 (max now (-5000) - (t : Int)) })] [0, 1, 4, 5] rfl (by and_intros <;> first | decide | (refine congrArg (AV.int _) ?_; rw [i64_id (by omega) (by omega)])) ?_
          refine condS rfl (fun g21 => ?_) (fun g21 => ?_)
          · try simp only [zg] at g21
            refine seq (reg [] [] rfl (by decide) ?_)
            refine drop 0 (Nat.zero_le _) rfl ?_
            exact retH Tryz.func49 rfl rfl (by refine congrArg (AV.int _) ?_; unfold lateC; (repeat' split) <;> omega) (by rfl)
          · try simp only [zg] at g21
            refine skip (inBlock (seq (reg [] [] rfl (by decide) ?_)))
            refine drop 0 (Nat.zero_le _) rfl ?_
            exact retH Tryz.func49 rfl rfl (by refine congrArg (AV.int _) ?_; unfold lateC; (repeat' split) <;> omega) (by rfl)
        · try simp only [zg] at g25
          refine rest [(6, { res := .int .i64 (max now (-5000) - (t : Int)) })] [0, 1, 4, 5] rfl (by and_intros <;> decide) ?_
          refine condF rfl (skip (inBlock (seq (reg [] [] rfl (by decide) ?_))))
          refine drop 0 (Nat.zero_le _) rfl ?_
          exact retH Tryz.func49 rfl rfl (by refine congrArg (AV.int _) ?_; unfold lateC; (repeat' split) <;> omega) (by rfl)
    · try simp only [zg] at g15
      refine rest [(6, { res := .int .i64 ((t : Int) - max now (-5000)) })] [0, 1, 4, 5] rfl (by and_intros <;> decide) ?_
      refine condF rfl (seq (region (restTo 4 [(6, { res := .int .i64 (max now (-5000) - (t : Int)) })] [0, 1, 4, 5] rfl (by and_intros <;> decide) ?_)))
      refine splitS 25 rfl (fun g25 => ?_) (fun g25 => ?_)
      · try simp only [zg] at g25
        refine rest [(6, { res := .int .i64 (max now (-5000) - (t : Int)) })] [0, 1, 4, 5] rfl (by and_intros <;> first | decide | (refine congrArg (AV.int _) ?_; rw [i64_id (by omega) (by omega)])) ?_
        refine condS rfl (fun g21 => ?_) (fun g21 => ?_)
        · try simp only [zg] at g21
          refine seq (reg [] [] rfl (by decide) ?_)
          refine drop 0 (Nat.zero_le _) rfl ?_
          exact retH Tryz.func49 rfl rfl (by refine congrArg (AV.int _) ?_; unfold lateC; (repeat' split) <;> omega) (by rfl)
        · try simp only [zg] at g21
          refine skip (inBlock (seq (reg [] [] rfl (by decide) ?_)))
          refine drop 0 (Nat.zero_le _) rfl ?_
          exact retH Tryz.func49 rfl rfl (by refine congrArg (AV.int _) ?_; unfold lateC; (repeat' split) <;> omega) (by rfl)
      · try simp only [zg] at g25
        refine rest [(6, { res := .int .i64 (max now (-5000) - (t : Int)) })] [0, 1, 4, 5] rfl (by and_intros <;> decide) ?_
        refine condF rfl (skip (inBlock (seq (reg [] [] rfl (by decide) ?_))))
        refine drop 0 (Nat.zero_le _) rfl ?_
        exact retH Tryz.func49 rfl rfl (by refine congrArg (AV.int _) ?_; unfold lateC; (repeat' split) <;> omega) (by rfl)
  · try simp only [zg] at g10
    refine skip (seq (seq (region (restTo 4 [(6, { res := .int .i64 ((t : Int) - max now (-5000)) }), (16, { res := .int .i64 (max now (-5000) - (t : Int)) })] [0, 1, 4, 5, 10, 11, 14, 15] rfl (by and_intros <;> decide) ?_))))
    refine splitS 36 rfl (fun g36 => ?_) (fun g36 => ?_)
    · try simp only [zg] at g36
      refine restTo 6 [(6, { res := .int .i64 ((t : Int) - max now (-5000)) }), (16, { res := .int .i64 (max now (-5000) - (t : Int)) })] [0, 1, 4, 5, 10, 11, 14, 15] rfl (by and_intros <;> first | decide | (refine congrArg (AV.int _) ?_; rw [i64_id (by omega) (by omega)])) ?_
      refine splitS 42 rfl (fun g42 => ?_) (fun g42 => ?_)
      · try simp only [zg] at g42
        refine rest [(6, { res := .int .i64 ((t : Int) - max now (-5000)) }), (16, { res := .int .i64 (max now (-5000) - (t : Int)) })] [0, 1, 4, 5, 10, 11, 14, 15] rfl (by and_intros <;> decide) ?_
        refine condT rfl (seq (reg [] [] rfl (by decide) ?_))
        refine drop 0 (Nat.zero_le _) rfl ?_
        exact retH Tryz.func49 rfl rfl (by refine congrArg (AV.int _) ?_; unfold lateC; (repeat' split) <;> omega) (by rfl)
      · try simp only [zg] at g42
        refine restTo 4 [(6, { res := .int .i64 ((t : Int) - max now (-5000)) }), (16, { res := .int .i64 (max now (-5000) - (t : Int)) })] [0, 1, 4, 5, 10, 11, 14, 15] rfl (by and_intros <;> decide) ?_
        refine splitS 46 rfl (fun g46 => ?_) (fun g46 => ?_)
        · try simp only [zg] at g46
          refine rest [(6, { res := .int .i64 ((t : Int) - max now (-5000)) }), (16, { res := .int .i64 (max now (-5000) - (t : Int)) })] [0, 1, 4, 5, 10, 11, 14, 15] rfl (by and_intros <;> first | decide | (refine congrArg (AV.int _) ?_; rw [i64_id (by omega) (by omega)])) ?_
          refine condS rfl (fun g52 => ?_) (fun g52 => ?_)
          · try simp only [zg] at g52
            refine seq (reg [] [] rfl (by decide) ?_)
            refine drop 0 (Nat.zero_le _) rfl ?_
            exact retH Tryz.func49 rfl rfl (by refine congrArg (AV.int _) ?_; unfold lateC; (repeat' split) <;> omega) (by rfl)
          · try simp only [zg] at g52
            refine skip (seq (reg [] [] rfl (by decide) ?_))
            refine drop 0 (Nat.zero_le _) rfl ?_
            exact retH Tryz.func49 rfl rfl (by refine congrArg (AV.int _) ?_; unfold lateC; (repeat' split) <;> omega) (by rfl)
        · try simp only [zg] at g46
          refine rest [(6, { res := .int .i64 ((t : Int) - max now (-5000)) }), (16, { res := .int .i64 (max now (-5000) - (t : Int)) })] [0, 1, 4, 5, 10, 11, 14, 15] rfl (by and_intros <;> decide) ?_
          refine condF rfl (skip (seq (reg [] [] rfl (by decide) ?_)))
          refine drop 0 (Nat.zero_le _) rfl ?_
          exact retH Tryz.func49 rfl rfl (by refine congrArg (AV.int _) ?_; unfold lateC; (repeat' split) <;> omega) (by rfl)
    · try simp only [zg] at g36
      refine restTo 10 [(6, { res := .int .i64 ((t : Int) - max now (-5000)) }), (16, { res := .int .i64 (max now (-5000) - (t : Int)) })] [0, 1, 4, 5, 10, 11, 14, 15] rfl (by and_intros <;> decide) ?_
      refine splitS 46 rfl (fun g46 => ?_) (fun g46 => ?_)
      · try simp only [zg] at g46
        refine rest [(6, { res := .int .i64 ((t : Int) - max now (-5000)) }), (16, { res := .int .i64 (max now (-5000) - (t : Int)) })] [0, 1, 4, 5, 10, 11, 14, 15] rfl (by and_intros <;> first | decide | (refine congrArg (AV.int _) ?_; rw [i64_id (by omega) (by omega)])) ?_
        refine condS rfl (fun g52 => ?_) (fun g52 => ?_)
        · try simp only [zg] at g52
          refine seq (reg [] [] rfl (by decide) ?_)
          refine drop 0 (Nat.zero_le _) rfl ?_
          exact retH Tryz.func49 rfl rfl (by refine congrArg (AV.int _) ?_; unfold lateC; (repeat' split) <;> first | omega | (simp_all; done)) (by rfl)
        · try simp only [zg] at g52
          refine skip (seq (reg [] [] rfl (by decide) ?_))
          refine drop 0 (Nat.zero_le _) rfl ?_
          exact retH Tryz.func49 rfl rfl (by refine congrArg (AV.int _) ?_; unfold lateC; (repeat' split) <;> first | omega | (simp_all; done)) (by rfl)
      · try simp only [zg] at g46
        refine rest [(6, { res := .int .i64 ((t : Int) - max now (-5000)) }), (16, { res := .int .i64 (max now (-5000) - (t : Int)) })] [0, 1, 4, 5, 10, 11, 14, 15] rfl (by and_intros <;> decide) ?_
        refine condF rfl (skip (seq (reg [] [] rfl (by decide) ?_)))
        refine drop 0 (Nat.zero_le _) rfl ?_
        exact retH Tryz.func49 rfl rfl (by refine congrArg (AV.int _) ?_; unfold lateC; (repeat' split) <;> omega) (by rfl)

theorem pay_ok (pay body : List UInt8) (hp : pay.length ≤ 8388608) (hb : body.length ≤ 16777216) : FnOK Tryz.prog 42 [.str pay, .bs body false] [] (.int .i64 (payC pay body)) [] := by
  refine FnOK.of_runs Tryz.func42 rfl (Nat.le_of_ble_eq_true rfl) ?_
  refine seq (reg [] [] rfl (by decide) ?_)
  refine seq (block (seq (region (restTo 3 [(1, { res := .bool (digsL pay) }), (5, { res := .bs (shaS body) false }), (6, { res := .str (hexL (shaS body)) })] [0, 3, 4] rfl (by and_intros <;> first | decide | exact cdigits_ok pay (by omega)) ?_))))
  refine splitS 8 rfl (fun g8 => ?_) (fun g8 => ?_)
  · try simp only [zg] at g8
    refine rest [(1, { res := .bool (digsL pay) }), (5, { res := .bs (shaS body) false }), (6, { res := .str (hexL (shaS body)) })] [0, 3, 4] rfl (by and_intros <;> first | decide | exact sha_ok body (by omega) | exact hex_ok (shaS body) false (by rw [shaS_len]; decide)) ?_
    refine condS rfl (fun g5 => ?_) (fun g5 => ?_)
    · try simp only [zg] at g5
      refine seq (reg [] [] rfl (by decide) ?_)
      exact retH Tryz.func42 rfl rfl (by refine congrArg (AV.int _) ?_; unfold payC; (repeat' split) <;> rfl) (by rfl)
    · try simp only [zg] at g5
      refine seq (region (restTo 4 [(1, { res := .bool (digsL pay) })] [0, 4, 8] rfl (by and_intros <;> first | decide | exact cdigits_ok pay (by omega)) ?_))
      refine splitS 19 rfl (fun g19 => ?_) (fun g19 => ?_)
      · try simp only [zg] at g19
        refine restTo 4 [(1, { res := .bool (digsL pay) })] [0, 4, 8] rfl (by and_intros <;> decide) ?_
        refine splitS 23 rfl (fun g23 => ?_) (fun g23 => ?_)
        · try simp only [zg] at g23
          refine rest [(1, { res := .bool (digsL pay) })] [0, 4, 8] rfl (by and_intros <;> decide) ?_
          refine condS rfl (fun g15 => ?_) (fun g15 => ?_)
          · try simp only [zg] at g15
            refine seq (reg [] [] rfl (by decide) ?_)
            exact retH Tryz.func42 rfl rfl (by refine congrArg (AV.int _) ?_; unfold payC; (repeat' split) <;> (simp_all; done)) (by rfl)
          · try simp only [zg] at g15
            refine skip (inBlock (seq (reg [] [] rfl (by decide) ?_)))
            exact retH Tryz.func42 rfl rfl (by refine congrArg (AV.int _) ?_; unfold payC; (repeat' split) <;> rfl) (by rfl)
        · try simp only [zg] at g23
          refine rest [(1, { res := .bool (digsL pay) })] [0, 4, 8] rfl (by and_intros <;> decide) ?_
          refine condF rfl (skip (inBlock (seq (reg [] [] rfl (by decide) ?_))))
          exact retH Tryz.func42 rfl rfl (by refine congrArg (AV.int _) ?_; unfold payC; (repeat' split) <;> rfl) (by rfl)
      · try simp only [zg] at g19
        refine rest [(1, { res := .bool (digsL pay) })] [0, 4, 8] rfl (by and_intros <;> decide) ?_
        refine condF rfl (skip (inBlock (seq (reg [] [] rfl (by decide) ?_))))
        exact retH Tryz.func42 rfl rfl (by refine congrArg (AV.int _) ?_; unfold payC; (repeat' split) <;> rfl) (by rfl)
  · try simp only [zg] at g8
    refine rest [(1, { res := .bool (digsL pay) }), (5, { res := .bs (shaS body) false }), (6, { res := .str (hexL (shaS body)) })] [0, 3, 4] rfl (by and_intros <;> decide) ?_
    refine condF rfl (seq (region (restTo 4 [(1, { res := .bool (digsL pay) })] [0, 4, 8] rfl (by and_intros <;> first | decide | exact cdigits_ok pay (by omega)) ?_)))
    refine splitS 19 rfl (fun g19 => ?_) (fun g19 => ?_)
    · try simp only [zg] at g19
      refine restTo 4 [(1, { res := .bool (digsL pay) })] [0, 4, 8] rfl (by and_intros <;> decide) ?_
      refine splitS 23 rfl (fun g23 => ?_) (fun g23 => ?_)
      · try simp only [zg] at g23
        refine rest [(1, { res := .bool (digsL pay) })] [0, 4, 8] rfl (by and_intros <;> decide) ?_
        refine condS rfl (fun g15 => ?_) (fun g15 => ?_)
        · try simp only [zg] at g15
          refine seq (reg [] [] rfl (by decide) ?_)
          exact retH Tryz.func42 rfl rfl (by refine congrArg (AV.int _) ?_; unfold payC; (repeat' split) <;> (simp_all; done)) (by rfl)
        · try simp only [zg] at g15
          refine skip (inBlock (seq (reg [] [] rfl (by decide) ?_)))
          exact retH Tryz.func42 rfl rfl (by refine congrArg (AV.int _) ?_; unfold payC; (repeat' split) <;> (simp_all; done)) (by rfl)
      · try simp only [zg] at g23
        refine rest [(1, { res := .bool (digsL pay) })] [0, 4, 8] rfl (by and_intros <;> decide) ?_
        refine condF rfl (skip (inBlock (seq (reg [] [] rfl (by decide) ?_))))
        exact retH Tryz.func42 rfl rfl (by refine congrArg (AV.int _) ?_; unfold payC; (repeat' split) <;> (simp_all; done)) (by rfl)
    · try simp only [zg] at g19
      refine rest [(1, { res := .bool (digsL pay) })] [0, 4, 8] rfl (by and_intros <;> decide) ?_
      refine condF rfl (skip (inBlock (seq (reg [] [] rfl (by decide) ?_))))
      exact retH Tryz.func42 rfl rfl (by refine congrArg (AV.int _) ?_; unfold payC; (repeat' split) <;> (simp_all; done)) (by rfl)

end Go.Proofs.YtnohmijdpmelpaaGreat
