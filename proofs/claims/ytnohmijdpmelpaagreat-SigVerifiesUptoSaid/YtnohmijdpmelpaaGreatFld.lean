/- A claim in a header. -/
import Derived.Test.YtnohmijdpmelpaaGreatPar
set_option maxRecDepth 100000
set_option linter.unusedVariables false
set_option linter.unusedSimpArgs false
namespace Go.Proofs.YtnohmijdpmelpaaGreat
open Go Go.Am Go.Am.Runs

theorem cont_ok (s : List UInt8) (c : UInt8) : FnOK Tryz.prog 81 [.str s, .str [c]] [] (.bool (decide (0 ≤ Lib.indexByte s c))) [] := by
  refine FnOK.of_below rfl fun w G vs hl ha hw => ?_
  obtain ⟨v0, v1, rfl⟩ : ∃ v0 v1, vs = [v0, v1] := by
    match vs, hl with
    | [v0, v1], _ => exact ⟨v0, v1, rfl⟩
  have h0 := (ha 0 _ v0 rfl rfl).str_inv
  have h1 := (ha 1 _ v1 rfl rfl).str_inv
  subst h0; subst h1
  refine (Tryz.strings_Contains_one ⟨s.toArray⟩ c w).mono ?_
  rintro e w' ⟨rfl, rfl⟩
  exact ⟨_, rfl, fun G w => .bool .., RowKit.Below.refl _ _⟩
/-- what stands behind a part's beginning -/
def cutV (b p : List UInt8) : Option (List UInt8) := if (cutpL (trimL p) b).2 = true then some (cutpL (trimL p) b).1 else none
def fldN (l : List (List UInt8)) (b : List UInt8) : List (List UInt8) := l.filterMap (cutV b)
def fldO (l : List (List UInt8)) (b : List UInt8) : Option (List UInt8) := if (fldN l b).length = 1 then some ((fldN l b).getD 0 []) else none
theorem fldN_len (l : List (List UInt8)) (b : List UInt8) (i : Nat) : (fldN (l.take i) b).length ≤ l.length := by
  have := List.length_filterMap_le (cutV b) (l.take i)
  rw [List.length_take] at this
  unfold fldN; omega
theorem fldN_yes {l : List (List UInt8)} {b : List UInt8} {i : Nat} (hi : i < l.length) (h : (cutpL (trimL (l.getD i [])) b).2 = true) : fldN (l.take (i + 1)) b = fldN (l.take i) b ++ [(cutpL (trimL (l.getD i [])) b).1] := by
  unfold fldN
  rw [take_snoc [] hi, List.filterMap_append]
  congr 1
  simp only [List.filterMap_cons, List.filterMap_nil, cutV]
  rw [if_pos h]
theorem fldN_no {l : List (List UInt8)} {b : List UInt8} {i : Nat} (hi : i < l.length) (h : (cutpL (trimL (l.getD i [])) b).2 = false) : fldN (l.take (i + 1)) b = fldN (l.take i) b := by
  unfold fldN
  rw [take_snoc [] hi, List.filterMap_append]
  simp only [List.filterMap_cons, List.filterMap_nil, cutV]
  rw [if_neg (by rw [h]; exact Bool.false_ne_true), List.append_nil]
theorem getD_le {l : List (List UInt8)} {B : Nat} (h : ∀ x ∈ l, x.length ≤ B) (i : Nat) : (l.getD i []).length ≤ B := by
  rw [List.getD_eq_getElem?_getD]
  cases e : l[i]? with
  | none => simp
  | some x => exact h x (List.mem_of_getElem? e)
theorem cutp_len (s p : List UInt8) : (cutpL s p).1.length ≤ s.length := by unfold cutpL; split <;> simp

theorem aN_head {l : List Hd} {name : List UInt8} {i : Nat} (hi : i < l.length) (h0 : aN l name i = []) (h : (l.getD i ([], [])).1 = name) : ∀ k, i < k → ∃ r, aN l name k = (l.getD i ([], [])).2 :: r
  | 0, hk => by omega
  | k + 1, hk => by
    by_cases e : i = k
    · subst e
      unfold aN
      rw [if_pos h, h0]; exact ⟨[], rfl⟩
    · obtain ⟨r, hr⟩ := aN_head hi h0 h k (by omega)
      unfold aN
      split
      · rw [hr]; exact ⟨r ++ [(l.getD k ([], [])).2], rfl⟩
      · exact ⟨r, hr⟩
theorem get1_hit {l : List Hd} {name : List UInt8} {i : Nat} (hi : i < l.length) (h0 : aN l name i = []) (h : (l.getD i ([], [])).1 = name) : AV.tup [.str ((allL l name).getD 0 []), .bool (decide (allL l name ≠ []))] = .tup [.str (l.getD i ([], [])).2, .bool true] := by
  obtain ⟨r, hr⟩ := aN_head hi h0 h l.length hi
  unfold allL
  rw [hr]; simp

theorem field_ok (l : List (List UInt8)) (b : List UInt8) (hl : l.length ≤ 16777216) (he : ∀ x ∈ l, x.length ≤ 16777216) (hb : b.length ≤ 16777216) : FnOK Tryz.prog 112 [.sl 1 l.length (strEl l) false, .str b] [] (.tup [.str ((fldO l b).getD []), .bool (fldO l b).isSome]) [] := by
  refine FnOK.of_runs Tryz.func112 rfl (Nat.le_of_ble_eq_true rfl) ?_
  refine seq (reg [] [] rfl (by decide) ?_)
  refine seq (reg [] [] rfl (by decide) ?_)
  refine seq (seq (reg [] [0] rfl (by decide) ?_))
  refine block ?_
  -- loop 0
  refine loopF (σ := Nat) (fun i => i ≤ l.length) (fun i => [(1, .str b), (6, .sl 1 (fldN (l.take i) b).length (strEl (fldN (l.take i) b)) true), (11, .sl 1 l.length (strEl l) false), (12, .int .i64 l.length), (13, .int .i64 i)]) (fun _ => []) (fun i => l.length - i) (0) (by exact Nat.zero_le _) (by exact agree_cons rfl (by rfl) (agree_imp rfl (by exact Imp.slEq rfl (fun i hi => absurd hi (Nat.not_lt_zero _))) rfl rfl (agree_cons rfl (by rfl) (agree_cons rfl (by rfl) (agree_cons rfl (by rfl) (trivial)))))) (by rfl) (fun i hi ih => ?_)
  replace hi : i ≤ l.length := hi; have hfn := fldN_len l b i; have hge := getD_le he i; have htl := trimL_len (l.getD i [])
  refine seq (reg [] [] rfl (by decide) ?_)
  refine seq ?_
  refine condS rfl (fun g14 => ?_) (fun g14 => ?_)
  · try simp only [zg] at g14
    refine skip (seq (block (seq (reg [] [] rfl (by and_intros <;> first | omega | exact ⟨⟩) ?_))))
    refine seq (reg [(1, { res := .str (trimL (l.getD i [])) }), (3, { res := .tup [.str (cutpL (trimL (l.getD i [])) b).1, .bool (cutpL (trimL (l.getD i [])) b).2] })] [0, 2] rfl (by and_intros <;> first | exact ⟨⟩ | exact ctrim_ok (l.getD i []) (by omega) | exact cutp_ok (trimL (l.getD i [])) b (by omega) hb) ?_)
    refine seq (reg [] [0] rfl (by decide) ?_)
    refine condS rfl (fun g24 => ?_) (fun g24 => ?_)
    · try simp only [zg] at g24
      have hfs := fldN_yes (b := b) (show i < l.length by omega) g24
      refine reg [] [] rfl (by and_intros <;> first | omega | exact ⟨⟩) ?_
      refine inBlock (reg [] [] rfl (by decide) ?_)
      exact ih (i + 1) _ _ (by omega) (by omega) (by exact agree_cons rfl (by rfl) (agree_imp rfl (by (rw [hfs]; exact st_app rfl _ rfl)) rfl rfl (agree_cons rfl (by first | rfl | (refine congrArg (AV.int _) ?_; simp only [wrap_i64', tdivN, tmodN]; omega) | skip) (agree_cons rfl (by first | rfl | (refine congrArg (AV.int _) ?_; simp only [wrap_i64', tdivN, tmodN]; omega) | skip) (agree_cons rfl (by first | rfl | (refine congrArg (AV.int _) ?_; simp only [wrap_i64', tdivN, tmodN]; omega) | skip) (trivial)))))) (by rfl)
    · try simp only [zg] at g24
      have hfs := fldN_no (b := b) (show i < l.length by omega) g24
      refine skip (inBlock (reg [] [] rfl (by decide) ?_))
      exact ih (i + 1) _ _ (by omega) (by omega) (by exact agree_cons rfl (by rfl) (agree_imp rfl (by (rw [hfs]; exact Imp.refl _)) rfl rfl (agree_cons rfl (by first | rfl | (refine congrArg (AV.int _) ?_; simp only [wrap_i64', tdivN, tmodN]; omega) | skip) (agree_cons rfl (by first | rfl | (refine congrArg (AV.int _) ?_; simp only [wrap_i64', tdivN, tmodN]; omega) | skip) (agree_cons rfl (by first | rfl | (refine congrArg (AV.int _) ?_; simp only [wrap_i64', tdivN, tmodN]; omega) | skip) (trivial)))))) (by rfl)
  · try simp only [zg] at g14
    refine exit rfl (seq (seq ?_))
    have hil : l.take i = l := List.take_of_length_le (by omega)
    rw [hil]
    refine reg [] [0] rfl (by decide) ?_
    refine condS rfl (fun g32 => ?_) (fun g32 => ?_)
    · try simp only [zg] at g32
      refine seq (reg [] [] rfl (by decide) ?_)
      exact retH Tryz.func112 rfl rfl (by rw [show fldO l b = none from if_neg (by omega)]; rfl) (by rfl)
    · try simp only [zg] at g32
      refine skip (seq (reg [] [0] rfl (by and_intros <;> first | exact ⟨⟩ | omega) ?_))
      exact retH Tryz.func112 rfl rfl (by rw [show fldO l b = some ((fldN l b).getD 0 []) from if_pos (by omega)]; rfl) (by rfl)

theorem get1_ok (l : List Hd) (name : List UInt8) (hl : l.length ≤ 16777216) : FnOK Tryz.prog 82 [.sl 2 l.length (hdEl l) false, .str name] [] (.tup [.str ((allL l name).getD 0 []), .bool (decide (allL l name ≠ []))]) [] := by
  refine FnOK.of_runs Tryz.func82 rfl (Nat.le_of_ble_eq_true rfl) ?_
  refine seq (reg [] [] rfl (by decide) ?_)
  refine seq (seq (reg [] [0] rfl (by decide) ?_))
  refine block ?_
  -- loop 0
  refine loopF (σ := Nat) (fun i => i ≤ l.length ∧ aN l name i = []) (fun i => [(1, .str name), (8, .sl 2 l.length (hdEl l) false), (9, .int .i64 l.length), (10, .int .i64 i)]) (fun _ => []) (fun i => l.length - i) (0) (by exact ⟨Nat.zero_le _, rfl⟩) (by exact zag rfl) (by rfl) (fun i hi ih => ?_)
  replace hi : i ≤ l.length ∧ aN l name i = [] := hi; have hi1 := hi.1
  refine seq (reg [] [] rfl (by decide) ?_)
  refine seq ?_
  refine condS rfl (fun g11 => ?_) (fun g11 => ?_)
  · try simp only [zg] at g11
    refine skip (seq (block (seq (reg [] [] rfl (by and_intros <;> first | omega | exact zl rfl | exact ⟨⟩) ?_))))
    refine seq (reg [] [2] rfl (by decide) ?_)
    refine condS rfl (fun g17 => ?_) (fun g17 => ?_)
    · try simp only [zg] at g17
      refine seq (reg [] [] rfl (by decide) ?_)
      refine drop 0 (Nat.zero_le _) rfl ?_
      exact retH Tryz.func82 rfl rfl (by rw [get1_hit (show i < l.length by omega) hi.2 g17]; rfl) (by rfl)
    · try simp only [zg] at g17
      refine skip (inBlock (reg [] [] rfl (by decide) ?_))
      refine drop 0 (Nat.le_of_ble_eq_true rfl) rfl ?_
      exact ih (i + 1) _ _ (by exact ⟨by omega, by unfold aN; exact (if_neg g17).trans hi.2⟩) (by omega) (by exact agree_cons rfl (by rfl) (agree_cons rfl (by first | rfl | (refine congrArg (AV.int _) ?_; simp only [wrap_i64', tdivN, tmodN]; omega) | skip) (agree_cons rfl (by first | rfl | (refine congrArg (AV.int _) ?_; simp only [wrap_i64', tdivN, tmodN]; omega) | skip) (agree_cons rfl (by first | rfl | (refine congrArg (AV.int _) ?_; simp only [wrap_i64', tdivN, tmodN]; omega) | skip) (trivial))))) (by rfl)
  · try simp only [zg] at g11
    refine exit rfl (seq (reg [] [] rfl (by decide) ?_))
    exact retH Tryz.func82 rfl rfl (by have h := hi.2; rw [show i = l.length by omega] at h; rw [show allL l name = [] from h]; rfl) (by rfl)

end Go.Proofs.YtnohmijdpmelpaaGreat
set_option maxRecDepth 100000
set_option linter.unusedVariables false
set_option linter.unusedSimpArgs false
namespace Go.Proofs.YtnohmijdpmelpaaGreat
open Go Go.Am Go.Am.Runs

abbrev algoS : List UInt8 := [65, 87, 83, 52, 45, 72, 77, 65, 67, 45, 83, 72, 65, 50, 53, 54, 32]
abbrev algoN : List UInt8 := [65, 87, 83, 52, 45, 72, 77, 65, 67, 45, 83, 72, 65, 50, 53, 54]
abbrev credB : List UInt8 := [67, 114, 101, 100, 101, 110, 116, 105, 97, 108, 61]
abbrev sgB : List UInt8 := [83, 105, 103, 110, 101, 100, 72, 101, 97, 100, 101, 114, 115, 61]
abbrev sigB : List UInt8 := [83, 105, 103, 110, 97, 116, 117, 114, 101, 61]
abbrev authN : List UInt8 := [97, 117, 116, 104, 111, 114, 105, 122, 97, 116, 105, 111, 110]
abbrev xsigN : List UInt8 := [88, 45, 65, 109, 122, 45, 83, 105, 103, 110, 97, 116, 117, 114, 101]
abbrev xdateN : List UInt8 := [120, 45, 97, 109, 122, 45, 100, 97, 116, 101]
abbrev xshaN : List UInt8 := [120, 45, 97, 109, 122, 45, 99, 111, 110, 116, 101, 110, 116, 45, 115, 104, 97, 50, 53, 54]
abbrev hostN : List UInt8 := [104, 111, 115, 116]
abbrev amzN : List UInt8 := [120, 45, 97, 109, 122, 45]
abbrev unsP : List UInt8 := [85, 78, 83, 73, 71, 78, 69, 68, 45, 80, 65, 89, 76, 79, 65, 68]
abbrev strP : List UInt8 := [83, 84, 82, 69, 65, 77, 73, 78, 71, 45, 65, 87, 83, 52, 45, 72, 77, 65, 67, 45, 83, 72, 65, 50, 53, 54, 45, 80, 65, 89, 76, 79, 65, 68]
abbrev scopeS : List UInt8 := [47, 117, 115, 45, 101, 97, 115, 116, 45, 49, 47, 115, 51, 47, 97, 119, 115, 52, 95, 114, 101, 113, 117, 101, 115, 116]
abbrev usE : List UInt8 := [117, 115, 45, 101, 97, 115, 116, 45, 49]
abbrev s3E : List UInt8 := [115, 51]
/-- what a request says of who asks -/
structure Cl where
  cred : List UInt8
  sg : List UInt8
  sig : List UInt8
  date : List UInt8
  exp : Nat
  q : Bool
def hdrL (v : List UInt8) : List (List UInt8) := splitL (cutpL v algoS).1 44
def HdrOK (v : List UInt8) : Prop := (cutpL v algoS).2 = true ∧ (fldO (hdrL v) credB).isSome = true ∧ (fldO (hdrL v) sgB).isSome = true ∧ (fldO (hdrL v) sigB).isSome = true ∧ (hdrL v).length = 3 ∧ digsL ((fldO (hdrL v) sigB).getD []) = true
instance (v : List UInt8) : Decidable (HdrOK v) := by unfold HdrOK; exact inferInstance
abbrev hC (v : List UInt8) : List UInt8 := (fldO (hdrL v) credB).getD []
abbrev hS (v : List UInt8) : List UInt8 := (fldO (hdrL v) sgB).getD []
abbrev hG (v : List UInt8) : List UInt8 := (fldO (hdrL v) sigB).getD []
def hdrC (hd : List Hd) (v : List UInt8) : Sum Int Cl := if HdrOK v then (if (allL hd xdateN).length = 1 then .inr ⟨hC v, hS v, hG v, (allL hd xdateN).getD 0 [], 0, false⟩ else .inl 300) else .inl 304
/-- a claim's cells -/
abbrev clB (cred date sig : List UInt8) (sg : List (List UInt8)) (exp : Nat) (q : Bool) (pay : List UInt8) : List AV := [.str cred, .str date, .str sig, .sl 1 sg.length (strEl sg) false, .int .i64 exp, .bool q, .str pay]
abbrev clZ : List AV := [.str [], .str [], .str [], .sl 1 0 (fun _ => .bad) false, .int .i64 0, .bool false, .str []]
theorem hdrL_len (v : List UInt8) : (hdrL v).length ≤ v.length + 1 := by
  have h1 := splitL_len (cutpL v algoS).1 44
  have h2 := cutp_len v algoS
  unfold hdrL; omega
theorem hdrL_mem (v : List UInt8) (B : Nat) (hv : v.length ≤ B) : ∀ x ∈ hdrL v, x.length ≤ B := fun x hx => by
  have h2 := cutp_len v algoS
  unfold hdrL splitL at hx
  rw [List.mem_append, List.mem_singleton] at hx
  rcases hx with h | rfl
  · have := spI_mem _ _ _ x h; omega
  · rw [List.length_drop]; omega
theorem fldO_le {l : List (List UInt8)} {b : List UInt8} {B : Nat} (h : ∀ x ∈ l, x.length ≤ B) : ((fldO l b).getD []).length ≤ B := by
  unfold fldO
  split
  · refine getD_le (B := B) (fun x hx => ?_) 0
    unfold fldN at hx
    rw [List.mem_filterMap] at hx
    obtain ⟨p, hp, e⟩ := hx
    unfold cutV at e
    split at e
    · simp only [Option.some.injEq] at e
      subst e
      have := cutp_len (trimL p) b
      have := trimL_len p
      have := h p hp
      omega
    · cases e
  · simp

theorem inh_bad (m t : List UInt8) (hd : List Hd) (body : List UInt8) (o : Bool) (v : List UInt8) (hv : v.length ≤ 8388608) (hl : hd.length ≤ 16777216) (hk : ¬ HdrOK v) : FnOK Tryz.prog 74 [.ptr 0 0, .agg [.str m, .str t, .sl 2 hd.length (hdEl hd) false, .bs body o], .str v] [clZ] (.int .i64 304) [clZ] := by
  refine FnOK.of_runs Tryz.func74 rfl (Nat.le_of_ble_eq_true rfl) ?_
  refine seq (reg [] [] rfl (by decide) ?_)
  refine seq ?_
  have hll := hdrL_len v
  have hlm := hdrL_mem v 8388608 hv
  have hfs : (hS v).length ≤ 8388608 := fldO_le (b := sgB) hlm
  have hfg : (hG v).length ≤ 8388608 := fldO_le (b := sigB) hlm
  refine reg [(1, { res := .tup [.str (cutpL v algoS).1, .bool (cutpL v algoS).2] })] [0] rfl (by and_intros <;> first | decide | exact cutp_ok v algoS (by omega) (by decide)) ?_
  refine seq (reg [(1, { res := .sl 1 (hdrL v).length (strEl (hdrL v)) false })] [0] rfl (by and_intros <;> first | decide | exact split_ok (cutpL v algoS).1 44 (by have := cutp_len v algoS; omega)) ?_)
  refine seq (reg [(1, { res := .tup [.str (hC v), .bool (fldO (hdrL v) credB).isSome] })] [0] rfl (by and_intros <;> first | decide | exact field_ok (hdrL v) credB (by omega) (fun x hx => Nat.le_trans (hlm x hx) (by decide)) (by decide)) ?_)
  refine seq (reg [(1, { res := .tup [.str (hS v), .bool (fldO (hdrL v) sgB).isSome] })] [0] rfl (by and_intros <;> first | decide | exact field_ok (hdrL v) sgB (by omega) (fun x hx => Nat.le_trans (hlm x hx) (by decide)) (by decide)) ?_)
  refine seq (reg [(1, { res := .tup [.str (hG v), .bool (fldO (hdrL v) sigB).isSome] })] [0] rfl (by and_intros <;> first | decide | exact field_ok (hdrL v) sigB (by omega) (fun x hx => Nat.le_trans (hlm x hx) (by decide)) (by decide)) ?_)
  refine seq (seq (region (restTo 3 [(21, { res := .bool (digsL (hG v)) })] [0, 3, 7, 11, 15, 20] rfl (by and_intros <;> decide) ?_)))
  refine splitS 41 rfl (fun g41 => ?_) (fun g41 => ?_)
  · try simp only [zg] at g41
    refine rest [(21, { res := .bool (digsL (hG v)) })] [0, 3, 7, 11, 15, 20] rfl (by and_intros <;> decide) ?_
    refine condT rfl (seq (reg [] [] rfl (by decide) ?_))
    refine drop 1 (Nat.le_refl _) rfl ?_
    exact retH Tryz.func74 rfl rfl (by rfl) (by rfl)
  · try simp only [zg] at g41
    refine restTo 4 [(21, { res := .bool (digsL (hG v)) })] [0, 3, 7, 11, 15, 20] rfl (by and_intros <;> decide) ?_
    refine splitS 45 rfl (fun g45 => ?_) (fun g45 => ?_)
    · try simp only [zg] at g45
      refine rest [(21, { res := .bool (digsL (hG v)) })] [0, 3, 7, 11, 15, 20] rfl (by and_intros <;> decide) ?_
      refine condT rfl (seq (reg [] [] rfl (by decide) ?_))
      refine drop 1 (Nat.le_refl _) rfl ?_
      exact retH Tryz.func74 rfl rfl (by rfl) (by rfl)
    · try simp only [zg] at g45
      refine restTo 4 [(21, { res := .bool (digsL (hG v)) })] [0, 3, 7, 11, 15, 20] rfl (by and_intros <;> decide) ?_
      refine splitS 49 rfl (fun g49 => ?_) (fun g49 => ?_)
      · try simp only [zg] at g49
        refine rest [(21, { res := .bool (digsL (hG v)) })] [0, 3, 7, 11, 15, 20] rfl (by and_intros <;> decide) ?_
        refine condT rfl (seq (reg [] [] rfl (by decide) ?_))
        refine drop 1 (Nat.le_refl _) rfl ?_
        exact retH Tryz.func74 rfl rfl (by rfl) (by rfl)
      · try simp only [zg] at g49
        refine restTo 4 [(21, { res := .bool (digsL (hG v)) })] [0, 3, 7, 11, 15, 20] rfl (by and_intros <;> decide) ?_
        refine splitS 53 rfl (fun g53 => ?_) (fun g53 => ?_)
        · try simp only [zg] at g53
          refine rest [(21, { res := .bool (digsL (hG v)) })] [0, 3, 7, 11, 15, 20] rfl (by and_intros <;> decide) ?_
          refine condT rfl (seq (reg [] [] rfl (by decide) ?_))
          refine drop 1 (Nat.le_refl _) rfl ?_
          exact retH Tryz.func74 rfl rfl (by rfl) (by rfl)
        · try simp only [zg] at g53
          refine restTo 5 [(21, { res := .bool (digsL (hG v)) })] [0, 3, 7, 11, 15, 20] rfl (by and_intros <;> decide) ?_
          refine splitS 58 rfl (fun g58 => ?_) (fun g58 => ?_)
          · try simp only [zg] at g58
            refine rest [(21, { res := .bool (digsL (hG v)) })] [0, 3, 7, 11, 15, 20] rfl (by and_intros <;> decide) ?_
            refine condT rfl (seq (reg [] [] rfl (by decide) ?_))
            refine drop 1 (Nat.le_refl _) rfl ?_
            exact retH Tryz.func74 rfl rfl (by rfl) (by rfl)
          · try simp only [zg] at g58
            refine rest [(21, { res := .bool (digsL (hG v)) })] [0, 3, 7, 11, 15, 20] rfl (by and_intros <;> first | decide | exact cdigits_ok (hG v) (by omega)) ?_
            refine condS rfl (fun g62 => ?_) (fun g62 => ?_)
            · try simp only [zg] at g62
              refine seq (reg [] [] rfl (by decide) ?_)
              refine drop 1 (Nat.le_refl _) rfl ?_
              exact retH Tryz.func74 rfl rfl (by rfl) (by rfl)
            · try simp only [zg] at g62
              exact absurd (show HdrOK v by unfold HdrOK; exact ⟨g41, g45, g49, g53, by omega, g62⟩) hk

theorem inh_nod (m t : List UInt8) (hd : List Hd) (body : List UInt8) (o : Bool) (v : List UInt8) (hv : v.length ≤ 8388608) (hl : hd.length ≤ 16777216) (hk : HdrOK v) (hd1 : (allL hd xdateN).length ≠ 1) : FnOK Tryz.prog 74 [.ptr 0 0, .agg [.str m, .str t, .sl 2 hd.length (hdEl hd) false, .bs body o], .str v] [clZ] (.int .i64 300) [clB (hC v) [] (hG v) (splitL (hS v) 59) 0 false []] := by
  refine FnOK.of_runs Tryz.func74 rfl (Nat.le_of_ble_eq_true rfl) ?_
  refine seq (reg [] [] rfl (by decide) ?_)
  refine seq ?_
  have hll := hdrL_len v
  have hlm := hdrL_mem v 8388608 hv
  have hfs : (hS v).length ≤ 8388608 := fldO_le (b := sgB) hlm
  have hfg : (hG v).length ≤ 8388608 := fldO_le (b := sigB) hlm
  refine reg [(1, { res := .tup [.str (cutpL v algoS).1, .bool (cutpL v algoS).2] })] [0] rfl (by and_intros <;> first | decide | exact cutp_ok v algoS (by omega) (by decide)) ?_
  refine seq (reg [(1, { res := .sl 1 (hdrL v).length (strEl (hdrL v)) false })] [0] rfl (by and_intros <;> first | decide | exact split_ok (cutpL v algoS).1 44 (by have := cutp_len v algoS; omega)) ?_)
  refine seq (reg [(1, { res := .tup [.str (hC v), .bool (fldO (hdrL v) credB).isSome] })] [0] rfl (by and_intros <;> first | decide | exact field_ok (hdrL v) credB (by omega) (fun x hx => Nat.le_trans (hlm x hx) (by decide)) (by decide)) ?_)
  refine seq (reg [(1, { res := .tup [.str (hS v), .bool (fldO (hdrL v) sgB).isSome] })] [0] rfl (by and_intros <;> first | decide | exact field_ok (hdrL v) sgB (by omega) (fun x hx => Nat.le_trans (hlm x hx) (by decide)) (by decide)) ?_)
  refine seq (reg [(1, { res := .tup [.str (hG v), .bool (fldO (hdrL v) sigB).isSome] })] [0] rfl (by and_intros <;> first | decide | exact field_ok (hdrL v) sigB (by omega) (fun x hx => Nat.le_trans (hlm x hx) (by decide)) (by decide)) ?_)
  refine seq (seq (region (restTo 3 [(21, { res := .bool (digsL (hG v)) })] [0, 3, 7, 11, 15, 20] rfl (by and_intros <;> decide) ?_)))
  refine splitS 41 rfl (fun g41 => ?_) (fun g41 => ?_)
  · try simp only [zg] at g41
    obtain ⟨k1, k2, k3, k4, k5, k6⟩ := hk; exfalso; (simp_all; done)
  · try simp only [zg] at g41
    refine restTo 4 [(21, { res := .bool (digsL (hG v)) })] [0, 3, 7, 11, 15, 20] rfl (by and_intros <;> decide) ?_
    refine splitS 45 rfl (fun g45 => ?_) (fun g45 => ?_)
    · try simp only [zg] at g45
      obtain ⟨k1, k2, k3, k4, k5, k6⟩ := hk; exfalso; (simp_all; done)
    · try simp only [zg] at g45
      refine restTo 4 [(21, { res := .bool (digsL (hG v)) })] [0, 3, 7, 11, 15, 20] rfl (by and_intros <;> decide) ?_
      refine splitS 49 rfl (fun g49 => ?_) (fun g49 => ?_)
      · try simp only [zg] at g49
        obtain ⟨k1, k2, k3, k4, k5, k6⟩ := hk; exfalso; (simp_all; done)
      · try simp only [zg] at g49
        refine restTo 4 [(21, { res := .bool (digsL (hG v)) })] [0, 3, 7, 11, 15, 20] rfl (by and_intros <;> decide) ?_
        refine splitS 53 rfl (fun g53 => ?_) (fun g53 => ?_)
        · try simp only [zg] at g53
          obtain ⟨k1, k2, k3, k4, k5, k6⟩ := hk; exfalso; (simp_all; done)
        · try simp only [zg] at g53
          refine restTo 5 [(21, { res := .bool (digsL (hG v)) })] [0, 3, 7, 11, 15, 20] rfl (by and_intros <;> decide) ?_
          refine splitS 58 rfl (fun g58 => ?_) (fun g58 => ?_)
          · try simp only [zg] at g58
            obtain ⟨k1, k2, k3, k4, k5, k6⟩ := hk; exfalso; omega
          · try simp only [zg] at g58
            refine rest [(21, { res := .bool (digsL (hG v)) })] [0, 3, 7, 11, 15, 20] rfl (by and_intros <;> first | decide | exact cdigits_ok (hG v) (by omega)) ?_
            refine condS rfl (fun g62 => ?_) (fun g62 => ?_)
            · try simp only [zg] at g62
              obtain ⟨k1, k2, k3, k4, k5, k6⟩ := hk; exfalso; (simp_all; done)
            · try simp only [zg] at g62
              refine skip (seq (reg [(5, { res := .sl 1 (splitL (hS v) 59).length (strEl (splitL (hS v) 59)) false })] [0, 1, 2, 3, 4, 6] rfl (by and_intros <;> first | exact zl rfl | decide | exact split_ok (hS v) 59 (by omega)) ?_))
              refine seq (reg [(2, { res := .sl 1 (allL hd xdateN).length (strEl (allL hd xdateN)) false })] [] rfl (by and_intros <;> first | decide | exact all_ok hd xdateN (by omega)) ?_)
              refine seq (seq (reg [] [0] rfl (by decide) ?_))
              refine condS rfl (fun g81 => ?_) (fun g81 => ?_)
              · try simp only [zg] at g81
                refine seq (reg [] [] rfl (by decide) ?_)
                refine drop 1 (Nat.le_refl _) rfl ?_
                exact retH Tryz.func74 rfl rfl (by rfl) (by rfl)
              · try simp only [zg] at g81
                exfalso; omega

theorem inh_ok (m t : List UInt8) (hd : List Hd) (body : List UInt8) (o : Bool) (v : List UInt8) (hv : v.length ≤ 8388608) (hl : hd.length ≤ 16777216) (hk : HdrOK v) (hd1 : (allL hd xdateN).length = 1) : FnOK Tryz.prog 74 [.ptr 0 0, .agg [.str m, .str t, .sl 2 hd.length (hdEl hd) false, .bs body o], .str v] [clZ] (.int .i64 0) [clB (hC v) ((allL hd xdateN).getD 0 []) (hG v) (splitL (hS v) 59) 0 false []] := by
  refine FnOK.of_runs Tryz.func74 rfl (Nat.le_of_ble_eq_true rfl) ?_
  refine seq (reg [] [] rfl (by decide) ?_)
  refine seq ?_
  have hll := hdrL_len v
  have hlm := hdrL_mem v 8388608 hv
  have hfs : (hS v).length ≤ 8388608 := fldO_le (b := sgB) hlm
  have hfg : (hG v).length ≤ 8388608 := fldO_le (b := sigB) hlm
  refine reg [(1, { res := .tup [.str (cutpL v algoS).1, .bool (cutpL v algoS).2] })] [0] rfl (by and_intros <;> first | decide | exact cutp_ok v algoS (by omega) (by decide)) ?_
  refine seq (reg [(1, { res := .sl 1 (hdrL v).length (strEl (hdrL v)) false })] [0] rfl (by and_intros <;> first | decide | exact split_ok (cutpL v algoS).1 44 (by have := cutp_len v algoS; omega)) ?_)
  refine seq (reg [(1, { res := .tup [.str (hC v), .bool (fldO (hdrL v) credB).isSome] })] [0] rfl (by and_intros <;> first | decide | exact field_ok (hdrL v) credB (by omega) (fun x hx => Nat.le_trans (hlm x hx) (by decide)) (by decide)) ?_)
  refine seq (reg [(1, { res := .tup [.str (hS v), .bool (fldO (hdrL v) sgB).isSome] })] [0] rfl (by and_intros <;> first | decide | exact field_ok (hdrL v) sgB (by omega) (fun x hx => Nat.le_trans (hlm x hx) (by decide)) (by decide)) ?_)
  refine seq (reg [(1, { res := .tup [.str (hG v), .bool (fldO (hdrL v) sigB).isSome] })] [0] rfl (by and_intros <;> first | decide | exact field_ok (hdrL v) sigB (by omega) (fun x hx => Nat.le_trans (hlm x hx) (by decide)) (by decide)) ?_)
  refine seq (seq (region (restTo 3 [(21, { res := .bool (digsL (hG v)) })] [0, 3, 7, 11, 15, 20] rfl (by and_intros <;> decide) ?_)))
  refine splitS 41 rfl (fun g41 => ?_) (fun g41 => ?_)
  · try simp only [zg] at g41
    obtain ⟨k1, k2, k3, k4, k5, k6⟩ := hk; exfalso; (simp_all; done)
  · try simp only [zg] at g41
    refine restTo 4 [(21, { res := .bool (digsL (hG v)) })] [0, 3, 7, 11, 15, 20] rfl (by and_intros <;> decide) ?_
    refine splitS 45 rfl (fun g45 => ?_) (fun g45 => ?_)
    · try simp only [zg] at g45
      obtain ⟨k1, k2, k3, k4, k5, k6⟩ := hk; exfalso; (simp_all; done)
    · try simp only [zg] at g45
      refine restTo 4 [(21, { res := .bool (digsL (hG v)) })] [0, 3, 7, 11, 15, 20] rfl (by and_intros <;> decide) ?_
      refine splitS 49 rfl (fun g49 => ?_) (fun g49 => ?_)
      · try simp only [zg] at g49
        obtain ⟨k1, k2, k3, k4, k5, k6⟩ := hk; exfalso; (simp_all; done)
      · try simp only [zg] at g49
        refine restTo 4 [(21, { res := .bool (digsL (hG v)) })] [0, 3, 7, 11, 15, 20] rfl (by and_intros <;> decide) ?_
        refine splitS 53 rfl (fun g53 => ?_) (fun g53 => ?_)
        · try simp only [zg] at g53
          obtain ⟨k1, k2, k3, k4, k5, k6⟩ := hk; exfalso; (simp_all; done)
        · try simp only [zg] at g53
          refine restTo 5 [(21, { res := .bool (digsL (hG v)) })] [0, 3, 7, 11, 15, 20] rfl (by and_intros <;> decide) ?_
          refine splitS 58 rfl (fun g58 => ?_) (fun g58 => ?_)
          · try simp only [zg] at g58
            obtain ⟨k1, k2, k3, k4, k5, k6⟩ := hk; exfalso; omega
          · try simp only [zg] at g58
            refine rest [(21, { res := .bool (digsL (hG v)) })] [0, 3, 7, 11, 15, 20] rfl (by and_intros <;> first | decide | exact cdigits_ok (hG v) (by omega)) ?_
            refine condS rfl (fun g62 => ?_) (fun g62 => ?_)
            · try simp only [zg] at g62
              obtain ⟨k1, k2, k3, k4, k5, k6⟩ := hk; exfalso; (simp_all; done)
            · try simp only [zg] at g62
              refine skip (seq (reg [(5, { res := .sl 1 (splitL (hS v) 59).length (strEl (splitL (hS v) 59)) false })] [0, 1, 2, 3, 4, 6] rfl (by and_intros <;> first | exact zl rfl | decide | exact split_ok (hS v) 59 (by omega)) ?_))
              refine seq (reg [(2, { res := .sl 1 (allL hd xdateN).length (strEl (allL hd xdateN)) false })] [] rfl (by and_intros <;> first | decide | exact all_ok hd xdateN (by omega)) ?_)
              refine seq (seq (reg [] [0] rfl (by decide) ?_))
              refine condS rfl (fun g81 => ?_) (fun g81 => ?_)
              · try simp only [zg] at g81
                exfalso; omega
              · try simp only [zg] at g81
                refine skip (seq (reg [] [0, 1] rfl (by and_intros <;> first | exact ⟨⟩ | omega | exact zl rfl) ?_))
                refine seq (reg [] [] rfl (by decide) ?_)
                refine drop 1 (Nat.le_refl _) rfl ?_
                exact retH Tryz.func74 rfl rfl (by rfl) (by rfl)

end Go.Proofs.YtnohmijdpmelpaaGreat
