/- Digits of a time; a time made. -/
import Derived.Test.YtnohmijdpmelpaaGreatDate
set_option maxRecDepth 100000
set_option linter.unusedVariables false
set_option linter.unusedSimpArgs false
namespace Go.Proofs.YtnohmijdpmelpaaGreat
open Go Go.Am Go.Am.Runs

/-- the number of some digits of a text -/
def getO (s : List UInt8) (f k : Nat) : Option Nat := if f + k ≤ s.length then decF ((s.drop f).take k) 0 else none
structure GtI (s : List UInt8) (f k i m : Nat) : Prop where
  le : f ≤ i ∧ i ≤ f + k
  ln : i ≤ s.length ∨ i = f
  lt : m < 10 ^ (i - f)
  eq : decF ((s.drop f).take k) 0 = decF ((s.drop i).take (f + k - i)) m
theorem GtI.start (s : List UInt8) (f k : Nat) : GtI s f k f 0 := ⟨by omega, .inr rfl, by simp, by rw [show f + k - f = k by omega]⟩
theorem GtI.lt8 {s f k i m} (h : GtI s f k i m) (hk : k ≤ 8) : m < 100000000 := by
  have := h.le
  exact Nat.lt_of_lt_of_le h.lt (Nat.pow_le_pow_right (n := 10) (by decide) (show i - f ≤ 8 by omega))
theorem GtI.lt7 {s f k i m} (h : GtI s f k i m) (hk : k ≤ 8) (hi : i < f + k) : m < 10000000 := by
  have := h.le
  exact Nat.lt_of_lt_of_le h.lt (Nat.pow_le_pow_right (n := 10) (by decide) (show i - f ≤ 7 by omega))
theorem GtI.cons {s : List UInt8} {f k i : Nat} (hi : i < f + k) (hs : i < s.length) : (s.drop i).take (f + k - i) = s.getD i 0 :: (s.drop (i + 1)).take (f + k - (i + 1)) := by
  rw [List.drop_eq_getElem_cons hs, show f + k - i = (f + k - (i + 1)) + 1 by omega, List.take_succ_cons, List.getD_eq_getElem?_getD, List.getElem?_eq_getElem hs]; rfl
theorem GtI.bad {s f k i m} (h : GtI s f k i m) (hi : i < f + k) (hs : i < s.length) (hc : ¬ (48 ≤ (s.getD i 0).toNat ∧ (s.getD i 0).toNat ≤ 57)) : getO s f k = none := by
  unfold getO
  split
  · rw [h.eq, GtI.cons hi hs, decF, if_neg hc]
  · rfl
theorem GtI.short {s f k i m} (h : GtI s f k i m) (hi : i < f + k) (hs : s.length ≤ i) : getO s f k = none := by
  unfold getO; rw [if_neg (by omega)]
theorem GtI.step {s f k i m} (h : GtI s f k i m) (hi : i < f + k) (hs : i < s.length) (hc : 48 ≤ (s.getD i 0).toNat ∧ (s.getD i 0).toNat ≤ 57) : GtI s f k (i + 1) (10 * m + ((s.getD i 0).toNat - 48)) := by
  have hle := h.le
  refine ⟨by omega, .inl hs, ?_, ?_⟩
  · have := h.lt
    rw [show i + 1 - f = (i - f) + 1 by omega, Nat.pow_succ]; omega
  · rw [h.eq, GtI.cons hi hs, decF, if_pos hc]
theorem GtI.done {s f k i m} (h : GtI s f k i m) (hk : 1 ≤ k) (hi : f + k ≤ i) : getO s f k = some m := by
  have hle := h.le
  have hln := h.ln
  unfold getO
  rw [if_pos (by omega), h.eq, show f + k - i = 0 by omega]
  simp [decF]

theorem get_ok (s : List UInt8) (f k : Nat) (hs : s.length ≤ 16777216) (hf : f ≤ 1000) (hk1 : 1 ≤ k) (hk : k ≤ 8) : FnOK Tryz.prog 113 [.str s, .int .i64 f, .int .i64 k] [] (.tup [.int .i64 ((getO s f k).getD 0 : Nat), .bool (getO s f k).isSome]) [] := by
  refine FnOK.of_runs Tryz.func113 rfl (Nat.le_of_ble_eq_true rfl) ?_
  refine seq (reg [] [] rfl (by decide) ?_)
  refine seq (reg [] [] rfl (by decide) ?_)
  refine seq (seq (reg [] [0] rfl (by decide) ?_))
  refine block ?_
  -- loop 0
  refine loopF (σ := Nat × Nat) (fun p => GtI s f k p.1 p.2) (fun p => [(0, .str s), (1, .int .i64 f), (2, .int .i64 k), (8, .int .i64 p.2), (9, .int .i64 p.1)]) (fun _ => []) (fun p => f + k - p.1) ((f, 0)) (by exact GtI.start s f k) (by exact zag rfl) (by rfl) (fun ⟨i, m⟩ hi ih => ?_)
  have hi : GtI s f k i m := hi; have hle := hi.le; have h8 := hi.lt8 hk; have hc := u8lt (s.getD i 0)
  refine seq (seq ?_)
  refine reg [(3, { res := .int .i64 (f + k : Nat) })] [0, 1, 2] rfl (by and_intros <;> first | exact ⟨⟩ | (refine congrArg (AV.int _) ?_; (try simp only [tdivN, tmodN]); (rw [i64_id (by omega) (by omega)]); omega)) ?_
  refine condS rfl (fun g15 => ?_) (fun g15 => ?_)
  · try simp only [zg] at g15
    refine skip (seq (block (seq (seq (region (restTo 5 [] [0, 1, 5, 6, 11, 12] rfl (by (try simp only [Int.toNat_natCast]); and_intros <;> exact ⟨⟩) ?_))))))
    refine splitS 22 rfl (fun g22 => ?_) (fun g22 => ?_)
    · try simp only [zg] at g22
      refine rest [] [0, 1, 5, 6, 11, 12] rfl (by (try simp only [Int.toNat_natCast]); and_intros <;> exact ⟨⟩) ?_
      refine condT rfl (seq (reg [] [] rfl (by decide) ?_))
      exact retH Tryz.func113 rfl rfl (by rw [hi.short (by omega) (by omega)]; rfl) (by rfl)
    · try simp only [zg] at g22
      refine restTo 6 [] [0, 1, 5, 6, 11, 12] rfl (by (try simp only [Int.toNat_natCast]); and_intros <;> first | exact ⟨⟩ | omega) ?_
      refine splitS 28 rfl (fun g28 => ?_) (fun g28 => ?_)
      · try simp only [zg] at g28
        refine rest [] [0, 1, 5, 6, 11, 12] rfl (by (try simp only [Int.toNat_natCast]); and_intros <;> exact ⟨⟩) ?_
        refine condT rfl (seq (reg [] [] rfl (by decide) ?_))
        exact retH Tryz.func113 rfl rfl (by rw [hi.bad (by omega) (by omega) (by simp only [Int.toNat_natCast] at g28; omega)]; rfl) (by rfl)
      · try simp only [zg] at g28
        refine rest [] [0, 1, 5, 6, 11, 12] rfl (by (try simp only [Int.toNat_natCast]); and_intros <;> first | exact ⟨⟩ | omega) ?_
        refine condS rfl (fun g33 => ?_) (fun g33 => ?_)
        · try simp only [zg] at g33
          refine seq (reg [] [] rfl (by decide) ?_)
          exact retH Tryz.func113 rfl rfl (by rw [hi.bad (by omega) (by omega) (by simp only [Int.toNat_natCast] at g33; omega)]; rfl) (by rfl)
        · try simp only [zg] at g33
          refine skip ?_
          have hdg : 48 ≤ (s.getD i 0).toNat ∧ (s.getD i 0).toNat ≤ 57 := by simp only [Int.toNat_natCast] at g28 g33; omega
          refine reg [(1, { res := .int .i64 (10 * m : Nat) }), (5, { res := .int .u8 ((s.getD i 0).toNat - 48 : Nat) }), (6, { res := .int .i64 ((s.getD i 0).toNat - 48 : Nat) }), (7, { res := .int .i64 (10 * m + ((s.getD i 0).toNat - 48) : Nat) })] [2, 3] rfl (by have h7 := hi.lt7 hk (by omega); (try simp only [Int.toNat_natCast]); and_intros <;> first | exact ⟨⟩ | omega | (refine congrArg (AV.int _) ?_; first | omega | (rw [u8_id (by omega) (by omega)]; omega) | (rw [i64_id (by omega) (by omega)]; done) | (rw [i64_id (by omega) (by omega)]; omega))) ?_
          refine inBlock (reg [] [] rfl (by decide) ?_)
          exact ih (i + 1, 10 * m + ((s.getD i 0).toNat - 48)) _ _ (by exact hi.step (by omega) (by omega) hdg) (by simp only; omega) (by exact agree_cons rfl (by rfl) (agree_cons rfl (by first | rfl | (refine congrArg (AV.int _) ?_; simp only [wrap_i64', tdivN, tmodN]; omega) | skip) (agree_cons rfl (by first | rfl | (refine congrArg (AV.int _) ?_; simp only [wrap_i64', tdivN, tmodN]; omega) | skip) (agree_cons rfl (by first | rfl | (refine congrArg (AV.int _) ?_; simp only [wrap_i64', tdivN, tmodN]; omega) | skip) (agree_cons rfl (by first | rfl | (refine congrArg (AV.int _) ?_; simp only [wrap_i64', tdivN, tmodN]; omega) | skip) (trivial)))))) (by rfl)
  · try simp only [zg] at g15
    refine exit rfl (seq (reg [] [0] rfl (by decide) ?_))
    exact retH Tryz.func113 rfl rfl (by rw [hi.done hk1 (by omega)]; rfl) (by rfl)


abbrev intEl (l : List Nat) : Nat → AV := fun i => .int .i64 (l.getD i 0 : Nat)
abbrev pEl (l : List (Nat × Nat)) : Nat → AV := fun i => .agg [.int .i64 (l.getD i (0, 0)).1, .int .i64 (l.getD i (0, 0)).2]
/-- numbers of a text, at some places -/
def allN (s : List UInt8) : List (Nat × Nat) → Option (List Nat)
  | [] => some []
  | p :: r => match getO s p.1 p.2 with
    | some x => (allN s r).map (x :: ·)
    | none => none
theorem allN_app (s : List UInt8) : ∀ l m : List (Nat × Nat), allN s (l ++ m) = (allN s l).bind fun a => (allN s m).map (a ++ ·)
  | [], m => by cases h : allN s m <;> simp [allN, h]
  | p :: l, m => by
    have ih := allN_app s l m
    rw [List.cons_append]
    conv => lhs; unfold allN
    rw [show allN s (p :: l) = match getO s p.1 p.2 with
      | some x => (allN s l).map (x :: ·)
      | none => none from rfl]
    cases getO s p.1 p.2 with
    | none => rfl
    | some x =>
      simp only []
      rw [ih]
      cases h1 : allN s l with
      | none => rfl
      | some a => cases h2 : allN s m <;> simp
theorem allN_step {s : List UInt8} {ps : List (Nat × Nat)} {i : Nat} {l : List Nat} {x : Nat} (h : allN s (ps.take i) = some l) (hi : i < ps.length) (hx : getO s (ps.getD i (0, 0)).1 (ps.getD i (0, 0)).2 = some x) : allN s (ps.take (i + 1)) = some (l ++ [x]) := by
  rw [take_snoc (0, 0) hi, allN_app, h]
  unfold allN
  rw [hx]; rfl
theorem allN_none {s : List UInt8} {ps : List (Nat × Nat)} {i : Nat} (hi : i < ps.length) (hx : getO s (ps.getD i (0, 0)).1 (ps.getD i (0, 0)).2 = none) : allN s ps = none := by
  have e : ps = ps.take (i + 1) ++ ps.drop (i + 1) := (List.take_append_drop _ _).symm
  have h1 : allN s (ps.take (i + 1)) = none := by
    rw [take_snoc (0, 0) hi, allN_app]
    have : allN s [ps.getD i (0, 0)] = none := by unfold allN; rw [hx]
    rw [this]
    cases allN s (ps.take i) <;> rfl
  rw [e, allN_app, h1]; rfl
theorem int_app {l : List Nat} {n x : Nat} {o : Bool} (hn : n = l.length) (l2 : List Nat) (h2 : l2 = l ++ [x]) : Imp (.sl 1 (n + 1) (apEl n (intEl l) (elOf false 1 [.int .i64 (x : Nat)])) o) (.sl 1 l2.length (intEl l2) o) := by
  subst hn; subst h2
  refine Imp.slEq (by simp) fun i hi => ?_
  rcases Nat.lt_or_ge i l.length with h | h
  · rw [apEl_lt h]
    simp [List.getD_eq_getElem?_getD, List.getElem?_append_left h]
  · have : i = l.length := by omega
    subst this
    rw [apEl_ge h]
    simp [elOf, List.getD_eq_getElem?_getD]

theorem all_ok2 (s : List UInt8) (ps : List (Nat × Nat)) (hs : s.length ≤ 16777216) (hp : ∀ p ∈ ps, p.1 ≤ 1000 ∧ 1 ≤ p.2 ∧ p.2 ≤ 8) (hl : ps.length ≤ 100) : FnOK Tryz.prog 75 [.str s, .sl 2 ps.length (pEl ps) false] [] (.tup [.sl 1 ((allN s ps).getD []).length (intEl ((allN s ps).getD [])) false, .bool (allN s ps).isSome]) [] := by
  refine FnOK.of_runs Tryz.func75 rfl (Nat.le_of_ble_eq_true rfl) ?_
  refine seq (reg [] [] rfl (by decide) ?_)
  refine seq (reg [] [] rfl (by decide) ?_)
  refine seq (seq (reg [] [0] rfl (by decide) ?_))
  refine block ?_
  -- loop 0
  refine loopF (σ := Nat × List Nat) (fun p => p.1 ≤ ps.length ∧ allN s (ps.take p.1) = some p.2 ∧ p.2.length = p.1) (fun p => [(0, .str s), (6, .sl 1 p.2.length (intEl p.2) true), (11, .sl 2 ps.length (pEl ps) false), (12, .int .i64 ps.length), (13, .int .i64 p.1)]) (fun _ => []) (fun p => ps.length - p.1) ((0, [])) (by exact ⟨Nat.zero_le _, rfl, rfl⟩) (by exact agree_cons rfl (by rfl) (agree_imp rfl (by exact Imp.slEq rfl (fun i hi => absurd hi (Nat.not_lt_zero _))) rfl rfl (agree_cons rfl (by rfl) (agree_cons rfl (by rfl) (agree_cons rfl (by rfl) (trivial)))))) (by rfl) (fun ⟨i, l⟩ hi ih => ?_)
  replace hi : i ≤ ps.length ∧ allN s (ps.take i) = some l ∧ l.length = i := hi; have hil := hi.1; have hll := hi.2.2; dsimp only
  refine seq (reg [] [] rfl (by decide) ?_)
  refine seq ?_
  refine condS rfl (fun g14 => ?_) (fun g14 => ?_)
  · try simp only [zg] at g14
    refine skip (seq (block (seq (reg [] [] rfl (by (try simp only [Int.toNat_natCast]); and_intros <;> first | exact ⟨⟩ | omega | exact zl rfl) ?_))))
    refine seq ?_
    have hpi := hp (ps.getD i (0, 0)) (by rw [List.getD_eq_getElem?_getD, List.getElem?_eq_getElem (show i < ps.length by omega)]; exact List.getElem_mem _)
    refine reg [(5, { res := .tup [.int .i64 ((getO s (ps.getD i (0, 0)).1 (ps.getD i (0, 0)).2).getD 0 : Nat), .bool (getO s (ps.getD i (0, 0)).1 (ps.getD i (0, 0)).2).isSome] })] [0] rfl (by and_intros <;> first | exact get_ok s _ _ hs hpi.1 hpi.2.1 hpi.2.2 | decide) ?_
    refine seq (seq (reg [] [0] rfl (by decide) ?_))
    refine condS rfl (fun g27 => ?_) (fun g27 => ?_)
    · try simp only [zg] at g27
      refine seq (reg [] [] rfl (by decide) ?_)
      refine drop 0 (Nat.zero_le _) rfl ?_
      exact frame [(4, .sl 1 0 (intEl []) true), (5, .bool false)] (by exact agree_imp rfl (by exact Imp.slEq rfl (fun i hi => absurd hi (Nat.not_lt_zero _))) rfl rfl (agree_cons rfl (by rfl) trivial)) (retH Tryz.func75 rfl rfl (by rw [allN_none (i := i) (by omega) (Option.isNone_iff_eq_none.1 (Option.isSome_eq_false_iff.1 g27))]; rfl) (by rfl))
    · try simp only [zg] at g27
      refine skip ?_
      obtain ⟨x, hx⟩ := Option.isSome_iff_exists.1 g27
      refine reg [] [1] rfl (by and_intros <;> first | exact ⟨⟩ | omega) ?_
      refine inBlock (reg [] [] rfl (by decide) ?_)
      refine drop 0 (Nat.le_of_ble_eq_true rfl) rfl ?_
      exact ih (i + 1, l ++ [x]) _ _ (by exact ⟨by omega, allN_step hi.2.1 (by omega) hx, by simp [hi.2.2]⟩) (by simp only; omega) (by exact agree_cons rfl (by rfl) (agree_imp rfl (by rw [hx]; exact int_app rfl _ rfl) rfl rfl (agree_cons rfl (by first | rfl | (refine congrArg (AV.int _) ?_; simp only [wrap_i64', tdivN, tmodN]; omega) | skip) (agree_cons rfl (by first | rfl | (refine congrArg (AV.int _) ?_; simp only [wrap_i64', tdivN, tmodN]; omega) | skip) (agree_cons rfl (by first | rfl | (refine congrArg (AV.int _) ?_; simp only [wrap_i64', tdivN, tmodN]; omega) | skip) (trivial)))))) (by rfl)
  · try simp only [zg] at g14
    refine exit rfl (seq (reg [] [0] rfl (by decide) ?_))
    exact retH Tryz.func75 rfl rfl (by have := hi.2.1; rw [List.take_of_length_le (by omega)] at this; rw [this]; rfl) (by rfl)

end Go.Proofs.YtnohmijdpmelpaaGreat
set_option maxRecDepth 100000
set_option linter.unusedVariables false
set_option linter.unusedSimpArgs false
namespace Go.Proofs.YtnohmijdpmelpaaGreat
open Go Go.Am Go.Am.Runs

def okD (y m d h mi s : Nat) : Prop := (1970 ≤ y ∧ y ≤ 9999) ∧ (1 ≤ m ∧ m ≤ 12) ∧ (1 ≤ d ∧ d ≤ sizeN y m) ∧ h ≤ 23 ∧ mi ≤ 59 ∧ s ≤ 59
instance (y m d h mi s : Nat) : Decidable (okD y m d h mi s) := by unfold okD; exact inferInstance
/-- the day's number -/
def dayN (y m d : Nat) : Nat := (befN y).toNat + monN y m + (d - 1)
def secN (y m d h mi s : Nat) : Nat := ((dayN y m d * 24 + h) * 60 + mi) * 60 + s
def ofO (y m d h mi s : Nat) : Option Nat := if okD y m d h mi s then some (secN y m d h mi s) else none
theorem ofO_none {y m d h mi s : Nat} (hn : ¬ okD y m d h mi s) : ofO y m d h mi s = none := if_neg hn
theorem ofO_some {y m d h mi s : Nat} (hn : okD y m d h mi s) : ofO y m d h mi s = some (secN y m d h mi s) := if_pos hn
theorem befN_nat {y : Nat} (h1 : 1970 ≤ y) (h2 : y ≤ 9999) : ∃ B : Nat, befN y = B ∧ B ≤ 2939000 := by
  have h := befN_mono 1970 (by omega) y h1
  rw [befN_70] at h
  obtain ⟨B, hB⟩ := Int.eq_ofNat_of_zero_le (show 0 ≤ befN y by omega)
  exact ⟨B, hB, by omega⟩
theorem monN_le (y : Nat) : ∀ k, monN y k ≤ 31 * k
  | 0 => by simp [monN]
  | 1 => by simp [monN]
  | k + 2 => by
    have ih := monN_le y (k + 1)
    have := sizeN_bd y (k + 1)
    show monN y (k + 1) + sizeN y (k + 1) ≤ _
    omega

theorem of_ok (y m d h mi s : Nat) (hb : y ≤ 100000000 ∧ m ≤ 100000000 ∧ d ≤ 100000000 ∧ h ≤ 100000000 ∧ mi ≤ 100000000 ∧ s ≤ 100000000) : FnOK Tryz.prog 76 [.int .i64 y, .int .i64 m, .int .i64 d, .int .i64 h, .int .i64 mi, .int .i64 s] [] (.tup [.int .i64 ((ofO y m d h mi s).getD 0 : Nat), .bool (ofO y m d h mi s).isSome]) [] := by
  refine FnOK.of_runs Tryz.func76 rfl (Nat.le_of_ble_eq_true rfl) ?_
  refine seq (reg [] [] rfl (by decide) ?_)
  refine seq (reg [] [] rfl (by decide) ?_)
  refine seq (seq (region (restTo 5 [(2, { res := .bool (decide ((1970 : Int) ≤ (y : Int) ∧ (y : Int) ≤ 9999)) }), (7, { res := .bool (decide ((1 : Int) ≤ (m : Int) ∧ (m : Int) ≤ 12)) }), (15, { res := .int .i64 (sizeN y m) }), (16, { res := .bool (decide ((1 : Int) ≤ (d : Int) ∧ (d : Int) ≤ (sizeN y m : Int))) }), (22, { res := .bool (decide ((0 : Int) ≤ (h : Int) ∧ (h : Int) ≤ 23)) }), (28, { res := .bool (decide ((0 : Int) ≤ (mi : Int) ∧ (mi : Int) ≤ 59)) }), (34, { res := .bool (decide ((0 : Int) ≤ (s : Int) ∧ (s : Int) ≤ 59)) })] [0, 1, 5, 6, 11, 12, 13, 14, 20, 21, 26, 27, 32, 33] rfl (by and_intros <;> first | exact ⟨⟩ | exact of1_ok _ _ _) ?_)))
  refine splitS 21 rfl (fun g21 => ?_) (fun g21 => ?_)
  · try simp only [zg] at g21
    refine rest [(2, { res := .bool (decide ((1970 : Int) ≤ (y : Int) ∧ (y : Int) ≤ 9999)) }), (7, { res := .bool (decide ((1 : Int) ≤ (m : Int) ∧ (m : Int) ≤ 12)) }), (15, { res := .int .i64 (sizeN y m) }), (16, { res := .bool (decide ((1 : Int) ≤ (d : Int) ∧ (d : Int) ≤ (sizeN y m : Int))) }), (22, { res := .bool (decide ((0 : Int) ≤ (h : Int) ∧ (h : Int) ≤ 23)) }), (28, { res := .bool (decide ((0 : Int) ≤ (mi : Int) ∧ (mi : Int) ≤ 59)) }), (34, { res := .bool (decide ((0 : Int) ≤ (s : Int) ∧ (s : Int) ≤ 59)) })] [0, 1, 5, 6, 11, 12, 13, 14, 20, 21, 26, 27, 32, 33] rfl (by and_intros <;> exact ⟨⟩) ?_
    refine condT rfl (seq (reg [] [] rfl (by decide) ?_))
    exact retH Tryz.func76 rfl rfl (by rw [ofO_none (by unfold okD; omega)]; rfl) (by rfl)
  · try simp only [zg] at g21
    refine restTo 6 [(2, { res := .bool (decide ((1970 : Int) ≤ (y : Int) ∧ (y : Int) ≤ 9999)) }), (7, { res := .bool (decide ((1 : Int) ≤ (m : Int) ∧ (m : Int) ≤ 12)) }), (15, { res := .int .i64 (sizeN y m) }), (16, { res := .bool (decide ((1 : Int) ≤ (d : Int) ∧ (d : Int) ≤ (sizeN y m : Int))) }), (22, { res := .bool (decide ((0 : Int) ≤ (h : Int) ∧ (h : Int) ≤ 23)) }), (28, { res := .bool (decide ((0 : Int) ≤ (mi : Int) ∧ (mi : Int) ≤ 59)) }), (34, { res := .bool (decide ((0 : Int) ≤ (s : Int) ∧ (s : Int) ≤ 59)) })] [0, 1, 5, 6, 11, 12, 13, 14, 20, 21, 26, 27, 32, 33] rfl (by and_intros <;> first | exact ⟨⟩ | exact of1_ok _ _ _) ?_
    refine splitS 27 rfl (fun g27 => ?_) (fun g27 => ?_)
    · try simp only [zg] at g27
      refine rest [(2, { res := .bool (decide ((1970 : Int) ≤ (y : Int) ∧ (y : Int) ≤ 9999)) }), (7, { res := .bool (decide ((1 : Int) ≤ (m : Int) ∧ (m : Int) ≤ 12)) }), (15, { res := .int .i64 (sizeN y m) }), (16, { res := .bool (decide ((1 : Int) ≤ (d : Int) ∧ (d : Int) ≤ (sizeN y m : Int))) }), (22, { res := .bool (decide ((0 : Int) ≤ (h : Int) ∧ (h : Int) ≤ 23)) }), (28, { res := .bool (decide ((0 : Int) ≤ (mi : Int) ∧ (mi : Int) ≤ 59)) }), (34, { res := .bool (decide ((0 : Int) ≤ (s : Int) ∧ (s : Int) ≤ 59)) })] [0, 1, 5, 6, 11, 12, 13, 14, 20, 21, 26, 27, 32, 33] rfl (by and_intros <;> exact ⟨⟩) ?_
      refine condT rfl (seq (reg [] [] rfl (by decide) ?_))
      exact retH Tryz.func76 rfl rfl (by rw [ofO_none (by unfold okD; omega)]; rfl) (by rfl)
    · try simp only [zg] at g27
      refine restTo 9 [(2, { res := .bool (decide ((1970 : Int) ≤ (y : Int) ∧ (y : Int) ≤ 9999)) }), (7, { res := .bool (decide ((1 : Int) ≤ (m : Int) ∧ (m : Int) ≤ 12)) }), (15, { res := .int .i64 (sizeN y m) }), (16, { res := .bool (decide ((1 : Int) ≤ (d : Int) ∧ (d : Int) ≤ (sizeN y m : Int))) }), (22, { res := .bool (decide ((0 : Int) ≤ (h : Int) ∧ (h : Int) ≤ 23)) }), (28, { res := .bool (decide ((0 : Int) ≤ (mi : Int) ∧ (mi : Int) ≤ 59)) }), (34, { res := .bool (decide ((0 : Int) ≤ (s : Int) ∧ (s : Int) ≤ 59)) })] [0, 1, 5, 6, 11, 12, 13, 14, 20, 21, 26, 27, 32, 33] rfl (by and_intros <;> first | exact ⟨⟩ | exact of1_ok _ _ _ | exact csize_ok y m (by omega) (by omega)) ?_
      refine splitS 36 rfl (fun g36 => ?_) (fun g36 => ?_)
      · try simp only [zg] at g36
        refine rest [(2, { res := .bool (decide ((1970 : Int) ≤ (y : Int) ∧ (y : Int) ≤ 9999)) }), (7, { res := .bool (decide ((1 : Int) ≤ (m : Int) ∧ (m : Int) ≤ 12)) }), (15, { res := .int .i64 (sizeN y m) }), (16, { res := .bool (decide ((1 : Int) ≤ (d : Int) ∧ (d : Int) ≤ (sizeN y m : Int))) }), (22, { res := .bool (decide ((0 : Int) ≤ (h : Int) ∧ (h : Int) ≤ 23)) }), (28, { res := .bool (decide ((0 : Int) ≤ (mi : Int) ∧ (mi : Int) ≤ 59)) }), (34, { res := .bool (decide ((0 : Int) ≤ (s : Int) ∧ (s : Int) ≤ 59)) })] [0, 1, 5, 6, 11, 12, 13, 14, 20, 21, 26, 27, 32, 33] rfl (by and_intros <;> exact ⟨⟩) ?_
        refine condT rfl (seq (reg [] [] rfl (by decide) ?_))
        exact retH Tryz.func76 rfl rfl (by rw [ofO_none (by unfold okD; omega)]; rfl) (by rfl)
      · try simp only [zg] at g36
        refine restTo 6 [(2, { res := .bool (decide ((1970 : Int) ≤ (y : Int) ∧ (y : Int) ≤ 9999)) }), (7, { res := .bool (decide ((1 : Int) ≤ (m : Int) ∧ (m : Int) ≤ 12)) }), (15, { res := .int .i64 (sizeN y m) }), (16, { res := .bool (decide ((1 : Int) ≤ (d : Int) ∧ (d : Int) ≤ (sizeN y m : Int))) }), (22, { res := .bool (decide ((0 : Int) ≤ (h : Int) ∧ (h : Int) ≤ 23)) }), (28, { res := .bool (decide ((0 : Int) ≤ (mi : Int) ∧ (mi : Int) ≤ 59)) }), (34, { res := .bool (decide ((0 : Int) ≤ (s : Int) ∧ (s : Int) ≤ 59)) })] [0, 1, 5, 6, 11, 12, 13, 14, 20, 21, 26, 27, 32, 33] rfl (by and_intros <;> first | exact ⟨⟩ | exact of1_ok _ _ _) ?_
        refine splitS 42 rfl (fun g42 => ?_) (fun g42 => ?_)
        · try simp only [zg] at g42
          refine rest [(2, { res := .bool (decide ((1970 : Int) ≤ (y : Int) ∧ (y : Int) ≤ 9999)) }), (7, { res := .bool (decide ((1 : Int) ≤ (m : Int) ∧ (m : Int) ≤ 12)) }), (15, { res := .int .i64 (sizeN y m) }), (16, { res := .bool (decide ((1 : Int) ≤ (d : Int) ∧ (d : Int) ≤ (sizeN y m : Int))) }), (22, { res := .bool (decide ((0 : Int) ≤ (h : Int) ∧ (h : Int) ≤ 23)) }), (28, { res := .bool (decide ((0 : Int) ≤ (mi : Int) ∧ (mi : Int) ≤ 59)) }), (34, { res := .bool (decide ((0 : Int) ≤ (s : Int) ∧ (s : Int) ≤ 59)) })] [0, 1, 5, 6, 11, 12, 13, 14, 20, 21, 26, 27, 32, 33] rfl (by and_intros <;> exact ⟨⟩) ?_
          refine condT rfl (seq (reg [] [] rfl (by decide) ?_))
          exact retH Tryz.func76 rfl rfl (by rw [ofO_none (by unfold okD; omega)]; rfl) (by rfl)
        · try simp only [zg] at g42
          refine restTo 6 [(2, { res := .bool (decide ((1970 : Int) ≤ (y : Int) ∧ (y : Int) ≤ 9999)) }), (7, { res := .bool (decide ((1 : Int) ≤ (m : Int) ∧ (m : Int) ≤ 12)) }), (15, { res := .int .i64 (sizeN y m) }), (16, { res := .bool (decide ((1 : Int) ≤ (d : Int) ∧ (d : Int) ≤ (sizeN y m : Int))) }), (22, { res := .bool (decide ((0 : Int) ≤ (h : Int) ∧ (h : Int) ≤ 23)) }), (28, { res := .bool (decide ((0 : Int) ≤ (mi : Int) ∧ (mi : Int) ≤ 59)) }), (34, { res := .bool (decide ((0 : Int) ≤ (s : Int) ∧ (s : Int) ≤ 59)) })] [0, 1, 5, 6, 11, 12, 13, 14, 20, 21, 26, 27, 32, 33] rfl (by and_intros <;> first | exact ⟨⟩ | exact of1_ok _ _ _) ?_
          refine splitS 48 rfl (fun g48 => ?_) (fun g48 => ?_)
          · try simp only [zg] at g48
            refine rest [(2, { res := .bool (decide ((1970 : Int) ≤ (y : Int) ∧ (y : Int) ≤ 9999)) }), (7, { res := .bool (decide ((1 : Int) ≤ (m : Int) ∧ (m : Int) ≤ 12)) }), (15, { res := .int .i64 (sizeN y m) }), (16, { res := .bool (decide ((1 : Int) ≤ (d : Int) ∧ (d : Int) ≤ (sizeN y m : Int))) }), (22, { res := .bool (decide ((0 : Int) ≤ (h : Int) ∧ (h : Int) ≤ 23)) }), (28, { res := .bool (decide ((0 : Int) ≤ (mi : Int) ∧ (mi : Int) ≤ 59)) }), (34, { res := .bool (decide ((0 : Int) ≤ (s : Int) ∧ (s : Int) ≤ 59)) })] [0, 1, 5, 6, 11, 12, 13, 14, 20, 21, 26, 27, 32, 33] rfl (by and_intros <;> exact ⟨⟩) ?_
            refine condT rfl (seq (reg [] [] rfl (by decide) ?_))
            exact retH Tryz.func76 rfl rfl (by rw [ofO_none (by unfold okD; omega)]; rfl) (by rfl)
          · try simp only [zg] at g48
            refine rest [(2, { res := .bool (decide ((1970 : Int) ≤ (y : Int) ∧ (y : Int) ≤ 9999)) }), (7, { res := .bool (decide ((1 : Int) ≤ (m : Int) ∧ (m : Int) ≤ 12)) }), (15, { res := .int .i64 (sizeN y m) }), (16, { res := .bool (decide ((1 : Int) ≤ (d : Int) ∧ (d : Int) ≤ (sizeN y m : Int))) }), (22, { res := .bool (decide ((0 : Int) ≤ (h : Int) ∧ (h : Int) ≤ 23)) }), (28, { res := .bool (decide ((0 : Int) ≤ (mi : Int) ∧ (mi : Int) ≤ 59)) }), (34, { res := .bool (decide ((0 : Int) ≤ (s : Int) ∧ (s : Int) ≤ 59)) })] [0, 1, 5, 6, 11, 12, 13, 14, 20, 21, 26, 27, 32, 33] rfl (by and_intros <;> first | exact ⟨⟩ | exact of1_ok _ _ _) ?_
            refine condS rfl (fun g53 => ?_) (fun g53 => ?_)
            · try simp only [zg] at g53
              refine seq (reg [] [] rfl (by decide) ?_)
              exact retH Tryz.func76 rfl rfl (by rw [ofO_none (by unfold okD; omega)]; rfl) (by rfl)
            · try simp only [zg] at g53
              refine skip (seq ?_)
              have hok : okD y m d h mi s := by unfold okD; omega
              have sb := sizeN_bd y m
              obtain ⟨B, hB, hB2⟩ := befN_nat (y := y) (by omega) (by omega)
              refine reg [(1, { res := .int .i64 (befN y) }), (3, { res := .int .i64 (B + d : Nat) }), (4, { res := .int .i64 (B + (d - 1) : Nat) })] [0, 2] rfl (by and_intros <;> first | exact ⟨⟩ | exact before_ok y (by omega) (by omega) | (refine congrArg (AV.int _) ?_; (try rw [hB]); rw [i64_id (by omega) (by omega)]; omega)) ?_
              refine seq (seq (reg [] [] rfl (by decide) ?_))
              refine block ?_
              -- loop 0
              refine loopF (σ := Nat) (fun k => 1 ≤ k ∧ k ≤ m) (fun k => [(0, .int .i64 y), (1, .int .i64 m), (3, .int .i64 h), (4, .int .i64 mi), (5, .int .i64 s), (15, .int .i64 (B + (d - 1) + monN y k : Nat)), (16, .int .i64 k)]) (fun _ => []) (fun k => m - k) (1) (by exact ⟨by omega, by omega⟩) (by exact zag rfl) (by rfl) (fun k hk ih => ?_)
              replace hk : 1 ≤ k ∧ k ≤ m := hk
              refine seq (seq (reg [] [0, 1] rfl (by decide) ?_))
              refine condS rfl (fun g61 => ?_) (fun g61 => ?_)
              · try simp only [zg] at g61
                refine skip (seq (block ?_))
                refine reg [(3, { res := .int .i64 (sizeN y k) }), (4, { res := .int .i64 (B + (d - 1) + monN y (k + 1) : Nat) })] [1, 2] rfl (by have ms := monN_step y (m := k) (by omega); have sk := sizeN_bd y k; have ml := monN_le y k; and_intros <;> first | exact ⟨⟩ | exact csize_ok y k (by omega) (by omega) | (refine congrArg (AV.int _) ?_; (try simp only [tdivN, tmodN]); (rw [i64_id (by omega) (by omega)]); omega)) ?_
                refine inBlock ?_
                refine reg [(1, { res := .int .i64 (k + 1 : Nat) })] [] rfl (by and_intros <;> first | exact ⟨⟩ | (refine congrArg (AV.int _) ?_; (try simp only [tdivN, tmodN]); (rw [i64_id (by omega) (by omega)]); omega)) ?_
                exact ih (k + 1) _ _ (by exact ⟨by omega, by omega⟩) (by omega) (by exact zag rfl) (by rfl)
              · try simp only [zg] at g61
                refine exit rfl (seq ?_)
                have hkm : m = k := by omega
                subst hkm
                have ml := monN_le y m
                obtain ⟨D, hD⟩ : ∃ D, D = B + (d - 1) + monN y m := ⟨_, rfl⟩
                rw [← hD]
                have hDd : dayN y m d = D := by unfold dayN; rw [hB, hD, Int.toNat_natCast]; omega
                refine reg [(1, { res := .int .i64 (D * 24 : Nat) }), (3, { res := .int .i64 (D * 24 + h : Nat) }), (4, { res := .int .i64 ((D * 24 + h) * 60 : Nat) }), (6, { res := .int .i64 ((D * 24 + h) * 60 + mi : Nat) }), (7, { res := .int .i64 (((D * 24 + h) * 60 + mi) * 60 : Nat) }), (9, { res := .int .i64 (((D * 24 + h) * 60 + mi) * 60 + s : Nat) })] [0, 2, 5, 8] rfl (by and_intros <;> first | exact ⟨⟩ | (refine congrArg (AV.int _) ?_; (try simp only [tdivN, tmodN]); (rw [i64_id (by omega) (by omega)]); omega)) ?_
                exact retH Tryz.func76 rfl rfl (by rw [ofO_some hok]; unfold secN; rw [hDd]; rfl) (by rfl)

end Go.Proofs.YtnohmijdpmelpaaGreat
