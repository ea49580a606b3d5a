/- The document's look at the signed names. -/
import Derived.Test.YtnohmijdpmelpaaGreatRcl
set_option maxRecDepth 100000
set_option linter.unusedVariables false
set_option linter.unusedSimpArgs false
namespace Go.Proofs.YtnohmijdpmelpaaGreat
open Go Go.Am Go.Am.Runs

/-- a signed name is as it must be: above the one ahead of it, and there -/
def okN (hd : List Hd) (ns : List (List UInt8)) (i : Nat) : Prop := (0 < i → ltL (ns.getD (i - 1) []) (ns.getD i []) = true) ∧ allL hd (ns.getD i []) ≠ []
def amzH (hd : List Hd) (ns : List (List UInt8)) (k : Nat) : Prop := begL (hd.getD k ([], [])).1 amzN = true → (hd.getD k ([], [])).1 ∈ ns
def SgnP (hd : List Hd) (ns : List (List UInt8)) : Prop := (∀ i, i < ns.length → okN hd ns i) ∧ (∀ k, k < hd.length → amzH hd ns k) ∧ hostN ∈ ns
instance (hd : List Hd) (ns : List (List UInt8)) (i : Nat) : Decidable (okN hd ns i) := by unfold okN; exact inferInstance
instance (hd : List Hd) (ns : List (List UInt8)) (i : Nat) : Decidable (amzH hd ns i) := by unfold amzH; exact inferInstance
instance (hd : List Hd) (ns : List (List UInt8)) : Decidable (SgnP hd ns) := by unfold SgnP; exact inferInstance
def sgnB (hd : List Hd) (ns : List (List UInt8)) : Bool := decide (SgnP hd ns)
theorem sgn_no {hd : List Hd} {ns : List (List UInt8)} {i : Nat} (hi : i < ns.length) (h : ¬ okN hd ns i) : sgnB hd ns = false := decide_eq_false fun k => h (k.1 i hi)
theorem sgn_amz {hd : List Hd} {ns : List (List UInt8)} {k : Nat} (hk : k < hd.length) (h : ¬ amzH hd ns k) : sgnB hd ns = false := decide_eq_false fun j => h (j.2.1 k hk)
theorem sgn_end {hd : List Hd} {ns : List (List UInt8)} (h1 : ∀ i, i < ns.length → okN hd ns i) (h2 : ∀ k, k < hd.length → amzH hd ns k) : sgnB hd ns = decide (hostN ∈ ns) := by
  unfold sgnB SgnP
  by_cases h : hostN ∈ ns
  · rw [decide_eq_true h]; exact decide_eq_true ⟨h1, h2, h⟩
  · rw [decide_eq_false h]; exact decide_eq_false fun k => h k.2.2
theorem mem_t {ns : List (List UInt8)} {x : List UInt8} {i : Nat} (hi : i < ns.length) (h : x ∈ ns.take i) : true = decide (x ∈ ns.take (i + 1)) := by
  rw [take_snoc [] hi]; exact (decide_eq_true (List.mem_append_left _ h)).symm
theorem mem_f {ns : List (List UInt8)} {x : List UInt8} {i : Nat} (hi : i < ns.length) (h : ¬ x ∈ ns.take i) : (ns.getD i [] == x) = decide (x ∈ ns.take (i + 1)) := by
  rw [take_snoc [] hi, Bool.eq_iff_iff, beq_iff_eq, decide_eq_true_eq, List.mem_append, List.mem_singleton]
  exact ⟨fun e => .inr e.symm, fun e => (e.resolve_left h).symm⟩
theorem lt_le (a b : List UInt8) : (Op.bytesLess b a || b == a) = !ltL a b := by
  unfold ltL
  cases h : Op.bytesLess a b with
  | true =>
    have h1 : Op.bytesLess b a = false := by
      cases h2 : Op.bytesLess b a with
      | false => rfl
      | true => have := ltL_tr (a := a) (b := b) (c := a) h h2; rw [ltL_irr] at this; cases this
    have h3 : (b == a) = false := by
      rw [beq_eq_false_iff_ne]; intro e; rw [e] at h; have := ltL_irr a; unfold ltL at this; rw [this] at h; cases h
    rw [h1, h3]; rfl
  | false =>
    cases h2 : Op.bytesLess b a with
    | true => rfl
    | false => have := ltL_tot (a := a) (b := b) h h2; subst this; simp
inductive StN (ns : List (List UInt8)) (i : Nat) : Prop
  | A (h : i = 0)
  | B (h : 0 < i) (h2 : ltL (ns.getD (i - 1) []) (ns.getD i []) = false)
  | C (h : 0 < i) (h2 : ltL (ns.getD (i - 1) []) (ns.getD i []) = true)
theorem StN.all (ns : List (List UInt8)) (i : Nat) : StN ns i := by
  by_cases h : i = 0
  · exact .A h
  · cases e : ltL (ns.getD (i - 1) []) (ns.getD i []) with
    | false => exact .B (by omega) e
    | true => exact .C (by omega) e

set_option maxHeartbeats 1000000 in
theorem rsigned_ok (hd : List Hd) (ns : List (List UInt8)) (hl : hd.length ≤ 16777216) (hv : ∀ p : Hd, p ∈ hd ∨ p = ([], []) → p.1.length ≤ 16777216) (hn : ns.length ≤ 16777216) : FnOK Tryz.prog 48 [.sl 2 hd.length (hdEl hd) false, .sl 1 ns.length (strEl ns) false] [] (.bool (sgnB hd ns)) [] := by
  refine FnOK.of_runs Tryz.func48 rfl (Nat.le_of_ble_eq_true rfl) ?_
  refine seq (reg [] [] rfl (by decide) ?_)
  refine seq (reg [] [] rfl (by decide) ?_)
  refine seq (seq (reg [] [] rfl (by decide) ?_))
  refine block ?_
  -- loop 0
  refine loopF (σ := Nat) (fun i => i ≤ ns.length ∧ ∀ j, j < i → okN hd ns j) (fun i => [(0, .sl 2 hd.length (hdEl hd) false), (1, .sl 1 ns.length (strEl ns) false), (5, .bool (decide (hostN ∈ ns.take i))), (6, .int .i64 i)]) (fun _ => []) (fun i => ns.length - i) (0) (by exact ⟨Nat.zero_le _, fun j h => absurd h (Nat.not_lt_zero _)⟩) (by exact zag rfl) (by rfl) (fun i hi ih => ?_)
  replace hi : i ≤ ns.length ∧ ∀ j, j < i → okN hd ns j := hi; have hi1 := hi.1
  refine seq (seq (reg [] [0, 1] rfl (by decide) ?_))
  refine condS rfl (fun g13 => ?_) (fun g13 => ?_)
  · try simp only [zg] at g13
    refine skip (seq (block (seq (seq ?_))))
    rcases StN.all ns i with ⟨h⟩ | ⟨h, h2⟩ | ⟨h, h2⟩
    · skip
      refine regD [(1, { res := .bool false }), (19, { res := .str (ns.getD i []) }), (20, { res := .sl 1 (allL hd (ns.getD i [])).length (strEl (allL hd (ns.getD i []))) false })] [0, 3, 4, 7, 8, 15, 16, 17] rfl rfl rfl (by and_intros <;> first | exact ⟨⟩ | rfl | omega | exact rall_ok hd (ns.getD i []) (by omega) | (refine congrArg AV.bool ?_; exact decide_eq_false (by omega))) ?_
      refine condS rfl (fun g39 => ?_) (fun g39 => ?_)
      · try simp only [zg] at g39
        refine seq (reg [] [] rfl (by decide) ?_)
        exact retH Tryz.func48 rfl rfl (by rw [sgn_no (i := i) (by omega) (fun k => k.2 (List.eq_nil_of_length_eq_zero (by omega)))]) (by rfl)
      · try simp only [zg] at g39
        refine skip ?_
        have hok : okN hd ns i := ⟨fun h0 => by omega, fun e => by rw [e] at g39; simp at g39⟩
        refine region (restTo 2 [(5, { res := .str (ns.getD i []) })] [2, 3] rfl (by and_intros <;> decide) ?_)
        refine splitS 41 rfl (fun g41 => ?_) (fun g41 => ?_)
        · try simp only [zg] at g41
          refine rest [(5, { res := .str (ns.getD i []) })] [2, 3] rfl (by and_intros <;> decide) ?_
          refine inBlock (reg [] [] rfl (by decide) ?_)
          exact ih (i + 1) _ _ (by exact ⟨by omega, fun j hj => by rcases Nat.lt_or_ge j i with h3 | h3; exact hi.2 j h3; (rw [show j = i by omega]; exact hok)⟩) (by omega) (by exact agree_cons rfl (by rfl) (agree_cons rfl (by first | rfl | (refine congrArg (AV.int _) ?_; simp only [wrap_i64', tdivN, tmodN]; omega) | skip) (agree_cons rfl (by refine congrArg AV.bool ?_; exact mem_t (by omega) g41) (agree_cons rfl (by first | rfl | (refine congrArg (AV.int _) ?_; simp only [wrap_i64', tdivN, tmodN]; omega) | skip) (trivial))))) (by rfl)
        · try simp only [zg] at g41
          refine rest [(5, { res := .str (ns.getD i []) })] [2, 3] rfl (by and_intros <;> first | decide | rfl | omega) ?_
          refine inBlock (reg [] [] rfl (by decide) ?_)
          exact ih (i + 1) _ _ (by exact ⟨by omega, fun j hj => by rcases Nat.lt_or_ge j i with h3 | h3; exact hi.2 j h3; (rw [show j = i by omega]; exact hok)⟩) (by omega) (by exact agree_cons rfl (by rfl) (agree_cons rfl (by first | rfl | (refine congrArg (AV.int _) ?_; simp only [wrap_i64', tdivN, tmodN]; omega) | skip) (agree_cons rfl (by refine congrArg AV.bool ?_; exact mem_f (by omega) g41) (agree_cons rfl (by first | rfl | (refine congrArg (AV.int _) ?_; simp only [wrap_i64', tdivN, tmodN]; omega) | skip) (trivial))))) (by rfl)
    · skip
      refine regD [(1, { res := .bool true }), (6, { res := .str (ns.getD i []) }), (9, { res := .int .i64 (i - 1 : Nat) }), (11, { res := .str (ns.getD (i - 1) []) }), (12, { res := .bool true })] [0, 3, 4, 7, 8, 15, 16, 17] rfl rfl rfl (by and_intros <;> first | exact ⟨⟩ | rfl | omega | (refine congrArg (AV.int _) ?_; rw [i64_id (by omega) (by omega)]; omega) | (refine congrArg AV.bool ?_; first | exact decide_eq_true (by omega) | (rw [lt_le, h2]; rfl))) ?_
      refine condT rfl (seq (reg [] [] rfl (by decide) ?_))
      exact retH Tryz.func48 rfl rfl (by rw [sgn_no (i := i) (by omega) (fun k => by have := k.1 h; rw [h2] at this; cases this)]) (by rfl)
    · skip
      refine regD [(1, { res := .bool true }), (6, { res := .str (ns.getD i []) }), (9, { res := .int .i64 (i - 1 : Nat) }), (11, { res := .str (ns.getD (i - 1) []) }), (12, { res := .bool false }), (19, { res := .str (ns.getD i []) }), (20, { res := .sl 1 (allL hd (ns.getD i [])).length (strEl (allL hd (ns.getD i []))) false })] [0, 3, 4, 7, 8, 15, 16, 17] rfl rfl rfl (by and_intros <;> first | exact ⟨⟩ | rfl | omega | (refine congrArg (AV.int _) ?_; rw [i64_id (by omega) (by omega)]; omega) | exact rall_ok hd (ns.getD i []) (by omega) | (refine congrArg AV.bool ?_; first | exact decide_eq_true (by omega) | (rw [lt_le, h2]; rfl))) ?_
      refine condS rfl (fun g39 => ?_) (fun g39 => ?_)
      · try simp only [zg] at g39
        refine seq (reg [] [] rfl (by decide) ?_)
        exact retH Tryz.func48 rfl rfl (by rw [sgn_no (i := i) (by omega) (fun k => k.2 (List.eq_nil_of_length_eq_zero (by omega)))]) (by rfl)
      · try simp only [zg] at g39
        refine skip ?_
        have hok : okN hd ns i := ⟨fun h0 => by omega, fun e => by rw [e] at g39; simp at g39⟩
        refine region (restTo 2 [(5, { res := .str (ns.getD i []) })] [2, 3] rfl (by and_intros <;> decide) ?_)
        refine splitS 41 rfl (fun g41 => ?_) (fun g41 => ?_)
        · try simp only [zg] at g41
          refine rest [(5, { res := .str (ns.getD i []) })] [2, 3] rfl (by and_intros <;> decide) ?_
          refine inBlock (reg [] [] rfl (by decide) ?_)
          exact ih (i + 1) _ _ (by exact ⟨by omega, fun j hj => by rcases Nat.lt_or_ge j i with h3 | h3; exact hi.2 j h3; (rw [show j = i by omega]; exact hok)⟩) (by omega) (by exact agree_cons rfl (by rfl) (agree_cons rfl (by first | rfl | (refine congrArg (AV.int _) ?_; simp only [wrap_i64', tdivN, tmodN]; omega) | skip) (agree_cons rfl (by refine congrArg AV.bool ?_; exact mem_t (by omega) g41) (agree_cons rfl (by first | rfl | (refine congrArg (AV.int _) ?_; simp only [wrap_i64', tdivN, tmodN]; omega) | skip) (trivial))))) (by rfl)
        · try simp only [zg] at g41
          refine rest [(5, { res := .str (ns.getD i []) })] [2, 3] rfl (by and_intros <;> first | decide | rfl | omega) ?_
          refine inBlock (reg [] [] rfl (by decide) ?_)
          exact ih (i + 1) _ _ (by exact ⟨by omega, fun j hj => by rcases Nat.lt_or_ge j i with h3 | h3; exact hi.2 j h3; (rw [show j = i by omega]; exact hok)⟩) (by omega) (by exact agree_cons rfl (by rfl) (agree_cons rfl (by first | rfl | (refine congrArg (AV.int _) ?_; simp only [wrap_i64', tdivN, tmodN]; omega) | skip) (agree_cons rfl (by refine congrArg AV.bool ?_; exact mem_f (by omega) g41) (agree_cons rfl (by first | rfl | (refine congrArg (AV.int _) ?_; simp only [wrap_i64', tdivN, tmodN]; omega) | skip) (trivial))))) (by rfl)
  · try simp only [zg] at g13
    refine exit rfl (seq (seq (reg [] [] rfl (by decide) ?_)))
    refine block ?_
    -- loop 1
    refine loopF (σ := Nat) (fun k => k ≤ hd.length ∧ ∀ j, j < k → amzH hd ns j) (fun k => [(0, .sl 2 hd.length (hdEl hd) false), (1, .sl 1 ns.length (strEl ns) false), (5, .bool (decide (hostN ∈ ns))), (7, .int .i64 k)]) (fun _ => []) (fun k => hd.length - k) (0) (by exact ⟨Nat.zero_le _, fun j h => absurd h (Nat.not_lt_zero _)⟩) (by exact agree_cons rfl (by rfl) (agree_cons rfl (by rfl) (agree_cons rfl (by refine congrArg AV.bool ?_; rw [List.take_of_length_le (by omega)]) (agree_cons rfl (by rfl) (trivial))))) (by rfl) (fun k hk kh => ?_)
    replace hk : k ≤ hd.length ∧ ∀ j, j < k → amzH hd ns j := hk; have hk1 := hk.1; have hnm := hv (hd.getD k ([], [])) (by rw [List.getD_eq_getElem?_getD]; cases e : hd[k]? with | none => exact .inr rfl | some x => exact .inl (List.mem_of_getElem? e))
    refine seq (seq (reg [] [0, 1] rfl (by decide) ?_))
    refine condS rfl (fun g51 => ?_) (fun g51 => ?_)
    · try simp only [zg] at g51
      refine skip (seq (block (seq (seq (reg [(4, { res := .str (hd.getD k ([], [])).1 }), (5, { res := .bool (begL (hd.getD k ([], [])).1 amzN) })] [0, 1] rfl (by and_intros <;> first | decide | rfl | omega | exact rbegins_ok (hd.getD k ([], [])).1 amzN (by omega) (by decide)) ?_)))))
      refine condS rfl (fun g60 => ?_) (fun g60 => ?_)
      · try simp only [zg] at g60
        refine exit rfl (reg [] [] rfl (by decide) ?_)
        exact kh (k + 1) _ _ (by exact ⟨by omega, fun j hj => by rcases Nat.lt_or_ge j k with h3 | h3; exact hk.2 j h3; (rw [show j = k by omega]; intro hbg; (exfalso; rw [hbg] at g60; cases g60; done))⟩) (by omega) (by exact agree_cons rfl (by rfl) (agree_cons rfl (by first | rfl | (refine congrArg (AV.int _) ?_; simp only [wrap_i64', tdivN, tmodN]; omega) | skip) (agree_cons rfl (by first | rfl | (refine congrArg (AV.int _) ?_; simp only [wrap_i64', tdivN, tmodN]; omega) | skip) (agree_cons rfl (by first | rfl | (refine congrArg (AV.int _) ?_; simp only [wrap_i64', tdivN, tmodN]; omega) | skip) (trivial))))) (by rfl)
      · try simp only [zg] at g60
        refine skip (seq (reg [] [] rfl (by decide) ?_))
        refine seq (seq (reg [] [] rfl (by decide) ?_))
        refine block ?_
        -- loop 2
        refine loopF (σ := Nat) (fun m => m ≤ ns.length) (fun m => [(0, .sl 2 hd.length (hdEl hd) false), (1, .sl 1 ns.length (strEl ns) false), (5, .bool (decide (hostN ∈ ns))), (7, .int .i64 k), (8, .bool (decide ((hd.getD k ([], [])).1 ∈ ns.take m))), (9, .int .i64 m)]) (fun _ => []) (fun m => ns.length - m) (0) (by exact Nat.zero_le _) (by exact zag rfl) (by rfl) (fun m hm mh => ?_)
        replace hm : m ≤ ns.length := hm
        refine seq (seq (reg [] [0, 1] rfl (by decide) ?_))
        refine condS rfl (fun g64 => ?_) (fun g64 => ?_)
        · try simp only [zg] at g64
          refine skip (seq (block ?_))
          refine splitS 8 rfl (fun g8 => ?_) (fun g8 => ?_) <;> simp only [decide_eq_true_eq, decide_eq_false_iff_not] at g8
          · skip
            refine regD [(5, { res := .str (ns.getD m []) }), (10, { res := .str (hd.getD k ([], [])).1 })] [2, 3, 6, 7] rfl rfl rfl (by and_intros <;> exact ⟨⟩) ?_
            refine inBlock (reg [] [] rfl (by decide) ?_)
            exact mh (m + 1) _ _ (by omega) (by omega) (by exact agree_cons rfl (by rfl) (agree_cons rfl (by first | rfl | (refine congrArg (AV.int _) ?_; simp only [wrap_i64', tdivN, tmodN]; omega) | skip) (agree_cons rfl (by first | rfl | (refine congrArg (AV.int _) ?_; simp only [wrap_i64', tdivN, tmodN]; omega) | skip) (agree_cons rfl (by first | rfl | (refine congrArg (AV.int _) ?_; simp only [wrap_i64', tdivN, tmodN]; omega) | skip) (agree_cons rfl (by refine congrArg AV.bool ?_; exact mem_t (by omega) g8) (agree_cons rfl (by first | rfl | (refine congrArg (AV.int _) ?_; simp only [wrap_i64', tdivN, tmodN]; omega) | skip) (trivial))))))) (by rfl)
          · skip
            refine regD [(5, { res := .str (ns.getD m []) }), (10, { res := .str (hd.getD k ([], [])).1 })] [2, 3, 6, 7] rfl rfl rfl (by and_intros <;> first | exact ⟨⟩ | rfl | omega) ?_
            refine inBlock (reg [] [] rfl (by decide) ?_)
            exact mh (m + 1) _ _ (by omega) (by omega) (by exact agree_cons rfl (by rfl) (agree_cons rfl (by first | rfl | (refine congrArg (AV.int _) ?_; simp only [wrap_i64', tdivN, tmodN]; omega) | skip) (agree_cons rfl (by first | rfl | (refine congrArg (AV.int _) ?_; simp only [wrap_i64', tdivN, tmodN]; omega) | skip) (agree_cons rfl (by first | rfl | (refine congrArg (AV.int _) ?_; simp only [wrap_i64', tdivN, tmodN]; omega) | skip) (agree_cons rfl (by refine congrArg AV.bool ?_; exact mem_f (by omega) g8) (agree_cons rfl (by first | rfl | (refine congrArg (AV.int _) ?_; simp only [wrap_i64', tdivN, tmodN]; omega) | skip) (trivial))))))) (by rfl)
        · try simp only [zg] at g64
          refine exit rfl (seq (reg [] [0] rfl (by decide) ?_))
          refine condS rfl (fun g81 => ?_) (fun g81 => ?_)
          · try simp only [zg] at g81
            refine seq (reg [] [] rfl (by decide) ?_)
            exact retH Tryz.func48 rfl rfl (by rw [sgn_amz (k := k) (by omega) (fun j => g81 (by have := j (by simpa using g60); rwa [List.take_of_length_le (by omega)]))]) (by rfl)
          · try simp only [zg] at g81
            refine skip (inBlock (reg [] [] rfl (by decide) ?_))
            exact kh (k + 1) _ _ (by exact ⟨by omega, fun j hj => by rcases Nat.lt_or_ge j k with h3 | h3; exact hk.2 j h3; (rw [show j = k by omega]; intro hbg; (have := g81; rwa [List.take_of_length_le (by omega)] at this))⟩) (by omega) (by exact agree_cons rfl (by rfl) (agree_cons rfl (by first | rfl | (refine congrArg (AV.int _) ?_; simp only [wrap_i64', tdivN, tmodN]; omega) | skip) (agree_cons rfl (by first | rfl | (refine congrArg (AV.int _) ?_; simp only [wrap_i64', tdivN, tmodN]; omega) | skip) (agree_cons rfl (by first | rfl | (refine congrArg (AV.int _) ?_; simp only [wrap_i64', tdivN, tmodN]; omega) | skip) (trivial))))) (by rfl)
    · try simp only [zg] at g51
      refine exit rfl (seq (reg [] [0] rfl (by decide) ?_))
      exact retH Tryz.func48 rfl rfl (by rw [sgn_end (fun j hj => hi.2 j (by omega)) (fun j hj => hk.2 j (by omega))]) (by rfl)

end Go.Proofs.YtnohmijdpmelpaaGreat
