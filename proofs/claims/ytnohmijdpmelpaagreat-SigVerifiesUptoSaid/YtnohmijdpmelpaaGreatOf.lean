/- The document's time made. -/
import Derived.Test.YtnohmijdpmelpaaGreatGet
set_option maxRecDepth 100000
set_option linter.unusedVariables false
set_option linter.unusedSimpArgs false
namespace Go.Proofs.YtnohmijdpmelpaaGreat
open Go Go.Am Go.Am.Runs

/-- what digits tell, or -1 -/
def numI (s : List UInt8) : Int := match getO s 0 s.length with | some n => (n : Int) | none => -1
theorem numI_none {s : List UInt8} (h : getO s 0 s.length = none) : numI s = -1 := by unfold numI; rw [h]
theorem numI_some {s : List UInt8} {n : Nat} (h : getO s 0 s.length = some n) : numI s = n := by unfold numI; rw [h]
theorem decF_lt : ∀ (s : List UInt8) (a n : Nat), decF s a = some n → n < (a + 1) * 10 ^ s.length
  | [], a, n, h => by simp [decF] at h; subst h; simp
  | c :: r, a, n, h => by
    unfold decF at h
    split at h
    · have ih := decF_lt r _ n h
      rw [List.length_cons, Nat.pow_succ]
      have : (10 * a + (c.toNat - 48) + 1) * 10 ^ r.length ≤ (10 * (a + 1)) * 10 ^ r.length := Nat.mul_le_mul_right _ (by omega)
      have e : (a + 1) * (10 ^ r.length * 10) = 10 * (a + 1) * 10 ^ r.length := by rw [Nat.mul_comm (10 ^ r.length) 10, ← Nat.mul_assoc, Nat.mul_comm (a + 1) 10]
      omega
    · cases h
theorem getO_lt {s : List UInt8} {f k n : Nat} (h : getO s f k = some n) : n < 10 ^ k := by
  unfold getO at h
  split at h
  · have := decF_lt _ _ _ h
    have hl : ((s.drop f).take k).length = k := by rw [List.length_take, List.length_drop]; omega
    rw [hl] at this
    omega
  · cases h
theorem numI_bd (s : List UInt8) (h : s.length ≤ 8) : -1 ≤ numI s ∧ numI s ≤ 100000000 := by
  unfold numI
  split
  · rename_i n e
    have := getO_lt e
    have : 10 ^ s.length ≤ 10 ^ 8 := Nat.pow_le_pow_right (by decide) h
    omega
  · omega
/-- a piece of a text -/
theorem numI_piece (s : List UInt8) (f k : Nat) (h : f + k ≤ s.length) : getO ((s.drop f).take k) 0 ((s.drop f).take k).length = getO s f k := by
  have hl : ((s.drop f).take k).length = k := by rw [List.length_take, List.length_drop]; omega
  unfold getO
  rw [hl, if_pos (by omega), if_pos h, List.drop_zero, List.take_take, Nat.min_self]
theorem GtI.done0 {s k i m} (h : GtI s 0 k i m) (hi : k ≤ i) (hk : k ≤ s.length) : getO s 0 k = some m := by
  have hle := h.le
  unfold getO
  rw [if_pos (by omega), h.eq, show 0 + k - i = 0 by omega]
  simp [decF]
/-- the document's Of, of any numbers -/
def okI (y m d h mi s : Int) : Prop := (1970 ≤ y ∧ y ≤ 9999) ∧ (1 ≤ m ∧ m ≤ 12) ∧ (1 ≤ d ∧ d ≤ sizeN y.toNat m.toNat) ∧ (0 ≤ h ∧ h ≤ 23) ∧ (0 ≤ mi ∧ mi ≤ 59) ∧ (0 ≤ s ∧ s ≤ 59)
instance (y m d h mi s : Int) : Decidable (okI y m d h mi s) := by unfold okI; exact inferInstance
def ofI (y m d h mi s : Int) : Option Nat := if okI y m d h mi s then some (secN y.toNat m.toNat d.toNat h.toNat mi.toNat s.toNat) else none
theorem ofI_none {y m d h mi s : Int} (hn : ¬ okI y m d h mi s) : ofI y m d h mi s = none := if_neg hn
theorem ofI_some {y m d h mi s : Int} (hn : okI y m d h mi s) : ofI y m d h mi s = some (secN y.toNat m.toNat d.toNat h.toNat mi.toNat s.toNat) := if_pos hn
theorem okI_cast (y m d h mi s : Nat) : okI y m d h mi s ↔ okD y m d h mi s := by
  unfold okI okD
  simp only [Int.toNat_natCast]
  omega
theorem ofI_cast (y m d h mi s : Nat) : ofI y m d h mi s = ofO y m d h mi s := by
  unfold ofI ofO
  simp only [okI_cast, Int.toNat_natCast]
theorem of13 {p1 p2 p3 p4 p5 p6 p7 p8 p9 p10 p11 p12 : Prop} [Decidable p1] [Decidable p2] [Decidable p3] [Decidable p4] [Decidable p5] [Decidable p6] [Decidable p7] [Decidable p8] [Decidable p9] [Decidable p10] [Decidable p11] [Decidable p12] {Q : Prop}
    (h1 : p1 → Q) (h2 : ¬ p1 → p2 → Q) (h3 : ¬ p1 → ¬ p2 → p3 → Q) (h4 : ¬ p1 → ¬ p2 → ¬ p3 → p4 → Q) (h5 : ¬ p1 → ¬ p2 → ¬ p3 → ¬ p4 → p5 → Q) (h6 : ¬ p1 → ¬ p2 → ¬ p3 → ¬ p4 → ¬ p5 → p6 → Q)
    (h7 : ¬ p1 → ¬ p2 → ¬ p3 → ¬ p4 → ¬ p5 → ¬ p6 → p7 → Q) (h8 : ¬ p1 → ¬ p2 → ¬ p3 → ¬ p4 → ¬ p5 → ¬ p6 → ¬ p7 → p8 → Q) (h9 : ¬ p1 → ¬ p2 → ¬ p3 → ¬ p4 → ¬ p5 → ¬ p6 → ¬ p7 → ¬ p8 → p9 → Q)
    (h10 : ¬ p1 → ¬ p2 → ¬ p3 → ¬ p4 → ¬ p5 → ¬ p6 → ¬ p7 → ¬ p8 → ¬ p9 → p10 → Q) (h11 : ¬ p1 → ¬ p2 → ¬ p3 → ¬ p4 → ¬ p5 → ¬ p6 → ¬ p7 → ¬ p8 → ¬ p9 → ¬ p10 → p11 → Q)
    (h12 : ¬ p1 → ¬ p2 → ¬ p3 → ¬ p4 → ¬ p5 → ¬ p6 → ¬ p7 → ¬ p8 → ¬ p9 → ¬ p10 → ¬ p11 → p12 → Q) (h13 : ¬ p1 → ¬ p2 → ¬ p3 → ¬ p4 → ¬ p5 → ¬ p6 → ¬ p7 → ¬ p8 → ¬ p9 → ¬ p10 → ¬ p11 → ¬ p12 → Q) : Q := by
  by_cases a1 : p1; · exact h1 a1
  by_cases a2 : p2; · exact h2 a1 a2
  by_cases a3 : p3; · exact h3 a1 a2 a3
  by_cases a4 : p4; · exact h4 a1 a2 a3 a4
  by_cases a5 : p5; · exact h5 a1 a2 a3 a4 a5
  by_cases a6 : p6; · exact h6 a1 a2 a3 a4 a5 a6
  by_cases a7 : p7; · exact h7 a1 a2 a3 a4 a5 a6 a7
  by_cases a8 : p8; · exact h8 a1 a2 a3 a4 a5 a6 a7 a8
  by_cases a9 : p9; · exact h9 a1 a2 a3 a4 a5 a6 a7 a8 a9
  by_cases a10 : p10; · exact h10 a1 a2 a3 a4 a5 a6 a7 a8 a9 a10
  by_cases a11 : p11; · exact h11 a1 a2 a3 a4 a5 a6 a7 a8 a9 a10 a11
  by_cases a12 : p12; · exact h12 a1 a2 a3 a4 a5 a6 a7 a8 a9 a10 a11 a12
  exact h13 a1 a2 a3 a4 a5 a6 a7 a8 a9 a10 a11 a12

theorem number_ok (s : List UInt8) (hs : s.length ≤ 8) : FnOK Tryz.prog 90 [.str s] [] (.int .i64 (numI s)) [] := by
  refine FnOK.of_runs Tryz.func90 rfl (Nat.le_of_ble_eq_true rfl) ?_
  refine seq (reg [] [] rfl (by decide) ?_)
  refine seq (reg [] [] rfl (by decide) ?_)
  refine seq (seq (reg [] [] rfl (by decide) ?_))
  refine block ?_
  -- loop 0
  refine loopF (σ := Nat × Nat) (fun p => GtI s 0 s.length p.1 p.2) (fun p => [(0, .str s), (3, .int .i64 p.2), (4, .int .i64 p.1)]) (fun _ => []) (fun p => s.length - p.1) ((0, 0)) (by exact GtI.start s 0 s.length) (by exact zag rfl) (by rfl) (fun ⟨i, m⟩ hi ih => ?_)
  have hi : GtI s 0 s.length i m := hi; have hle := hi.le; have h8 := hi.lt8 hs; have hc := u8lt (s.getD i 0)
  refine seq (seq (reg [] [0, 1] rfl (by decide) ?_))
  refine condS rfl (fun g8 => ?_) (fun g8 => ?_)
  · try simp only [zg] at g8
    refine skip (seq (block (seq (seq (region (restTo 5 [] [0, 1, 5, 6] rfl (by (try simp only [Int.toNat_natCast]); and_intros <;> first | exact ⟨⟩ | omega) ?_))))))
    refine splitS 15 rfl (fun g15 => ?_) (fun g15 => ?_)
    · try simp only [zg] at g15
      refine rest [] [0, 1, 5, 6] rfl (by (try simp only [Int.toNat_natCast]); and_intros <;> first | exact ⟨⟩ | omega) ?_
      refine condT rfl (seq (reg [] [] rfl (by decide) ?_))
      exact retH Tryz.func90 rfl rfl (by rw [numI_none (hi.bad (by omega) (by omega) (by simp only [Int.toNat_natCast] at g15; omega))]) (by rfl)
    · try simp only [zg] at g15
      refine rest [] [0, 1, 5, 6] rfl (by (try simp only [Int.toNat_natCast]); and_intros <;> first | exact ⟨⟩ | omega) ?_
      refine condS rfl (fun g20 => ?_) (fun g20 => ?_)
      · try simp only [zg] at g20
        refine seq (reg [] [] rfl (by decide) ?_)
        exact retH Tryz.func90 rfl rfl (by rw [numI_none (hi.bad (by omega) (by omega) (by simp only [Int.toNat_natCast] at g20; omega))]) (by rfl)
      · try simp only [zg] at g20
        refine skip ?_
        have hdg : 48 ≤ (s.getD i 0).toNat ∧ (s.getD i 0).toNat ≤ 57 := by simp only [Int.toNat_natCast] at g15 g20; omega
        refine reg [(1, { res := .int .i64 (10 * m : Nat) }), (5, { res := .int .u8 ((s.getD i 0).toNat - 48 : Nat) }), (6, { res := .int .i64 ((s.getD i 0).toNat - 48 : Nat) }), (7, { res := .int .i64 (10 * m + ((s.getD i 0).toNat - 48) : Nat) })] [2, 3] rfl (by have h7 := hi.lt7 hs (by omega); (try simp only [Int.toNat_natCast]); and_intros <;> first | exact ⟨⟩ | omega | (refine congrArg (AV.int _) ?_; first | omega | (rw [u8_id (by omega) (by omega)]; done) | (rw [u8_id (by omega) (by omega)]; omega) | (rw [i64_id (by omega) (by omega)]; done) | (rw [i64_id (by omega) (by omega)]; omega))) ?_
        refine inBlock (reg [] [] rfl (by decide) ?_)
        exact ih (i + 1, 10 * m + ((s.getD i 0).toNat - 48)) _ _ (by exact hi.step (by omega) (by omega) hdg) (by simp only; omega) (by exact agree_cons rfl (by first | rfl | (refine congrArg (AV.int _) ?_; simp only [wrap_i64', tdivN, tmodN]; omega) | skip) (agree_cons rfl (by first | rfl | (refine congrArg (AV.int _) ?_; simp only [wrap_i64', tdivN, tmodN]; omega) | skip) (agree_cons rfl (by first | rfl | (refine congrArg (AV.int _) ?_; simp only [wrap_i64', tdivN, tmodN]; omega) | skip) (trivial)))) (by rfl)
  · try simp only [zg] at g8
    refine exit rfl (seq (reg [] [0] rfl (by decide) ?_))
    exact retH Tryz.func90 rfl rfl (by rw [numI_some (hi.done0 (by omega) (Nat.le_refl _))]) (by rfl)

theorem rof_b0 (y m d h mi s : Int) (hb : (-1 ≤ y ∧ y ≤ 100000000) ∧ (-1 ≤ m ∧ m ≤ 100000000) ∧ (-1 ≤ d ∧ d ≤ 100000000) ∧ (-1 ≤ h ∧ h ≤ 100000000) ∧ (-1 ≤ mi ∧ mi ≤ 100000000) ∧ (-1 ≤ s ∧ s ≤ 100000000)) (a1 : (y < 1970)) : FnOK Tryz.prog 89 [.agg [.int .i64 y, .int .i64 m, .int .i64 d, .int .i64 h, .int .i64 mi, .int .i64 s]] [] (.tup [.int .i64 0, .bool false]) [] := by
  refine FnOK.of_runs Tryz.func89 rfl (Nat.le_of_ble_eq_true rfl) ?_
  refine seq (reg [] [] rfl (by decide) ?_)
  refine seq (seq ?_)
  refine regD [(2, { res := .bool true })] [] rfl rfl rfl (by and_intros <;> first | exact ⟨⟩ | (refine congrArg AV.bool ?_; simp only [decide_eq_true_eq, decide_eq_false_iff_not]; omega)) ?_
  refine condT rfl (seq (reg [] [] rfl (by decide) ?_))
  refine drop 0 (Nat.zero_le _) rfl ?_
  exact retH Tryz.func89 rfl rfl (by rfl) (by rfl)

theorem rof_b1 (y m d h mi s : Int) (hb : (-1 ≤ y ∧ y ≤ 100000000) ∧ (-1 ≤ m ∧ m ≤ 100000000) ∧ (-1 ≤ d ∧ d ≤ 100000000) ∧ (-1 ≤ h ∧ h ≤ 100000000) ∧ (-1 ≤ mi ∧ mi ≤ 100000000) ∧ (-1 ≤ s ∧ s ≤ 100000000)) (a1 : ¬ (y < 1970)) (a2 : (y > 9999)) : FnOK Tryz.prog 89 [.agg [.int .i64 y, .int .i64 m, .int .i64 d, .int .i64 h, .int .i64 mi, .int .i64 s]] [] (.tup [.int .i64 0, .bool false]) [] := by
  refine FnOK.of_runs Tryz.func89 rfl (Nat.le_of_ble_eq_true rfl) ?_
  refine seq (reg [] [] rfl (by decide) ?_)
  refine seq (seq ?_)
  refine regD [(2, { res := .bool false }), (6, { res := .bool true })] [] rfl rfl rfl (by and_intros <;> first | exact ⟨⟩ | (refine congrArg AV.bool ?_; simp only [decide_eq_true_eq, decide_eq_false_iff_not]; omega)) ?_
  refine condT rfl (seq (reg [] [] rfl (by decide) ?_))
  refine drop 0 (Nat.zero_le _) rfl ?_
  exact retH Tryz.func89 rfl rfl (by rfl) (by rfl)

theorem rof_b2 (y m d h mi s : Int) (hb : (-1 ≤ y ∧ y ≤ 100000000) ∧ (-1 ≤ m ∧ m ≤ 100000000) ∧ (-1 ≤ d ∧ d ≤ 100000000) ∧ (-1 ≤ h ∧ h ≤ 100000000) ∧ (-1 ≤ mi ∧ mi ≤ 100000000) ∧ (-1 ≤ s ∧ s ≤ 100000000)) (a1 : ¬ (y < 1970)) (a2 : ¬ (y > 9999)) (a3 : (m < 1)) : FnOK Tryz.prog 89 [.agg [.int .i64 y, .int .i64 m, .int .i64 d, .int .i64 h, .int .i64 mi, .int .i64 s]] [] (.tup [.int .i64 0, .bool false]) [] := by
  refine FnOK.of_runs Tryz.func89 rfl (Nat.le_of_ble_eq_true rfl) ?_
  refine seq (reg [] [] rfl (by decide) ?_)
  refine seq (seq ?_)
  refine regD [(2, { res := .bool false }), (6, { res := .bool false }), (11, { res := .bool true })] [] rfl rfl rfl (by and_intros <;> first | exact ⟨⟩ | (refine congrArg AV.bool ?_; simp only [decide_eq_true_eq, decide_eq_false_iff_not]; omega)) ?_
  refine condT rfl (seq (reg [] [] rfl (by decide) ?_))
  refine drop 0 (Nat.zero_le _) rfl ?_
  exact retH Tryz.func89 rfl rfl (by rfl) (by rfl)

theorem rof_b3 (y m d h mi s : Int) (hb : (-1 ≤ y ∧ y ≤ 100000000) ∧ (-1 ≤ m ∧ m ≤ 100000000) ∧ (-1 ≤ d ∧ d ≤ 100000000) ∧ (-1 ≤ h ∧ h ≤ 100000000) ∧ (-1 ≤ mi ∧ mi ≤ 100000000) ∧ (-1 ≤ s ∧ s ≤ 100000000)) (a1 : ¬ (y < 1970)) (a2 : ¬ (y > 9999)) (a3 : ¬ (m < 1)) (a4 : (m > 12)) : FnOK Tryz.prog 89 [.agg [.int .i64 y, .int .i64 m, .int .i64 d, .int .i64 h, .int .i64 mi, .int .i64 s]] [] (.tup [.int .i64 0, .bool false]) [] := by
  refine FnOK.of_runs Tryz.func89 rfl (Nat.le_of_ble_eq_true rfl) ?_
  refine seq (reg [] [] rfl (by decide) ?_)
  refine seq (seq ?_)
  refine regD [(2, { res := .bool false }), (6, { res := .bool false }), (11, { res := .bool false }), (16, { res := .bool true })] [] rfl rfl rfl (by and_intros <;> first | exact ⟨⟩ | (refine congrArg AV.bool ?_; simp only [decide_eq_true_eq, decide_eq_false_iff_not]; omega)) ?_
  refine condT rfl (seq (reg [] [] rfl (by decide) ?_))
  refine drop 0 (Nat.zero_le _) rfl ?_
  exact retH Tryz.func89 rfl rfl (by rfl) (by rfl)

theorem rof_b4 (y m d h mi s : Int) (hb : (-1 ≤ y ∧ y ≤ 100000000) ∧ (-1 ≤ m ∧ m ≤ 100000000) ∧ (-1 ≤ d ∧ d ≤ 100000000) ∧ (-1 ≤ h ∧ h ≤ 100000000) ∧ (-1 ≤ mi ∧ mi ≤ 100000000) ∧ (-1 ≤ s ∧ s ≤ 100000000)) (a1 : ¬ (y < 1970)) (a2 : ¬ (y > 9999)) (a3 : ¬ (m < 1)) (a4 : ¬ (m > 12)) (a5 : (d < 1)) : FnOK Tryz.prog 89 [.agg [.int .i64 y, .int .i64 m, .int .i64 d, .int .i64 h, .int .i64 mi, .int .i64 s]] [] (.tup [.int .i64 0, .bool false]) [] := by
  refine FnOK.of_runs Tryz.func89 rfl (Nat.le_of_ble_eq_true rfl) ?_
  refine seq (reg [] [] rfl (by decide) ?_)
  refine seq (seq ?_)
  refine regD [(2, { res := .bool false }), (6, { res := .bool false }), (11, { res := .bool false }), (16, { res := .bool false }), (21, { res := .bool true })] [] rfl rfl rfl (by and_intros <;> first | exact ⟨⟩ | (refine congrArg AV.bool ?_; simp only [decide_eq_true_eq, decide_eq_false_iff_not]; omega)) ?_
  refine condT rfl (seq (reg [] [] rfl (by decide) ?_))
  refine drop 0 (Nat.zero_le _) rfl ?_
  exact retH Tryz.func89 rfl rfl (by rfl) (by rfl)

theorem rof_b5 (y m d h mi s : Int) (hb : (-1 ≤ y ∧ y ≤ 100000000) ∧ (-1 ≤ m ∧ m ≤ 100000000) ∧ (-1 ≤ d ∧ d ≤ 100000000) ∧ (-1 ≤ h ∧ h ≤ 100000000) ∧ (-1 ≤ mi ∧ mi ≤ 100000000) ∧ (-1 ≤ s ∧ s ≤ 100000000)) (a1 : ¬ (y < 1970)) (a2 : ¬ (y > 9999)) (a3 : ¬ (m < 1)) (a4 : ¬ (m > 12)) (a5 : ¬ (d < 1)) (a6 : (d > (sizeN y.toNat m.toNat : Int))) : FnOK Tryz.prog 89 [.agg [.int .i64 y, .int .i64 m, .int .i64 d, .int .i64 h, .int .i64 mi, .int .i64 s]] [] (.tup [.int .i64 0, .bool false]) [] := by
  refine FnOK.of_runs Tryz.func89 rfl (Nat.le_of_ble_eq_true rfl) ?_
  refine seq (reg [] [] rfl (by decide) ?_)
  refine seq (seq ?_)
  refine regD [(2, { res := .bool false }), (6, { res := .bool false }), (11, { res := .bool false }), (16, { res := .bool false }), (21, { res := .bool false }), (30, { res := .int .i64 (sizeN y.toNat m.toNat : Nat) }), (31, { res := .bool true })] [] rfl rfl rfl (by and_intros <;> first | exact ⟨⟩ | (refine congrArg AV.bool ?_; simp only [decide_eq_true_eq, decide_eq_false_iff_not]; omega) | (have h1 := rsize_ok y.toNat m.toNat (by omega) (by omega); rwa [Int.toNat_of_nonneg (by omega), Int.toNat_of_nonneg (by omega)] at h1)) ?_
  refine condT rfl (seq (reg [] [] rfl (by decide) ?_))
  refine drop 0 (Nat.zero_le _) rfl ?_
  exact retH Tryz.func89 rfl rfl (by rfl) (by rfl)

theorem rof_b6 (y m d h mi s : Int) (hb : (-1 ≤ y ∧ y ≤ 100000000) ∧ (-1 ≤ m ∧ m ≤ 100000000) ∧ (-1 ≤ d ∧ d ≤ 100000000) ∧ (-1 ≤ h ∧ h ≤ 100000000) ∧ (-1 ≤ mi ∧ mi ≤ 100000000) ∧ (-1 ≤ s ∧ s ≤ 100000000)) (a1 : ¬ (y < 1970)) (a2 : ¬ (y > 9999)) (a3 : ¬ (m < 1)) (a4 : ¬ (m > 12)) (a5 : ¬ (d < 1)) (a6 : ¬ (d > (sizeN y.toNat m.toNat : Int))) (a7 : (h < 0)) : FnOK Tryz.prog 89 [.agg [.int .i64 y, .int .i64 m, .int .i64 d, .int .i64 h, .int .i64 mi, .int .i64 s]] [] (.tup [.int .i64 0, .bool false]) [] := by
  refine FnOK.of_runs Tryz.func89 rfl (Nat.le_of_ble_eq_true rfl) ?_
  refine seq (reg [] [] rfl (by decide) ?_)
  refine seq (seq ?_)
  refine regD [(2, { res := .bool false }), (6, { res := .bool false }), (11, { res := .bool false }), (16, { res := .bool false }), (21, { res := .bool false }), (30, { res := .int .i64 (sizeN y.toNat m.toNat : Nat) }), (31, { res := .bool false }), (36, { res := .bool true })] [] rfl rfl rfl (by and_intros <;> first | exact ⟨⟩ | (refine congrArg AV.bool ?_; simp only [decide_eq_true_eq, decide_eq_false_iff_not]; omega) | (have h1 := rsize_ok y.toNat m.toNat (by omega) (by omega); rwa [Int.toNat_of_nonneg (by omega), Int.toNat_of_nonneg (by omega)] at h1)) ?_
  refine condT rfl (seq (reg [] [] rfl (by decide) ?_))
  refine drop 0 (Nat.zero_le _) rfl ?_
  exact retH Tryz.func89 rfl rfl (by rfl) (by rfl)

theorem rof_b7 (y m d h mi s : Int) (hb : (-1 ≤ y ∧ y ≤ 100000000) ∧ (-1 ≤ m ∧ m ≤ 100000000) ∧ (-1 ≤ d ∧ d ≤ 100000000) ∧ (-1 ≤ h ∧ h ≤ 100000000) ∧ (-1 ≤ mi ∧ mi ≤ 100000000) ∧ (-1 ≤ s ∧ s ≤ 100000000)) (a1 : ¬ (y < 1970)) (a2 : ¬ (y > 9999)) (a3 : ¬ (m < 1)) (a4 : ¬ (m > 12)) (a5 : ¬ (d < 1)) (a6 : ¬ (d > (sizeN y.toNat m.toNat : Int))) (a7 : ¬ (h < 0)) (a8 : (h > 23)) : FnOK Tryz.prog 89 [.agg [.int .i64 y, .int .i64 m, .int .i64 d, .int .i64 h, .int .i64 mi, .int .i64 s]] [] (.tup [.int .i64 0, .bool false]) [] := by
  refine FnOK.of_runs Tryz.func89 rfl (Nat.le_of_ble_eq_true rfl) ?_
  refine seq (reg [] [] rfl (by decide) ?_)
  refine seq (seq ?_)
  refine regD [(2, { res := .bool false }), (6, { res := .bool false }), (11, { res := .bool false }), (16, { res := .bool false }), (21, { res := .bool false }), (30, { res := .int .i64 (sizeN y.toNat m.toNat : Nat) }), (31, { res := .bool false }), (36, { res := .bool false }), (41, { res := .bool true })] [] rfl rfl rfl (by and_intros <;> first | exact ⟨⟩ | (refine congrArg AV.bool ?_; simp only [decide_eq_true_eq, decide_eq_false_iff_not]; omega) | (have h1 := rsize_ok y.toNat m.toNat (by omega) (by omega); rwa [Int.toNat_of_nonneg (by omega), Int.toNat_of_nonneg (by omega)] at h1)) ?_
  refine condT rfl (seq (reg [] [] rfl (by decide) ?_))
  refine drop 0 (Nat.zero_le _) rfl ?_
  exact retH Tryz.func89 rfl rfl (by rfl) (by rfl)

theorem rof_b8 (y m d h mi s : Int) (hb : (-1 ≤ y ∧ y ≤ 100000000) ∧ (-1 ≤ m ∧ m ≤ 100000000) ∧ (-1 ≤ d ∧ d ≤ 100000000) ∧ (-1 ≤ h ∧ h ≤ 100000000) ∧ (-1 ≤ mi ∧ mi ≤ 100000000) ∧ (-1 ≤ s ∧ s ≤ 100000000)) (a1 : ¬ (y < 1970)) (a2 : ¬ (y > 9999)) (a3 : ¬ (m < 1)) (a4 : ¬ (m > 12)) (a5 : ¬ (d < 1)) (a6 : ¬ (d > (sizeN y.toNat m.toNat : Int))) (a7 : ¬ (h < 0)) (a8 : ¬ (h > 23)) (a9 : (mi < 0)) : FnOK Tryz.prog 89 [.agg [.int .i64 y, .int .i64 m, .int .i64 d, .int .i64 h, .int .i64 mi, .int .i64 s]] [] (.tup [.int .i64 0, .bool false]) [] := by
  refine FnOK.of_runs Tryz.func89 rfl (Nat.le_of_ble_eq_true rfl) ?_
  refine seq (reg [] [] rfl (by decide) ?_)
  refine seq (seq ?_)
  refine regD [(2, { res := .bool false }), (6, { res := .bool false }), (11, { res := .bool false }), (16, { res := .bool false }), (21, { res := .bool false }), (30, { res := .int .i64 (sizeN y.toNat m.toNat : Nat) }), (31, { res := .bool false }), (36, { res := .bool false }), (41, { res := .bool false }), (46, { res := .bool true })] [] rfl rfl rfl (by and_intros <;> first | exact ⟨⟩ | (refine congrArg AV.bool ?_; simp only [decide_eq_true_eq, decide_eq_false_iff_not]; omega) | (have h1 := rsize_ok y.toNat m.toNat (by omega) (by omega); rwa [Int.toNat_of_nonneg (by omega), Int.toNat_of_nonneg (by omega)] at h1)) ?_
  refine condT rfl (seq (reg [] [] rfl (by decide) ?_))
  refine drop 0 (Nat.zero_le _) rfl ?_
  exact retH Tryz.func89 rfl rfl (by rfl) (by rfl)

theorem rof_b9 (y m d h mi s : Int) (hb : (-1 ≤ y ∧ y ≤ 100000000) ∧ (-1 ≤ m ∧ m ≤ 100000000) ∧ (-1 ≤ d ∧ d ≤ 100000000) ∧ (-1 ≤ h ∧ h ≤ 100000000) ∧ (-1 ≤ mi ∧ mi ≤ 100000000) ∧ (-1 ≤ s ∧ s ≤ 100000000)) (a1 : ¬ (y < 1970)) (a2 : ¬ (y > 9999)) (a3 : ¬ (m < 1)) (a4 : ¬ (m > 12)) (a5 : ¬ (d < 1)) (a6 : ¬ (d > (sizeN y.toNat m.toNat : Int))) (a7 : ¬ (h < 0)) (a8 : ¬ (h > 23)) (a9 : ¬ (mi < 0)) (a10 : (mi > 59)) : FnOK Tryz.prog 89 [.agg [.int .i64 y, .int .i64 m, .int .i64 d, .int .i64 h, .int .i64 mi, .int .i64 s]] [] (.tup [.int .i64 0, .bool false]) [] := by
  refine FnOK.of_runs Tryz.func89 rfl (Nat.le_of_ble_eq_true rfl) ?_
  refine seq (reg [] [] rfl (by decide) ?_)
  refine seq (seq ?_)
  refine regD [(2, { res := .bool false }), (6, { res := .bool false }), (11, { res := .bool false }), (16, { res := .bool false }), (21, { res := .bool false }), (30, { res := .int .i64 (sizeN y.toNat m.toNat : Nat) }), (31, { res := .bool false }), (36, { res := .bool false }), (41, { res := .bool false }), (46, { res := .bool false }), (51, { res := .bool true })] [] rfl rfl rfl (by and_intros <;> first | exact ⟨⟩ | (refine congrArg AV.bool ?_; simp only [decide_eq_true_eq, decide_eq_false_iff_not]; omega) | (have h1 := rsize_ok y.toNat m.toNat (by omega) (by omega); rwa [Int.toNat_of_nonneg (by omega), Int.toNat_of_nonneg (by omega)] at h1)) ?_
  refine condT rfl (seq (reg [] [] rfl (by decide) ?_))
  refine drop 0 (Nat.zero_le _) rfl ?_
  exact retH Tryz.func89 rfl rfl (by rfl) (by rfl)

theorem rof_b10 (y m d h mi s : Int) (hb : (-1 ≤ y ∧ y ≤ 100000000) ∧ (-1 ≤ m ∧ m ≤ 100000000) ∧ (-1 ≤ d ∧ d ≤ 100000000) ∧ (-1 ≤ h ∧ h ≤ 100000000) ∧ (-1 ≤ mi ∧ mi ≤ 100000000) ∧ (-1 ≤ s ∧ s ≤ 100000000)) (a1 : ¬ (y < 1970)) (a2 : ¬ (y > 9999)) (a3 : ¬ (m < 1)) (a4 : ¬ (m > 12)) (a5 : ¬ (d < 1)) (a6 : ¬ (d > (sizeN y.toNat m.toNat : Int))) (a7 : ¬ (h < 0)) (a8 : ¬ (h > 23)) (a9 : ¬ (mi < 0)) (a10 : ¬ (mi > 59)) (a11 : (s < 0)) : FnOK Tryz.prog 89 [.agg [.int .i64 y, .int .i64 m, .int .i64 d, .int .i64 h, .int .i64 mi, .int .i64 s]] [] (.tup [.int .i64 0, .bool false]) [] := by
  refine FnOK.of_runs Tryz.func89 rfl (Nat.le_of_ble_eq_true rfl) ?_
  refine seq (reg [] [] rfl (by decide) ?_)
  refine seq (seq ?_)
  refine regD [(2, { res := .bool false }), (6, { res := .bool false }), (11, { res := .bool false }), (16, { res := .bool false }), (21, { res := .bool false }), (30, { res := .int .i64 (sizeN y.toNat m.toNat : Nat) }), (31, { res := .bool false }), (36, { res := .bool false }), (41, { res := .bool false }), (46, { res := .bool false }), (51, { res := .bool false }), (56, { res := .bool true })] [] rfl rfl rfl (by and_intros <;> first | exact ⟨⟩ | (refine congrArg AV.bool ?_; simp only [decide_eq_true_eq, decide_eq_false_iff_not]; omega) | (have h1 := rsize_ok y.toNat m.toNat (by omega) (by omega); rwa [Int.toNat_of_nonneg (by omega), Int.toNat_of_nonneg (by omega)] at h1)) ?_
  refine condT rfl (seq (reg [] [] rfl (by decide) ?_))
  refine drop 0 (Nat.zero_le _) rfl ?_
  exact retH Tryz.func89 rfl rfl (by rfl) (by rfl)

theorem rof_b11 (y m d h mi s : Int) (hb : (-1 ≤ y ∧ y ≤ 100000000) ∧ (-1 ≤ m ∧ m ≤ 100000000) ∧ (-1 ≤ d ∧ d ≤ 100000000) ∧ (-1 ≤ h ∧ h ≤ 100000000) ∧ (-1 ≤ mi ∧ mi ≤ 100000000) ∧ (-1 ≤ s ∧ s ≤ 100000000)) (a1 : ¬ (y < 1970)) (a2 : ¬ (y > 9999)) (a3 : ¬ (m < 1)) (a4 : ¬ (m > 12)) (a5 : ¬ (d < 1)) (a6 : ¬ (d > (sizeN y.toNat m.toNat : Int))) (a7 : ¬ (h < 0)) (a8 : ¬ (h > 23)) (a9 : ¬ (mi < 0)) (a10 : ¬ (mi > 59)) (a11 : ¬ (s < 0)) (a12 : (s > 59)) : FnOK Tryz.prog 89 [.agg [.int .i64 y, .int .i64 m, .int .i64 d, .int .i64 h, .int .i64 mi, .int .i64 s]] [] (.tup [.int .i64 0, .bool false]) [] := by
  refine FnOK.of_runs Tryz.func89 rfl (Nat.le_of_ble_eq_true rfl) ?_
  refine seq (reg [] [] rfl (by decide) ?_)
  refine seq (seq ?_)
  refine regD [(2, { res := .bool false }), (6, { res := .bool false }), (11, { res := .bool false }), (16, { res := .bool false }), (21, { res := .bool false }), (30, { res := .int .i64 (sizeN y.toNat m.toNat : Nat) }), (31, { res := .bool false }), (36, { res := .bool false }), (41, { res := .bool false }), (46, { res := .bool false }), (51, { res := .bool false }), (56, { res := .bool false }), (61, { res := .bool true })] [] rfl rfl rfl (by and_intros <;> first | exact ⟨⟩ | (refine congrArg AV.bool ?_; simp only [decide_eq_true_eq, decide_eq_false_iff_not]; omega) | (have h1 := rsize_ok y.toNat m.toNat (by omega) (by omega); rwa [Int.toNat_of_nonneg (by omega), Int.toNat_of_nonneg (by omega)] at h1)) ?_
  refine condT rfl (seq (reg [] [] rfl (by decide) ?_))
  refine drop 0 (Nat.zero_le _) rfl ?_
  exact retH Tryz.func89 rfl rfl (by rfl) (by rfl)

theorem rof_good (y m d h mi s : Nat) (hok : okD y m d h mi s) : FnOK Tryz.prog 89 [.agg [.int .i64 (y : Nat), .int .i64 (m : Nat), .int .i64 (d : Nat), .int .i64 (h : Nat), .int .i64 (mi : Nat), .int .i64 (s : Nat)]] [] (.tup [.int .i64 (secN y m d h mi s : Nat), .bool true]) [] := by
  refine FnOK.of_runs Tryz.func89 rfl (Nat.le_of_ble_eq_true rfl) ?_
  refine seq (reg [] [] rfl (by decide) ?_)
  refine seq (seq ?_)
  have sb := sizeN_bd y m
  obtain ⟨⟨ky1, ky2⟩, ⟨km1, km2⟩, ⟨kd1, kd2⟩, kh, ki, ks⟩ := hok
  refine regD [(2, { res := .bool false }), (6, { res := .bool false }), (11, { res := .bool false }), (16, { res := .bool false }), (21, { res := .bool false }), (30, { res := .int .i64 (sizeN y m : Nat) }), (31, { res := .bool false }), (36, { res := .bool false }), (41, { res := .bool false }), (46, { res := .bool false }), (51, { res := .bool false }), (56, { res := .bool false }), (61, { res := .bool false })] [] rfl rfl rfl (by and_intros <;> first | exact ⟨⟩ | (refine congrArg AV.bool ?_; simp only [decide_eq_true_eq, decide_eq_false_iff_not]; omega) | exact rsize_ok y m (by omega) (by omega)) ?_
  refine condF rfl (skip (seq ?_))
  refine reg [(2, { res := .int .i64 (d - 1 : Nat) })] [] rfl (by and_intros <;> first | exact ⟨⟩ | omega | decide | (refine congrArg (AV.int _) ?_; (try simp only [tdivN, tmodN]); (first | rw [i64_id (by omega) (by omega)] | skip); omega)) ?_
  refine seq (seq (reg [] [] rfl (by decide) ?_))
  refine block ?_
  -- loop 0
  refine loopF (σ := Nat) (fun k => 1970 ≤ k ∧ k ≤ y) (fun k => [(1, .ptr 0 0), (4, .int .i64 (d - 1 + (befN k).toNat : Nat)), (5, .int .i64 k)]) (fun _ => [[.int .i64 (y : Nat), .int .i64 (m : Nat), .int .i64 (d : Nat), .int .i64 (h : Nat), .int .i64 (mi : Nat), .int .i64 (s : Nat)]]) (fun k => y - k) (1970) (by exact ⟨by omega, by omega⟩) (by exact agree_cons rfl (by rfl) (agree_cons rfl (by rw [befN_70]; rfl) (agree_cons rfl (by rfl) (trivial)))) (by rfl) (fun k hk ih => ?_)
  replace hk : 1970 ≤ k ∧ k ≤ y := hk
  refine seq (seq (reg [] [0] rfl (by decide) ?_))
  refine condS rfl (fun g76 => ?_) (fun g76 => ?_)
  · try simp only [zg] at g76
    refine skip (seq (block ?_))
    obtain ⟨Bk, hBk, hBk2⟩ := befN_nat (y := k) (by omega) (by omega)
    have hbs := befN_step k (by omega)
    have hyb := yearN_bd k
    rw [hBk] at hbs
    refine reg [(2, { res := .int .i64 (yearN k : Nat) }), (3, { res := .int .i64 (d - 1 + (befN (k + 1)).toNat : Nat) })] [1] rfl (by and_intros <;> first | exact ⟨⟩ | exact year_ok k (by omega) | omega | decide | (refine congrArg (AV.int _) ?_; (try simp only [tdivN, tmodN]); (first | rw [i64_id (by omega) (by omega)] | skip); omega)) ?_
    refine inBlock ?_
    refine reg [(1, { res := .int .i64 (k + 1 : Nat) })] [] rfl (by and_intros <;> first | exact ⟨⟩ | (refine congrArg (AV.int _) ?_; (try simp only [tdivN, tmodN]); (first | rw [i64_id (by omega) (by omega)] | skip); omega)) ?_
    exact ih (k + 1) _ _ (by exact ⟨by omega, by omega⟩) (by omega) (by exact zag rfl) (by rfl)
  · try simp only [zg] at g76
    refine exit rfl (seq (seq ?_))
    have hky : y = k := by omega
    subst hky
    obtain ⟨B, hB, hB2⟩ := befN_nat (y := y) (by omega) (by omega)
    refine reg [] [] rfl (by decide) ?_
    refine block ?_
    -- loop 1
    refine loopF (σ := Nat) (fun k => 1 ≤ k ∧ k ≤ m) (fun k => [(1, .ptr 0 0), (4, .int .i64 (d - 1 + B + monN y k : Nat)), (6, .int .i64 k)]) (fun _ => [[.int .i64 (y : Nat), .int .i64 (m : Nat), .int .i64 (d : Nat), .int .i64 (h : Nat), .int .i64 (mi : Nat), .int .i64 (s : Nat)]]) (fun k => m - k) (1) (by exact ⟨by omega, by omega⟩) (by exact agree_cons rfl (by rfl) (agree_cons rfl (by rw [hB]; rfl) (agree_cons rfl (by rfl) (trivial)))) (by rfl) (fun k hk ih => ?_)
    replace hk : 1 ≤ k ∧ k ≤ m := hk
    refine seq (seq (reg [] [0] rfl (by decide) ?_))
    refine condS rfl (fun g86 => ?_) (fun g86 => ?_)
    · try simp only [zg] at g86
      refine skip (seq (block ?_))
      refine reg [(4, { res := .int .i64 (sizeN y k : Nat) }), (5, { res := .int .i64 (d - 1 + B + monN y (k + 1) : Nat) })] [3] rfl (by have ms := monN_step y (m := k) (by omega); have sk := sizeN_bd y k; have ml := monN_le y k; and_intros <;> first | exact ⟨⟩ | exact rsize_ok y k (by omega) (by omega) | omega | decide | (refine congrArg (AV.int _) ?_; (try simp only [tdivN, tmodN]); (first | rw [i64_id (by omega) (by omega)] | skip); omega)) ?_
      refine inBlock ?_
      refine reg [(1, { res := .int .i64 (k + 1 : Nat) })] [] rfl (by and_intros <;> first | exact ⟨⟩ | (refine congrArg (AV.int _) ?_; (try simp only [tdivN, tmodN]); (first | rw [i64_id (by omega) (by omega)] | skip); omega)) ?_
      exact ih (k + 1) _ _ (by exact ⟨by omega, by omega⟩) (by omega) (by exact zag rfl) (by rfl)
    · try simp only [zg] at g86
      refine exit rfl (seq ?_)
      have hkm : m = k := by omega
      subst hkm
      have ml := monN_le y m
      obtain ⟨D, hD⟩ : ∃ D, D = d - 1 + B + monN y m := ⟨_, rfl⟩
      rw [← hD]
      have hDd : dayN y m d = D := by unfold dayN; rw [hB, hD, Int.toNat_natCast]; omega
      refine reg [(1, { res := .int .i64 (D * 86400 : Nat) }), (4, { res := .int .i64 (h * 3600 : Nat) }), (5, { res := .int .i64 (D * 86400 + h * 3600 : Nat) }), (8, { res := .int .i64 (mi * 60 : Nat) }), (9, { res := .int .i64 (D * 86400 + h * 3600 + mi * 60 : Nat) }), (12, { res := .int .i64 (D * 86400 + h * 3600 + mi * 60 + s : Nat) })] [0] rfl (by and_intros <;> first | exact ⟨⟩ | omega | decide | (refine congrArg (AV.int _) ?_; (try simp only [tdivN, tmodN]); (first | rw [i64_id (by omega) (by omega)] | skip); omega)) ?_
      refine drop 0 (Nat.zero_le _) rfl ?_
      exact retH Tryz.func89 rfl rfl (by unfold secN; rw [hDd, show ((D * 24 + h) * 60 + mi) * 60 + s = D * 86400 + h * 3600 + mi * 60 + s by omega]) (by rfl)

theorem rof_ok (y m d h mi s : Int) (hb : (-1 ≤ y ∧ y ≤ 100000000) ∧ (-1 ≤ m ∧ m ≤ 100000000) ∧ (-1 ≤ d ∧ d ≤ 100000000) ∧ (-1 ≤ h ∧ h ≤ 100000000) ∧ (-1 ≤ mi ∧ mi ≤ 100000000) ∧ (-1 ≤ s ∧ s ≤ 100000000)) : FnOK Tryz.prog 89 [.agg [.int .i64 y, .int .i64 m, .int .i64 d, .int .i64 h, .int .i64 mi, .int .i64 s]] [] (.tup [.int .i64 ((ofI y m d h mi s).getD 0 : Nat), .bool (ofI y m d h mi s).isSome]) [] := by
  have no : ¬ okI y m d h mi s → FnOK Tryz.prog 89 [.agg [.int .i64 y, .int .i64 m, .int .i64 d, .int .i64 h, .int .i64 mi, .int .i64 s]] [] (.tup [.int .i64 0, .bool false]) [] → FnOK Tryz.prog 89 [.agg [.int .i64 y, .int .i64 m, .int .i64 d, .int .i64 h, .int .i64 mi, .int .i64 s]] [] (.tup [.int .i64 ((ofI y m d h mi s).getD 0 : Nat), .bool (ofI y m d h mi s).isSome]) [] := fun h k => by rw [ofI_none h]; exact k
  refine of13 (p1 := y < 1970) (p2 := y > 9999) (p3 := m < 1) (p4 := m > 12) (p5 := d < 1) (p6 := d > (sizeN y.toNat m.toNat : Int)) (p7 := h < 0) (p8 := h > 23) (p9 := mi < 0) (p10 := mi > 59) (p11 := s < 0) (p12 := s > 59) (fun a1 => no (by unfold okI; omega) (rof_b0 y m d h mi s hb a1)) (fun a1 a2 => no (by unfold okI; omega) (rof_b1 y m d h mi s hb a1 a2)) (fun a1 a2 a3 => no (by unfold okI; omega) (rof_b2 y m d h mi s hb a1 a2 a3)) (fun a1 a2 a3 a4 => no (by unfold okI; omega) (rof_b3 y m d h mi s hb a1 a2 a3 a4)) (fun a1 a2 a3 a4 a5 => no (by unfold okI; omega) (rof_b4 y m d h mi s hb a1 a2 a3 a4 a5)) (fun a1 a2 a3 a4 a5 a6 => no (by unfold okI; omega) (rof_b5 y m d h mi s hb a1 a2 a3 a4 a5 a6)) (fun a1 a2 a3 a4 a5 a6 a7 => no (by unfold okI; omega) (rof_b6 y m d h mi s hb a1 a2 a3 a4 a5 a6 a7)) (fun a1 a2 a3 a4 a5 a6 a7 a8 => no (by unfold okI; omega) (rof_b7 y m d h mi s hb a1 a2 a3 a4 a5 a6 a7 a8)) (fun a1 a2 a3 a4 a5 a6 a7 a8 a9 => no (by unfold okI; omega) (rof_b8 y m d h mi s hb a1 a2 a3 a4 a5 a6 a7 a8 a9)) (fun a1 a2 a3 a4 a5 a6 a7 a8 a9 a10 => no (by unfold okI; omega) (rof_b9 y m d h mi s hb a1 a2 a3 a4 a5 a6 a7 a8 a9 a10)) (fun a1 a2 a3 a4 a5 a6 a7 a8 a9 a10 a11 => no (by unfold okI; omega) (rof_b10 y m d h mi s hb a1 a2 a3 a4 a5 a6 a7 a8 a9 a10 a11)) (fun a1 a2 a3 a4 a5 a6 a7 a8 a9 a10 a11 a12 => no (by unfold okI; omega) (rof_b11 y m d h mi s hb a1 a2 a3 a4 a5 a6 a7 a8 a9 a10 a11 a12)) (fun a1 a2 a3 a4 a5 a6 a7 a8 a9 a10 a11 a12 => ?_)
  have hok : okI y m d h mi s := by unfold okI; omega
  obtain ⟨y, rfl⟩ := Int.eq_ofNat_of_zero_le (show 0 ≤ y by omega)
  obtain ⟨m, rfl⟩ := Int.eq_ofNat_of_zero_le (show 0 ≤ m by omega)
  obtain ⟨d, rfl⟩ := Int.eq_ofNat_of_zero_le (show 0 ≤ d by omega)
  obtain ⟨h, rfl⟩ := Int.eq_ofNat_of_zero_le (show 0 ≤ h by omega)
  obtain ⟨mi, rfl⟩ := Int.eq_ofNat_of_zero_le (show 0 ≤ mi by omega)
  obtain ⟨s, rfl⟩ := Int.eq_ofNat_of_zero_le (show 0 ≤ s by omega)
  have h1 := rof_good y m d h mi s ((okI_cast ..).1 hok)
  rw [ofI_some hok]
  simp only [Int.toNat_natCast]
  exact h1

end Go.Proofs.YtnohmijdpmelpaaGreat
