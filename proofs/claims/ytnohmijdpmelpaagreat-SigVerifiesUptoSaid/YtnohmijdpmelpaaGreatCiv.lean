/- The document's days. -/
import Derived.Test.YtnohmijdpmelpaaGreatOf
set_option maxRecDepth 100000
set_option linter.unusedVariables false
set_option linter.unusedSimpArgs false
namespace Go.Proofs.YtnohmijdpmelpaaGreat
open Go Go.Am Go.Am.Runs

def decD (n : Nat) : List UInt8 := if h : n < 10 then [UInt8.ofNat (48 + n)] else decD (n / 10) ++ [UInt8.ofNat (48 + n % 10)]
termination_by n
decreasing_by omega

theorem dec_small {m : Nat} (h : m < 10) : decD m = [UInt8.ofNat (48 + m)] := by rw [decD, dif_pos h]
theorem dec_big {m : Nat} (h : ¬ m < 10) : decD m = decD (m / 10) ++ [UInt8.ofNat (48 + m % 10)] := by rw [decD, dif_neg h]
theorem hxd_dec {d : Nat} (h : d < 10) : hxd d = UInt8.ofNat (48 + d) := by
  have : ∀ d : Fin 10, hxd d.val = UInt8.ofNat (48 + d.val) := by decide
  exact this ⟨d, h⟩
theorem dec_len : ∀ (m : Nat), m < 18446744073709551616 → (decD m).length ≤ 20 := by
  have key : ∀ k m : Nat, 1 ≤ k → m < 10 ^ k → (decD m).length ≤ k := by
    intro k
    induction k with
    | zero => intro m h1 h2; omega
    | succ k ih =>
      intro m h1 h2
      by_cases h : m < 10
      · rw [dec_small h]; simp
      · rw [dec_big h, List.length_append]
        have hk : 1 ≤ k := by
          rcases Nat.eq_zero_or_pos k with h0 | h0
          · subst h0; simp at h2; omega
          · exact h0
        have := ih (m / 10) hk (by rw [Nat.pow_succ] at h2; omega)
        simp only [List.length_cons, List.length_nil]; omega
  intro m h
  exact key 20 m (by decide) (Nat.lt_trans h (by decide))
structure TxI (n m : Nat) (out : List UInt8) : Prop where
  eq : decD m ++ out = decD n
  le : m ≤ n
theorem TxI.step {n m out} (h : TxI n m out) (hm : ¬ m < 10) : TxI n (m / 10) ([hxd (m % 10)] ++ out) := by
  refine ⟨?_, Nat.le_trans (Nat.div_le_self _ _) h.le⟩
  rw [← h.eq, dec_big hm, hxd_dec (Nat.mod_lt _ (by decide))]; simp
theorem TxI.done {n m out} (h : TxI n m out) (hm : m < 10) : [hxd m] ++ out = decD n := by
  rw [← h.eq, dec_small hm, hxd_dec hm]
theorem TxI.len {n m out} (h : TxI n m out) (hn : n < 18446744073709551616) : out.length ≤ 20 := by
  have := congrArg List.length h.eq
  have := dec_len n hn
  rw [List.length_append] at *; omega

theorem rtextN_ok (n : Nat) (h1 : n ≤ 9223372036854775807) : FnOK Tryz.prog 147 [.int .i64 n] [] (.str (decD n)) [] := by
  refine FnOK.of_runs Tryz.func147 rfl (Nat.le_of_ble_eq_true rfl) ?_
  refine seq (reg [] [] rfl (by decide) ?_)
  refine seq (seq (reg [] [0] rfl (by decide) ?_))
  refine condS rfl (fun g5 => ?_) (fun g5 => ?_)
  · try simp only [zg] at g5
    exfalso; omega
  · try simp only [zg] at g5
    refine skip (seq (reg [] [] rfl (by decide) ?_))
    refine seq (block ?_)
    -- loop 0
    refine loopF (σ := Nat × List UInt8) (fun p => TxI n p.1 p.2) (fun p => [(0, .int .i64 p.1), (3, .str p.2)]) (fun _ => []) (fun p => p.1) ((n, [])) (by exact ⟨by simp, Nat.le_refl _⟩) (by exact zag rfl) (by rfl) (fun ⟨m, out⟩ hi ih => ?_)
    replace hi : TxI n m out := hi; have hle := hi.le; have hln := hi.len (by omega); dsimp only
    refine seq (seq (reg [] [0] rfl (by decide) ?_))
    refine condS rfl (fun g15 => ?_) (fun g15 => ?_)
    · try simp only [zg] at g15
      refine skip (block (seq (reg [(1, { res := .int .i64 (m % 10 : Nat) }), (2, { res := .str [hxd (m % 10)] })] [0] rfl (by simp only [List.length_append, List.length_cons, List.length_nil]; and_intros <;> first | decide | rfl | exact rdigit_ok _ (by omega) | omega) ?_)))
      refine reg [(1, { res := .int .i64 (m / 10 : Nat) })] [] rfl (by and_intros <;> first | decide | (refine congrArg (AV.int _) ?_; rw [tdivN, i64_id (by omega) (by omega)]; rfl)) ?_
      refine inBlock ?_
      exact ih (m / 10, [hxd (m % 10)] ++ out) _ _ (by exact hi.step (by omega)) (by simp only; omega) (by exact zag rfl) (by rfl)
    · try simp only [zg] at g15
      refine exit rfl (seq (reg [(1, { res := .str [hxd m] })] [0, 2] rfl (by simp only [List.length_append, List.length_cons, List.length_nil]; and_intros <;> first | decide | exact rdigit_ok _ (by omega) | omega) ?_))
      exact retH Tryz.func147 rfl rfl (by exact congrArg AV.str (hi.done (by omega))) (by rfl)


theorem digK_snoc (n k : Nat) : digK n (k + 1) = digK (n / 10) k ++ [UInt8.ofNat (48 + n % 10)] := by
  unfold digK
  rw [List.range_succ, List.map_append]
  congr 1
  · refine List.map_congr_left fun i hi => ?_
    have hi := List.mem_range.1 hi
    rw [show k + 1 - 1 - i = (k - 1 - i) + 1 by omega, Nat.pow_succ, Nat.mul_comm, ← Nat.div_div_eq_div_mul]
  · simp
theorem digK_zero : ∀ k, digK 0 k = List.replicate k 48
  | 0 => rfl
  | k + 1 => by
    rw [digK_snoc, Nat.zero_div, digK_zero k, List.replicate_succ']; rfl
/-- digits with as many zeros ahead as are lacking -/
theorem dec_pad : ∀ (k n : Nat), 1 ≤ k → n < 10 ^ k → (decD n).length ≤ k ∧ List.replicate (k - (decD n).length) 48 ++ decD n = digK n k
  | 0, n, h, _ => by omega
  | k + 1, n, _, h2 => by
    by_cases h : n < 10
    · rw [dec_small h, digK_snoc, show n / 10 = 0 by omega, digK_zero, show n % 10 = n by omega]
      exact ⟨by simp, by simp⟩
    · have hk : 1 ≤ k := by
        rcases Nat.eq_zero_or_pos k with h0 | h0
        · subst h0; simp at h2; omega
        · exact h0
      have ih := dec_pad k (n / 10) hk (by rw [Nat.pow_succ] at h2; omega)
      rw [dec_big h, digK_snoc, ← ih.2, List.length_append]
      refine ⟨by simp only [List.length_cons, List.length_nil]; omega, ?_⟩
      rw [show k + 1 - ((decD (n / 10)).length + [UInt8.ofNat (48 + n % 10)].length) = k - (decD (n / 10)).length by simp only [List.length_cons, List.length_nil]; omega, List.append_assoc]
def padI (n j : Nat) : List UInt8 := List.replicate j 48 ++ decD n
theorem padI_len (n j : Nat) : (padI n j).length = j + (decD n).length := by unfold padI; rw [List.length_append, List.length_replicate]
theorem padI_step (n j : Nat) : [48] ++ padI n j = padI n (j + 1) := by unfold padI; rw [List.replicate_succ]; rfl
theorem pad_done {n k j : Nat} (hk : 1 ≤ k) (hn : n < 10 ^ k) (hj : (padI n j).length = k) : padI n j = digK n k := by
  have h := (dec_pad k n hk hn).2
  rw [padI_len] at hj
  rw [← h, ← show j = k - (decD n).length by omega]; rfl
theorem DateOf.len {n y r m q : Nat} (h : DateOf n y r m q) : y < 10 ^ 4 ∧ m < 10 ^ 2 ∧ q + 1 < 10 ^ 2 := by
  have := h.y2; have := h.m2; have := h.l2; have := sizeN_bd y m
  simp only [show 10 ^ 4 = 10000 from rfl, show 10 ^ 2 = 100 from rfl]; omega

theorem wide_ok (n k : Nat) (hn : n < 10 ^ k) (hk1 : 1 ≤ k) (hk : k ≤ 8) : FnOK Tryz.prog 126 [.int .i64 n, .int .i64 k] [] (.str (digK n k)) [] := by
  refine FnOK.of_runs Tryz.func126 rfl (Nat.le_of_ble_eq_true rfl) ?_
  refine seq (reg [] [] rfl (by decide) ?_)
  refine seq ?_
  have hp := dec_pad k n hk1 hn
  have hn8 : n < 100000000 := Nat.lt_of_lt_of_le hn (Nat.pow_le_pow_right (n := 10) (by decide) hk)
  refine reg [(1, { res := .str (padI n 0) })] [0] rfl (by and_intros <;> first | exact ⟨⟩ | exact rtextN_ok n (by omega)) ?_
  refine seq (block ?_)
  -- loop 0
  refine loopF (σ := Nat) (fun j => (padI n j).length ≤ k) (fun j => [(1, .int .i64 k), (5, .str (padI n j))]) (fun _ => []) (fun j => k - (padI n j).length) (0) (by rw [padI_len]; omega) (by exact zag rfl) (by rfl) (fun j hj ih => ?_)
  replace hj : (padI n j).length ≤ k := hj
  refine seq (seq (reg [] [0, 2] rfl (by decide) ?_))
  refine condS rfl (fun g11 => ?_) (fun g11 => ?_)
  · try simp only [zg] at g11
    refine skip (block (reg [(1, { res := .str (padI n (j + 1)) })] [] rfl (by and_intros <;> first | exact ⟨⟩ | exact congrArg AV.str (padI_step n j) | (simp only [List.length_append, List.length_cons, List.length_nil]; omega)) ?_))
    refine inBlock ?_
    exact ih (j + 1) _ _ (by have := padI_len n j; have := padI_len n (j + 1); omega) (by have := padI_len n j; have := padI_len n (j + 1); omega) (by exact zag rfl) (by rfl)
  · try simp only [zg] at g11
    refine exit rfl (seq (reg [] [0] rfl (by decide) ?_))
    exact retH Tryz.func126 rfl rfl (by rw [pad_done hk1 hn (by omega)]) (by rfl)

theorem rciv_ok {n y r m q : Nat} (h : DateOf n y r m q) (t : Nat) (ht : t ≤ 253402300799) (hn : n = t / 86400) : FnOK Tryz.prog 125 [.int .i64 t] [] (.tup [.agg [.int .i64 y, .int .i64 m, .int .i64 (q + 1 : Nat), .int .i64 (t / 3600 % 24 : Nat), .int .i64 (t / 60 % 60 : Nat), .int .i64 (t % 60 : Nat)], .bool true]) [] := by
  refine FnOK.of_runs Tryz.func125 rfl (Nat.le_of_ble_eq_true rfl) ?_
  refine seq (reg [] [] rfl (by decide) ?_)
  refine seq (seq (region (restTo 3 [] [0, 3] rfl (by decide) ?_)))
  refine splitS 8 rfl (fun g8 => ?_) (fun g8 => ?_)
  · try simp only [zg] at g8
    exfalso; omega
  · try simp only [zg] at g8
    refine rest [] [0, 3] rfl (by decide) ?_
    refine condS rfl (fun g11 => ?_) (fun g11 => ?_)
    · try simp only [zg] at g11
      exfalso; first | omega | (cases g11; done) | cases g11
    · try simp only [zg] at g11
      refine skip (seq ?_)
      have y1 := h.y1; have y2 := h.y2; have e1 := h.e1; have l1 := h.l1; have m1 := h.m1; have m2 := h.m2; have e2 := h.e2; have l2 := h.l2; have yb := yearN_bd y; have sb := sizeN_bd y m; have hn2 : n ≤ 2932896 := by omega
      refine reg [(1, { res := .int .i64 (t / 3600 : Nat) }), (2, { res := .int .i64 (t / 3600 % 24 : Nat) }), (4, { res := .int .i64 (t / 60 : Nat) }), (5, { res := .int .i64 (t / 60 % 60 : Nat) }), (7, { res := .int .i64 (t % 60 : Nat) })] [0, 3, 6] rfl (by and_intros <;> first | exact zl rfl | decide | (refine congrArg (AV.int _) ?_; (try simp only [tdivN, tmodN]); (first | rw [i64_id (by omega) (by omega)] | skip); omega)) ?_
      refine seq ?_
      refine reg [(1, { res := .int .i64 (n : Nat) })] [0] rfl (by and_intros <;> first | decide | (refine congrArg (AV.int _) ?_; (try simp only [tdivN, tmodN]); (rw [i64_id (by omega) (by omega)]); omega)) ?_
      refine seq (block ?_)
      -- loop 0
      refine loopF (σ := Nat) (fun k => befN k ≤ n ∧ 1970 ≤ k ∧ k ≤ y) (fun k => [(0, .int .i64 t), (2, .ptr 0 0), (4, .ptr 1 0), (5, .int .i64 (((n : Int) - befN k).toNat : Nat))]) (fun k => [[.int .i64 0, .int .i64 0, .int .i64 0, .int .i64 0, .int .i64 0, .int .i64 0], [.int .i64 k, .int .i64 (1 : Nat), .int .i64 0, .int .i64 (t / 3600 % 24 : Nat), .int .i64 (t / 60 % 60 : Nat), .int .i64 (t % 60 : Nat)]]) (fun k => y - k) (1970) (by exact ⟨by rw [befN_70]; omega, by omega, h.y1⟩) (by exact agree_cons rfl (by rfl) (agree_cons rfl (by rfl) (agree_cons rfl (by rfl) (agree_cons rfl (by rw [befN_70]; rfl) (trivial))))) (by rfl) (fun k hi ih => ?_)
      replace hi : befN k ≤ n ∧ 1970 ≤ k ∧ k ≤ y := hi; have hi3 := hi.2.2; have hi2 := hi.2.1; have hi1 := hi.1
      refine seq (seq (reg [(3, { res := .int .i64 (yearN k) })] [0] rfl (by and_intros <;> first | exact ⟨⟩ | exact year_ok k (by omega)) ?_))
      refine condS rfl (fun g28 => ?_) (fun g28 => ?_)
      · try simp only [zg] at g28
        have bs := befN_step k (by omega); have yk := yearN_bd k
        refine skip (block (seq ?_))
        refine reg [(3, { res := .int .i64 (yearN k) }), (4, { res := .int .i64 (((n : Int) - befN (k + 1)).toNat : Nat) })] [] rfl (by have bs := befN_step k (by omega); have yk := yearN_bd k; have b0 := (befN_mono 1970 (by omega) k (by omega)).1; rw [befN_70] at b0; and_intros <;> first | exact ⟨⟩ | exact year_ok k (by omega) | (refine congrArg (AV.int _) ?_; (try simp only [tdivN, tmodN]); (rw [i64_id (by omega) (by omega)]); omega)) ?_
        refine reg [(2, { res := .int .i64 (k + 1 : Nat) })] [] rfl (by and_intros <;> first | exact ⟨⟩ | exact zl rfl | (refine congrArg (AV.int _) ?_; (try simp only [tdivN, tmodN]); (rw [i64_id (by omega) (by omega)]); omega)) ?_
        refine inBlock ?_
        exact ih (k + 1) _ _ (by exact ⟨by omega, by omega, h.le (by omega) (by omega)⟩) (by have := h.le (k := k + 1) (by omega) (by omega); omega) (by exact zag rfl) (by rfl)
      · try simp only [zg] at g28
        have bs := befN_step k (by omega); have hky : y = k := (h.yeq (by omega) hi.1 (by omega)).symm; subst hky
        refine exit rfl (seq (block ?_))
        -- loop 1
        refine loopF (σ := Nat) (fun k => 1 ≤ k ∧ k ≤ m ∧ monN y k ≤ r) (fun k => [(0, .int .i64 t), (2, .ptr 0 0), (4, .ptr 1 0), (5, .int .i64 (r - monN y k : Nat))]) (fun k => [[.int .i64 0, .int .i64 0, .int .i64 0, .int .i64 0, .int .i64 0, .int .i64 0], [.int .i64 y, .int .i64 k, .int .i64 0, .int .i64 (t / 3600 % 24 : Nat), .int .i64 (t / 60 % 60 : Nat), .int .i64 (t % 60 : Nat)]]) (fun k => m - k) (1) (by exact ⟨by omega, by omega, Nat.zero_le _⟩) (by exact agree_cons rfl (by rfl) (agree_cons rfl (by rfl) (agree_cons rfl (by rfl) (agree_cons rfl (by refine congrArg (AV.int _) ?_; simp only [monN]; omega) (trivial))))) (by rfl) (fun k hk ih => ?_)
        replace hk : 1 ≤ k ∧ k ≤ m ∧ monN y k ≤ r := hk; have hk1 := hk.1; have hk2 := hk.2.1; have hk3 := hk.2.2
        refine seq (seq (reg [(5, { res := .int .i64 (sizeN y k) })] [0] rfl (by and_intros <;> first | exact ⟨⟩ | exact rsize_ok y k (by omega) (by omega)) ?_))
        refine condS rfl (fun g44 => ?_) (fun g44 => ?_)
        · try simp only [zg] at g44
          refine skip (block (seq ?_))
          refine reg [(5, { res := .int .i64 (sizeN y k) }), (6, { res := .int .i64 (r - monN y (k + 1) : Nat) })] [] rfl (by have ms := monN_step y (m := k) (by omega); have sk := sizeN_bd y k; and_intros <;> first | exact ⟨⟩ | exact rsize_ok y k (by omega) (by omega) | (refine congrArg (AV.int _) ?_; (try simp only [tdivN, tmodN]); (rw [i64_id (by omega) (by omega)]); omega)) ?_
          refine reg [(2, { res := .int .i64 (k + 1 : Nat) })] [] rfl (by and_intros <;> first | exact ⟨⟩ | exact zl rfl | (refine congrArg (AV.int _) ?_; (try simp only [tdivN, tmodN]); (rw [i64_id (by omega) (by omega)]); omega)) ?_
          refine inBlock ?_
          exact ih (k + 1) _ _ (by have ms := monN_step y (m := k) (by omega); exact ⟨by omega, h.mle (by omega) (by omega), by omega⟩) (by have ms := monN_step y (m := k) (by omega); have := h.mle (k := k + 1) (by omega) (by omega); omega) (by exact zag rfl) (by rfl)
        · try simp only [zg] at g44
          have ms := monN_step y (m := k) hk.1; have hkm : m = k := (h.meq (by omega) hk.2.2 (by omega)).symm; subst hkm
          refine exit rfl (seq ?_)
          refine reg [(1, { res := .int .i64 (q + 1 : Nat) })] [0] rfl (by and_intros <;> first | decide | exact zl rfl | (refine congrArg (AV.int _) ?_; (try simp only [tdivN, tmodN]); (rw [i64_id (by omega) (by omega)]); omega)) ?_
          refine seq (reg [] [] rfl (by and_intros <;> first | exact ⟨⟩ | exact zl rfl) ?_)
          exact retD Tryz.func125 rfl rfl rfl (by rfl) (by rfl) rfl


theorem rbasic_ok {n y r m q : Nat} (h : DateOf n y r m q) (t : Nat) (ht : t ≤ 253402300799) (hn : n = t / 86400) : FnOK Tryz.prog 91 [.int .i64 t] [] (.str (basT y m q t)) [] := by
  refine FnOK.of_runs Tryz.func91 rfl (Nat.le_of_ble_eq_true rfl) ?_
  refine seq (reg [] [] rfl (by decide) ?_)
  refine seq ?_
  have y1 := h.y1; have y2 := h.y2; have m1 := h.m1; have m2 := h.m2; have l2 := h.l2; have sb := sizeN_bd y m; have hd := dayT_len y m q; have d1 := digK_len y 4; have d2 := digK_len m 2; have d3 := digK_len (q + 1) 2; have d4 := digK_len (t / 3600 % 24) 2; have d5 := digK_len (t / 60 % 60) 2; have d6 := digK_len (t % 60) 2; have hq := h.len
  refine reg [(1, { res := .tup [.agg [.int .i64 y, .int .i64 m, .int .i64 (q + 1 : Nat), .int .i64 (t / 3600 % 24 : Nat), .int .i64 (t / 60 % 60 : Nat), .int .i64 (t % 60 : Nat)], .bool true] })] [0] rfl (by and_intros <;> first | exact ⟨⟩ | exact rciv_ok h t ht hn | exact zl rfl) ?_
  refine seq (seq (reg [] [0] rfl (by decide) ?_))
  refine condF rfl (skip (seq (regD [(2, { res := .str (digK y 4) }), (5, { res := .str (digK m 2) }), (9, { res := .str (digK (q + 1) 2) }), (14, { res := .str (digK (t / 3600 % 24) 2) }), (18, { res := .str (digK (t / 60 % 60) 2) }), (22, { res := .str (digK (t % 60) 2) })] [] rfl rfl rfl (by (try simp only [List.length_append, List.length_cons, List.length_nil]); and_intros <;> first | exact ⟨⟩ | omega | exact wide_ok y 4 hq.1 (by omega) (by omega) | exact wide_ok m 2 hq.2.1 (by omega) (by omega) | exact wide_ok (q + 1) 2 hq.2.2 (by omega) (by omega) | exact wide_ok (t / 3600 % 24) 2 (by omega) (by omega) (by omega) | exact wide_ok (t / 60 % 60) 2 (by omega) (by omega) (by omega) | exact wide_ok (t % 60) 2 (by omega) (by omega) (by omega)) ?_)))
  refine drop 0 (Nat.zero_le _) rfl ?_
  exact retH Tryz.func91 rfl rfl (by unfold basT dayT; simp only [List.append_assoc]) (by rfl)

theorem rday_ok {n y r m q : Nat} (h : DateOf n y r m q) (t : Nat) (ht : t ≤ 253402300799) (hn : n = t / 86400) : FnOK Tryz.prog 46 [.int .i64 t] [] (.str (dayT y m q)) [] := by
  refine FnOK.of_runs Tryz.func46 rfl (Nat.le_of_ble_eq_true rfl) ?_
  refine seq (reg [] [] rfl (by decide) ?_)
  refine seq ?_
  have hbl := basT_len y m q t
  refine reg [(1, { res := .str (basT y m q t) })] [0] rfl (by and_intros <;> first | exact ⟨⟩ | exact rbasic_ok h t ht hn) ?_
  refine seq (seq (reg [] [0] rfl (by decide) ?_))
  refine condS rfl (fun g7 => ?_) (fun g7 => ?_)
  · try simp only [zg] at g7
    exfalso; rw [g7] at hbl; cases hbl
    skip
  · try simp only [zg] at g7
    refine skip (seq (reg [] [0] rfl (by and_intros <;> first | exact ⟨⟩ | omega) ?_))
    exact retH Tryz.func46 rfl rfl (by refine congrArg AV.str ?_; unfold basT; rw [List.append_assoc, List.append_assoc, List.append_assoc, List.append_assoc]; exact List.take_left' (dayT_len y m q)) (by rfl)

end Go.Proofs.YtnohmijdpmelpaaGreat
