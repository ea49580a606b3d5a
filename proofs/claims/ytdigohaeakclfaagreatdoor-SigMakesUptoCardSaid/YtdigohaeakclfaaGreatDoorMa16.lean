/- What Verify calls: digits and numbers read. What fits needs: a contract that reads lent blocks; pairs handed to a contract of the machine; the map of names. The abstract machine: is a slice nil? (It is told only that a nil one is empty.) Requests signed: what Header and Presign call. -/
import Derived.Test.YtdigohaeakclfaaGreatDoorMa15
import Derived.Test.YtdigohaeakclfaaGreatDoorMa07
import Derived.Test.YtdigohaeakclfaaGreatDoorMa13
import Derived.Maps.Own
import Derived.Maps.Views
import Derived.Lib.SliceRun
import Derived.Test.YtdigohaeakclfaaGreatDoorMa14
set_option maxRecDepth 100000
set_option linter.unusedVariables false
set_option linter.unusedSimpArgs false
namespace Go.Proofs.YtdigohaeakclfaaGreatDoor
open Go Go.Am Go.Am.Runs

def decD (n : Nat) : List UInt8 := if h : n < 10 then [UInt8.ofNat (48 + n)] else decD (n / 10) ++ [UInt8.ofNat (48 + n % 10)]
termination_by n
decreasing_by omega

theorem dec_small {m : Nat} (h : m < 10) : decD m = [UInt8.ofNat (48 + m)] := by rw [decD, dif_pos h]
theorem dec_big {m : Nat} (h : ¬ m < 10) : decD m = decD (m / 10) ++ [UInt8.ofNat (48 + m % 10)] := by rw [decD, dif_neg h]
theorem hxd_dec {d : Nat} (h : d < 10) : hxd d = UInt8.ofNat (48 + d) := by
  have : ∀ d : Fin 10, hxd d.val = UInt8.ofNat (48 + d.val) := by decide
  exact this ⟨d, h⟩
theorem dec_len : ∀ (m : Nat), m < 18446744073709551616 → (decD m).length ≤ 20 := by
  have key : ∀ k m : Nat, 1 ≤ k → m < 10 ^ k → (decD m).length ≤ k := by
    intro k
    induction k with
    | zero => intro m h1 h2; omega
    | succ k ih =>
      intro m h1 h2
      by_cases h : m < 10
      · rw [dec_small h]; simp
      · rw [dec_big h, List.length_append]
        have hk : 1 ≤ k := by
          rcases Nat.eq_zero_or_pos k with h0 | h0
          · subst h0; simp at h2; omega
          · exact h0
        have := ih (m / 10) hk (by rw [Nat.pow_succ] at h2; omega)
        simp only [List.length_cons, List.length_nil]; omega
  intro m h
  exact key 20 m (by decide) (Nat.lt_trans h (by decide))
structure TxI (n m : Nat) (out : List UInt8) : Prop where
  eq : decD m ++ out = decD n
  le : m ≤ n
theorem TxI.step {n m out} (h : TxI n m out) (hm : ¬ m < 10) : TxI n (m / 10) ([hxd (m % 10)] ++ out) := by
  refine ⟨?_, Nat.le_trans (Nat.div_le_self _ _) h.le⟩
  rw [← h.eq, dec_big hm, hxd_dec (Nat.mod_lt _ (by decide))]; simp
theorem TxI.done {n m out} (h : TxI n m out) (hm : m < 10) : [hxd m] ++ out = decD n := by
  rw [← h.eq, dec_small hm, hxd_dec hm]
theorem TxI.len {n m out} (h : TxI n m out) (hn : n < 18446744073709551616) : out.length ≤ 20 := by
  have := congrArg List.length h.eq
  have := dec_len n hn
  rw [List.length_append] at *; omega

theorem rtextN_ok (n : Nat) (h1 : n ≤ 9223372036854775807) : FnOK Tryz.prog 45 [.int .i64 n] [] (.str (decD n)) [] := by
  refine FnOK.of_runs Tryz.func45 rfl (Nat.le_of_ble_eq_true rfl) ?_
  refine seq (reg [] [] rfl (by decide) ?_)
  refine seq (seq (reg [] [0] rfl (by decide) ?_))
  refine condS rfl (fun g5 => ?_) (fun g5 => ?_)
  · try simp only [zg] at g5
    exfalso; omega
  · try simp only [zg] at g5
    refine skip (seq (reg [] [] rfl (by decide) ?_))
    refine seq (block ?_)
    -- loop 0
    refine loopF (σ := Nat × List UInt8) (fun p => TxI n p.1 p.2) (fun p => [(0, .int .i64 p.1), (3, .str p.2)]) (fun _ => []) (fun p => p.1) ((n, [])) (by exact ⟨by simp, Nat.le_refl _⟩) (by exact zag rfl) (by rfl) (fun ⟨m, out⟩ hi ih => ?_)
    replace hi : TxI n m out := hi; have hle := hi.le; have hln := hi.len (by omega); dsimp only
    refine seq (seq (reg [] [0] rfl (by decide) ?_))
    refine condS rfl (fun g15 => ?_) (fun g15 => ?_)
    · try simp only [zg] at g15
      refine skip (block (seq (reg [(1, { res := .int .i64 (m % 10 : Nat) }), (2, { res := .str [hxd (m % 10)] })] [0] rfl (by simp only [List.length_append, List.length_cons, List.length_nil]; and_intros <;> first | decide | rfl | exact rdigit_ok _ (by omega) | omega) ?_)))
      refine reg [(1, { res := .int .i64 (m / 10 : Nat) })] [] rfl (by and_intros <;> first | decide | (refine congrArg (AV.int _) ?_; rw [tdivN, i64_id (by omega) (by omega)]; rfl)) ?_
      refine inBlock ?_
      exact ih (m / 10, [hxd (m % 10)] ++ out) _ _ (by exact hi.step (by omega)) (by simp only; omega) (by exact zag rfl) (by rfl)
    · try simp only [zg] at g15
      refine exit rfl (seq (reg [(1, { res := .str [hxd m] })] [0, 2] rfl (by simp only [List.length_append, List.length_cons, List.length_nil]; and_intros <;> first | decide | exact rdigit_ok _ (by omega) | omega) ?_))
      exact retH Tryz.func45 rfl rfl (by exact congrArg AV.str (hi.done (by omega))) (by rfl)


theorem digK_snoc (n k : Nat) : digK n (k + 1) = digK (n / 10) k ++ [UInt8.ofNat (48 + n % 10)] := by
  unfold digK
  rw [List.range_succ, List.map_append]
  congr 1
  · refine List.map_congr_left fun i hi => ?_
    have hi := List.mem_range.1 hi
    rw [show k + 1 - 1 - i = (k - 1 - i) + 1 by omega, Nat.pow_succ, Nat.mul_comm, ← Nat.div_div_eq_div_mul]
  · simp
theorem digK_zero : ∀ k, digK 0 k = List.replicate k 48
  | 0 => rfl
  | k + 1 => by
    rw [digK_snoc, Nat.zero_div, digK_zero k, List.replicate_succ']; rfl
/-- digits with as many zeros ahead as are lacking -/
theorem dec_pad : ∀ (k n : Nat), 1 ≤ k → n < 10 ^ k → (decD n).length ≤ k ∧ List.replicate (k - (decD n).length) 48 ++ decD n = digK n k
  | 0, n, h, _ => by omega
  | k + 1, n, _, h2 => by
    by_cases h : n < 10
    · rw [dec_small h, digK_snoc, show n / 10 = 0 by omega, digK_zero, show n % 10 = n by omega]
      exact ⟨by simp, by simp⟩
    · have hk : 1 ≤ k := by
        rcases Nat.eq_zero_or_pos k with h0 | h0
        · subst h0; simp at h2; omega
        · exact h0
      have ih := dec_pad k (n / 10) hk (by rw [Nat.pow_succ] at h2; omega)
      rw [dec_big h, digK_snoc, ← ih.2, List.length_append]
      refine ⟨by simp only [List.length_cons, List.length_nil]; omega, ?_⟩
      rw [show k + 1 - ((decD (n / 10)).length + [UInt8.ofNat (48 + n % 10)].length) = k - (decD (n / 10)).length by simp only [List.length_cons, List.length_nil]; omega, List.append_assoc]
def padI (n j : Nat) : List UInt8 := List.replicate j 48 ++ decD n
theorem padI_len (n j : Nat) : (padI n j).length = j + (decD n).length := by unfold padI; rw [List.length_append, List.length_replicate]
theorem padI_step (n j : Nat) : [48] ++ padI n j = padI n (j + 1) := by unfold padI; rw [List.replicate_succ]; rfl
theorem pad_done {n k j : Nat} (hk : 1 ≤ k) (hn : n < 10 ^ k) (hj : (padI n j).length = k) : padI n j = digK n k := by
  have h := (dec_pad k n hk hn).2
  rw [padI_len] at hj
  rw [← h, ← show j = k - (decD n).length by omega]; rfl
theorem DateOf.len {n y r m q : Nat} (h : DateOf n y r m q) : y < 10 ^ 4 ∧ m < 10 ^ 2 ∧ q + 1 < 10 ^ 2 := by
  have := h.y2; have := h.m2; have := h.l2; have := sizeN_bd y m
  simp only [show 10 ^ 4 = 10000 from rfl, show 10 ^ 2 = 100 from rfl]; omega

theorem wide_ok (n k : Nat) (hn : n < 10 ^ k) (hk1 : 1 ≤ k) (hk : k ≤ 8) : FnOK Tryz.prog 54 [.int .i64 n, .int .i64 k] [] (.str (digK n k)) [] := by
  refine FnOK.of_runs Tryz.func54 rfl (Nat.le_of_ble_eq_true rfl) ?_
  refine seq (reg [] [] rfl (by decide) ?_)
  refine seq ?_
  have hp := dec_pad k n hk1 hn
  have hn8 : n < 100000000 := Nat.lt_of_lt_of_le hn (Nat.pow_le_pow_right (n := 10) (by decide) hk)
  refine reg [(1, { res := .str (padI n 0) })] [0] rfl (by and_intros <;> first | exact ⟨⟩ | exact rtextN_ok n (by omega)) ?_
  refine seq (block ?_)
  -- loop 0
  refine loopF (σ := Nat) (fun j => (padI n j).length ≤ k) (fun j => [(1, .int .i64 k), (5, .str (padI n j))]) (fun _ => []) (fun j => k - (padI n j).length) (0) (by rw [padI_len]; omega) (by exact zag rfl) (by rfl) (fun j hj ih => ?_)
  replace hj : (padI n j).length ≤ k := hj
  refine seq (seq (reg [] [0, 2] rfl (by decide) ?_))
  refine condS rfl (fun g11 => ?_) (fun g11 => ?_)
  · try simp only [zg] at g11
    refine skip (block (reg [(1, { res := .str (padI n (j + 1)) })] [] rfl (by and_intros <;> first | exact ⟨⟩ | exact congrArg AV.str (padI_step n j) | (simp only [List.length_append, List.length_cons, List.length_nil]; omega)) ?_))
    refine inBlock ?_
    exact ih (j + 1) _ _ (by have := padI_len n j; have := padI_len n (j + 1); omega) (by have := padI_len n j; have := padI_len n (j + 1); omega) (by exact zag rfl) (by rfl)
  · try simp only [zg] at g11
    refine exit rfl (seq (reg [] [0] rfl (by decide) ?_))
    exact retH Tryz.func54 rfl rfl (by rw [pad_done hk1 hn (by omega)]) (by rfl)

theorem rciv_ok {n y r m q : Nat} (h : DateOf n y r m q) (t : Nat) (ht : t ≤ 253402300799) (hn : n = t / 86400) : FnOK Tryz.prog 53 [.int .i64 t] [] (.tup [.agg [.int .i64 y, .int .i64 m, .int .i64 (q + 1 : Nat), .int .i64 (t / 3600 % 24 : Nat), .int .i64 (t / 60 % 60 : Nat), .int .i64 (t % 60 : Nat)], .bool true]) [] := by
  refine FnOK.of_runs Tryz.func53 rfl (Nat.le_of_ble_eq_true rfl) ?_
  refine seq (reg [] [] rfl (by decide) ?_)
  refine seq (seq (region (restTo 3 [] [0, 3] rfl (by decide) ?_)))
  refine splitS 8 rfl (fun g8 => ?_) (fun g8 => ?_)
  · try simp only [zg] at g8
    exfalso; omega
  · try simp only [zg] at g8
    refine rest [] [0, 3] rfl (by decide) ?_
    refine condS rfl (fun g11 => ?_) (fun g11 => ?_)
    · try simp only [zg] at g11
      exfalso; first | omega | (cases g11; done) | cases g11
    · try simp only [zg] at g11
      refine skip (seq ?_)
      have y1 := h.y1; have y2 := h.y2; have e1 := h.e1; have l1 := h.l1; have m1 := h.m1; have m2 := h.m2; have e2 := h.e2; have l2 := h.l2; have yb := yearN_bd y; have sb := sizeN_bd y m; have hn2 : n ≤ 2932896 := by omega
      refine reg [(1, { res := .int .i64 (t / 3600 : Nat) }), (2, { res := .int .i64 (t / 3600 % 24 : Nat) }), (4, { res := .int .i64 (t / 60 : Nat) }), (5, { res := .int .i64 (t / 60 % 60 : Nat) }), (7, { res := .int .i64 (t % 60 : Nat) })] [0, 3, 6] rfl (by and_intros <;> first | exact zl rfl | decide | (refine congrArg (AV.int _) ?_; (try simp only [tdivN, tmodN]); (first | rw [i64_id (by omega) (by omega)] | skip); omega)) ?_
      refine seq ?_
      refine reg [(1, { res := .int .i64 (n : Nat) })] [0] rfl (by and_intros <;> first | decide | (refine congrArg (AV.int _) ?_; (try simp only [tdivN, tmodN]); (rw [i64_id (by omega) (by omega)]); omega)) ?_
      refine seq (block ?_)
      -- loop 0
      refine loopF (σ := Nat) (fun k => befN k ≤ n ∧ 1970 ≤ k ∧ k ≤ y) (fun k => [(0, .int .i64 t), (2, .ptr 0 0), (4, .ptr 1 0), (5, .int .i64 (((n : Int) - befN k).toNat : Nat))]) (fun k => [[.int .i64 0, .int .i64 0, .int .i64 0, .int .i64 0, .int .i64 0, .int .i64 0], [.int .i64 k, .int .i64 (1 : Nat), .int .i64 0, .int .i64 (t / 3600 % 24 : Nat), .int .i64 (t / 60 % 60 : Nat), .int .i64 (t % 60 : Nat)]]) (fun k => y - k) (1970) (by exact ⟨by rw [befN_70]; omega, by omega, h.y1⟩) (by exact agree_cons rfl (by rfl) (agree_cons rfl (by rfl) (agree_cons rfl (by rfl) (agree_cons rfl (by rw [befN_70]; rfl) (trivial))))) (by rfl) (fun k hi ih => ?_)
      replace hi : befN k ≤ n ∧ 1970 ≤ k ∧ k ≤ y := hi; have hi3 := hi.2.2; have hi2 := hi.2.1; have hi1 := hi.1
      refine seq (seq (reg [(3, { res := .int .i64 (yearN k) })] [0] rfl (by and_intros <;> first | exact ⟨⟩ | exact year_ok k (by omega)) ?_))
      refine condS rfl (fun g28 => ?_) (fun g28 => ?_)
      · try simp only [zg] at g28
        have bs := befN_step k (by omega); have yk := yearN_bd k
        refine skip (block (seq ?_))
        refine reg [(3, { res := .int .i64 (yearN k) }), (4, { res := .int .i64 (((n : Int) - befN (k + 1)).toNat : Nat) })] [] rfl (by have bs := befN_step k (by omega); have yk := yearN_bd k; have b0 := (befN_mono 1970 (by omega) k (by omega)).1; rw [befN_70] at b0; and_intros <;> first | exact ⟨⟩ | exact year_ok k (by omega) | (refine congrArg (AV.int _) ?_; (try simp only [tdivN, tmodN]); (rw [i64_id (by omega) (by omega)]); omega)) ?_
        refine reg [(2, { res := .int .i64 (k + 1 : Nat) })] [] rfl (by and_intros <;> first | exact ⟨⟩ | exact zl rfl | (refine congrArg (AV.int _) ?_; (try simp only [tdivN, tmodN]); (rw [i64_id (by omega) (by omega)]); omega)) ?_
        refine inBlock ?_
        exact ih (k + 1) _ _ (by exact ⟨by omega, by omega, h.le (by omega) (by omega)⟩) (by have := h.le (k := k + 1) (by omega) (by omega); omega) (by exact zag rfl) (by rfl)
      · try simp only [zg] at g28
        have bs := befN_step k (by omega); have hky : y = k := (h.yeq (by omega) hi.1 (by omega)).symm; subst hky
        refine exit rfl (seq (block ?_))
        -- loop 1
        refine loopF (σ := Nat) (fun k => 1 ≤ k ∧ k ≤ m ∧ monN y k ≤ r) (fun k => [(0, .int .i64 t), (2, .ptr 0 0), (4, .ptr 1 0), (5, .int .i64 (r - monN y k : Nat))]) (fun k => [[.int .i64 0, .int .i64 0, .int .i64 0, .int .i64 0, .int .i64 0, .int .i64 0], [.int .i64 y, .int .i64 k, .int .i64 0, .int .i64 (t / 3600 % 24 : Nat), .int .i64 (t / 60 % 60 : Nat), .int .i64 (t % 60 : Nat)]]) (fun k => m - k) (1) (by exact ⟨by omega, by omega, Nat.zero_le _⟩) (by exact agree_cons rfl (by rfl) (agree_cons rfl (by rfl) (agree_cons rfl (by rfl) (agree_cons rfl (by refine congrArg (AV.int _) ?_; simp only [monN]; omega) (trivial))))) (by rfl) (fun k hk ih => ?_)
        replace hk : 1 ≤ k ∧ k ≤ m ∧ monN y k ≤ r := hk; have hk1 := hk.1; have hk2 := hk.2.1; have hk3 := hk.2.2
        refine seq (seq (reg [(5, { res := .int .i64 (sizeN y k) })] [0] rfl (by and_intros <;> first | exact ⟨⟩ | exact rsize_ok y k (by omega) (by omega)) ?_))
        refine condS rfl (fun g44 => ?_) (fun g44 => ?_)
        · try simp only [zg] at g44
          refine skip (block (seq ?_))
          refine reg [(5, { res := .int .i64 (sizeN y k) }), (6, { res := .int .i64 (r - monN y (k + 1) : Nat) })] [] rfl (by have ms := monN_step y (m := k) (by omega); have sk := sizeN_bd y k; and_intros <;> first | exact ⟨⟩ | exact rsize_ok y k (by omega) (by omega) | (refine congrArg (AV.int _) ?_; (try simp only [tdivN, tmodN]); (rw [i64_id (by omega) (by omega)]); omega)) ?_
          refine reg [(2, { res := .int .i64 (k + 1 : Nat) })] [] rfl (by and_intros <;> first | exact ⟨⟩ | exact zl rfl | (refine congrArg (AV.int _) ?_; (try simp only [tdivN, tmodN]); (rw [i64_id (by omega) (by omega)]); omega)) ?_
          refine inBlock ?_
          exact ih (k + 1) _ _ (by have ms := monN_step y (m := k) (by omega); exact ⟨by omega, h.mle (by omega) (by omega), by omega⟩) (by have ms := monN_step y (m := k) (by omega); have := h.mle (k := k + 1) (by omega) (by omega); omega) (by exact zag rfl) (by rfl)
        · try simp only [zg] at g44
          have ms := monN_step y (m := k) hk.1; have hkm : m = k := (h.meq (by omega) hk.2.2 (by omega)).symm; subst hkm
          refine exit rfl (seq ?_)
          refine reg [(1, { res := .int .i64 (q + 1 : Nat) })] [0] rfl (by and_intros <;> first | decide | exact zl rfl | (refine congrArg (AV.int _) ?_; (try simp only [tdivN, tmodN]); (rw [i64_id (by omega) (by omega)]); omega)) ?_
          refine seq (reg [] [] rfl (by and_intros <;> first | exact ⟨⟩ | exact zl rfl) ?_)
          exact retD Tryz.func53 rfl rfl rfl (by rfl) (by rfl) rfl


theorem rbasic_ok {n y r m q : Nat} (h : DateOf n y r m q) (t : Nat) (ht : t ≤ 253402300799) (hn : n = t / 86400) : FnOK Tryz.prog 16 [.int .i64 t] [] (.str (basT y m q t)) [] := by
  refine FnOK.of_runs Tryz.func16 rfl (Nat.le_of_ble_eq_true rfl) ?_
  refine seq (reg [] [] rfl (by decide) ?_)
  refine seq ?_
  have y1 := h.y1; have y2 := h.y2; have m1 := h.m1; have m2 := h.m2; have l2 := h.l2; have sb := sizeN_bd y m; have hd := dayT_len y m q; have d1 := digK_len y 4; have d2 := digK_len m 2; have d3 := digK_len (q + 1) 2; have d4 := digK_len (t / 3600 % 24) 2; have d5 := digK_len (t / 60 % 60) 2; have d6 := digK_len (t % 60) 2; have hq := h.len
  refine reg [(1, { res := .tup [.agg [.int .i64 y, .int .i64 m, .int .i64 (q + 1 : Nat), .int .i64 (t / 3600 % 24 : Nat), .int .i64 (t / 60 % 60 : Nat), .int .i64 (t % 60 : Nat)], .bool true] })] [0] rfl (by and_intros <;> first | exact ⟨⟩ | exact rciv_ok h t ht hn | exact zl rfl) ?_
  refine seq (seq (reg [] [0] rfl (by decide) ?_))
  refine condF rfl (skip (seq (regD [(2, { res := .str (digK y 4) }), (5, { res := .str (digK m 2) }), (9, { res := .str (digK (q + 1) 2) }), (14, { res := .str (digK (t / 3600 % 24) 2) }), (18, { res := .str (digK (t / 60 % 60) 2) }), (22, { res := .str (digK (t % 60) 2) })] [] rfl rfl rfl (by (try simp only [List.length_append, List.length_cons, List.length_nil]); and_intros <;> first | exact ⟨⟩ | omega | exact wide_ok y 4 hq.1 (by omega) (by omega) | exact wide_ok m 2 hq.2.1 (by omega) (by omega) | exact wide_ok (q + 1) 2 hq.2.2 (by omega) (by omega) | exact wide_ok (t / 3600 % 24) 2 (by omega) (by omega) (by omega) | exact wide_ok (t / 60 % 60) 2 (by omega) (by omega) (by omega) | exact wide_ok (t % 60) 2 (by omega) (by omega) (by omega)) ?_)))
  refine drop 0 (Nat.zero_le _) rfl ?_
  exact retH Tryz.func16 rfl rfl (by unfold basT dayT; simp only [List.append_assoc]) (by rfl)

theorem rday_ok {n y r m q : Nat} (h : DateOf n y r m q) (t : Nat) (ht : t ≤ 253402300799) (hn : n = t / 86400) : FnOK Tryz.prog 31 [.int .i64 t] [] (.str (dayT y m q)) [] := by
  refine FnOK.of_runs Tryz.func31 rfl (Nat.le_of_ble_eq_true rfl) ?_
  refine seq (reg [] [] rfl (by decide) ?_)
  refine seq ?_
  have hbl := basT_len y m q t
  refine reg [(1, { res := .str (basT y m q t) })] [0] rfl (by and_intros <;> first | exact ⟨⟩ | exact rbasic_ok h t ht hn) ?_
  refine seq (seq (reg [] [0] rfl (by decide) ?_))
  refine condS rfl (fun g7 => ?_) (fun g7 => ?_)
  · try simp only [zg] at g7
    exfalso; rw [g7] at hbl; cases hbl
    skip
  · try simp only [zg] at g7
    refine skip (seq (reg [] [0] rfl (by and_intros <;> first | exact ⟨⟩ | omega) ?_))
    exact retH Tryz.func31 rfl rfl (by refine congrArg AV.str ?_; unfold basT; rw [List.append_assoc, List.append_assoc, List.append_assoc, List.append_assoc]; exact List.take_left' (dayT_len y m q)) (by rfl)

end Go.Proofs.YtdigohaeakclfaaGreatDoor
set_option maxRecDepth 100000
set_option linter.unusedVariables false
set_option linter.unusedSimpArgs false
namespace Go.Proofs.YtdigohaeakclfaaGreatDoor
open Go Go.Am Go.Am.Runs

theorem sizeN_year (y : Nat) : monN y 13 = yearN y := by
  have e : ∀ k, monN y (k + 1 + 1) = monN y (k + 1) + sizeN y (k + 1) := fun k => rfl
  rw [e 11, e 10, e 9, e 8, e 7, e 6, e 5, e 4, e 3, e 2, e 1, e 0]
  unfold sizeN yearN
  by_cases h : leapN y = true <;> simp [h, monN]
/-- what a text's time is -/
structure TimeOf (t y m q n r : Nat) : Prop where
  date : DateOf n y r m q
  le : t ≤ 253402300799
  eq : n = t / 86400
end Go.Proofs.YtdigohaeakclfaaGreatDoor
set_option maxRecDepth 100000
set_option linter.unusedVariables false
set_option linter.unusedSimpArgs false
namespace Go.Proofs.YtdigohaeakclfaaGreatDoor
open Go Go.Am Go.Am.Runs

theorem cont_ok (s : List UInt8) (c : UInt8) : FnOK Tryz.prog 38 [.str s, .str [c]] [] (.bool (decide (0 ≤ Lib.indexByte s c))) [] := by
  refine FnOK.of_below rfl fun w G vs hl ha hw => ?_
  obtain ⟨v0, v1, rfl⟩ : ∃ v0 v1, vs = [v0, v1] := by
    match vs, hl with
    | [v0, v1], _ => exact ⟨v0, v1, rfl⟩
  have h0 := (ha 0 _ v0 rfl rfl).str_inv
  have h1 := (ha 1 _ v1 rfl rfl).str_inv
  subst h0; subst h1
  refine (Tryz.strings_Contains_one ⟨s.toArray⟩ c w).mono ?_
  rintro e w' ⟨rfl, rfl⟩
  exact ⟨_, rfl, fun G w => .bool .., RowKit.Below.refl _ _⟩
/-- what stands behind a part's beginning -/
def cutV (b p : List UInt8) : Option (List UInt8) := if (cutpL (trimL p) b).2 = true then some (cutpL (trimL p) b).1 else none
def fldN (l : List (List UInt8)) (b : List UInt8) : List (List UInt8) := l.filterMap (cutV b)
def fldO (l : List (List UInt8)) (b : List UInt8) : Option (List UInt8) := if (fldN l b).length = 1 then some ((fldN l b).getD 0 []) else none
theorem aN_head {l : List Hd} {name : List UInt8} {i : Nat} (hi : i < l.length) (h0 : aN l name i = []) (h : (l.getD i ([], [])).1 = name) : ∀ k, i < k → ∃ r, aN l name k = (l.getD i ([], [])).2 :: r
  | 0, hk => by omega
  | k + 1, hk => by
    by_cases e : i = k
    · subst e
      unfold aN
      rw [if_pos h, h0]; exact ⟨[], rfl⟩
    · obtain ⟨r, hr⟩ := aN_head hi h0 h k (by omega)
      unfold aN
      split
      · rw [hr]; exact ⟨r ++ [(l.getD k ([], [])).2], rfl⟩
      · exact ⟨r, hr⟩
theorem get1_hit {l : List Hd} {name : List UInt8} {i : Nat} (hi : i < l.length) (h0 : aN l name i = []) (h : (l.getD i ([], [])).1 = name) : AV.tup [.str ((allL l name).getD 0 []), .bool (decide (allL l name ≠ []))] = .tup [.str (l.getD i ([], [])).2, .bool true] := by
  obtain ⟨r, hr⟩ := aN_head hi h0 h l.length hi
  unfold allL
  rw [hr]; simp

theorem get1_ok (l : List Hd) (name : List UInt8) (hl : l.length ≤ 16777216) : FnOK Tryz.prog 55 [.sl 2 l.length (hdEl l) false, .str name] [] (.tup [.str ((allL l name).getD 0 []), .bool (decide (allL l name ≠ []))]) [] := by
  refine FnOK.of_runs Tryz.func55 rfl (Nat.le_of_ble_eq_true rfl) ?_
  refine seq (reg [] [] rfl (by decide) ?_)
  refine seq (seq (reg [] [0] rfl (by decide) ?_))
  refine block ?_
  -- loop 0
  refine loopF (σ := Nat) (fun i => i ≤ l.length ∧ aN l name i = []) (fun i => [(1, .str name), (8, .sl 2 l.length (hdEl l) false), (9, .int .i64 l.length), (10, .int .i64 i)]) (fun _ => []) (fun i => l.length - i) (0) (by exact ⟨Nat.zero_le _, rfl⟩) (by exact zag rfl) (by rfl) (fun i hi ih => ?_)
  replace hi : i ≤ l.length ∧ aN l name i = [] := hi; have hi1 := hi.1
  refine seq (reg [] [] rfl (by decide) ?_)
  refine seq ?_
  refine condS rfl (fun g11 => ?_) (fun g11 => ?_)
  · try simp only [zg] at g11
    refine skip (seq (block (seq (reg [] [] rfl (by and_intros <;> first | omega | exact zl rfl | exact ⟨⟩) ?_))))
    refine seq (reg [] [2] rfl (by decide) ?_)
    refine condS rfl (fun g17 => ?_) (fun g17 => ?_)
    · try simp only [zg] at g17
      refine seq (reg [] [] rfl (by decide) ?_)
      refine drop 0 (Nat.zero_le _) rfl ?_
      exact retH Tryz.func55 rfl rfl (by rw [get1_hit (show i < l.length by omega) hi.2 g17]; rfl) (by rfl)
    · try simp only [zg] at g17
      refine skip (inBlock (reg [] [] rfl (by decide) ?_))
      refine drop 0 (Nat.le_of_ble_eq_true rfl) rfl ?_
      exact ih (i + 1) _ _ (by exact ⟨by omega, by unfold aN; exact (if_neg g17).trans hi.2⟩) (by omega) (by exact agree_cons rfl (by rfl) (agree_cons rfl (by first | rfl | (refine congrArg (AV.int _) ?_; simp only [wrap_i64', tdivN, tmodN]; omega) | skip) (agree_cons rfl (by first | rfl | (refine congrArg (AV.int _) ?_; simp only [wrap_i64', tdivN, tmodN]; omega) | skip) (agree_cons rfl (by first | rfl | (refine congrArg (AV.int _) ?_; simp only [wrap_i64', tdivN, tmodN]; omega) | skip) (trivial))))) (by rfl)
  · try simp only [zg] at g11
    refine exit rfl (seq (reg [] [] rfl (by decide) ?_))
    exact retH Tryz.func55 rfl rfl (by have h := hi.2; rw [show i = l.length by omega] at h; rw [show allL l name = [] from h]; rfl) (by rfl)

end Go.Proofs.YtdigohaeakclfaaGreatDoor
set_option maxRecDepth 100000
set_option linter.unusedVariables false
set_option linter.unusedSimpArgs false
namespace Go.Proofs.YtdigohaeakclfaaGreatDoor
open Go Go.Am Go.Am.Runs

abbrev algoS : List UInt8 := [65, 87, 83, 52, 45, 72, 77, 65, 67, 45, 83, 72, 65, 50, 53, 54, 32]
abbrev algoN : List UInt8 := [65, 87, 83, 52, 45, 72, 77, 65, 67, 45, 83, 72, 65, 50, 53, 54]
abbrev credB : List UInt8 := [67, 114, 101, 100, 101, 110, 116, 105, 97, 108, 61]
abbrev sgB : List UInt8 := [83, 105, 103, 110, 101, 100, 72, 101, 97, 100, 101, 114, 115, 61]
abbrev sigB : List UInt8 := [83, 105, 103, 110, 97, 116, 117, 114, 101, 61]
abbrev authN : List UInt8 := [97, 117, 116, 104, 111, 114, 105, 122, 97, 116, 105, 111, 110]
abbrev xdateN : List UInt8 := [120, 45, 97, 109, 122, 45, 100, 97, 116, 101]
abbrev xshaN : List UInt8 := [120, 45, 97, 109, 122, 45, 99, 111, 110, 116, 101, 110, 116, 45, 115, 104, 97, 50, 53, 54]
abbrev hostN : List UInt8 := [104, 111, 115, 116]
abbrev amzN : List UInt8 := [120, 45, 97, 109, 122, 45]
abbrev unsP : List UInt8 := [85, 78, 83, 73, 71, 78, 69, 68, 45, 80, 65, 89, 76, 79, 65, 68]
abbrev scopeS : List UInt8 := [47, 117, 115, 45, 101, 97, 115, 116, 45, 49, 47, 115, 51, 47, 97, 119, 115, 52, 95, 114, 101, 113, 117, 101, 115, 116]
abbrev usE : List UInt8 := [117, 115, 45, 101, 97, 115, 116, 45, 49]
abbrev s3E : List UInt8 := [115, 51]
/-- what a request says of who asks -/
structure Cl where
  cred : List UInt8
  sg : List UInt8
  sig : List UInt8
  date : List UInt8
  exp : Nat
  q : Bool
def hdrL (v : List UInt8) : List (List UInt8) := splitL (cutpL v algoS).1 44
def HdrOK (v : List UInt8) : Prop := (cutpL v algoS).2 = true ∧ (fldO (hdrL v) credB).isSome = true ∧ (fldO (hdrL v) sgB).isSome = true ∧ (fldO (hdrL v) sigB).isSome = true ∧ (hdrL v).length = 3 ∧ digsL ((fldO (hdrL v) sigB).getD []) = true
instance (v : List UInt8) : Decidable (HdrOK v) := by unfold HdrOK; exact inferInstance
abbrev hC (v : List UInt8) : List UInt8 := (fldO (hdrL v) credB).getD []
abbrev hS (v : List UInt8) : List UInt8 := (fldO (hdrL v) sgB).getD []
abbrev hG (v : List UInt8) : List UInt8 := (fldO (hdrL v) sigB).getD []
end Go.Proofs.YtdigohaeakclfaaGreatDoor
set_option maxRecDepth 100000
set_option linter.unusedVariables false
set_option linter.unusedSimpArgs false
namespace Go.Proofs.YtdigohaeakclfaaGreatDoor
open Go Go.Am Go.Am.Runs

abbrev qNm : List (List UInt8) := [[88, 45, 65, 109, 122, 45, 65, 108, 103, 111, 114, 105, 116, 104, 109], [88, 45, 65, 109, 122, 45, 67, 114, 101, 100, 101, 110, 116, 105, 97, 108], [88, 45, 65, 109, 122, 45, 68, 97, 116, 101], [88, 45, 65, 109, 122, 45, 69, 120, 112, 105, 114, 101, 115], [88, 45, 65, 109, 122, 45, 83, 105, 103, 110, 101, 100, 72, 101, 97, 100, 101, 114, 115], [88, 45, 65, 109, 122, 45, 83, 105, 103, 110, 97, 116, 117, 114, 101]]
abbrev nmA : AV := .agg [.str [88, 45, 65, 109, 122, 45, 65, 108, 103, 111, 114, 105, 116, 104, 109], .str [88, 45, 65, 109, 122, 45, 67, 114, 101, 100, 101, 110, 116, 105, 97, 108], .str [88, 45, 65, 109, 122, 45, 68, 97, 116, 101], .str [88, 45, 65, 109, 122, 45, 69, 120, 112, 105, 114, 101, 115], .str [88, 45, 65, 109, 122, 45, 83, 105, 103, 110, 101, 100, 72, 101, 97, 100, 101, 114, 115], .str [88, 45, 65, 109, 122, 45, 83, 105, 103, 110, 97, 116, 117, 114, 101]]
def rawQ (q : List Hd) (i : Nat) : List UInt8 := (allL q (qNm.getD i [])).getD 0 []
def uQ (q : List Hd) (i : Nat) : Option (List UInt8) := unescL (rawQ q i)
def vQ (q : List Hd) (i : Nat) : List UInt8 := (uQ q i).getD []
def QOne (q : List Hd) : Prop := ∀ i, i < 6 → (allL q (qNm.getD i [])).length = 1
def QUn (q : List Hd) : Prop := ∀ i, i < 6 → (uQ q i).isSome = true
def QFit (q : List Hd) : Prop := vQ q 0 = algoN ∧ (intF (vQ q 3)).isSome = true ∧ 1 ≤ (intF (vQ q 3)).getD 0 ∧ (intF (vQ q 3)).getD 0 ≤ 604800 ∧ digsL (vQ q 5) = true
instance (q : List Hd) : Decidable (QOne q) := by unfold QOne; exact inferInstance
instance (q : List Hd) : Decidable (QUn q) := by unfold QUn; exact inferInstance
instance (q : List Hd) : Decidable (QFit q) := by unfold QFit; exact inferInstance
theorem names_ok : FnOK Tryz.prog 36 [] [] nmA [] := by
  refine FnOK.of_runs Tryz.func36 rfl (Nat.le_of_ble_eq_true rfl) ?_
  refine seq (reg [] [] rfl (by decide) ?_)
  refine seq (reg [] [] rfl (by and_intros <;> decide) ?_)
  exact retD Tryz.func36 rfl rfl rfl (by rfl) (by rfl) rfl

end Go.Proofs.YtdigohaeakclfaaGreatDoor
set_option maxRecDepth 100000
set_option linter.unusedVariables false
set_option linter.unusedSimpArgs false
namespace Go.Proofs.YtdigohaeakclfaaGreatDoor
open Go Go.Am Go.Am.Runs

/-- bounds on a request -/
structure RB (t : List UInt8) (hd : List Hd) : Prop where
  lt : t.length ≤ 2097152
  lh : hd.length ≤ 4194304
  lv : ∀ p ∈ hd, p.1.length ≤ 4194304 ∧ p.2.length ≤ 4194304
theorem RB.q {t hd} (b : RB t hd) : (queryQ t).length ≤ 16777216 ∧ ∀ p ∈ queryQ t, p.1.length ≤ 8388608 ∧ p.2.length ≤ 8388608 := by
  have h1 := queryQ_len t
  have h2 := query_part t
  have := b.lt
  exact ⟨by omega, fun p hp => by have := h2 p hp; omega⟩
end Go.Proofs.YtdigohaeakclfaaGreatDoor
set_option maxRecDepth 100000
set_option linter.unusedVariables false
set_option linter.unusedSimpArgs false
namespace Go.Proofs.YtdigohaeakclfaaGreatDoor
open Go Go.Am
abbrev credP : List UInt8 := [67, 114, 101, 100, 101, 110, 116, 105, 97, 108]
abbrev sgP : List UInt8 := [83, 105, 103, 110, 101, 100, 72, 101, 97, 100, 101, 114, 115]
abbrev sigP : List UInt8 := [83, 105, 103, 110, 97, 116, 117, 114, 101]
theorem begL_iff {s p : List UInt8} : begL s p = true ↔ ∃ r, s = p ++ r := by
  unfold begL
  rw [Bool.and_eq_true, decide_eq_true_eq, beq_iff_eq]
  constructor
  · rintro ⟨_, h⟩
    exact ⟨s.drop p.length, by conv => lhs; rw [← List.take_append_drop p.length s, h]⟩
  · rintro ⟨r, rfl⟩
    exact ⟨by simp, by simp⟩
/-- a text cut at '=' where its beginning has none -/
theorem cut_at (p r : List UInt8) (hp : ¬ (61 : UInt8) ∈ p) : cutF (p ++ [61] ++ r) 61 = (p, r, true) := by
  have h0 : 0 ≤ Lib.indexByte (p ++ [61] ++ r) 61 := by
    rcases Int.lt_or_le (Lib.indexByte (p ++ [61] ++ r) 61) 0 with h | h
    · have h1 := Lib.indexByte_ge (p ++ [61] ++ r) 61
      have h2 := Lib.indexByte_none (show Lib.indexByte (p ++ [61] ++ r) 61 = -1 by omega) p.length
      exfalso; apply h2; simp
    · exact h
  obtain ⟨i, hi⟩ := Int.eq_ofNat_of_zero_le h0
  obtain ⟨h1, h2⟩ := Lib.indexByte_some hi
  have hip : i = p.length := by
    rcases Nat.lt_trichotomy i p.length with h | h | h
    · exfalso
      rw [List.append_assoc, List.getElem?_append_left h] at h1
      exact hp (List.mem_of_getElem? h1)
    · exact h
    · exfalso
      apply h2 p.length h
      simp
  rw [(cut_some hi).1, hip]
  simp
theorem cut_join {x : List UInt8} (h : (cutF x 61).2.2 = true) : x = (cutF x 61).1 ++ [61] ++ (cutF x 61).2.1 := by
  by_cases h0 : 0 ≤ Lib.indexByte x 61
  · obtain ⟨i, hi⟩ := Int.eq_ofNat_of_zero_le h0
    have h1 := (Lib.indexByte_some hi).1
    have h2 := cut_some hi
    rw [h2.1]
    simp only
    have := List.getElem_of_getElem? h1
    obtain ⟨h3, h4⟩ := this
    conv => lhs; rw [← List.take_append_drop i x, List.drop_eq_getElem_cons h3, h4]
    simp
  · rw [cut_none h0] at h; cases h
/-- a part that begins with a name and '=' -/
theorem cutV_iff {x p : List UInt8} (hp : ¬ (61 : UInt8) ∈ p) (v : List UInt8) : cutV (p ++ [61]) x = some v ↔ (cutF (trimL x) 61).2.2 = true ∧ (cutF (trimL x) 61).1 = p ∧ (cutF (trimL x) 61).2.1 = v := by
  constructor
  · intro h
    unfold cutV at h
    split at h
    · rename_i h1
      have h2 : begL (trimL x) (p ++ [61]) = true := by
        unfold cutpL at h1
        split at h1
        · assumption
        · cases h1
      rw [cutp_t h2] at h
      obtain ⟨r, hr⟩ := begL_iff.1 h2
      rw [hr] at h ⊢
      rw [cut_at p r hp]
      simp at h
      exact ⟨rfl, rfl, h⟩
    · cases h
  · rintro ⟨h1, h2, h3⟩
    have h4 := cut_join h1
    rw [h2, h3] at h4
    have h5 : begL (trimL x) (p ++ [61]) = true := begL_iff.2 ⟨v, h4⟩
    unfold cutV
    rw [cutp_t h5, if_pos rfl]
    conv => lhs; rw [h4]
    simp
theorem cutV_no {x p : List UInt8} (hp : ¬ (61 : UInt8) ∈ p) (h : ¬ ((cutF (trimL x) 61).2.2 = true ∧ (cutF (trimL x) 61).1 = p)) : cutV (p ++ [61]) x = none := by
  cases e : cutV (p ++ [61]) x with
  | none => rfl
  | some v => have := (cutV_iff hp v).1 e; exact absurd ⟨this.1, this.2.1⟩ h
theorem nC : ¬ (61 : UInt8) ∈ credP := by decide
theorem nS : ¬ (61 : UInt8) ∈ sgP := by decide
theorem nG : ¬ (61 : UInt8) ∈ sigP := by decide
/-- so many parts are of a kind -/
def cnt3 (l : List (List UInt8)) : Nat := (fldN l credB).length + (fldN l sgB).length + (fldN l sigB).length
theorem fldN_app (l m : List (List UInt8)) (b : List UInt8) : fldN (l ++ m) b = fldN l b ++ fldN m b := by unfold fldN; exact List.filterMap_append
theorem fldN_cons (x : List UInt8) (l : List (List UInt8)) (b : List UInt8) : fldN (x :: l) b = (cutV b x).toList ++ fldN l b := by
  unfold fldN
  rw [List.filterMap_cons]
  cases cutV b x <;> rfl
theorem cnt3_app (l m : List (List UInt8)) : cnt3 (l ++ m) = cnt3 l + cnt3 m := by
  unfold cnt3; rw [fldN_app, fldN_app, fldN_app]; simp only [List.length_append]; omega
/-- one part -/
theorem cnt3_one (x : List UInt8) : cnt3 [x] ≤ 1 := by
  unfold cnt3
  rw [fldN_cons, fldN_cons, fldN_cons]
  simp only [fldN, List.filterMap_nil, List.append_nil]
  have d1 : ∀ v, cutV credB x = some v → cutV sgB x = none ∧ cutV sigB x = none := fun v h => by
    have h1 := (cutV_iff nC v).1 h
    exact ⟨cutV_no nS (fun h2 => by rw [h1.2.1] at h2; exact absurd h2.2 (by decide)), cutV_no nG (fun h2 => by rw [h1.2.1] at h2; exact absurd h2.2 (by decide))⟩
  have d2 : ∀ v, cutV sgB x = some v → cutV sigB x = none := fun v h => by
    have h1 := (cutV_iff nS v).1 h
    exact cutV_no nG (fun h2 => by rw [h1.2.1] at h2; exact absurd h2.2 (by decide))
  cases e1 : cutV credB x with
  | some v => rw [(d1 v e1).1, (d1 v e1).2]; simp
  | none =>
    cases e2 : cutV sgB x with
    | some v => rw [d2 v e2]; simp
    | none => cases cutV sigB x <;> simp
theorem cnt3_le : ∀ l, cnt3 l ≤ l.length
  | [] => by simp [cnt3, fldN]
  | x :: l => by
    have h1 := cnt3_one x
    have h2 := cnt3_le l
    have h3 := cnt3_app [x] l
    simp only [List.singleton_append] at h3
    rw [h3, List.length_cons]; omega
/-- what has been read of a header's parts -/
structure HdI (l : List (List UInt8)) (i : Nat) (c s g : Option (List UInt8)) : Prop where
  le : i ≤ l.length
  ec : fldN (l.take i) credB = c.toList
  es : fldN (l.take i) sgB = s.toList
  eg : fldN (l.take i) sigB = g.toList
  n : c.toList.length + s.toList.length + g.toList.length = i
theorem HdI.start (l : List (List UInt8)) : HdI l 0 none none none := ⟨Nat.zero_le _, rfl, rfl, rfl, rfl⟩
theorem fldN_snoc {l : List (List UInt8)} {i : Nat} (hi : i < l.length) (b : List UInt8) : fldN (l.take (i + 1)) b = fldN (l.take i) b ++ (cutV b (l.getD i [])).toList := by
  rw [take_snoc [] hi, fldN_app, fldN_cons]
  simp [fldN]
abbrev ptF (l : List (List UInt8)) (i : Nat) : List UInt8 × List UInt8 × Bool := cutF (trimL (l.getD i [])) 61
theorem HdI.stepG {l i c s} (h : HdI l i c s none) (hi : i < l.length) (h1 : (ptF l i).2.2 = true) (h2 : (ptF l i).1 = sigP) : HdI l (i + 1) c s (some (ptF l i).2.1) := by
  have e1 := (cutV_iff nG _).2 ⟨h1, h2, rfl⟩
  have e2 : cutV credB (l.getD i []) = none := cutV_no nC (fun h3 => by have := h2.symm.trans h3.2; exact absurd this (by decide))
  have e3 : cutV sgB (l.getD i []) = none := cutV_no nS (fun h3 => by have := h2.symm.trans h3.2; exact absurd this (by decide))
  refine ⟨hi, ?_, ?_, ?_, ?_⟩
  · rw [fldN_snoc hi, h.ec, e2]; simp
  · rw [fldN_snoc hi, h.es, e3]; simp
  · rw [fldN_snoc hi, h.eg]; exact congrArg (fun o => [] ++ Option.toList o) e1
  · have := h.n; simp at this ⊢; omega
theorem fldO_one {l : List (List UInt8)} {b : List UInt8} (h : (fldO l b).isSome = true) : (fldN l b).length = 1 := by
  unfold fldO at h
  split at h
  · assumption
  · cases h
theorem HdrOK.cnt {v : List UInt8} (h : HdrOK v) : cnt3 (hdrL v) = (hdrL v).length ∧ (fldN (hdrL v) credB).length = 1 ∧ (fldN (hdrL v) sgB).length = 1 ∧ (fldN (hdrL v) sigB).length = 1 := by
  obtain ⟨_, h1, h2, h3, h4, _⟩ := h
  have k1 := fldO_one h1; have k2 := fldO_one h2; have k3 := fldO_one h3
  exact ⟨by unfold cnt3; omega, k1, k2, k3⟩
theorem split_at {α : Type} {l : List α} {i : Nat} (d : α) (hi : i < l.length) : l = l.take i ++ ([l.getD i d] ++ l.drop (i + 1)) := by
  conv => lhs; rw [← List.take_append_drop i l, List.drop_eq_getElem_cons hi]
  rw [List.getD_eq_getElem?_getD, List.getElem?_eq_getElem hi]; rfl
theorem HdI.none_bad {v : List UInt8} {i : Nat} {c s g} (h : HdI (hdrL v) i c s g) (hi : i < (hdrL v).length) (hn : cnt3 [(hdrL v).getD i []] = 0) : ¬ HdrOK v := fun hk => by
  have h1 := hk.cnt.1
  have h2 := split_at [] hi
  have h3 := cnt3_le ((hdrL v).drop (i + 1))
  rw [List.length_drop] at h3
  have h4 : cnt3 ((hdrL v).take i) = i := by unfold cnt3; rw [h.ec, h.es, h.eg]; exact h.n
  have h5 : cnt3 (hdrL v) = i + (0 + cnt3 ((hdrL v).drop (i + 1))) := by conv => lhs; rw [h2, cnt3_app, cnt3_app, hn, h4]
  omega
theorem HdI.dup_bad {v : List UInt8} {i : Nat} {b w u : List UInt8} (hi : i < (hdrL v).length) (h1 : fldN ((hdrL v).take i) b = [w]) (h2 : cutV b ((hdrL v).getD i []) = some u) (hk : (fldN (hdrL v) b).length = 1) : False := by
  have h3 := split_at [] hi
  have : fldN (hdrL v) b = [w] ++ ([u] ++ fldN ((hdrL v).drop (i + 1)) b) := by
    conv => lhs; rw [h3, fldN_app, fldN_app, h1, fldN_cons, h2]
    simp [fldN]
  rw [this] at hk; simp at hk
theorem cnt3_zero {x : List UInt8} (h : ¬ ((cutF (trimL x) 61).2.2 = true ∧ ((cutF (trimL x) 61).1 = credP ∨ (cutF (trimL x) 61).1 = sgP ∨ (cutF (trimL x) 61).1 = sigP))) : cnt3 [x] = 0 := by
  have e1 : cutV credB x = none := cutV_no nC (fun k => h ⟨k.1, .inl k.2⟩)
  have e2 : cutV sgB x = none := cutV_no nS (fun k => h ⟨k.1, .inr (.inl k.2)⟩)
  have e3 : cutV sigB x = none := cutV_no nG (fun k => h ⟨k.1, .inr (.inr k.2)⟩)
  unfold cnt3
  rw [fldN_cons, fldN_cons, fldN_cons, e1, e2, e3]
  rfl
/-- what is read of a part, or that it is wrong -/
inductive PtI (l : List (List UInt8)) (i : Nat) (c s g : Option (List UInt8)) : Prop
  | C (h1 : (ptF l i).2.2 = true) (h2 : (ptF l i).1 = credP) (h3 : c = none)
  | S (h1 : (ptF l i).2.2 = true) (h2 : (ptF l i).1 = sgP) (h3 : s = none)
  | G (h1 : (ptF l i).2.2 = true) (h2 : (ptF l i).1 = sigP) (h3 : g = none)
  | B0 (h1 : (ptF l i).2.2 = false)
  | B1 (h1 : (ptF l i).2.2 = true) (h2 : (ptF l i).1 = credP) (u : List UInt8) (h3 : c = some u)
  | B2 (h1 : (ptF l i).2.2 = true) (h2 : (ptF l i).1 = sgP) (u : List UInt8) (h3 : s = some u)
  | B3 (h1 : (ptF l i).2.2 = true) (h2 : (ptF l i).1 = sigP) (u : List UInt8) (h3 : g = some u)
  | B4 (h1 : (ptF l i).2.2 = true) (h2 : (ptF l i).1 ≠ credP) (h3 : (ptF l i).1 ≠ sgP) (h4 : (ptF l i).1 ≠ sigP)
theorem PtI.all (l : List (List UInt8)) (i : Nat) (c s g : Option (List UInt8)) : PtI l i c s g := by
  cases e : (ptF l i).2.2 with
  | false => exact .B0 e
  | true =>
    by_cases h1 : (ptF l i).1 = credP
    · cases c with
      | none => exact .C e h1 rfl
      | some u => exact .B1 e h1 u rfl
    · by_cases h2 : (ptF l i).1 = sgP
      · cases s with
        | none => exact .S e h2 rfl
        | some u => exact .B2 e h2 u rfl
      · by_cases h3 : (ptF l i).1 = sigP
        · cases g with
          | none => exact .G e h3 rfl
          | some u => exact .B3 e h3 u rfl
        · exact .B4 e h1 h2 h3
theorem HdI.b0 {v : List UInt8} {i : Nat} {c s g} (h : HdI (hdrL v) i c s g) (hi : i < (hdrL v).length) (h1 : (ptF (hdrL v) i).2.2 = false) : ¬ HdrOK v := h.none_bad hi (cnt3_zero fun k => by rw [show (cutF (trimL ((hdrL v).getD i [])) 61).2.2 = false from h1] at k; cases k.1)
theorem HdI.b4 {v : List UInt8} {i : Nat} {c s g} (h : HdI (hdrL v) i c s g) (hi : i < (hdrL v).length) (h2 : (ptF (hdrL v) i).1 ≠ credP) (h3 : (ptF (hdrL v) i).1 ≠ sgP) (h4 : (ptF (hdrL v) i).1 ≠ sigP) : ¬ HdrOK v := h.none_bad hi (cnt3_zero fun k => by rcases k.2 with k | k | k; exact h2 k; exact h3 k; exact h4 k)
theorem HdI.b1 {v : List UInt8} {i : Nat} {s g} {u : List UInt8} (h : HdI (hdrL v) i (some u) s g) (hi : i < (hdrL v).length) (h1 : (ptF (hdrL v) i).2.2 = true) (h2 : (ptF (hdrL v) i).1 = credP) : ¬ HdrOK v := fun hk => HdI.dup_bad hi h.ec ((cutV_iff nC _).2 ⟨h1, h2, rfl⟩) hk.cnt.2.1
theorem HdI.b2 {v : List UInt8} {i : Nat} {c g} {u : List UInt8} (h : HdI (hdrL v) i c (some u) g) (hi : i < (hdrL v).length) (h1 : (ptF (hdrL v) i).2.2 = true) (h2 : (ptF (hdrL v) i).1 = sgP) : ¬ HdrOK v := fun hk => HdI.dup_bad hi h.es ((cutV_iff nS _).2 ⟨h1, h2, rfl⟩) hk.cnt.2.2.1
theorem HdI.b3 {v : List UInt8} {i : Nat} {c s} {u : List UInt8} (h : HdI (hdrL v) i c s (some u)) (hi : i < (hdrL v).length) (h1 : (ptF (hdrL v) i).2.2 = true) (h2 : (ptF (hdrL v) i).1 = sigP) : ¬ HdrOK v := fun hk => HdI.dup_bad hi h.eg ((cutV_iff nG _).2 ⟨h1, h2, rfl⟩) hk.cnt.2.2.2
def bits3 (c s g : Option (List UInt8)) : Int := (if c.isSome then 1 else 0) + (if s.isSome then 2 else 0) + (if g.isSome then 4 else 0)
/-- all has been read -/
theorem HdI.done {v : List UInt8} {i : Nat} {c s g} (h : HdI (hdrL v) i c s g) (hi : (hdrL v).length ≤ i) (hc : (cutpL v algoS).2 = true) : HdrOK v ↔ bits3 c s g = 7 ∧ digsL (g.getD []) = true := by
  have hi2 : i = (hdrL v).length := Nat.le_antisymm h.le hi
  subst hi2
  have e1 := h.ec; have e2 := h.es; have e3 := h.eg
  rw [List.take_length] at e1 e2 e3
  have n := h.n
  constructor
  · intro hk
    have h2 := hk.cnt.2
    rw [e1, e2, e3] at h2
    obtain ⟨_, _, _, _, _, hd⟩ := hk
    rw [fldO, e3] at hd
    rcases c with _ | c <;> rcases s with _ | s <;> rcases g with _ | g <;> simp at h2
    exact ⟨rfl, hd⟩
  · rintro ⟨hb, hd⟩
    rcases c with _ | c <;> rcases s with _ | s <;> rcases g with _ | g <;> first | (exfalso; unfold bits3 at hb; simp at hb; done) | skip
    refine ⟨hc, by rw [fldO, e1]; rfl, by rw [fldO, e2]; rfl, by rw [fldO, e3]; rfl, by simp at n; omega, ?_⟩
    rw [fldO, e3]; exact hd
theorem HdI.vals {v : List UInt8} {i : Nat} {c s g} (h : HdI (hdrL v) i c s g) (hi : (hdrL v).length ≤ i) (hb : bits3 c s g = 7) : hC v = c.getD [] ∧ hS v = s.getD [] ∧ hG v = g.getD [] := by
  have hi2 : i = (hdrL v).length := Nat.le_antisymm h.le hi
  subst hi2
  have e1 := h.ec; have e2 := h.es; have e3 := h.eg
  rw [List.take_length] at e1 e2 e3
  rcases c with _ | c <;> rcases s with _ | s <;> rcases g with _ | g <;> first | (exfalso; unfold bits3 at hb; simp at hb; done) | skip
  exact ⟨by rw [hC, fldO, e1]; rfl, by rw [hS, fldO, e2]; rfl, by rw [hG, fldO, e3]; rfl⟩
end Go.Proofs.YtdigohaeakclfaaGreatDoor
set_option maxRecDepth 100000
set_option linter.unusedVariables false
set_option linter.unusedSimpArgs false
namespace Go.Proofs.YtdigohaeakclfaaGreatDoor
open Go Go.Am Go.Am.Runs

def ownN (cred day : List UInt8) : List UInt8 := (cutsL cred ([47] ++ day ++ scopeS)).1
def OwnOK (cred day : List UInt8) : Prop := (cutsL cred ([47] ++ day ++ scopeS)).2 = true ∧ ownN cred day ≠ [] ∧ ¬ 0 ≤ Lib.indexByte (ownN cred day) 47
instance (cred day : List UInt8) : Decidable (OwnOK cred day) := by unfold OwnOK; exact inferInstance
end Go.Proofs.YtdigohaeakclfaaGreatDoor
set_option maxRecDepth 100000
set_option linter.unusedVariables false
set_option linter.unusedSimpArgs false
namespace Go.Proofs.YtdigohaeakclfaaGreatDoor
open Go Go.Am Go.Am.Runs

end Go.Proofs.YtdigohaeakclfaaGreatDoor
set_option maxRecDepth 100000
set_option linter.unusedVariables false
set_option linter.unusedSimpArgs false
namespace Go.Proofs.YtdigohaeakclfaaGreatDoor
open Go Go.Am Go.Am.Runs

end Go.Proofs.YtdigohaeakclfaaGreatDoor
set_option maxRecDepth 100000
set_option linter.unusedVariables false
set_option linter.unusedSimpArgs false
namespace Go.Proofs.YtdigohaeakclfaaGreatDoor
open Go Go.Am Go.Am.Runs

/-- a signed name is as it must be: above the one ahead of it, and there -/
def okN (hd : List Hd) (ns : List (List UInt8)) (i : Nat) : Prop := (0 < i → ltL (ns.getD (i - 1) []) (ns.getD i []) = true) ∧ allL hd (ns.getD i []) ≠ []
def amzH (hd : List Hd) (ns : List (List UInt8)) (k : Nat) : Prop := begL (hd.getD k ([], [])).1 amzN = true → (hd.getD k ([], [])).1 ∈ ns
def SgnP (hd : List Hd) (ns : List (List UInt8)) : Prop := (∀ i, i < ns.length → okN hd ns i) ∧ (∀ k, k < hd.length → amzH hd ns k) ∧ hostN ∈ ns
instance (hd : List Hd) (ns : List (List UInt8)) (i : Nat) : Decidable (okN hd ns i) := by unfold okN; exact inferInstance
instance (hd : List Hd) (ns : List (List UInt8)) (i : Nat) : Decidable (amzH hd ns i) := by unfold amzH; exact inferInstance
instance (hd : List Hd) (ns : List (List UInt8)) : Decidable (SgnP hd ns) := by unfold SgnP; exact inferInstance
inductive StN (ns : List (List UInt8)) (i : Nat) : Prop
  | A (h : i = 0)
  | B (h : 0 < i) (h2 : ltL (ns.getD (i - 1) []) (ns.getD i []) = false)
  | C (h : 0 < i) (h2 : ltL (ns.getD (i - 1) []) (ns.getD i []) = true)
theorem StN.all (ns : List (List UInt8)) (i : Nat) : StN ns i := by
  by_cases h : i = 0
  · exact .A h
  · cases e : ltL (ns.getD (i - 1) []) (ns.getD i []) with
    | false => exact .B (by omega) e
    | true => exact .C (by omega) e

end Go.Proofs.YtdigohaeakclfaaGreatDoor
set_option maxRecDepth 100000
set_option linter.unusedVariables false
set_option linter.unusedSimpArgs false
namespace Go.Am
open Go Go.RowKit
variable [Tab]
variable {P : Program} {f : FuncId}
end Go.Am
namespace Go.Proofs.YtdigohaeakclfaaGreatDoor
open Go Go.Am Go.RowKit Go.Maps
/-- pairs at a place -/
structure HdC (w : World) (base : Option (Nat × Nat)) (cap : Nat) (l : List Hd) : Prop where
  le : l.length ≤ cap
  no : base = none → cap = 0
  at_ : ∀ b o, base = some (b, o) → ∀ i, i < l.length → w.cell? (mkA b (o + i * 2)) = some (.string ⟨(l.getD i ([], [])).1.toArray⟩) ∧ w.cell? (mkA b (o + i * 2 + 1)) = some (.string ⟨(l.getD i ([], [])).2.toArray⟩)
theorem HdC.keep {w w' : World} {base : Option (Nat × Nat)} {cap : Nat} {l : List Hd} (h : HdC w base cap l) (hb : ∀ (a : Nat × Nat) (v : Value), w.cell? (mkA a.1 a.2) = some v → w'.cell? (mkA a.1 a.2) = some v) : HdC w' base cap l :=
  ⟨h.le, h.no, fun b o e i hi => ⟨hb (b, _) _ (h.at_ b o e i hi).1, hb (b, _) _ (h.at_ b o e i hi).2⟩⟩
/-- the map of names: which are in it -/
def HasN {H : Type} (D : DataW H) (l : List (List UInt8)) (k : Nat) : Prop := IsMap D ∧ ∀ s : List UInt8, ∃ c : Nat, c ≤ k ∧ D.atKey (.string s) (.lit (.int .i64 0)) = .lit (.int .i64 c) ∧ (c = 0 ↔ s ∉ l)
theorem HasN.nil {H : Type} : HasN (.map [] : DataW H) [] 0 := ⟨⟨_, rfl⟩, fun s => ⟨0, Nat.le_refl _, rfl, by simp⟩⟩
theorem HasN.put {H : Type} {D : DataW H} {l : List (List UInt8)} {k c : Nat} {s : List UInt8} (h : HasN D l k) (hc : D.atKey (.string s) (.lit (.int .i64 0)) = .lit (.int .i64 c)) : HasN (D.put (.string s) (.lit (.int .i64 (c + 1 : Nat)))) (l ++ [s]) (k + 1) := by
  refine ⟨by obtain ⟨es, rfl⟩ := h.1; exact ⟨_, rfl⟩, fun s' => ?_⟩
  by_cases e : s' = s
  · subst e
    obtain ⟨c0, h1, h2, h3⟩ := h.2 s'
    rw [hc] at h2
    have hcc : c = c0 := by
      simp only [DataW.lit.injEq, Lit.int.injEq, true_and] at h2
      exact Int.ofNat_inj.1 h2
    refine ⟨c + 1, by omega, atKey_put_same h.1 (show WideAt.IsKeyLit (.string s') from trivial) _ _, ?_⟩
    constructor
    · intro h; cases h
    · intro h; exact absurd (List.mem_append_right _ (List.mem_singleton.2 rfl)) h
  · obtain ⟨c0, h1, h2, h3⟩ := h.2 s'
    refine ⟨c0, by omega, ?_, ?_⟩
    · rw [atKey_put_other (by intro e2; cases e2; exact e rfl)]; exact h2
    · rw [h3, List.mem_append, List.mem_singleton]
      exact ⟨fun h => by rintro (h' | h'); exact h h'; exact e h', fun h h' => h (.inl h')⟩
end Go.Proofs.YtdigohaeakclfaaGreatDoor
set_option linter.unusedSectionVars false
set_option linter.unusedVariables false
namespace Go.Am
open Go
variable [Tab]
variable {P : Program} {fr : Fr} {H : Heap} {o : Oper}
end Go.Am
set_option maxRecDepth 100000
set_option linter.unusedVariables false
set_option linter.unusedSimpArgs false
namespace Go.Proofs.YtdigohaeakclfaaGreatDoor
open Go Go.Am

/-- has a request one of some headers? -/
def tkn (hd : List Hd) (ns : List (List UInt8)) : Bool := ns.any fun n => decide (allL hd n ≠ [])
theorem tkn_hit {hd : List Hd} {ns : List (List UInt8)} {i : Nat} (hi : i < ns.length) (h : allL hd (ns.getD i []) ≠ []) : tkn hd ns = true := by
  unfold tkn
  rw [List.any_eq_true]
  refine ⟨ns.getD i [], ?_, by simpa using h⟩
  rw [List.getD_eq_getElem?_getD, List.getElem?_eq_getElem hi]; exact List.getElem_mem _
theorem tkn_none {hd : List Hd} {ns : List (List UInt8)} (h : ∀ j, j < ns.length → allL hd (ns.getD j []) = []) : tkn hd ns = false := by
  unfold tkn
  rw [List.any_eq_false]
  intro x hx
  obtain ⟨j, hj, rfl⟩ := List.mem_iff_getElem.1 hx
  have := h j hj
  rw [List.getD_eq_getElem?_getD, List.getElem?_eq_getElem hj, Option.getD_some] at this
  simp [this]

theorem taken_ok (m t : List UInt8) (hd : List Hd) (b : List UInt8) (ns : List (List UInt8)) (hl : hd.length ≤ 16777216) (hn : ns.length ≤ 16777216) : FnOK Tryz.prog 18 [.agg [.str m, .str t, .sl 2 hd.length (hdEl hd) false, .bs b false], .sl 1 ns.length (strEl ns) false] [] (.bool (tkn hd ns)) [] := by
  refine FnOK.of_runs Tryz.func18 rfl (Nat.le_of_ble_eq_true rfl) ?_
  refine Runs.seq ?_
  refine Runs.reg [] [] rfl (by (try simp only [wrap_i64', wrap_u8, wrap_u16, wrap_u32, wrap_u64, wrap_i32, List.length_cons, List.length_nil, List.length_append, List.length_map, tmodN, tdivN]); and_intros <;> first | exact True.intro | omega | skip) ?_
  refine Runs.seq ?_
  refine Runs.seq ?_
  refine Runs.reg [] [0] rfl (by (try simp only [wrap_i64', wrap_u8, wrap_u16, wrap_u32, wrap_u64, wrap_i32, List.length_cons, List.length_nil, List.length_append, List.length_map, tmodN, tdivN]); and_intros <;> first | exact True.intro | omega | skip) ?_
  refine Runs.block ?_
  -- loop 0
  refine Runs.loopF (σ := Nat) (fun i => i ≤ ns.length ∧ ∀ j, j < i → allL hd (ns.getD j []) = []) (fun i => [(2, .ptr 0 0), (9, .sl 1 ns.length (strEl ns) false), (10, .int .i64 ns.length), (11, .int .i64 i)]) (fun _ => [[.str m, .str t, .sl 2 hd.length (hdEl hd) false, .bs b false]]) (fun i => ns.length - i) (0) (by exact ⟨Nat.zero_le _, fun j h => absurd h (Nat.not_lt_zero _)⟩) (by exact agree_cons rfl (by first | with_reducible rfl | (refine congrArg (AV.int _) ?_; (try simp only [wrap_i64', wrap_u8, wrap_u16, wrap_u32, wrap_u64, wrap_i32, List.length_cons, List.length_nil, List.length_append, List.length_map, tmodN, tdivN]); omega) | rfl | skip) (agree_cons rfl (by first | with_reducible rfl | (refine congrArg (AV.int _) ?_; (try simp only [wrap_i64', wrap_u8, wrap_u16, wrap_u32, wrap_u64, wrap_i32, List.length_cons, List.length_nil, List.length_append, List.length_map, tmodN, tdivN]); omega) | rfl | skip) (agree_cons rfl (by first | with_reducible rfl | (refine congrArg (AV.int _) ?_; (try simp only [wrap_i64', wrap_u8, wrap_u16, wrap_u32, wrap_u64, wrap_i32, List.length_cons, List.length_nil, List.length_append, List.length_map, tmodN, tdivN]); omega) | rfl | skip) (agree_cons rfl (by first | with_reducible rfl | (refine congrArg (AV.int _) ?_; (try simp only [wrap_i64', wrap_u8, wrap_u16, wrap_u32, wrap_u64, wrap_i32, List.length_cons, List.length_nil, List.length_append, List.length_map, tmodN, tdivN]); omega) | rfl | skip) (trivial))))) (by rfl) (fun i hi ih => ?_)
  replace hi : i ≤ ns.length ∧ ∀ j, j < i → allL hd (ns.getD j []) = [] := hi; have hi1 := hi.1
  refine Runs.seq ?_
  refine Runs.reg [] [] rfl (by (try simp only [wrap_i64', wrap_u8, wrap_u16, wrap_u32, wrap_u64, wrap_i32, List.length_cons, List.length_nil, List.length_append, List.length_map, tmodN, tdivN]); and_intros <;> first | exact True.intro | omega | skip) ?_
  refine Runs.seq ?_
  refine Runs.condS rfl (fun g12 => ?_) (fun g12 => ?_)
  · try simp only [decide_eq_true_eq, decide_eq_false_iff_not, notT, notF, beq_iff_eq, beq_eq_false_iff_ne, bne_iff_ne, bne_eq_false_iff_eq, tmodN, tdivN, Int.not_lt, Int.not_le] at g12
    refine Runs.skip ?_
    refine Runs.seq ?_
    refine Runs.block ?_
    refine Runs.seq ?_
    refine Runs.reg [] [] rfl (by and_intros <;> first | exact True.intro | omega | (intro x hx; cases hx) | (simp only [List.map_nil, List.length_nil]; omega) | skip) ?_
    refine Runs.seq ?_
    refine Runs.reg [(3, { res := .tup [.str ((allL hd (ns.getD i [])).getD 0 []), .bool (decide (allL hd (ns.getD i []) ≠ []))] })] [2] rfl (by and_intros <;> first | exact True.intro | exact get1_ok hd (ns.getD i []) hl | omega) ?_
    refine Runs.seq ?_
    refine Runs.reg [] [0] rfl (by (try simp only [wrap_i64', wrap_u8, wrap_u16, wrap_u32, wrap_u64, wrap_i32, List.length_cons, List.length_nil, List.length_append, List.length_map, tmodN, tdivN]); and_intros <;> first | exact True.intro | omega | skip) ?_
    refine Runs.condS rfl (fun g22 => ?_) (fun g22 => ?_)
    · try simp only [decide_eq_true_eq, decide_eq_false_iff_not, notT, notF, beq_iff_eq, beq_eq_false_iff_ne, bne_iff_ne, bne_eq_false_iff_eq, tmodN, tdivN, Int.not_lt, Int.not_le] at g22
      refine Runs.seq ?_
      refine Runs.reg [] [] rfl (by (try simp only [wrap_i64', wrap_u8, wrap_u16, wrap_u32, wrap_u64, wrap_i32, List.length_cons, List.length_nil, List.length_append, List.length_map, tmodN, tdivN]); and_intros <;> first | exact True.intro | omega | skip) ?_
      refine Runs.drop 0 (Nat.zero_le _) rfl ?_
      exact Runs.retH Tryz.func18 rfl rfl (by rw [tkn_hit (show i < ns.length by omega) (by simpa using g22)]) (by rfl)
    · try simp only [decide_eq_true_eq, decide_eq_false_iff_not, notT, notF, beq_iff_eq, beq_eq_false_iff_ne, bne_iff_ne, bne_eq_false_iff_eq, tmodN, tdivN, Int.not_lt, Int.not_le] at g22
      refine Runs.skip ?_
      refine Runs.inBlock ?_
      refine Runs.reg [] [] rfl (by (try simp only [wrap_i64', wrap_u8, wrap_u16, wrap_u32, wrap_u64, wrap_i32, List.length_cons, List.length_nil, List.length_append, List.length_map, tmodN, tdivN]); and_intros <;> first | exact True.intro | omega | skip) ?_
      refine Runs.drop 1 (Nat.le_of_ble_eq_true rfl) rfl ?_
      exact ih (i + 1) _ _ (by exact ⟨by omega, fun j hj => by rcases Nat.lt_or_ge j i with h | h; exact hi.2 j h; (rw [show j = i by omega]; simpa using g22)⟩) (by omega) (by exact agree_cons rfl (by first | with_reducible rfl | (refine congrArg (AV.int _) ?_; (try simp only [wrap_i64', wrap_u8, wrap_u16, wrap_u32, wrap_u64, wrap_i32, List.length_cons, List.length_nil, List.length_append, List.length_map, tmodN, tdivN]); omega) | rfl | skip) (agree_cons rfl (by first | with_reducible rfl | (refine congrArg (AV.int _) ?_; (try simp only [wrap_i64', wrap_u8, wrap_u16, wrap_u32, wrap_u64, wrap_i32, List.length_cons, List.length_nil, List.length_append, List.length_map, tmodN, tdivN]); omega) | rfl | skip) (agree_cons rfl (by first | with_reducible rfl | (refine congrArg (AV.int _) ?_; (try simp only [wrap_i64', wrap_u8, wrap_u16, wrap_u32, wrap_u64, wrap_i32, List.length_cons, List.length_nil, List.length_append, List.length_map, tmodN, tdivN]); omega) | rfl | skip) (agree_cons rfl (by first | with_reducible rfl | (refine congrArg (AV.int _) ?_; (try simp only [wrap_i64', wrap_u8, wrap_u16, wrap_u32, wrap_u64, wrap_i32, List.length_cons, List.length_nil, List.length_append, List.length_map, tmodN, tdivN]); omega) | rfl | skip) (trivial))))) (by rfl)
  · try simp only [decide_eq_true_eq, decide_eq_false_iff_not, notT, notF, beq_iff_eq, beq_eq_false_iff_ne, bne_iff_ne, bne_eq_false_iff_eq, tmodN, tdivN, Int.not_lt, Int.not_le] at g12
    refine Runs.exit rfl ?_
    refine Runs.seq ?_
    refine Runs.reg [] [] rfl (by (try simp only [wrap_i64', wrap_u8, wrap_u16, wrap_u32, wrap_u64, wrap_i32, List.length_cons, List.length_nil, List.length_append, List.length_map, tmodN, tdivN]); and_intros <;> first | exact True.intro | omega | skip) ?_
    refine Runs.drop 0 (Nat.zero_le _) rfl ?_
    exact Runs.retH Tryz.func18 rfl rfl (by rw [tkn_none (by have h := hi.2; rwa [show i = ns.length by omega] at h)]) (by rfl)

end Go.Proofs.YtdigohaeakclfaaGreatDoor
set_option maxRecDepth 100000
set_option linter.unusedVariables false
set_option linter.unusedSimpArgs false
namespace Go.Proofs.YtdigohaeakclfaaGreatDoor
open Go Go.Am

/-- every day until the year 9999 has a date -/
theorem date_ex : ∀ n : Nat, n ≤ 2932896 → ∃ y r m q, DateOf n y r m q
  | 0, _ => ⟨1970, 0, 1, 0, by omega, by omega, by decide, by decide, by omega, by omega, by decide, by decide⟩
  | n + 1, h => by
    obtain ⟨y, r, m, q, d⟩ := date_ex n (by omega)
    have y1 := d.y1; have y2 := d.y2; have e1 := d.e1; have l1 := d.l1; have m1 := d.m1; have m2 := d.m2; have e2 := d.e2; have l2 := d.l2
    have ms := monN_step y m1
    have mm := monN_mono y (m + 1) (by omega) 13 (by omega)
    have my := sizeN_year y
    by_cases hq : q + 1 < sizeN y m
    · exact ⟨y, r + 1, m, q + 1, y1, y2, by omega, by omega, m1, m2, by omega, hq⟩
    · by_cases hm : m < 12
      · have := sizeN_bd y (m + 1)
        have mm2 := monN_mono y (m + 1 + 1) (by omega) 13 (by omega)
        have ms2 := monN_step y (show 1 ≤ m + 1 by omega)
        exact ⟨y, r + 1, m + 1, 0, y1, y2, by omega, by omega, by omega, by omega, by omega, by omega⟩
      · have hm12 : m = 12 := by omega
        subst hm12
        have hb := befN_step y (by omega)
        have ms3 : monN y 13 = monN y 12 + sizeN y 12 := monN_step y (by omega)
        have hy : y ≠ 9999 := fun e => by
          subst e
          have : befN (9999 + 1) = 2932897 := by decide
          omega
        exact ⟨y + 1, 0, 1, 0, by omega, by omega, by omega, by have := yearN_bd (y + 1); omega, by omega, by omega, by simp [monN], by have := sizeN_bd (y + 1) 1; omega⟩
def inT (t : Int) : Prop := 0 ≤ t ∧ t ≤ 253402300799
instance (t : Int) : Decidable (inT t) := by unfold inT; infer_instance
theorem date_at {t : Int} (h : inT t) : ∃ d : Nat × Nat × Nat × Nat, DateOf (t.toNat / 86400) d.1 d.2.1 d.2.2.1 d.2.2.2 := by
  obtain ⟨y, r, m, q, d⟩ := date_ex (t.toNat / 86400) (by unfold inT at h; omega)
  exact ⟨(y, r, m, q), d⟩
noncomputable def basC (t : Int) : List UInt8 := if h : inT t then basT (date_at h).choose.1 (date_at h).choose.2.2.1 (date_at h).choose.2.2.2 t.toNat else []
noncomputable def dayC (t : Int) : List UInt8 := if h : inT t then dayT (date_at h).choose.1 (date_at h).choose.2.2.1 (date_at h).choose.2.2.2 else []
theorem basC_len (t : Int) : (basC t).length = if inT t then 16 else 0 := by unfold basC; split <;> simp [basT_len]
theorem dayC_len (t : Int) : (dayC t).length = if inT t then 8 else 0 := by unfold dayC; split <;> simp [dayT_len]
theorem basC_nil (t : Int) : basC t = [] ↔ ¬ inT t := by
  rw [← List.length_eq_zero_iff, basC_len]; split <;> simp_all

theorem is_false {t : Int} (h0 : -9223372036854775808 ≤ t) (h1 : t ≤ 9223372036854775807) (h : ¬ inT t) : FnOK Tryz.prog 97 [.int .i64 t] [] (.bool false) [] := by
  have := is_ok t h0 h1
  rwa [decide_eq_false (show ¬ (0 ≤ t ∧ t ≤ 253402300799) from h)] at this

theorem civil_no (t : Int) (h0 : -9223372036854775808 ≤ t) (h1 : t ≤ 9223372036854775807) (h : ¬ inT t) : FnOK Tryz.prog 59 [.int .i64 t] [] (.tup [.int .i64 0, .int .i64 0, .int .i64 0, .int .i64 0, .int .i64 0, .int .i64 0, .bool false]) [] := by
  refine FnOK.of_runs Tryz.func59 rfl (Nat.le_of_ble_eq_true rfl) ?_
  refine Runs.seq ?_
  refine Runs.reg [] [] rfl (by and_intros <;> first | exact True.intro | omega | (intro x hx; cases hx) | (simp only [List.map_nil, List.length_nil]; omega) | skip) ?_
  refine Runs.seq ?_
  refine Runs.seq ?_
  refine Runs.reg [(1, { res := .bool false })] [0] rfl (by and_intros <;> first | exact True.intro | omega | exact is_false h0 h1 h) ?_
  refine Runs.condT rfl ?_
  exact Runs.retH Tryz.func59 rfl rfl (by rfl) (by rfl)

theorem day_no (t : Int) (h0 : -9223372036854775808 ≤ t) (h1 : t ≤ 9223372036854775807) (h : ¬ inT t) : FnOK Tryz.prog 23 [.int .i64 t] [] (.str []) [] := by
  refine FnOK.of_runs Tryz.func23 rfl (Nat.le_of_ble_eq_true rfl) ?_
  refine Runs.seq ?_
  refine Runs.reg [] [] rfl (by and_intros <;> first | exact True.intro | omega | (intro x hx; cases hx) | (simp only [List.map_nil, List.length_nil]; omega) | skip) ?_
  refine Runs.seq ?_
  refine Runs.reg [(1, { res := .tup [.int .i64 0, .int .i64 0, .int .i64 0, .int .i64 0, .int .i64 0, .int .i64 0, .bool false] })] [0] rfl (by and_intros <;> first | exact True.intro | omega | exact civil_no t h0 h1 h) ?_
  refine Runs.seq ?_
  refine Runs.seq ?_
  refine Runs.reg [] [0] rfl (by (try simp only [wrap_i64', wrap_u8, wrap_u16, wrap_u32, wrap_u64, wrap_i32, List.length_cons, List.length_nil, List.length_append, List.length_map, tmodN, tdivN]); and_intros <;> first | exact True.intro | omega | skip) ?_
  refine Runs.condT rfl ?_
  refine Runs.seq ?_
  refine Runs.reg [] [] rfl (by and_intros <;> first | exact True.intro | omega | (intro x hx; cases hx) | (simp only [List.map_nil, List.length_nil]; omega) | skip) ?_
  exact Runs.retH Tryz.func23 rfl rfl (by rfl) (by rfl)

theorem basic_no (t : Int) (h0 : -9223372036854775808 ≤ t) (h1 : t ≤ 9223372036854775807) (h : ¬ inT t) : FnOK Tryz.prog 20 [.int .i64 t] [] (.str []) [] := by
  refine FnOK.of_runs Tryz.func20 rfl (Nat.le_of_ble_eq_true rfl) ?_
  refine Runs.seq ?_
  refine Runs.reg [] [] rfl (by and_intros <;> first | exact True.intro | omega | (intro x hx; cases hx) | (simp only [List.map_nil, List.length_nil]; omega) | skip) ?_
  refine Runs.seq ?_
  refine Runs.reg [(1, { res := .tup [.int .i64 0, .int .i64 0, .int .i64 0, .int .i64 0, .int .i64 0, .int .i64 0, .bool false] })] [0] rfl (by and_intros <;> first | exact True.intro | omega | exact civil_no t h0 h1 h) ?_
  refine Runs.seq ?_
  refine Runs.seq ?_
  refine Runs.reg [] [0] rfl (by (try simp only [wrap_i64', wrap_u8, wrap_u16, wrap_u32, wrap_u64, wrap_i32, List.length_cons, List.length_nil, List.length_append, List.length_map, tmodN, tdivN]); and_intros <;> first | exact True.intro | omega | skip) ?_
  refine Runs.condT rfl ?_
  refine Runs.seq ?_
  refine Runs.reg [] [] rfl (by and_intros <;> first | exact True.intro | omega | (intro x hx; cases hx) | (simp only [List.map_nil, List.length_nil]; omega) | skip) ?_
  exact Runs.retH Tryz.func20 rfl rfl (by rfl) (by rfl)

theorem rciv_no (t : Int) (h0 : -9223372036854775808 ≤ t) (h1 : t ≤ 9223372036854775807) (h : ¬ inT t) : FnOK Tryz.prog 53 [.int .i64 t] [] (.tup [.agg [.int .i64 0, .int .i64 0, .int .i64 0, .int .i64 0, .int .i64 0, .int .i64 0], .bool false]) [] := by
  refine FnOK.of_runs Tryz.func53 rfl (Nat.le_of_ble_eq_true rfl) ?_
  refine Runs.seq ?_
  refine Runs.reg [] [] rfl (by (try simp only [wrap_i64', wrap_u8, wrap_u16, wrap_u32, wrap_u64, wrap_i32, List.length_cons, List.length_nil, List.length_append, List.length_map, tmodN, tdivN]); and_intros <;> first | exact True.intro | omega | skip) ?_
  refine Runs.seq ?_
  refine Runs.seq ?_
  refine Runs.region ?_
  refine Runs.restTo 3 [] [0, 3] rfl (by (try simp only [wrap_i64', wrap_u8, wrap_u16, wrap_u32, wrap_u64, wrap_i32, List.length_cons, List.length_nil, List.length_append, List.length_map, tmodN, tdivN]); and_intros <;> first | exact True.intro | omega | skip) ?_
  refine Runs.splitS 8 rfl (fun g8 => ?_) (fun g8 => ?_)
  · try simp only [decide_eq_true_eq, decide_eq_false_iff_not, notT, notF, beq_iff_eq, beq_eq_false_iff_ne, bne_iff_ne, bne_eq_false_iff_eq, tmodN, tdivN, Int.not_lt, Int.not_le] at g8
    refine Runs.rest [] [0, 3] rfl (by (try simp only [wrap_i64', wrap_u8, wrap_u16, wrap_u32, wrap_u64, wrap_i32, List.length_cons, List.length_nil, List.length_append, List.length_map, tmodN, tdivN]); and_intros <;> first | exact True.intro | omega | skip) ?_
    refine Runs.condT rfl ?_
    refine Runs.seq ?_
    refine Runs.reg [] [] rfl (by and_intros <;> first | exact True.intro | exact Nat.le_of_ble_eq_true rfl | rfl | omega) ?_
    exact Runs.retD Tryz.func53 rfl rfl rfl (by rfl) (by rfl) rfl
  · try simp only [decide_eq_true_eq, decide_eq_false_iff_not, notT, notF, beq_iff_eq, beq_eq_false_iff_ne, bne_iff_ne, bne_eq_false_iff_eq, tmodN, tdivN, Int.not_lt, Int.not_le] at g8
    refine Runs.rest [] [0, 3] rfl (by (try simp only [wrap_i64', wrap_u8, wrap_u16, wrap_u32, wrap_u64, wrap_i32, List.length_cons, List.length_nil, List.length_append, List.length_map, tmodN, tdivN]); and_intros <;> first | exact True.intro | omega | skip) ?_
    refine Runs.condS rfl (fun g11 => ?_) (fun g11 => ?_)
    · try simp only [decide_eq_true_eq, decide_eq_false_iff_not, notT, notF, beq_iff_eq, beq_eq_false_iff_ne, bne_iff_ne, bne_eq_false_iff_eq, tmodN, tdivN, Int.not_lt, Int.not_le] at g11
      refine Runs.seq ?_
      refine Runs.reg [] [] rfl (by and_intros <;> first | exact True.intro | exact Nat.le_of_ble_eq_true rfl | rfl | omega) ?_
      exact Runs.retD Tryz.func53 rfl rfl rfl (by rfl) (by rfl) rfl
    · try simp only [decide_eq_true_eq, decide_eq_false_iff_not, notT, notF, beq_iff_eq, beq_eq_false_iff_ne, bne_iff_ne, bne_eq_false_iff_eq, tmodN, tdivN, Int.not_lt, Int.not_le] at g11
      exfalso; unfold inT at h; omega

theorem rbasic_no (t : Int) (h0 : -9223372036854775808 ≤ t) (h1 : t ≤ 9223372036854775807) (h : ¬ inT t) : FnOK Tryz.prog 16 [.int .i64 t] [] (.str []) [] := by
  refine FnOK.of_runs Tryz.func16 rfl (Nat.le_of_ble_eq_true rfl) ?_
  refine Runs.seq ?_
  refine Runs.reg [] [] rfl (by (try simp only [wrap_i64', wrap_u8, wrap_u16, wrap_u32, wrap_u64, wrap_i32, List.length_cons, List.length_nil, List.length_append, List.length_map, tmodN, tdivN]); and_intros <;> first | exact True.intro | omega | skip) ?_
  refine Runs.seq ?_
  refine Runs.reg [(1, { res := .tup [.agg [.int .i64 0, .int .i64 0, .int .i64 0, .int .i64 0, .int .i64 0, .int .i64 0], .bool false] })] [0] rfl (by and_intros <;> first | exact True.intro | omega | exact rciv_no t h0 h1 h) ?_
  refine Runs.seq ?_
  refine Runs.seq ?_
  refine Runs.reg [] [0] rfl (by (try simp only [wrap_i64', wrap_u8, wrap_u16, wrap_u32, wrap_u64, wrap_i32, List.length_cons, List.length_nil, List.length_append, List.length_map, tmodN, tdivN]); and_intros <;> first | exact True.intro | omega | skip) ?_
  refine Runs.condT rfl ?_
  refine Runs.seq ?_
  refine Runs.reg [] [] rfl (by and_intros <;> first | exact True.intro | omega | (intro x hx; cases hx) | (simp only [List.map_nil, List.length_nil]; omega) | skip) ?_
  refine Runs.drop 0 (Nat.zero_le _) rfl ?_
  exact Runs.retH Tryz.func16 rfl rfl (by rfl) (by rfl)

end Go.Proofs.YtdigohaeakclfaaGreatDoor
set_option maxRecDepth 100000
set_option linter.unusedVariables false
set_option linter.unusedSimpArgs false
namespace Go.Proofs.YtdigohaeakclfaaGreatDoor
open Go Go.Am

theorem inT_nat {t : Int} (h : inT t) : ∃ k : Nat, t = k ∧ k ≤ 253402300799 := ⟨t.toNat, by unfold inT at h; omega, by unfold inT at h; omega⟩
theorem basic_all (t : Int) (h0 : -9223372036854775808 ≤ t) (h1 : t ≤ 9223372036854775807) : FnOK Tryz.prog 20 [.int .i64 t] [] (.str (basC t)) [] := by
  unfold basC
  split
  · rename_i h
    obtain ⟨k, rfl, hk⟩ := inT_nat h
    exact basic_ok (date_at h).choose_spec k hk rfl
  · rename_i h; exact basic_no t h0 h1 h
theorem day_all (t : Int) (h0 : -9223372036854775808 ≤ t) (h1 : t ≤ 9223372036854775807) : FnOK Tryz.prog 23 [.int .i64 t] [] (.str (dayC t)) [] := by
  unfold dayC
  split
  · rename_i h
    obtain ⟨k, rfl, hk⟩ := inT_nat h
    exact day_ok (date_at h).choose_spec k hk rfl
  · rename_i h; exact day_no t h0 h1 h
theorem rbasic_all (t : Int) (h0 : -9223372036854775808 ≤ t) (h1 : t ≤ 9223372036854775807) : FnOK Tryz.prog 16 [.int .i64 t] [] (.str (basC t)) [] := by
  unfold basC
  split
  · rename_i h
    obtain ⟨k, rfl, hk⟩ := inT_nat h
    exact rbasic_ok (date_at h).choose_spec k hk rfl
  · rename_i h; exact rbasic_no t h0 h1 h
/-- may a key's name and a time be? -/
def fitB (id : List UInt8) (t : Int) : Bool := decide (inT t) && !decide (id = []) && !decide (0 ≤ Lib.indexByte id 47)

theorem rday_no (t : Int) (h0 : -9223372036854775808 ≤ t) (h1 : t ≤ 9223372036854775807) (h : ¬ inT t) : FnOK Tryz.prog 31 [.int .i64 t] [] (.str []) [] := by
  refine FnOK.of_runs Tryz.func31 rfl (Nat.le_of_ble_eq_true rfl) ?_
  refine Runs.seq ?_
  refine Runs.reg [] [] rfl (by (try simp only [wrap_i64', wrap_u8, wrap_u16, wrap_u32, wrap_u64, wrap_i32, List.length_cons, List.length_nil, List.length_append, List.length_map, tmodN, tdivN]); and_intros <;> first | exact True.intro | omega | skip) ?_
  refine Runs.seq ?_
  refine Runs.reg [(1, { res := .str [] })] [0] rfl (by and_intros <;> first | exact True.intro | omega | exact rbasic_no t h0 h1 h) ?_
  refine Runs.seq ?_
  refine Runs.seq ?_
  refine Runs.reg [] [0] rfl (by (try simp only [wrap_i64', wrap_u8, wrap_u16, wrap_u32, wrap_u64, wrap_i32, List.length_cons, List.length_nil, List.length_append, List.length_map, tmodN, tdivN]); and_intros <;> first | exact True.intro | omega | skip) ?_
  refine Runs.condT rfl ?_
  refine Runs.seq ?_
  refine Runs.reg [] [] rfl (by (try simp only [wrap_i64', wrap_u8, wrap_u16, wrap_u32, wrap_u64, wrap_i32, List.length_cons, List.length_nil, List.length_append, List.length_map, tmodN, tdivN]); and_intros <;> first | exact True.intro | omega | skip) ?_
  exact Runs.retH Tryz.func31 rfl rfl (by rfl) (by rfl)


theorem rday_all (t : Int) (h0 : -9223372036854775808 ≤ t) (h1 : t ≤ 9223372036854775807) : FnOK Tryz.prog 31 [.int .i64 t] [] (.str (dayC t)) [] := by
  unfold dayC
  split
  · rename_i h
    obtain ⟨k, rfl, hk⟩ := inT_nat h
    exact rday_ok (date_at h).choose_spec k hk rfl
  · rename_i h; exact rday_no t h0 h1 h

end Go.Proofs.YtdigohaeakclfaaGreatDoor
