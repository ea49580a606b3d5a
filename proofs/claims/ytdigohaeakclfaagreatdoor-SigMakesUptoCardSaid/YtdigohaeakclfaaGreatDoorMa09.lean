/- The reference writing of the hash, of HMAC and of the signature: it computes the same words. -/
import Derived.Test.YtdigohaeakclfaaGreatDoorMa08
set_option maxRecDepth 100000
set_option linter.unusedVariables false
set_option linter.unusedSimpArgs false
namespace Go.Proofs.YtdigohaeakclfaaGreatDoor
open Go.Am Go.Am.Runs

abbrev wEl (l : List Nat) : Nat → AV := fun i => .int .u32 (l.getD i 0 : Nat)
theorem el_cells (l : List Nat) (i : Nat) (h : i < l.length) : wEl l i = elOf false 1 (cells l) i := by
  show _ = (cells l).getD i .bad
  rw [List.getD_eq_getElem?_getD, cells_at l i rfl h]; rfl
theorem w_app {l : List Nat} {n m : Nat} {x : Int} {o : Bool} (hn : n = l.length) (hm : m = n + 1) (hx : x = ((l ++ [(x.toNat)]).getD n 0 : Nat)) (l2 : List Nat) (h2 : l2 = l ++ [x.toNat]) : Imp (.sl 1 (n + 1) (apEl n (wEl l) (elOf false 1 [.int .u32 x])) o) (.sl 1 m (wEl l2) o) := by
  subst hm; subst h2
  refine Imp.slEq rfl fun i hi => ?_
  rcases Nat.lt_or_ge i n with h | h
  · rw [apEl_lt h]
    simp only [wEl, List.getD_eq_getElem?_getD]
    rw [List.getElem?_append_left (by omega)]
  · have : i = n := by omega
    subst this
    rw [apEl_ge h]
    simp only [Nat.sub_self, wEl]
    rw [← hx]; rfl
theorem w_appN {l : List Nat} {n : Nat} {x : Nat} {v : Int} {o : Bool} (hn : n = l.length) (hv : v = (x : Nat)) : Imp (.sl 1 (n + 1) (apEl n (wEl l) (elOf false 1 [.int .u32 v])) o) (.sl 1 (n + 1) (wEl (l ++ [x])) o) := by
  subst hv
  refine w_app hn rfl ?_ _ (by simp)
  subst hn
  simp [List.getD_eq_getElem?_getD]
theorem el8 (s : List Nat) {cs : List AV} (h : cs = c8 s) (i : Nat) (hi : i < 8) : wEl s i = elOf false 1 cs i := by
  subst h
  show _ = (c8 s).getD i .bad
  rw [List.getD_eq_getElem?_getD, c8_at s i rfl hi]; rfl
theorem be_add (b : List UInt8) (i : Nat) : (((by4 b i 0 * 16777216 + by4 b i 1 * 65536) % 4294967296 + by4 b i 2 * 256) % 4294967296 + by4 b i 3) % 4294967296 = be32 b i := by
  have := by4_lt b i 0; have := by4_lt b i 1; have := by4_lt b i 2; have := by4_lt b i 3
  unfold be32; omega

theorem roots_ok : FnOK Tryz.prog 148 [] [] (.sl 1 64 (wEl KW) false) [] := by
  refine FnOK.of_runs Tryz.func148 rfl (Nat.le_of_ble_eq_true rfl) ?_
  refine seq (reg [] [] rfl (by decide) ?_)
  refine seq (reg [] [] rfl (by decide) ?_)
  exact frame [(0, .sl 1 64 (wEl KW) true)] (by exact agree_imp rfl (by exact Imp.slEq rfl (fun i hi => el_cells KW i hi)) rfl rfl trivial) (retH Tryz.func148 rfl rfl (by rfl) (by rfl))

theorem padded_ok (b : List UInt8) (hb : b.length ≤ 67108864) : FnOK Tryz.prog 149 [.bs b false, .bool true] [] (.bs (padL b) false) [] := by
  refine FnOK.of_runs Tryz.func149 rfl (Nat.le_of_ble_eq_true rfl) ?_
  refine seq (reg [] [] rfl (by decide) ?_)
  refine seq (reg [] [] rfl (by decide) ?_)
  refine seq (reg [] [] rfl (by and_intros <;> first | decide | (simp only [List.length_append, List.length_cons, List.length_nil, List.length_replicate, List.length_map, List.length_take, List.length_drop, put64_len, outN_len]; omega)) ?_)
  refine seq (reg [] [] rfl (by and_intros <;> first | decide | (simp only [List.length_append, List.length_cons, List.length_nil, List.length_replicate, List.length_map, List.length_take, List.length_drop, put64_len, outN_len]; omega)) ?_)
  refine seq (block ?_)
  -- loop 0
  refine loopF (σ := Nat) (fun k => k ≤ zpad b.length) (fun k => [(0, .bs b false), (1, .bool true), (5, .bs (b ++ [128] ++ List.replicate k 0) true)]) (fun _ => []) (fun k => zpad b.length - k) (0) (by exact Nat.zero_le _) (by exact agree_cons rfl (by rfl) (agree_cons rfl (by rfl) (agree_cons rfl (by exact inj (by simp; rfl)) (trivial)))) (by rfl) (fun k hk ih => ?_)
  replace hk : k ≤ zpad b.length := hk; have hzp : zpad b.length = (119 - b.length % 64) % 64 := rfl
  refine seq (seq (reg [] [0] rfl (by decide) ?_))
  refine condS rfl (fun g18 => ?_) (fun g18 => ?_)
  · try simp only [zg] at g18
    simp only [List.length_append, List.length_cons, List.length_nil, List.length_replicate, tmodN] at g18
    refine skip (block (reg [] [] rfl (by and_intros <;> first | decide | (simp only [List.length_append, List.length_cons, List.length_nil, List.length_replicate, List.length_map, List.length_take, List.length_drop, put64_len, outN_len]; omega)) ?_))
    refine inBlock ?_
    exact ih (k + 1) _ _ (by show k + 1 ≤ zpad b.length; omega) (by omega) (by exact agree_cons rfl (by rfl) (agree_cons rfl (by rfl) (agree_cons rfl (by exact inj (by rw [List.replicate_succ', ← List.append_assoc]; rfl)) (trivial)))) (by rfl)
  · try simp only [zg] at g18
    simp only [List.length_append, List.length_cons, List.length_nil, List.length_replicate, tmodN] at g18
    refine exit rfl (seq ?_)
    refine reg [(3, { res := .int .u64 (8 * b.length : Nat) })] [0] rfl (by and_intros <;> first | exact ⟨⟩ | (refine congrArg (AV.int _) ?_; rw [wrap_u64, wrap_u64]; omega)) ?_
    refine seq (seq (reg [] [] rfl (by decide) ?_))
    refine block ?_
    -- loop 1
    have hkz : k = zpad b.length := by omega
    refine loopF (σ := Nat) (fun i => i ≤ 8) (fun i => [(0, .bs b false), (1, .bool true), (5, .bs (b ++ [128] ++ List.replicate (zpad b.length) 0 ++ (put64L (8 * b.length)).take i) true), (6, .int .u64 (8 * b.length : Nat)), (7, .int .i64 i)]) (fun _ => []) (fun i => 8 - i) (0) (by exact Nat.zero_le _) (by exact agree_cons rfl (by rfl) (agree_cons rfl (by rfl) (agree_cons rfl (by exact inj (by rw [hkz]; simp)) (agree_cons rfl (by rfl) (agree_cons rfl (by rfl) (trivial)))))) (by rfl) (fun i hi ih2 => ?_)
    replace hi : i ≤ 8 := hi
    refine seq (seq (reg [] [0] rfl (by decide) ?_))
    refine condS rfl (fun g27 => ?_) (fun g27 => ?_)
    · try simp only [zg] at g27
      refine skip (seq (block (seq ?_)))
      refine reg [(1, { res := .int .i64 (8 * i : Nat) })] [0] rfl (by and_intros <;> first | exact ⟨⟩ | (refine congrArg (AV.int _) ?_; rw [i64_id (by omega) (by omega)]; omega)) ?_
      refine seq (seq (reg [] [0] rfl (by decide) ?_))
      refine condS rfl (fun g32 => ?_) (fun g32 => ?_)
      · try simp only [zg] at g32
        refine reg [(1, { res := .int .i64 (8 * i : Nat) }), (2, { res := .int .i64 (56 - 8 * i : Nat) })] [0] rfl (by and_intros <;> first | exact ⟨⟩ | (refine congrArg (AV.int _) ?_; rw [i64_id (by omega) (by omega)]; omega)) ?_
        refine reg [(3, { res := .int .u64 (8 * b.length / 2 ^ (56 - 8 * i) : Nat) })] [] rfl (by and_intros <;> first | exact congrArg (AV.int _) (shr64 _ _ (by omega)) | (simp only [List.length_append, List.length_cons, List.length_nil, List.length_replicate, List.length_map, List.length_take, List.length_drop, put64_len, outN_len]; omega) | omega | (intro z hz; simp only [wrap_u8, List.mem_cons, List.not_mem_nil, or_false] at hz; (try rcases hz with rfl | rfl | rfl | rfl) <;> omega)) ?_
        refine inBlock (reg [] [] rfl (by decide) ?_)
        exact ih2 (i + 1) _ _ (by omega) (by omega) (by exact agree_cons rfl (by rfl) (agree_cons rfl (by first | rfl | (refine congrArg (AV.int _) ?_; simp only [wrap_i64', tdivN, tmodN]; omega) | skip) (agree_cons rfl (by exact inj (by rw [put_take _ _ (by omega), ← List.append_assoc]; exact congrArg (b ++ [128] ++ List.replicate (zpad b.length) 0 ++ (put64L (8 * b.length)).take i ++ [·]) (toB_w8 _))) (agree_cons rfl (by first | rfl | (refine congrArg (AV.int _) ?_; simp only [wrap_i64', tdivN, tmodN]; omega) | skip) (agree_cons rfl (by first | rfl | (refine congrArg (AV.int _) ?_; simp only [wrap_i64', tdivN, tmodN]; omega) | skip) (trivial)))))) (by rfl)
      · try simp only [zg] at g32
        simp at g32
    · try simp only [zg] at g27
      refine exit rfl (seq (reg [] [0] rfl (by decide) ?_))
      exact retH Tryz.func149 rfl rfl (by exact inj (by rw [List.take_of_length_le (by rw [put64_len]; omega)]; rfl)) (by rfl)

set_option maxHeartbeats 1000000 in
theorem schedule_ok (b : List UInt8) (hb : b.length = 64) : FnOK Tryz.prog 150 [.bs b false] [] (.sl 1 64 (wEl (wL b 64)) false) [] := by
  refine FnOK.of_runs Tryz.func150 rfl (Nat.le_of_ble_eq_true rfl) ?_
  refine seq (reg [] [] rfl (by decide) ?_)
  refine seq (reg [] [] rfl (by decide) ?_)
  refine seq (seq (reg [] [] rfl (by decide) ?_))
  refine block ?_
  -- loop 0
  refine loopF (σ := Nat) (fun i => i ≤ 16) (fun i => [(0, .bs b false), (3, .sl 1 i (wEl (wL b i)) true), (4, .int .i64 i)]) (fun _ => []) (fun i => 16 - i) (0) (by exact Nat.zero_le _) (by exact agree_cons rfl (by rfl) (agree_imp rfl (by exact Imp.slEq rfl (fun i hi => absurd hi (Nat.not_lt_zero _))) rfl rfl (agree_cons rfl (by rfl) (trivial)))) (by rfl) (fun i hi ih => ?_)
  replace hi : i ≤ 16 := hi; have hwl := wL_len b i
  refine seq (seq (reg [] [0] rfl (by decide) ?_))
  refine condS rfl (fun g9 => ?_) (fun g9 => ?_)
  · try simp only [zg] at g9
    refine skip (seq (block ?_))
    refine regD [(3, { res := .int .i64 (4 * i : Nat) }), (6, { res := .int .u32 (by4 b i 0 : Nat) }), (7, { res := .int .u32 (by4 b i 0 * 16777216 : Nat) }), (10, { res := .int .i64 (4 * i : Nat) }), (11, { res := .int .i64 (4 * i + 1 : Nat) }), (14, { res := .int .u32 (by4 b i 1 : Nat) }), (15, { res := .int .u32 (by4 b i 1 * 65536 : Nat) }), (16, { res := .int .u32 ((by4 b i 0 * 16777216 + by4 b i 1 * 65536) % 4294967296 : Nat) }), (19, { res := .int .i64 (4 * i : Nat) }), (20, { res := .int .i64 (4 * i + 2 : Nat) }), (23, { res := .int .u32 (by4 b i 2 : Nat) }), (24, { res := .int .u32 (by4 b i 2 * 256 : Nat) }), (25, { res := .int .u32 (((by4 b i 0 * 16777216 + by4 b i 1 * 65536) % 4294967296 + by4 b i 2 * 256) % 4294967296 : Nat) }), (28, { res := .int .i64 (4 * i : Nat) }), (29, { res := .int .i64 (4 * i + 3 : Nat) }), (32, { res := .int .u32 (by4 b i 3 : Nat) }), (33, { res := .int .u32 (be32 b i : Nat) })] [1, 2, 8, 9, 17, 18, 26, 27] rfl rfl rfl (by have q0 := by4_lt b i 0; have q1 := by4_lt b i 1; have q2 := by4_lt b i 2; have q3 := by4_lt b i 3; and_intros <;> first | exact ⟨⟩ | omega | (refine congrArg (AV.int _) ?_; first | with_reducible exact u8c b i 0 (by omega) | with_reducible exact u8c b i 1 (by omega) | with_reducible exact u8c b i 2 (by omega) | with_reducible exact u8c b i 3 (by omega) | (rw [add32, be_add]; done)) | (refine congrArg (AV.int _) ?_; first | (rw [add32] <;> rfl) | rw [shr3] | rw [shr10] | rw [shl24 (by4_lt _ _ _)] | rw [shl16 (by4_lt _ _ _)] | rw [shl8 (by4_lt _ _ _)] | (rw [i64_id (by omega) (by omega)]; omega))) ?_
    refine inBlock (reg [] [] rfl (by decide) ?_)
    exact ih (i + 1) _ _ (by omega) (by omega) (by exact agree_cons rfl (by rfl) (agree_imp rfl (by exact w_appN (x := nextW b (wL b i) i) hwl.symm (by rw [nextW, if_pos (by omega)])) rfl rfl (agree_cons rfl (by first | (refine congrArg (AV.int _) ?_; simp only [wrap_i64', tdivN, tmodN]; omega) | skip) (trivial)))) (by rfl)
  · try simp only [zg] at g9
    refine exit rfl (seq (seq (reg [] [] rfl (by decide) ?_)))
    refine block ?_
    -- loop 1
    refine loopF (σ := Nat) (fun i => 16 ≤ i ∧ i ≤ 64) (fun i => [(0, .bs b false), (3, .sl 1 i (wEl (wL b i)) true), (5, .int .i64 i)]) (fun _ => []) (fun i => 64 - i) (16) (by exact ⟨Nat.le_refl _, by decide⟩) (by exact agree_cons rfl (by rfl) (agree_cons rfl (by rw [show i = 16 by omega]) (agree_cons rfl (by rfl) (trivial)))) (by rfl) (fun i2 hi2 ih2 => ?_)
    have hi2a : 16 ≤ i2 := hi2.1; replace hi2 : i2 ≤ 64 := hi2.2; have hwl2 := wL_len b i2
    refine seq (seq (reg [] [0] rfl (by decide) ?_))
    refine condS rfl (fun g49 => ?_) (fun g49 => ?_)
    · try simp only [zg] at g49
      refine skip (seq (block (seq ?_)))
      have hx := wL_ok b i2 (i2 - 15); have hy := wL_ok b i2 (i2 - 2)
      generalize hxe : (wL b i2).getD (i2 - 15) 0 = x at hx
      generalize hye : (wL b i2).getD (i2 - 2) 0 = y at hy
      refine regD [(2, { res := .int .i64 (i2 - 15 : Nat) }), (4, { res := .int .u32 (x : Nat) }), (5, { res := .int .u32 (rotr x 7 : Nat) }), (8, { res := .int .i64 (i2 - 15 : Nat) }), (10, { res := .int .u32 (x : Nat) }), (11, { res := .int .u32 (rotr x 18 : Nat) }), (12, { res := .int .u32 (rotr x 7 ^^^ rotr x 18 : Nat) }), (15, { res := .int .i64 (i2 - 15 : Nat) }), (17, { res := .int .u32 (x : Nat) }), (18, { res := .int .u32 (x / 8 : Nat) }), (19, { res := .int .u32 (sg0 x : Nat) })] [0, 1, 6, 7, 13, 14] rfl rfl rfl (by and_intros <;> first | exact ⟨⟩ | exact left_ok _ 25 (by assumption) (by decide) (by decide) | exact left_ok _ 14 (by assumption) (by decide) (by decide) | omega | (show some (AV.int IntKind.u32 _) = some (AV.int IntKind.u32 _); rw [← hxe]; rfl) | (refine congrArg (AV.int _) ?_; first | (rw [add32] <;> rfl) | (rw [xor32 (by (first | assumption | exact by4_lt _ _ _ | exact rotr_lt (by assumption) | exact mod_lt32 _ | exact sg0_lt (by assumption) | exact sg1_lt (by assumption) | exact div_lt32 (by assumption) | exact xor_lt32 (rotr_lt (by assumption)) (rotr_lt (by assumption)) | exact and_lt32 (by assumption) | exact xor_lt32 (by decide) (by assumption) | (apply or_lt32 <;> omega) | omega)) (by (first | assumption | exact by4_lt _ _ _ | exact rotr_lt (by assumption) | exact mod_lt32 _ | exact sg0_lt (by assumption) | exact sg1_lt (by assumption) | exact div_lt32 (by assumption) | exact xor_lt32 (rotr_lt (by assumption)) (rotr_lt (by assumption)) | exact and_lt32 (by assumption) | exact xor_lt32 (and_lt32 (by assumption)) (and_lt32 (by assumption)) | exact xor_lt32 (by decide) (by assumption) | (apply or_lt32 <;> omega) | omega))] <;> rfl) | rw [shr3] | rw [shr10] | rw [shl24 (by4_lt _ _ _)] | rw [shl16 (by4_lt _ _ _)] | rw [shl8 (by4_lt _ _ _)] | (rw [i64_id (by omega) (by omega)]; omega))) ?_
      refine seq ?_
      refine regD [(2, { res := .int .i64 (i2 - 2 : Nat) }), (4, { res := .int .u32 (y : Nat) }), (5, { res := .int .u32 (rotr y 17 : Nat) }), (8, { res := .int .i64 (i2 - 2 : Nat) }), (10, { res := .int .u32 (y : Nat) }), (11, { res := .int .u32 (rotr y 19 : Nat) }), (12, { res := .int .u32 (rotr y 17 ^^^ rotr y 19 : Nat) }), (15, { res := .int .i64 (i2 - 2 : Nat) }), (17, { res := .int .u32 (y : Nat) }), (18, { res := .int .u32 (y / 1024 : Nat) }), (19, { res := .int .u32 (sg1 y : Nat) })] [0, 1, 6, 7, 13, 14] rfl rfl rfl (by and_intros <;> first | exact ⟨⟩ | exact left_ok _ 15 (by assumption) (by decide) (by decide) | exact left_ok _ 13 (by assumption) (by decide) (by decide) | omega | (show some (AV.int IntKind.u32 _) = some (AV.int IntKind.u32 _); rw [← hye]; rfl) | (refine congrArg (AV.int _) ?_; first | (rw [add32] <;> rfl) | (rw [xor32 (by (first | assumption | exact by4_lt _ _ _ | exact rotr_lt (by assumption) | exact mod_lt32 _ | exact sg0_lt (by assumption) | exact sg1_lt (by assumption) | exact div_lt32 (by assumption) | exact xor_lt32 (rotr_lt (by assumption)) (rotr_lt (by assumption)) | exact and_lt32 (by assumption) | exact xor_lt32 (by decide) (by assumption) | (apply or_lt32 <;> omega) | omega)) (by (first | assumption | exact by4_lt _ _ _ | exact rotr_lt (by assumption) | exact mod_lt32 _ | exact sg0_lt (by assumption) | exact sg1_lt (by assumption) | exact div_lt32 (by assumption) | exact xor_lt32 (rotr_lt (by assumption)) (rotr_lt (by assumption)) | exact and_lt32 (by assumption) | exact xor_lt32 (and_lt32 (by assumption)) (and_lt32 (by assumption)) | exact xor_lt32 (by decide) (by assumption) | (apply or_lt32 <;> omega) | omega))] <;> rfl) | rw [shr3] | rw [shr10] | rw [shl24 (by4_lt _ _ _)] | rw [shl16 (by4_lt _ _ _)] | rw [shl8 (by4_lt _ _ _)] | (rw [i64_id (by omega) (by omega)]; omega))) ?_
      refine regD [(3, { res := .int .i64 (i2 - 16 : Nat) }), (7, { res := .int .u32 (((wL b i2).getD (i2 - 16) 0 + sg0 x) % 4294967296 : Nat) }), (10, { res := .int .i64 (i2 - 7 : Nat) }), (13, { res := .int .u32 ((((wL b i2).getD (i2 - 16) 0 + sg0 x) % 4294967296 + (wL b i2).getD (i2 - 7) 0) % 4294967296 : Nat) }), (15, { res := .int .u32 (((((wL b i2).getD (i2 - 16) 0 + sg0 x) % 4294967296 + (wL b i2).getD (i2 - 7) 0) % 4294967296 + sg1 y) % 4294967296 : Nat) })] [1, 2, 6, 8, 9, 14] rfl rfl rfl (by and_intros <;> first | exact ⟨⟩ | omega | (refine congrArg (AV.int _) ?_; first | (rw [add32] <;> rfl) | rw [shr3] | rw [shr10] | rw [shl24 (by4_lt _ _ _)] | rw [shl16 (by4_lt _ _ _)] | rw [shl8 (by4_lt _ _ _)] | (rw [i64_id (by omega) (by omega)]; omega))) ?_
      refine inBlock (reg [] [] rfl (by decide) ?_)
      exact ih2 (i2 + 1) _ _ (by exact ⟨by omega, by omega⟩) (by omega) (by exact agree_cons rfl (by rfl) (agree_imp rfl (by exact w_appN (x := nextW b (wL b i2) i2) hwl2.symm (by rw [nextW, if_neg (by omega)]; subst hxe; subst hye; rfl)) rfl rfl (agree_cons rfl (by first | (refine congrArg (AV.int _) ?_; simp only [wrap_i64', tdivN, tmodN]; omega) | skip) (trivial)))) (by rfl)
    · try simp only [zg] at g49
      refine exit rfl (seq (reg [] [0] rfl (by decide) ?_))
      exact retH Tryz.func150 rfl rfl (by rw [show i2 = 64 by omega]) (by rfl)


theorem padX_take (k : List UInt8) (x i : Nat) (h : i < 64) : (padX k x).take (i + 1) = (padX k x).take i ++ [UInt8.ofNat (kb k x i)] := by
  rw [List.take_add_one]
  congr 1
  simp [padX, h]
theorem pad_mod (b : List UInt8) : (padL b).length % 64 = 0 ∧ (padL b).length ≤ b.length + 128 := by
  have := tail_mod b
  have := pad_len b
  omega
theorem toB_n (n : Nat) : toB (n : Int) = UInt8.ofNat n := by simp [toB]
def skN (k : List UInt8) (l : List (List UInt8)) : Nat → List UInt8
  | 0 => k
  | i + 1 => hmacS (skN k l i) (l.getD i [])
def skS (s d r v : List UInt8) : List UInt8 := skN ([65, 87, 83, 52] ++ s) [d, r, v, [97, 119, 115, 52, 95, 114, 101, 113, 117, 101, 115, 116]] 4
theorem hmacS_len (k b : List UInt8) : (hmacS k b).length = 32 := shaS_len _
theorem skN_len (k : List UInt8) (l : List (List UInt8)) (n : Nat) (h : k.length ≤ n) (hn : 32 ≤ n) : ∀ i, (skN k l i).length ≤ n
  | 0 => h
  | i + 1 => by show (hmacS _ _).length ≤ n; rw [hmacS_len]; exact hn
def signS (key date scope text : List UInt8) : List UInt8 := hexL (hmacS key ([65, 87, 83, 52, 45, 72, 77, 65, 67, 45, 83, 72, 65, 50, 53, 54, 10] ++ date ++ [10] ++ scope ++ [10] ++ hexL (shaS text)))
theorem hexL_len2 (b : List UInt8) : (hexL b).length = 2 * b.length := by
  induction b with
  | nil => rfl
  | cons c b ih =>
    have e : hexL (c :: b) = hxd (c.toNat / 16) :: hxd (c.toNat % 16) :: hexL b := by simp [hexL]
    rw [e]; simp only [List.length_cons, ih]; omega

set_option maxHeartbeats 1000000 in
theorem rsha_ok (b : List UInt8) (hb : b.length ≤ 67108864) : FnOK Tryz.prog 116 [.bs b false] [] (.bs (shaS b) false) [] := by
  refine FnOK.of_runs Tryz.func116 rfl (Nat.le_of_ble_eq_true rfl) ?_
  refine seq (reg [] [] rfl (by decide) ?_)
  refine seq (reg [(0, { L := [0], res := .bad })] [] rfl (by decide) ?_)
  refine seq (reg [(0, { res := .sl 1 64 (wEl KW) false })] [] rfl (by and_intros <;> first | exact ⟨⟩ | exact roots_ok) ?_)
  refine seq (reg [(1, { res := .bs (padL b) false })] [0] rfl (by and_intros <;> first | exact ⟨⟩ | exact padded_ok b hb) ?_)
  refine seq (seq (reg [] [] rfl (by decide) ?_))
  refine block ?_
  -- loop 0
  have hpm := pad_mod b
  refine loopF (σ := Nat) (fun j => 64 * j ≤ (padL b).length) (fun j => [(3, .hs 0 0 8 8), (4, .sl 1 64 (wEl KW) false), (5, .bs (padL b) false), (6, .int .i64 (64 * j : Nat))]) (fun j => [c8 (shaN H0 (padL b) j)]) (fun j => (padL b).length + 1 - j) (0) (by exact Nat.zero_le _) (by exact zag rfl) (by rfl) (fun j hj ih => ?_)
  replace hj : 64 * j ≤ (padL b).length := hj; have hh := shaN_ok H0_ok (padL b) j; obtain ⟨hc, hce⟩ : ∃ hc, hc = shaN H0 (padL b) j := ⟨_, rfl⟩; rw [← hce] at hh ⊢; obtain ⟨blk, hbk⟩ : ∃ blk, blk = ((padL b).drop (64 * j)).take 64 := ⟨_, rfl⟩; obtain ⟨wl, hwl⟩ : ∃ wl, wl = wL blk 64 := ⟨_, rfl⟩; have hwo : ok32 wl := (by rw [hwl]; exact wL_ok _ _)
  refine seq (seq (reg [] [0, 1] rfl (by decide) ?_))
  refine condS rfl (fun g25 => ?_) (fun g25 => ?_)
  · try simp only [zg] at g25
    refine skip (seq (block (seq ?_)))
    refine reg [(3, { res := .int .i64 (64 * j + 64 : Nat) }), (4, { res := .bs blk false }), (5, { res := .sl 1 64 (wEl wl) false })] [0, 1, 2] rfl (by and_intros <;> first | exact ⟨⟩ | (refine congrArg (AV.int _) ?_; rw [i64_id (by omega) (by omega)]; omega) | (rw [hbk]; exact binj (by rw [Int.toNat_natCast, Int.toNat_natCast, List.drop_take, Nat.add_sub_cancel_left])) | (rw [hwl]; exact schedule_ok blk (by rw [hbk, List.length_take, List.length_drop]; omega)) | omega) ?_
    refine seq (regD [] [0, 3, 6, 9, 12, 15, 18, 21] rfl rfl rfl (by and_intros <;> decide) ?_)
    refine seq (seq (reg [] [] rfl (by decide) ?_))
    refine block ?_
    -- loop 1
    refine loopF (σ := Nat) (fun i => i ≤ 64) (fun i => [(3, .hs 0 0 8 8), (4, .sl 1 64 (wEl KW) false), (5, .bs (padL b) false), (6, .int .i64 (64 * j : Nat)), (7, .sl 1 64 (wEl wl) false), (8, .sl 1 8 (wEl (stN hc wl i)) true), (9, .int .i64 i)]) (fun _ => [c8 hc]) (fun i => 64 - i) (0) (by exact Nat.zero_le _) (by exact agree_cons rfl (by rfl) (agree_cons rfl (by rfl) (agree_cons rfl (by rfl) (agree_cons rfl (by rfl) (agree_cons rfl (by rfl) (agree_imp rfl (by exact Imp.slEq rfl (fun q hq => el8 hc rfl q hq)) rfl rfl (agree_cons rfl (by rfl) (trivial)))))))) (by rfl) (fun i2 hi2 ih2 => ?_)
    replace hi2 : i2 ≤ 64 := hi2; have hs := stN_ok hh wl i2; generalize hse : stN hc wl i2 = s at hs; have hk := KW_ok i2; generalize hke : KW.getD i2 0 = kk at hk; have hw := hwo i2; generalize hwe : wl.getD i2 0 = ww at hw; have h0 := hs 0; have h1 := hs 1; have h2 := hs 2; have h3 := hs 3; have h4 := hs 4; have h5 := hs 5; have h6 := hs 6; have h7 := hs 7
    refine seq (seq (reg [] [0] rfl (by decide) ?_))
    refine condS rfl (fun g60 => ?_) (fun g60 => ?_)
    · try simp only [zg] at g60
      refine skip (seq (block (seq ?_)))
      refine regD [(3, { res := .int .u32 (rotr (s.getD 4 0) 6 : Nat) }), (7, { res := .int .u32 (rotr (s.getD 4 0) 11 : Nat) }), (8, { res := .int .u32 (rotr (s.getD 4 0) 6 ^^^ rotr (s.getD 4 0) 11 : Nat) }), (12, { res := .int .u32 (rotr (s.getD 4 0) 25 : Nat) }), (13, { res := .int .u32 (Sg1 (s.getD 4 0) : Nat) })] [0, 4, 9] rfl rfl rfl (by and_intros <;> first | exact ⟨⟩ | (first | exact left_ok _ 26 (by assumption) (by decide) (by decide) | exact left_ok _ 21 (by assumption) (by decide) (by decide) | exact left_ok _ 7 (by assumption) (by decide) (by decide)) | omega | (rw [← hke]; rfl) | (rw [← hwe]; rfl) | (refine congrArg (AV.int _) ?_; first | (rw [add32] <;> rfl) | (rw [xor32 (by (first | assumption | exact by4_lt _ _ _ | exact rotr_lt (by assumption) | exact mod_lt32 _ | exact sg0_lt (by assumption) | exact sg1_lt (by assumption) | exact div_lt32 (by assumption) | exact xor_lt32 (rotr_lt (by assumption)) (rotr_lt (by assumption)) | exact and_lt32 (by assumption) | exact xor_lt32 (by decide) (by assumption) | (apply or_lt32 <;> omega) | omega)) (by (first | assumption | exact by4_lt _ _ _ | exact rotr_lt (by assumption) | exact mod_lt32 _ | exact sg0_lt (by assumption) | exact sg1_lt (by assumption) | exact div_lt32 (by assumption) | exact xor_lt32 (rotr_lt (by assumption)) (rotr_lt (by assumption)) | exact and_lt32 (by assumption) | exact xor_lt32 (and_lt32 (by assumption)) (and_lt32 (by assumption)) | exact xor_lt32 (by decide) (by assumption) | (apply or_lt32 <;> omega) | omega))] <;> rfl) | rw [shr3] | rw [shr10] | rw [shl24 (by4_lt _ _ _)] | rw [shl16 (by4_lt _ _ _)] | rw [shl8 (by4_lt _ _ _)] | (rw [i64_id (by omega) (by omega)]; omega))) ?_
      refine seq ?_
      refine regD [(6, { res := .int .u32 (s.getD 4 0 &&& s.getD 5 0 : Nat) }), (10, { res := .int .u32 (4294967295 ^^^ s.getD 4 0 : Nat) }), (14, { res := .int .u32 ((4294967295 ^^^ s.getD 4 0) &&& s.getD 6 0 : Nat) }), (15, { res := .int .u32 (chF (s.getD 4 0) (s.getD 5 0) (s.getD 6 0) : Nat) })] [0, 3, 7, 11] rfl rfl rfl (by and_intros <;> first | exact ⟨⟩ | omega | (rw [← hke]; rfl) | (rw [← hwe]; rfl) | (refine congrArg (AV.int _) ?_; first | (rw [add32] <;> rfl) | (rw [xor32 (by (first | assumption | exact by4_lt _ _ _ | exact rotr_lt (by assumption) | exact mod_lt32 _ | exact sg0_lt (by assumption) | exact sg1_lt (by assumption) | exact div_lt32 (by assumption) | exact and_lt32 (by assumption) | exact xor_lt32 (by decide) (by assumption) | (apply or_lt32 <;> omega) | omega)) (by (first | assumption | exact by4_lt _ _ _ | exact rotr_lt (by assumption) | exact mod_lt32 _ | exact sg0_lt (by assumption) | exact sg1_lt (by assumption) | exact div_lt32 (by assumption) | exact xor_lt32 (rotr_lt (by assumption)) (rotr_lt (by assumption)) | exact and_lt32 (by assumption) | exact xor_lt32 (and_lt32 (by assumption)) (and_lt32 (by assumption)) | exact xor_lt32 (by decide) (by assumption) | (apply or_lt32 <;> omega) | omega))] <;> rfl) | (rw [and32 (by (first | assumption | exact by4_lt _ _ _ | exact rotr_lt (by assumption) | exact mod_lt32 _ | exact sg0_lt (by assumption) | exact sg1_lt (by assumption) | exact div_lt32 (by assumption) | exact xor_lt32 (rotr_lt (by assumption)) (rotr_lt (by assumption)) | exact and_lt32 (by assumption) | exact xor_lt32 (and_lt32 (by assumption)) (and_lt32 (by assumption)) | exact xor_lt32 (by decide) (by assumption) | (apply or_lt32 <;> omega) | omega)) (by (first | assumption | exact by4_lt _ _ _ | exact rotr_lt (by assumption) | exact mod_lt32 _ | exact sg0_lt (by assumption) | exact sg1_lt (by assumption) | exact div_lt32 (by assumption) | exact xor_lt32 (rotr_lt (by assumption)) (rotr_lt (by assumption)) | exact and_lt32 (by assumption) | exact xor_lt32 (and_lt32 (by assumption)) (and_lt32 (by assumption)) | exact xor_lt32 (by decide) (by assumption) | (apply or_lt32 <;> omega) | omega))] <;> rfl) | rw [shr3] | rw [shr10] | (rw [not32 (by (first | assumption | exact by4_lt _ _ _ | exact rotr_lt (by assumption) | exact mod_lt32 _ | exact sg0_lt (by assumption) | exact sg1_lt (by assumption) | exact div_lt32 (by assumption) | exact xor_lt32 (rotr_lt (by assumption)) (rotr_lt (by assumption)) | exact and_lt32 (by assumption) | exact xor_lt32 (and_lt32 (by assumption)) (and_lt32 (by assumption)) | exact xor_lt32 (by decide) (by assumption) | (apply or_lt32 <;> omega) | omega))] <;> rfl) | rw [shl24 (by4_lt _ _ _)] | rw [shl16 (by4_lt _ _ _)] | rw [shl8 (by4_lt _ _ _)] | (rw [i64_id (by omega) (by omega)]; omega))) ?_
      refine seq ?_
      refine regD [(4, { res := .int .u32 ((s.getD 7 0 + Sg1 (s.getD 4 0)) % 4294967296 : Nat) }), (6, { res := .int .u32 (((s.getD 7 0 + Sg1 (s.getD 4 0)) % 4294967296 + chF (s.getD 4 0) (s.getD 5 0) (s.getD 6 0)) % 4294967296 : Nat) }), (10, { res := .int .u32 (kk : Nat) }), (11, { res := .int .u32 ((((s.getD 7 0 + Sg1 (s.getD 4 0)) % 4294967296 + chF (s.getD 4 0) (s.getD 5 0) (s.getD 6 0)) % 4294967296 + kk) % 4294967296 : Nat) }), (15, { res := .int .u32 (ww : Nat) }), (16, { res := .int .u32 (t1F s kk ww : Nat) })] [0, 3, 5, 7, 8, 12, 13] rfl rfl rfl (by and_intros <;> first | exact ⟨⟩ | omega | (rw [← hke]; rfl) | (rw [← hwe]; rfl) | (refine congrArg (AV.int _) ?_; first | (rw [add32] <;> rfl) | rw [shr3] | rw [shr10] | rw [shl24 (by4_lt _ _ _)] | rw [shl16 (by4_lt _ _ _)] | rw [shl8 (by4_lt _ _ _)])) ?_
      refine seq ?_
      refine regD [(3, { res := .int .u32 (rotr (s.getD 0 0) 2 : Nat) }), (7, { res := .int .u32 (rotr (s.getD 0 0) 13 : Nat) }), (8, { res := .int .u32 (rotr (s.getD 0 0) 2 ^^^ rotr (s.getD 0 0) 13 : Nat) }), (12, { res := .int .u32 (rotr (s.getD 0 0) 22 : Nat) }), (13, { res := .int .u32 (Sg0 (s.getD 0 0) : Nat) })] [0, 4, 9] rfl rfl rfl (by and_intros <;> first | exact ⟨⟩ | (first | exact left_ok _ 30 (by assumption) (by decide) (by decide) | exact left_ok _ 19 (by assumption) (by decide) (by decide) | exact left_ok _ 10 (by assumption) (by decide) (by decide)) | omega | (rw [← hke]; rfl) | (rw [← hwe]; rfl) | (refine congrArg (AV.int _) ?_; first | (rw [add32] <;> rfl) | (rw [xor32 (by (first | assumption | exact by4_lt _ _ _ | exact rotr_lt (by assumption) | exact mod_lt32 _ | exact sg0_lt (by assumption) | exact sg1_lt (by assumption) | exact div_lt32 (by assumption) | exact xor_lt32 (rotr_lt (by assumption)) (rotr_lt (by assumption)) | exact and_lt32 (by assumption) | exact xor_lt32 (by decide) (by assumption) | (apply or_lt32 <;> omega) | omega)) (by (first | assumption | exact by4_lt _ _ _ | exact rotr_lt (by assumption) | exact mod_lt32 _ | exact sg0_lt (by assumption) | exact sg1_lt (by assumption) | exact div_lt32 (by assumption) | exact xor_lt32 (rotr_lt (by assumption)) (rotr_lt (by assumption)) | exact and_lt32 (by assumption) | exact xor_lt32 (and_lt32 (by assumption)) (and_lt32 (by assumption)) | exact xor_lt32 (by decide) (by assumption) | (apply or_lt32 <;> omega) | omega))] <;> rfl) | rw [shr3] | rw [shr10] | rw [shl24 (by4_lt _ _ _)] | rw [shl16 (by4_lt _ _ _)] | rw [shl8 (by4_lt _ _ _)] | (rw [i64_id (by omega) (by omega)]; omega))) ?_
      refine seq ?_
      refine regD [(7, { res := .int .u32 (s.getD 0 0 &&& s.getD 1 0 : Nat) }), (14, { res := .int .u32 (s.getD 0 0 &&& s.getD 2 0 : Nat) }), (15, { res := .int .u32 ((s.getD 0 0 &&& s.getD 1 0) ^^^ (s.getD 0 0 &&& s.getD 2 0) : Nat) }), (22, { res := .int .u32 (s.getD 1 0 &&& s.getD 2 0 : Nat) }), (23, { res := .int .u32 (majF (s.getD 0 0) (s.getD 1 0) (s.getD 2 0) : Nat) }), (24, { res := .int .u32 (t2F s : Nat) })] [0, 1, 4, 8, 11, 16, 19] rfl rfl rfl (by and_intros <;> first | exact ⟨⟩ | omega | (rw [← hke]; rfl) | (rw [← hwe]; rfl) | (refine congrArg (AV.int _) ?_; first | (rw [add32] <;> rfl) | (rw [xor32 (by (first | assumption | exact by4_lt _ _ _ | exact rotr_lt (by assumption) | exact mod_lt32 _ | exact sg0_lt (by assumption) | exact sg1_lt (by assumption) | exact div_lt32 (by assumption) | exact and_lt32 (by assumption) | exact xor_lt32 (and_lt32 (by assumption)) (and_lt32 (by assumption)) | exact xor_lt32 (by decide) (by assumption) | (apply or_lt32 <;> omega) | omega)) (by (first | assumption | exact by4_lt _ _ _ | exact rotr_lt (by assumption) | exact mod_lt32 _ | exact sg0_lt (by assumption) | exact sg1_lt (by assumption) | exact div_lt32 (by assumption) | exact xor_lt32 (rotr_lt (by assumption)) (rotr_lt (by assumption)) | exact and_lt32 (by assumption) | exact xor_lt32 (and_lt32 (by assumption)) (and_lt32 (by assumption)) | exact xor_lt32 (by decide) (by assumption) | (apply or_lt32 <;> omega) | omega))] <;> rfl) | (rw [and32 (by (first | assumption | exact by4_lt _ _ _ | exact rotr_lt (by assumption) | exact mod_lt32 _ | exact sg0_lt (by assumption) | exact sg1_lt (by assumption) | exact div_lt32 (by assumption) | exact xor_lt32 (rotr_lt (by assumption)) (rotr_lt (by assumption)) | exact and_lt32 (by assumption) | exact xor_lt32 (and_lt32 (by assumption)) (and_lt32 (by assumption)) | exact xor_lt32 (by decide) (by assumption) | (apply or_lt32 <;> omega) | omega)) (by (first | assumption | exact by4_lt _ _ _ | exact rotr_lt (by assumption) | exact mod_lt32 _ | exact sg0_lt (by assumption) | exact sg1_lt (by assumption) | exact div_lt32 (by assumption) | exact xor_lt32 (rotr_lt (by assumption)) (rotr_lt (by assumption)) | exact and_lt32 (by assumption) | exact xor_lt32 (and_lt32 (by assumption)) (and_lt32 (by assumption)) | exact xor_lt32 (by decide) (by assumption) | (apply or_lt32 <;> omega) | omega))] <;> rfl) | rw [shr3] | rw [shr10] | rw [shl24 (by4_lt _ _ _)] | rw [shl16 (by4_lt _ _ _)] | rw [shl8 (by4_lt _ _ _)] | (rw [i64_id (by omega) (by omega)]; omega))) ?_
      refine regD [(2, { res := .int .u32 ((t1F s kk ww + t2F s) % 4294967296 : Nat) }), (16, { res := .int .u32 ((s.getD 3 0 + t1F s kk ww) % 4294967296 : Nat) })] [0, 1, 3, 6, 9, 12, 15, 17, 20, 23] rfl rfl rfl (by and_intros <;> first | exact ⟨⟩ | omega | (rw [← hwe]; rfl)) ?_
      refine inBlock (reg [] [] rfl (by decide) ?_)
      exact ih2 (i2 + 1) _ _ (by omega) (by omega) (by exact agree_cons rfl (by rfl) (agree_cons rfl (by first | rfl | (refine congrArg (AV.int _) ?_; simp only [wrap_i64', tdivN, tmodN]; omega) | skip) (agree_cons rfl (by first | rfl | (refine congrArg (AV.int _) ?_; simp only [wrap_i64', tdivN, tmodN]; omega) | skip) (agree_cons rfl (by first | rfl | (refine congrArg (AV.int _) ?_; simp only [wrap_i64', tdivN, tmodN]; omega) | skip) (agree_cons rfl (by first | rfl | (refine congrArg (AV.int _) ?_; simp only [wrap_i64', tdivN, tmodN]; omega) | skip) (agree_imp rfl (by rw [show stN hc wl (i2 + 1) = rnd (stN hc wl i2) (KW.getD i2 0) (wl.getD i2 0) from rfl, hse, hke, hwe]; exact Imp.slEq rfl (fun q hq => el8 (rnd s kk ww) rfl q hq)) rfl rfl (agree_cons rfl (by first | rfl | (refine congrArg (AV.int _) ?_; simp only [wrap_i64', tdivN, tmodN]; omega) | skip) (trivial)))))))) (by rfl)
    · try simp only [zg] at g60
      refine exit rfl (seq (reg [] [] rfl (by decide) ?_))
      refine block ?_
      -- loop 2
      obtain ⟨st, hst⟩ : ∃ st, st = stN hc wl 64 := ⟨_, rfl⟩; rw [← hse, show i2 = 64 by omega, ← hst]
      refine loopF (σ := Nat) (fun q => q ≤ 8) (fun q => [(3, .hs 0 0 8 8), (4, .sl 1 64 (wEl KW) false), (5, .bs (padL b) false), (6, .int .i64 (64 * j : Nat)), (8, .sl 1 8 (wEl st) true), (15, .int .i64 q)]) (fun q => [cells (mixN hc st q)]) (fun q => 8 - q) (0) (by exact Nat.zero_le _) (by exact zag rfl) (by rfl) (fun q hq ih3 => ?_)
      replace hq : q ≤ 8 := hq; have hml : (cells (mixN hc st q)).length = 8 := by simp [cells, mixN]
      refine seq (seq (reg [] [0] rfl (by decide) ?_))
      refine condS rfl (fun g177 => ?_) (fun g177 => ?_)
      · try simp only [zg] at g177
        refine skip (seq (block (regD [(5, { res := .int .u32 (hc.getD q 0 : Nat) }), (9, { res := .int .u32 (st.getD q 0 : Nat) }), (10, { res := .int .u32 ((hc.getD q 0 + st.getD q 0) % 4294967296 : Nat) })] [0, 1, 2, 3, 6, 7] rfl rfl rfl (by have hm := mixN_at hc st q q (by omega); rw [if_neg (Nat.lt_irrefl _)] at hm; and_intros <;> first | exact ⟨⟩ | (rw [← hm]; exact cells_at (mixN hc st q) q (by omega) (by simp [mixN]; omega)) | rfl | omega) ?_)))
        refine inBlock (reg [] [] rfl (by decide) ?_)
        exact ih3 (q + 1) _ _ (by omega) (by omega) (by exact agree_cons rfl (by rfl) (agree_cons rfl (by first | rfl | (refine congrArg (AV.int _) ?_; simp only [wrap_i64', tdivN, tmodN]; omega) | skip) (agree_cons rfl (by first | rfl | (refine congrArg (AV.int _) ?_; simp only [wrap_i64', tdivN, tmodN]; omega) | skip) (agree_cons rfl (by first | rfl | (refine congrArg (AV.int _) ?_; simp only [wrap_i64', tdivN, tmodN]; omega) | skip) (agree_cons rfl (by first | rfl | (refine congrArg (AV.int _) ?_; simp only [wrap_i64', tdivN, tmodN]; omega) | skip) (agree_cons rfl (by first | rfl | (refine congrArg (AV.int _) ?_; simp only [wrap_i64', tdivN, tmodN]; omega) | skip) (trivial))))))) (by exact congrArg (fun x => [x]) (mix_set _ _ q (by omega) (by omega) rfl))
      · try simp only [zg] at g177
        refine exit rfl (inBlock (reg [] [] rfl (by decide) ?_))
        exact ih (j + 1) _ _ (by show 64 * (j + 1) ≤ (padL b).length; omega) (by omega) (by exact agree_cons rfl (by rfl) (agree_cons rfl (by rfl) (agree_cons rfl (by rfl) (agree_cons rfl (by (refine congrArg (AV.int _) ?_; rw [i64_id (by omega) (by omega)]; omega)) (trivial))))) (by rw [shaN, ← hce, shaB, ← hbk, ← hwl, ← hst, show q = 8 by omega]; rfl)
  · try simp only [zg] at g25
    refine exit rfl (seq (reg [] [] rfl (by decide) ?_))
    refine seq (seq (reg [] [] rfl (by decide) ?_))
    refine block ?_
    -- loop 3
    refine loopF (σ := Nat) (fun i => i ≤ 8) (fun i => [(3, .hs 0 0 8 8), (16, .bs (outN hc i) true), (17, .int .i64 i)]) (fun _ => [c8 hc]) (fun i => 8 - i) (0) (by exact Nat.zero_le _) (by exact zag rfl) (by rfl) (fun i hi ih4 => ?_)
    replace hi : i ≤ 8 := hi
    refine seq (seq (reg [] [0] rfl (by decide) ?_))
    refine condS rfl (fun g193 => ?_) (fun g193 => ?_)
    · try simp only [zg] at g193
      refine skip (seq (block (regD [(4, { res := .int .u32 (hc.getD i 0 : Nat) }), (10, { res := .int .u32 (hc.getD i 0 : Nat) }), (16, { res := .int .u32 (hc.getD i 0 : Nat) }), (22, { res := .int .u32 (hc.getD i 0 : Nat) })] [1, 2, 7, 8, 13, 14, 19, 20] rfl rfl rfl (by and_intros <;> first | exact c8_at hc i (by omega) (by omega) | decide | (simp only [List.length_append, List.length_cons, List.length_nil, List.length_replicate, List.length_map, List.length_take, List.length_drop, put64_len, outN_len]; omega) | omega | (intro z hz; simp only [wrap_u8, List.mem_cons, List.not_mem_nil, or_false] at hz; (try rcases hz with rfl | rfl | rfl | rfl) <;> omega)) ?_)))
      refine inBlock (reg [] [] rfl (by decide) ?_)
      exact ih4 (i + 1) _ _ (by omega) (by omega) (by exact agree_cons rfl (by rfl) (agree_cons rfl (by exact inj (by rw [outN_succ]; exact congrArg (outN hc i ++ ·) (be4_bytes _))) (agree_cons rfl (by first | (refine congrArg (AV.int _) ?_; simp only [wrap_i64', tdivN, tmodN]; omega) | skip) (trivial)))) (by rfl)
    · try simp only [zg] at g193
      refine exit rfl (seq (reg [] [0] rfl (by decide) ?_))
      refine drop 0 (Nat.le_refl _) rfl ?_
      exact retH Tryz.func116 rfl rfl (by exact inj (by rw [shaS, shaH, show i = 8 by omega, hce, show (padL b).length / 64 = j by omega])) rfl

theorem rhmac_ok (key b : List UInt8) (hk : key.length ≤ 16777216) (hb : b.length ≤ 16777216) : FnOK Tryz.prog 115 [.bs key false, .bs b false] [] (.bs (hmacS key b) false) [] := by
  refine FnOK.of_runs Tryz.func115 rfl (Nat.le_of_ble_eq_true rfl) ?_
  refine seq (reg [] [] rfl (by decide) ?_)
  refine seq (reg [] [0] rfl (by decide) ?_)
  refine seq (seq (reg [] [0] rfl (by decide) ?_))
  refine meet (σ := List UInt8) (fun k => k = if 64 < key.length then shaS key else key) (fun k => [(1, .bs b false), (5, .bs k false)]) (fun _ => []) (fun k hke => ?_) (fun meet_a => Runs.condS rfl (fun g13 => ?_) (fun g13 => ?_))
  · skip
    refine seq (reg [] [] rfl (by decide) ?_)
    refine seq (seq (reg [] [] rfl (by decide) ?_))
    refine block ?_
    -- loop 0
    have hkl : k.length ≤ 64 := (by rw [hke]; split; (rw [shaS_len]; decide); omega)
    refine loopF (σ := Nat) (fun i => i ≤ 64) (fun i => [(1, .bs b false), (5, .bs k false), (6, .bs ((padX k 54).take i) true), (7, .bs ((padX k 92).take i) true), (8, .int .i64 i)]) (fun _ => []) (fun i => 64 - i) (0) (by exact Nat.zero_le _) (by exact zag rfl) (by rfl) (fun i hi ih => ?_)
    replace hi : i ≤ 64 := hi
    refine seq (seq (reg [] [0] rfl (by decide) ?_))
    refine condS rfl (fun g17 => ?_) (fun g17 => ?_)
    · try simp only [zg] at g17
      refine skip (seq (block (seq (reg [] [] rfl (by decide) ?_))))
      refine seq (seq (reg [] [0, 1] rfl (by decide) ?_))
      refine meet (σ := Unit) (fun _ => True) (fun _ => [(1, .bs b false), (5, .bs k false), (6, .bs ((padX k 54).take i) true), (7, .bs ((padX k 92).take i) true), (8, .int .i64 i), (9, .int .u8 ((k.getD i 0).toNat : Nat))]) (fun _ => []) (fun _ _ => ?_) (fun meet_x => Runs.condS rfl (fun g23 => ?_) (fun g23 => ?_))
      · skip
        refine seq (reg [(2, { res := .int .u8 (kb k 54 i : Nat) })] [] rfl (by have := kb_lt k 54 i (by decide); and_intros <;> first | exact congrArg (AV.int _) (xor8 k 54 i (by decide)) | decide | (simp only [List.length_take, padX_len, List.length_cons, List.length_nil, List.length_map]; omega) | (intro z hz; simp only [List.mem_cons, List.not_mem_nil, or_false] at hz; omega)) ?_)
        refine reg [(2, { res := .int .u8 (kb k 92 i : Nat) })] [] rfl (by have := kb_lt k 92 i (by decide); and_intros <;> first | exact congrArg (AV.int _) (xor8 k 92 i (by decide)) | decide | (simp only [List.length_take, padX_len, List.length_cons, List.length_nil, List.length_map]; omega) | (intro z hz; simp only [List.mem_cons, List.not_mem_nil, or_false] at hz; omega)) ?_
        refine inBlock (reg [] [] rfl (by decide) ?_)
        exact ih (i + 1) _ _ (by omega) (by omega) (by exact agree_cons rfl (by rfl) (agree_cons rfl (by first | rfl | (refine congrArg (AV.int _) ?_; simp only [wrap_i64', tdivN, tmodN]; omega) | skip) (agree_cons rfl (by exact inj (by rw [padX_take _ _ _ (by omega)]; exact congrArg ((padX k 54).take i ++ [·]) (toB_n _))) (agree_cons rfl (by exact inj (by rw [padX_take _ _ _ (by omega)]; exact congrArg ((padX k 92).take i ++ [·]) (toB_n _))) (agree_cons rfl (by first | rfl | (refine congrArg (AV.int _) ?_; simp only [wrap_i64', tdivN, tmodN]; omega) | skip) (trivial)))))) (by rfl)
      · try simp only [zg] at g23
        refine reg [] [0, 1] rfl (by and_intros <;> first | trivial | omega) ?_
        exact meet_x (()) _ _ (by trivial) (by exact agree_cons rfl (by rfl) (agree_cons rfl (by rfl) (agree_cons rfl (by rfl) (agree_cons rfl (by rfl) (agree_cons rfl (by rfl) (agree_cons rfl (by rfl) (trivial))))))) (by rfl)
      · try simp only [zg] at g23
        refine skip ?_
        exact meet_x (()) _ _ (by trivial) (by exact agree_cons rfl (by rfl) (agree_cons rfl (by rfl) (agree_cons rfl (by rfl) (agree_cons rfl (by rfl) (agree_cons rfl (by rfl) (agree_cons rfl (by (rw [List.getD_eq_getElem?_getD, List.getElem?_eq_none (by omega)]; rfl)) (trivial))))))) (by rfl)
    · try simp only [zg] at g17
      refine exit rfl (seq ?_)
      have ht : ∀ x, (padX k x).take i = padX k x := fun x => List.take_of_length_le (by rw [padX_len]; omega)
      rw [ht, ht]
      refine reg [(4, { res := .bs (shaS (padX k 54 ++ b)) false }), (6, { res := .bs (shaS (padX k 92 ++ shaS (padX k 54 ++ b))) false })] [] rfl (by and_intros <;> first | exact ⟨⟩ | (rw [padX_len]; omega) | (rw [padX_len, shaS_len]; decide) | exact rsha_ok (padX k 54 ++ b) (by rw [List.length_append, padX_len]; omega) | exact rsha_ok _ (by rw [List.length_append, padX_len, shaS_len]; decide)) ?_
      exact retH Tryz.func115 rfl rfl (by rw [hmacS, ← hke]) (by rfl)
  · try simp only [zg] at g13
    refine reg [(1, { res := .bs (shaS key) false })] [] rfl (by and_intros <;> first | exact ⟨⟩ | exact rsha_ok key (by omega)) ?_
    exact meet_a (shaS key) _ _ (by (rw [if_pos (by omega)])) (by exact zag rfl) (by rfl)
  · try simp only [zg] at g13
    refine skip ?_
    exact meet_a (key) _ _ (by (rw [if_neg (by omega)])) (by exact zag rfl) (by rfl)

theorem mac_ok (key b : List UInt8) (hk : key.length ≤ 16777216) (hb : b.length ≤ 16777216) : FnOK Tryz.prog 75 [.bs key false, .str b] [] (.bs (hmacS key b) false) [] := by
  refine FnOK.of_runs Tryz.func75 rfl (Nat.le_of_ble_eq_true rfl) ?_
  refine seq (reg [] [] rfl (by decide) ?_)
  refine seq (reg [(3, { res := .bs (hmacS key b) false })] [0, 1] rfl (by and_intros <;> first | exact ⟨⟩ | exact rhmac_ok key b hk hb) ?_)
  exact retH Tryz.func75 rfl rfl (by rfl) (by rfl)

theorem sum_ok (b : List UInt8) (hb : b.length ≤ 67108864) : FnOK Tryz.prog 76 [.str b] [] (.str (hexL (shaS b))) [] := by
  refine FnOK.of_runs Tryz.func76 rfl (Nat.le_of_ble_eq_true rfl) ?_
  refine seq (reg [] [] rfl (by decide) ?_)
  refine seq (reg [(2, { res := .bs (shaS b) false }), (3, { res := .str (hexL (shaS b)) })] [0] rfl (by and_intros <;> first | exact ⟨⟩ | exact rsha_ok b hb | exact rhex_ok _ false (by rw [shaS_len]; decide)) ?_)
  exact retH Tryz.func76 rfl rfl (by rfl) (by rfl)

theorem skey_ok (s d r v : List UInt8) (hs : s.length ≤ 1048576) (hd : d.length ≤ 1048576) (hr : r.length ≤ 1048576) (hv : v.length ≤ 1048576) : FnOK Tryz.prog 25 [.str s, .str d, .str r, .str v] [] (.bs (skS s d r v) false) [] := by
  refine FnOK.of_runs Tryz.func25 rfl (Nat.le_of_ble_eq_true rfl) ?_
  refine seq (reg [] [] rfl (by decide) ?_)
  refine seq (reg [] [0] rfl (by simp only [List.length_cons, List.length_nil]; and_intros <;> first | exact ⟨⟩ | omega) ?_)
  refine seq (seq ?_)
  obtain ⟨l, hl⟩ : ∃ l : List (List UInt8), l = [d, r, v, [97, 119, 115, 52, 95, 114, 101, 113, 117, 101, 115, 116]] := ⟨_, rfl⟩; have hll : ∀ i, (l.getD i []).length ≤ 1048576 := (fun i => by rw [hl]; match i with | 0 => exact hd | 1 => exact hr | 2 => exact hv | 3 => exact (show (12 : Nat) ≤ 1048576 from by decide) | i + 4 => exact Nat.zero_le _)
  refine reg [] [0, 1, 2] rfl (by decide) ?_
  refine block ?_
  -- loop 0
  refine loopF (σ := Nat) (fun i => i ≤ 4) (fun i => [(9, .bs (skN ([65, 87, 83, 52] ++ s) l i) false), (18, .agg [.str d, .str r, .str v, .str [97, 119, 115, 52, 95, 114, 101, 113, 117, 101, 115, 116]]), (19, .int .i64 i)]) (fun _ => []) (fun i => 4 - i) (0) (by exact Nat.zero_le _) (by exact agree_imp rfl (by exact Imp.un1 _) rfl rfl (agree_cons rfl (by rfl) (agree_cons rfl (by rfl) (trivial)))) (by rfl) (fun i hi ih => ?_)
  replace hi : i ≤ 4 := hi; have hkl := skN_len ([65, 87, 83, 52] ++ s) l 1048580 (by simp; omega) (by decide) i
  refine seq (reg [] [] rfl (by decide) ?_)
  refine seq ?_
  refine condS rfl (fun g20 => ?_) (fun g20 => ?_)
  · try simp only [zg] at g20
    refine skip (seq (block (seq (reg [(0, { res := .str (l.getD i []) })] [] rfl (by and_intros <;> first | exact ⟨⟩ | omega | decide | (have h4 : i = 0 ∨ i = 1 ∨ i = 2 ∨ i = 3 := (by omega); rcases h4 with rfl | rfl | rfl | rfl <;> (rw [hl]; rfl)) | exact zl rfl) ?_))))
    refine reg [(3, { res := .bs (hmacS (skN ([65, 87, 83, 52] ++ s) l i) (l.getD i [])) false })] [1] rfl (by and_intros <;> first | exact ⟨⟩ | exact hmac_ok _ _ (by omega) (by have := hll i; omega)) ?_
    refine inBlock (reg [] [] rfl (by decide) ?_)
    exact ih (i + 1) _ _ (by omega) (by omega) (by exact agree_cons rfl (by rfl) (agree_cons rfl (by first | rfl | (refine congrArg (AV.int _) ?_; simp only [wrap_i64', tdivN, tmodN]; omega) | skip) (agree_cons rfl (by first | rfl | (refine congrArg (AV.int _) ?_; simp only [wrap_i64', tdivN, tmodN]; omega) | skip) (trivial)))) (by rfl)
  · try simp only [zg] at g20
    refine exit rfl (seq (reg [] [0] rfl (by decide) ?_))
    exact retH Tryz.func25 rfl rfl (by rw [skS, ← hl, show i = 4 by omega]) (by rfl)

theorem rskey_ok (s d r v : List UInt8) (hs : s.length ≤ 1048576) (hd : d.length ≤ 1048576) (hr : r.length ≤ 1048576) (hv : v.length ≤ 1048576) : FnOK Tryz.prog 33 [.str s, .str d, .str r, .str v] [] (.bs (skS s d r v) false) [] := by
  refine FnOK.of_runs Tryz.func33 rfl (Nat.le_of_ble_eq_true rfl) ?_
  refine seq (reg [] [] rfl (by decide) ?_)
  refine seq ?_
  obtain ⟨k1, h1⟩ : ∃ x, x = hmacS ([65, 87, 83, 52] ++ s) d := ⟨_, rfl⟩
  obtain ⟨k2, h2⟩ : ∃ x, x = hmacS k1 r := ⟨_, rfl⟩
  obtain ⟨k3, h3⟩ : ∃ x, x = hmacS k2 v := ⟨_, rfl⟩
  obtain ⟨k4, h4⟩ : ∃ x, x = hmacS k3 [97, 119, 115, 52, 95, 114, 101, 113, 117, 101, 115, 116] := ⟨_, rfl⟩
  have m1 : FnOK Tryz.prog 75 [.bs ([65, 87, 83, 52] ++ s) false, .str d] [] (.bs k1 false) [] := by rw [h1]; exact mac_ok _ _ (by simp; omega) (by omega)
  have m2 : FnOK Tryz.prog 75 [.bs k1 false, .str r] [] (.bs k2 false) [] := by rw [h2]; exact mac_ok _ _ (by rw [h1, hmacS_len]; decide) (by omega)
  have m3 : FnOK Tryz.prog 75 [.bs k2 false, .str v] [] (.bs k3 false) [] := by rw [h3]; exact mac_ok _ _ (by rw [h2, hmacS_len]; decide) (by omega)
  have m4 : FnOK Tryz.prog 75 [.bs k3 false, .str [97, 119, 115, 52, 95, 114, 101, 113, 117, 101, 115, 116]] [] (.bs k4 false) [] := by rw [h4]; exact mac_ok _ _ (by rw [h3, hmacS_len]; decide) (by decide)
  have hk4 : skS s d r v = k4 := by rw [h4, h3, h2, h1]; rfl
  refine reg [(4, { res := .bs k1 false }), (6, { res := .bs k2 false }), (8, { res := .bs k3 false }), (9, { res := .bs k4 false })] [0, 3, 5, 7] rfl (by simp only [List.length_cons, List.length_nil]; and_intros <;> first | exact ⟨⟩ | omega | exact m1 | exact m2 | exact m3 | exact m4) ?_
  exact retH Tryz.func33 rfl rfl (by rw [hk4]) (by rfl)

theorem sign_ok (key d s t : List UInt8) (hk : key.length ≤ 1048576) (hd : d.length ≤ 1048576) (hs : s.length ≤ 1048576) (ht : t.length ≤ 67108864) : FnOK Tryz.prog 24 [.bs key false, .str d, .str s, .str t] [] (.str (signS key d s t)) [] := by
  refine FnOK.of_runs Tryz.func24 rfl (Nat.le_of_ble_eq_true rfl) ?_
  refine seq (reg [] [] rfl (by decide) ?_)
  refine seq ?_
  have hsl : (hexL (shaS t)).length = 64 := (by rw [hexL_len2, shaS_len])
  refine reg [(8, { res := .bs (shaS t) false }), (9, { res := .str (hexL (shaS t)) })] [0, 3, 6] rfl (by simp only [List.length_append, List.length_cons, List.length_nil]; and_intros <;> first | exact ⟨⟩ | exact sha_ok t (by omega) | exact hex_ok _ false (by rw [shaS_len]; decide) | omega) ?_
  refine seq (reg [(3, { res := .bs (hmacS key ([65, 87, 83, 52, 45, 72, 77, 65, 67, 45, 83, 72, 65, 50, 53, 54, 10] ++ d ++ [10] ++ s ++ [10] ++ hexL (shaS t))) false }), (4, { res := .str (signS key d s t) })] [0, 1] rfl (by and_intros <;> first | exact ⟨⟩ | exact hmac_ok key _ (by omega) (by simp only [List.length_append, List.length_cons, List.length_nil]; omega) | exact hex_ok _ false (by rw [hmacS_len]; decide)) ?_)
  exact retH Tryz.func24 rfl rfl (by rfl) (by rfl)

theorem rsign_ok (key d s t : List UInt8) (hk : key.length ≤ 1048576) (hd : d.length ≤ 1048576) (hs : s.length ≤ 1048576) (ht : t.length ≤ 67108864) : FnOK Tryz.prog 32 [.bs key false, .str d, .str s, .str t] [] (.str (signS key d s t)) [] := by
  refine FnOK.of_runs Tryz.func32 rfl (Nat.le_of_ble_eq_true rfl) ?_
  refine seq (reg [] [] rfl (by decide) ?_)
  refine seq ?_
  have hsl : (hexL (shaS t)).length = 64 := (by rw [hexL_len2, shaS_len])
  refine reg [(8, { res := .str (hexL (shaS t)) }), (10, { res := .bs (hmacS key ([65, 87, 83, 52, 45, 72, 77, 65, 67, 45, 83, 72, 65, 50, 53, 54, 10] ++ d ++ [10] ++ s ++ [10] ++ hexL (shaS t))) false }), (11, { res := .str (signS key d s t) })] [0, 1, 4, 7] rfl (by and_intros <;> first | exact ⟨⟩ | exact sum_ok t (by omega) | exact mac_ok key _ (by omega) (by simp only [List.length_append, List.length_cons, List.length_nil]; omega) | exact rhex_ok _ false (by rw [hmacS_len]; decide) | (simp only [List.length_append, List.length_cons, List.length_nil]; omega)) ?_
  exact retH Tryz.func32 rfl rfl (by rfl) (by rfl)

end Go.Proofs.YtdigohaeakclfaaGreatDoor
