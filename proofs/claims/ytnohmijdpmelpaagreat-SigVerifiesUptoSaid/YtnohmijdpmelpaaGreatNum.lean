/- Digits and numbers read; beginnings and ends of texts. -/
import Derived.Test.YtnohmijdpmelpaaGreatCanon
set_option maxRecDepth 100000
set_option linter.unusedVariables false
set_option linter.unusedSimpArgs false
namespace Go.Proofs.YtnohmijdpmelpaaGreat
open Go Go.Am Go.Am.Runs

theorem digit_ok (c : UInt8) : FnOK Tryz.prog 145 [.int .u8 c.toNat] [] (.tup [.int .u8 ((hv c).getD 0 : Nat), .bool (hv c).isSome]) [] := by
  refine FnOK.of_runs Tryz.func145 rfl (Nat.le_of_ble_eq_true rfl) ?_
  refine seq (reg [] [] rfl (by decide) ?_)
  refine seq (block (seq (region (restTo 3 [] [0, 3] rfl (by decide) ?_))))
  refine splitS 7 rfl (fun g7 => ?_) (fun g7 => ?_)
  · try simp only [zg] at g7
    refine rest [] [0, 3] rfl (by decide) ?_
    refine condS rfl (fun g4 => ?_) (fun g4 => ?_)
    · try simp only [zg] at g4
      refine seq (reg [] [0] rfl (by decide) ?_)
      exact retH Tryz.func145 rfl rfl (by have := u8lt c; simp only [hv]; (try simp only [wrap_u8]); (repeat' split) <;> (simp <;> omega)) (by rfl)
    · try simp only [zg] at g4
      refine seq (region (restTo 3 [] [0, 3] rfl (by decide) ?_))
      refine splitS 16 rfl (fun g16 => ?_) (fun g16 => ?_)
      · try simp only [zg] at g16
        refine rest [] [0, 3] rfl (by decide) ?_
        refine condS rfl (fun g13 => ?_) (fun g13 => ?_)
        · try simp only [zg] at g13
          refine seq (reg [] [0] rfl (by decide) ?_)
          exact retH Tryz.func145 rfl rfl (by have := u8lt c; simp only [hv]; (try simp only [wrap_u8]); (repeat' split) <;> (simp <;> omega)) (by rfl)
        · try simp only [zg] at g13
          refine skip (inBlock (seq (reg [] [] rfl (by decide) ?_)))
          exact retH Tryz.func145 rfl rfl (by have := u8lt c; simp only [hv]; (try simp only [wrap_u8]); (repeat' split) <;> (simp <;> omega)) (by rfl)
      · try simp only [zg] at g16
        refine rest [] [0, 3] rfl (by decide) ?_
        refine condF rfl (skip (inBlock (seq (reg [] [] rfl (by decide) ?_))))
        exact retH Tryz.func145 rfl rfl (by have := u8lt c; simp only [hv]; (try simp only [wrap_u8]); (repeat' split) <;> (simp <;> omega)) (by rfl)
  · try simp only [zg] at g7
    refine rest [] [0, 3] rfl (by decide) ?_
    refine condF rfl (seq (region (restTo 3 [] [0, 3] rfl (by decide) ?_)))
    refine splitS 16 rfl (fun g16 => ?_) (fun g16 => ?_)
    · try simp only [zg] at g16
      refine rest [] [0, 3] rfl (by decide) ?_
      refine condS rfl (fun g13 => ?_) (fun g13 => ?_)
      · try simp only [zg] at g13
        refine seq (reg [] [0] rfl (by decide) ?_)
        exact retH Tryz.func145 rfl rfl (by have := u8lt c; simp only [hv]; (try simp only [wrap_u8]); (repeat' split) <;> (simp <;> omega)) (by rfl)
      · try simp only [zg] at g13
        refine skip (inBlock (seq (reg [] [] rfl (by decide) ?_)))
        exact retH Tryz.func145 rfl rfl (by have := u8lt c; simp only [hv]; (try simp only [wrap_u8]); (repeat' split) <;> (simp <;> omega)) (by rfl)
    · try simp only [zg] at g16
      refine rest [] [0, 3] rfl (by decide) ?_
      refine condF rfl (skip (inBlock (seq (reg [] [] rfl (by decide) ?_))))
      exact retH Tryz.func145 rfl rfl (by have := u8lt c; simp only [hv]; (try simp only [wrap_u8]); (repeat' split) <;> (simp <;> omega)) (by rfl)

theorem unhex_ok (s : List UInt8) (hs : s.length ≤ 16777216) : FnOK Tryz.prog 121 [.str s] [] (.tup [.bs ((unhexL s).getD []) false, .bool (unhexL s).isSome]) [] := by
  refine FnOK.of_runs Tryz.func121 rfl (Nat.le_of_ble_eq_true rfl) ?_
  refine seq (reg [] [] rfl (by decide) ?_)
  refine seq (seq (reg [] [0] rfl (by and_intros <;> first | exact ⟨⟩ | omega) ?_))
  refine condS rfl (fun g13 => ?_) (fun g13 => ?_)
  · try simp only [zg] at g13
    refine seq (reg [] [] rfl (by decide) ?_)
    exact retH Tryz.func121 rfl rfl (by rw [unhex_odd (by omega)]; rfl) (by rfl)
  · try simp only [zg] at g13
    refine skip (seq (reg [] [0] rfl (by (try simp only [wrap_i64', wrap_u8, wrap_u16, wrap_u32, wrap_u64, wrap_i32, List.length_cons, List.length_nil, List.length_append, List.length_map, tmodN, tdivN]); and_intros <;> first | exact True.intro | omega) ?_))
    refine seq (seq (reg [] [] rfl (by decide) ?_))
    refine block ?_
    -- loop 0
    refine loopF (σ := Nat × List UInt8) (fun p => UnI s p.1 p.2) (fun p => [(0, .str s), (4, .bs p.2 true), (5, .int .i64 p.1)]) (fun _ => []) (fun p => s.length + 1 - p.1) ((0, [])) (by exact UnI.start (by omega)) (by exact zag rfl) (by rfl) (fun ⟨i, out⟩ hi ih => ?_)
    have hi : UnI s i out := hi; have hle := hi.le; have hev := hi.ev; have hevs := hi.evs; have hlen := hi.len
    refine seq (seq (reg [] [0, 1] rfl (by decide) ?_))
    refine condS rfl (fun g21 => ?_) (fun g21 => ?_)
    · try simp only [zg] at g21
      refine skip (seq (block (seq (reg [(3, { res := .tup [.int .u8 ((hv (s.getD (i : Int).toNat 0)).getD 0 : Nat), .bool (hv (s.getD (i : Int).toNat 0)).isSome] })] [0, 1] rfl (by and_intros <;> first | exact ⟨⟩ | omega | exact digit_ok _) ?_))))
      refine seq (reg [(4, { res := .tup [.int .u8 ((hv (s.getD (IntKind.i64.wrap ((i : Int) + 1)).toNat 0)).getD 0 : Nat), .bool (hv (s.getD (IntKind.i64.wrap ((i : Int) + 1)).toNat 0)).isSome] })] [0, 1] rfl (by rw [i64_id (by omega) (by omega)]; and_intros <;> first | exact ⟨⟩ | omega | exact digit_ok _) ?_)
      refine seq (seq (region (restTo 3 [] [0, 3] rfl (by decide) ?_)))
      refine splitS 41 rfl (fun g41 => ?_) (fun g41 => ?_)
      · try simp only [zg] at g41
        refine rest [] [0, 3] rfl (by decide) ?_
        refine condT rfl (seq (reg [] [] rfl (by decide) ?_))
        exact retH Tryz.func121 rfl rfl (by rw [hi.none1 (by omega) (Option.isSome_eq_false_iff.1 g41 |> Option.isNone_iff_eq_none.1)]; rfl) (by rfl)
      · try simp only [zg] at g41
        refine rest [] [0, 3] rfl (by decide) ?_
        refine condS rfl (fun g44 => ?_) (fun g44 => ?_)
        · try simp only [zg] at g44
          refine seq (reg [] [] rfl (by decide) ?_)
          exact retH Tryz.func121 rfl rfl (by rw [i1 i (by omega)] at g44; rw [hi.none2 (by omega) (Option.isSome_eq_false_iff.1 g44 |> Option.isNone_iff_eq_none.1)]; rfl) (by rfl)
        · try simp only [zg] at g44
          refine skip ?_
          obtain ⟨x, hx⟩ := Option.isSome_iff_exists.1 g41
          rw [i1 i (by omega)] at g44
          obtain ⟨y, hy⟩ := Option.isSome_iff_exists.1 g44
          refine reg [] [] rfl (by rw [hx, i1 i (by omega), hy, Option.getD_some, Option.getD_some, or4 (hv_lt hx) (hv_lt hy)]; have := hv_lt hx; have := hv_lt hy; simp only [List.length_cons, List.length_nil, List.length_map]; and_intros <;> first | exact ⟨⟩ | omega | (intro z hz; simp only [List.mem_cons, List.not_mem_nil, or_false] at hz; omega)) ?_
          refine inBlock (reg [] [] rfl (by decide) ?_)
          exact ih (i + 2, out ++ [UInt8.ofNat (16 * x + y)]) _ _ (by exact hi.step (by omega) hx hy) (by simp only; omega) (by exact agree_cons rfl (by rfl) (agree_cons rfl (by rw [hx, i1 i (by omega), hy, Option.getD_some, Option.getD_some, or4 (hv_lt hx) (hv_lt hy)]; exact congrArg (AV.bs · true) (by simp only [List.map_cons, List.map_nil, toB_ofNat])) (agree_cons rfl (by first | (refine congrArg (AV.int _) ?_; simp only [wrap_i64', tdivN, tmodN]; omega) | skip) (trivial)))) (by rfl)
    · try simp only [zg] at g21
      refine exit rfl (seq (reg [] [0] rfl (by decide) ?_))
      exact retH Tryz.func121 rfl rfl (by rw [hi.done (by omega)]; rfl) (by rfl)

theorem find_ok (s : List UInt8) (c : UInt8) (hs : s.length ≤ 16777216) : FnOK Tryz.prog 127 [.str s, .int .u8 c.toNat] [] (.int .i64 (fndI s c)) [] := by
  refine FnOK.of_runs Tryz.func127 rfl (Nat.le_of_ble_eq_true rfl) ?_
  refine seq (reg [] [] rfl (by decide) ?_)
  refine seq (seq (reg [] [] rfl (by decide) ?_))
  refine block ?_
  -- loop 0
  refine loopF (σ := Nat) (fun i => FdI s c i) (fun i => [(0, .str s), (1, .int .u8 c.toNat), (5, .int .i64 i)]) (fun _ => []) (fun i => s.length - i) (0) (by exact ⟨Nat.zero_le _, by simp⟩) (by exact zag rfl) (by rfl) (fun i hi ih => ?_)
  have hle := hi.le
  refine seq (seq (reg [] [0, 1] rfl (by decide) ?_))
  refine condS rfl (fun g9 => ?_) (fun g9 => ?_)
  · try simp only [zg] at g9
    refine skip (seq (block (seq (reg [] [0, 1, 3] rfl (by and_intros <;> first | trivial | omega) ?_))))
    refine condS rfl (fun g16 => ?_) (fun g16 => ?_)
    · try simp only [zg] at g16
      refine seq (reg [] [0] rfl (by decide) ?_)
      exact retH Tryz.func127 rfl rfl (by rw [hi.hit (by omega) (UInt8.toNat_inj.1 (Int.ofNat_inj.1 g16))]) (by rfl)
    · try simp only [zg] at g16
      refine skip (inBlock (reg [] [] rfl (by decide) ?_))
      exact ih (i + 1) _ _ (by exact hi.step (by omega) (fun e => g16 (by rw [← e]; rfl))) (by omega) (by exact agree_cons rfl (by rfl) (agree_cons rfl (by first | rfl | (refine congrArg (AV.int _) ?_; simp only [wrap_i64', tdivN, tmodN]; omega) | skip) (agree_cons rfl (by first | rfl | (refine congrArg (AV.int _) ?_; simp only [wrap_i64', tdivN, tmodN]; omega) | skip) (trivial)))) (by rfl)
  · try simp only [zg] at g9
    refine exit rfl (seq (reg [] [] rfl (by decide) ?_))
    exact retH Tryz.func127 rfl rfl (by rw [hi.done (by omega)]) (by rfl)

theorem runhex_ok (s : List UInt8) (hs : s.length ≤ 16777216) : FnOK Tryz.prog 92 [.str s] [] (.tup [.bs ((unhexL s).getD []) false, .bool (unhexL s).isSome]) [] := by
  refine FnOK.of_runs Tryz.func92 rfl (Nat.le_of_ble_eq_true rfl) ?_
  refine seq (reg [] [] rfl (by decide) ?_)
  refine seq (seq (reg [] [0] rfl (by and_intros <;> first | exact ⟨⟩ | omega) ?_))
  refine condS rfl (fun g11 => ?_) (fun g11 => ?_)
  · try simp only [zg] at g11
    refine seq (reg [] [] rfl (by decide) ?_)
    exact retH Tryz.func92 rfl rfl (by rw [unhex_odd (by omega)]; rfl) (by rfl)
  · try simp only [zg] at g11
    refine skip (seq (reg [] [] rfl (by decide) ?_))
    refine seq (seq (reg [] [] rfl (by decide) ?_))
    refine block ?_
    -- loop 0
    refine loopF (σ := Nat × List UInt8) (fun p => UnI s p.1 p.2) (fun p => [(0, .str s), (4, .bs p.2 true), (5, .int .i64 p.1)]) (fun _ => []) (fun p => s.length + 1 - p.1) ((0, [])) (by exact UnI.start (by omega)) (by exact zag rfl) (by rfl) (fun ⟨i, out⟩ hi ih => ?_)
    have hi : UnI s i out := hi; have hle := hi.le; have hev := hi.ev; have hevs := hi.evs; have hlen := hi.len
    refine seq (seq (reg [] [0, 1] rfl (by decide) ?_))
    refine condS rfl (fun g15 => ?_) (fun g15 => ?_)
    · try simp only [zg] at g15
      refine skip (seq (block (seq (reg [(3, { res := .int .i64 (fndI HX (s.getD (i : Int).toNat 0)) })] [0, 1] rfl (by and_intros <;> first | exact ⟨⟩ | omega | exact find_ok HX _ (by decide)) ?_))))
      refine seq (reg [(4, { res := .int .i64 (fndI HX (s.getD (IntKind.i64.wrap ((i : Int) + 1)).toNat 0)) })] [0, 1] rfl (by rw [i64_id (by omega) (by omega)]; and_intros <;> first | exact ⟨⟩ | omega | exact find_ok HX _ (by decide)) ?_)
      refine seq (seq (region (restTo 3 [] [0, 3] rfl (by decide) ?_)))
      refine splitS 29 rfl (fun g29 => ?_) (fun g29 => ?_)
      · try simp only [zg] at g29
        refine rest [] [0, 3] rfl (by decide) ?_
        refine condT rfl (seq (reg [] [] rfl (by decide) ?_))
        exact retH Tryz.func92 rfl rfl (by rw [hi.none1 (by omega) (fnd_none g29)]; rfl) (by rfl)
      · try simp only [zg] at g29
        refine rest [] [0, 3] rfl (by decide) ?_
        refine condS rfl (fun g32 => ?_) (fun g32 => ?_)
        · try simp only [zg] at g32
          refine seq (reg [] [] rfl (by decide) ?_)
          exact retH Tryz.func92 rfl rfl (by rw [i1 i (by omega)] at g32; rw [hi.none2 (by omega) (fnd_none g32)]; rfl) (by rfl)
        · try simp only [zg] at g32
          refine skip ?_
          obtain ⟨x, hx⟩ := fnd_some g29
          rw [i1 i (by omega)] at g32
          obtain ⟨y, hy⟩ := fnd_some g32
          refine reg [] [] rfl (by rw [fndI_hv, fndI_hv, hx, i1 i (by omega), hy]; simp only []; rw [u16xy (hv_lt hx) (hv_lt hy)]; have := hv_lt hx; have := hv_lt hy; simp only [List.length_cons, List.length_nil, List.length_map]; and_intros <;> first | exact ⟨⟩ | omega | (intro z hz; simp only [List.mem_cons, List.not_mem_nil, or_false] at hz; omega)) ?_
          refine inBlock (reg [] [] rfl (by decide) ?_)
          exact ih (i + 2, out ++ [UInt8.ofNat (16 * x + y)]) _ _ (by exact hi.step (by omega) hx hy) (by simp only; omega) (by exact agree_cons rfl (by rfl) (agree_cons rfl (by rw [fndI_hv, fndI_hv, hx, i1 i (by omega), hy]; simp only []; rw [u16xy (hv_lt hx) (hv_lt hy)]; exact congrArg (AV.bs · true) (by simp only [List.map_cons, List.map_nil, toB_ofNat])) (agree_cons rfl (by first | (refine congrArg (AV.int _) ?_; simp only [wrap_i64', tdivN, tmodN]; omega) | skip) (trivial)))) (by rfl)
    · try simp only [zg] at g15
      refine exit rfl (seq (reg [] [0] rfl (by decide) ?_))
      exact retH Tryz.func92 rfl rfl (by rw [hi.done (by omega)]; rfl) (by rfl)


def decF : List UInt8 → Nat → Option Nat
  | [], n => some n
  | c :: r, n => if 48 ≤ c.toNat ∧ c.toNat ≤ 57 then decF r (10 * n + (c.toNat - 48)) else none
def intF (s : List UInt8) : Option Nat := if s.length < 1 ∨ 18 < s.length ∨ (1 < s.length ∧ (s.getD 0 0).toNat = 48) then none else decF s 0
structure DecI (s : List UInt8) (i n : Nat) : Prop where
  le : i ≤ s.length
  le18 : s.length ≤ 18
  lt : n < 10 ^ i
  eq : decF s 0 = decF (s.drop i) n
theorem DecI.n17 {s i n} (h : DecI s i n) (hi : i < s.length) : n < 100000000000000000 := by
  have h1 := h.le18
  exact Nat.lt_of_lt_of_le h.lt (Nat.pow_le_pow_right (n := 10) (by decide) (show i ≤ 17 by omega))
theorem DecI.n18 {s i n} (h : DecI s i n) : n < 1000000000000000000 := by
  have h1 := h.le18; have h2 := h.le
  exact Nat.lt_of_lt_of_le h.lt (Nat.pow_le_pow_right (n := 10) (by decide) (show i ≤ 18 by omega))
theorem DecI.bad {s i n} (h : DecI s i n) (hi : i < s.length) (hc : ¬ (48 ≤ (s.getD i 0).toNat ∧ (s.getD i 0).toNat ≤ 57)) : decF s 0 = none := by
  rw [h.eq, List.drop_eq_getElem_cons hi, decF]
  have : s[i] = s.getD i 0 := by rw [List.getD_eq_getElem?_getD, List.getElem?_eq_getElem hi]; rfl
  rw [this, if_neg hc]
theorem DecI.step {s i n} (h : DecI s i n) (hi : i < s.length) (hc : 48 ≤ (s.getD i 0).toNat ∧ (s.getD i 0).toNat ≤ 57) : DecI s (i + 1) (10 * n + ((s.getD i 0).toNat - 48)) := by
  refine ⟨by omega, h.le18, ?_, ?_⟩
  · have := h.lt
    rw [Nat.pow_succ]; omega
  · rw [h.eq, List.drop_eq_getElem_cons hi, decF]
    have : s[i] = s.getD i 0 := by rw [List.getD_eq_getElem?_getD, List.getElem?_eq_getElem hi]; rfl
    rw [this, if_pos hc]
theorem DecI.done {s i n} (h : DecI s i n) (hi : s.length ≤ i) : decF s 0 = some n := by
  rw [h.eq, List.drop_eq_nil_of_le hi, decF]
theorem intF_none {s : List UInt8} (h : s.length < 1 ∨ 18 < s.length ∨ (1 < s.length ∧ (s.getD 0 0).toNat = 48)) : intF s = none := if_pos h
theorem intF_dec {s : List UInt8} (h : ¬ (s.length < 1 ∨ 18 < s.length ∨ (1 < s.length ∧ (s.getD 0 0).toNat = 48))) : intF s = decF s 0 := if_neg h

theorem int_ok (s : List UInt8) (hs : s.length ≤ 16777216) : FnOK Tryz.prog 110 [.str s] [] (.tup [.int .i64 ((intF s).getD 0 : Nat), .bool (intF s).isSome]) [] := by
  refine FnOK.of_runs Tryz.func110 rfl (Nat.le_of_ble_eq_true rfl) ?_
  refine seq (reg [] [] rfl (by decide) ?_)
  refine seq (seq ?_)
  refine meet (σ := Bool) (fun g => g = true ↔ (s.length < 1 ∨ 18 < s.length ∨ (1 < s.length ∧ (s.getD 0 0).toNat = 48))) (fun g => [(0, .str s), (23, .bool g)]) (fun _ => []) (fun g hg => ?_) (fun meet_a => ?_)
  · skip
    refine condS rfl (fun g23 => ?_) (fun g23 => ?_)
    · try simp only [zg] at g23
      refine seq (reg [] [] rfl (by decide) ?_)
      exact retH Tryz.func110 rfl rfl (by rw [intF_none (hg.1 g23)]; rfl) (by rfl)
    · try simp only [zg] at g23
      refine skip (seq (reg [] [] rfl (by decide) ?_))
      refine seq (seq (reg [] [0] rfl (by decide) ?_))
      refine block ?_
      -- loop 0
      have hcs := Bool.eq_false_iff.1 g23; rw [Ne, hg] at hcs
      refine loopF (σ := Nat × Nat) (fun p => DecI s p.1 p.2) (fun p => [(0, .str s), (4, .int .i64 p.2), (25, .int .i64 s.length), (26, .int .i64 p.1)]) (fun _ => []) (fun p => s.length - p.1) ((0, 0)) (by exact ⟨Nat.zero_le _, by omega, by decide, rfl⟩) (by exact zag rfl) (by rfl) (fun ⟨i, m⟩ hi ih => ?_)
      have hi : DecI s i m := hi; have hle := hi.le; have h18 := hi.le18; have hn := hi.n18; have h17 := hi.n17; have hc := u8lt (s.getD (i : Int).toNat 0)
      refine seq (reg [] [] rfl (by decide) ?_)
      refine seq ?_
      refine condS rfl (fun g27 => ?_) (fun g27 => ?_)
      · try simp only [zg] at g27
        refine skip (seq (block (seq (reg [] [0] rfl (by decide) ?_))))
        refine seq (seq (region (restTo 5 [] [0, 1, 5, 6] rfl (by and_intros <;> first | trivial | omega) ?_)))
        refine splitS 33 rfl (fun g33 => ?_) (fun g33 => ?_)
        · try simp only [zg] at g33
          refine rest [] [0, 1, 5, 6] rfl (by decide) ?_
          refine condT rfl (seq (reg [] [] rfl (by decide) ?_))
          exact retH Tryz.func110 rfl rfl (by rw [intF_dec hcs, hi.bad (by omega) (by simp only [Int.toNat_natCast] at g33; omega)]; rfl) (by rfl)
        · try simp only [zg] at g33
          refine rest [] [0, 1, 5, 6] rfl (by and_intros <;> first | trivial | omega) ?_
          refine condS rfl (fun g38 => ?_) (fun g38 => ?_)
          · try simp only [zg] at g38
            refine seq (reg [] [] rfl (by decide) ?_)
            exact retH Tryz.func110 rfl rfl (by rw [intF_dec hcs, hi.bad (by omega) (by simp only [Int.toNat_natCast] at g38; omega)]; rfl) (by rfl)
          · try simp only [zg] at g38
            refine skip (reg [] [2, 3] rfl (by and_intros <;> first | trivial | omega) ?_)
            refine inBlock (reg [] [] rfl (by decide) ?_)
            exact ih (i + 1, 10 * m + ((s.getD (i : Int).toNat 0).toNat - 48)) _ _ (by exact hi.step (by omega) ⟨Int.ofNat_le.1 g33, Int.ofNat_le.1 g38⟩) (by simp only; omega) (by exact agree_cons rfl (by rfl) (agree_cons rfl (by have h17 := h17 (by omega); rw [u8_id (x := ((s.getD (i : Int).toNat 0).toNat : Int) - 48) (by omega) (by omega), i64_id (x := 10 * (m : Int)) (by omega) (by omega), i64_id (x := ((s.getD (i : Int).toNat 0).toNat : Int) - 48) (by omega) (by omega), i64_id (by omega) (by omega)]; refine congrArg (AV.int _) ?_; simp only []; omega) (agree_cons rfl (by first | rfl | (refine congrArg (AV.int _) ?_; simp only [wrap_i64', tdivN, tmodN]; omega) | skip) (agree_cons rfl (by first | rfl | (refine congrArg (AV.int _) ?_; simp only [wrap_i64', tdivN, tmodN]; omega) | skip) (trivial))))) (by rfl)
      · try simp only [zg] at g27
        refine exit rfl (seq (reg [] [0] rfl (by decide) ?_))
        exact retH Tryz.func110 rfl rfl (by rw [intF_dec hcs, hi.done (by omega)]; rfl) (by rfl)
  · skip
    refine region (restTo 4 [] [0, 4, 9, 13] rfl (by decide) ?_)
    refine splitS 9 rfl (fun g9 => ?_) (fun g9 => ?_)
    · try simp only [zg] at g9
      refine rest [] [0, 4, 9, 13] rfl (by decide) ?_
      exact meet_a (true) _ _ (by simp only [beq_iff_eq, true_iff, Bool.false_eq_true, false_iff, Int.toNat_zero]; omega) (by exact zag rfl) (by rfl)
    · try simp only [zg] at g9
      refine restTo 5 [] [0, 4, 9, 13] rfl (by decide) ?_
      refine splitS 14 rfl (fun g14 => ?_) (fun g14 => ?_)
      · try simp only [zg] at g14
        refine rest [] [0, 4, 9, 13] rfl (by decide) ?_
        exact meet_a (true) _ _ (by simp only [beq_iff_eq, true_iff, Bool.false_eq_true, false_iff, Int.toNat_zero]; omega) (by exact zag rfl) (by rfl)
      · try simp only [zg] at g14
        refine restTo 4 [] [0, 4, 9, 13] rfl (by decide) ?_
        refine splitS 18 rfl (fun g18 => ?_) (fun g18 => ?_)
        · try simp only [zg] at g18
          refine rest [] [0, 4, 9, 13] rfl (by and_intros <;> trivial) ?_
          exact meet_a (((s.getD (0 : Int).toNat 0).toNat : Int) == 48) _ _ (by simp only [beq_iff_eq, true_iff, Bool.false_eq_true, false_iff, Int.toNat_zero]; omega) (by exact zag rfl) (by rfl)
        · try simp only [zg] at g18
          refine rest [] [0, 4, 9, 13] rfl (by decide) ?_
          exact meet_a (false) _ _ (by simp only [beq_iff_eq, true_iff, Bool.false_eq_true, false_iff, Int.toNat_zero]; omega) (by exact zag rfl) (by rfl)

theorem rint_ok (s : List UInt8) (hs : s.length ≤ 16777216) : FnOK Tryz.prog 122 [.str s] [] (.tup [.int .i64 ((intF s).getD 0 : Nat), .bool (intF s).isSome]) [] := by
  refine FnOK.of_runs Tryz.func122 rfl (Nat.le_of_ble_eq_true rfl) ?_
  refine seq (reg [] [] rfl (by decide) ?_)
  refine seq (seq ?_)
  refine meet (σ := Bool) (fun g => g = true ↔ (s.length < 1 ∨ 18 < s.length ∨ (1 < s.length ∧ (s.getD 0 0).toNat = 48))) (fun g => [(0, .str s), (23, .bool g)]) (fun _ => []) (fun g hg => ?_) (fun meet_a => ?_)
  · skip
    refine condS rfl (fun g23 => ?_) (fun g23 => ?_)
    · try simp only [zg] at g23
      refine seq (reg [] [] rfl (by decide) ?_)
      exact retH Tryz.func122 rfl rfl (by rw [intF_none (hg.1 g23)]; rfl) (by rfl)
    · try simp only [zg] at g23
      refine skip (seq (reg [] [] rfl (by decide) ?_))
      refine seq (seq (reg [] [] rfl (by decide) ?_))
      refine block ?_
      -- loop 0
      have hcs := Bool.eq_false_iff.1 g23; rw [Ne, hg] at hcs
      refine loopF (σ := Nat × Nat) (fun p => DecI s p.1 p.2) (fun p => [(0, .str s), (4, .int .i64 p.2), (5, .int .i64 p.1)]) (fun _ => []) (fun p => s.length - p.1) ((0, 0)) (by exact ⟨Nat.zero_le _, by omega, by decide, rfl⟩) (by exact zag rfl) (by rfl) (fun ⟨i, m⟩ hi ih => ?_)
      have hi : DecI s i m := hi; have hle := hi.le; have h18 := hi.le18; have hn := hi.n18; have h17 := hi.n17; have hc := u8lt (s.getD (i : Int).toNat 0)
      refine seq (seq (reg [] [0, 1] rfl (by decide) ?_))
      refine condS rfl (fun g27 => ?_) (fun g27 => ?_)
      · try simp only [zg] at g27
        refine skip (seq (block (seq (seq (region (restTo 5 [] [0, 1, 5, 6] rfl (by and_intros <;> first | trivial | omega) ?_))))))
        refine splitS 34 rfl (fun g34 => ?_) (fun g34 => ?_)
        · try simp only [zg] at g34
          refine rest [] [0, 1, 5, 6] rfl (by decide) ?_
          refine condT rfl (seq (reg [] [] rfl (by decide) ?_))
          exact retH Tryz.func122 rfl rfl (by rw [intF_dec hcs, hi.bad (by omega) (by simp only [Int.toNat_natCast] at g34; omega)]; rfl) (by rfl)
        · try simp only [zg] at g34
          refine rest [] [0, 1, 5, 6] rfl (by and_intros <;> first | trivial | omega) ?_
          refine condS rfl (fun g39 => ?_) (fun g39 => ?_)
          · try simp only [zg] at g39
            refine seq (reg [] [] rfl (by decide) ?_)
            exact retH Tryz.func122 rfl rfl (by rw [intF_dec hcs, hi.bad (by omega) (by simp only [Int.toNat_natCast] at g39; omega)]; rfl) (by rfl)
          · try simp only [zg] at g39
            refine skip (reg [] [2, 3] rfl (by and_intros <;> first | trivial | omega) ?_)
            refine inBlock (reg [] [] rfl (by decide) ?_)
            exact ih (i + 1, 10 * m + ((s.getD (i : Int).toNat 0).toNat - 48)) _ _ (by exact hi.step (by omega) ⟨Int.ofNat_le.1 g34, Int.ofNat_le.1 g39⟩) (by simp only; omega) (by exact agree_cons rfl (by rfl) (agree_cons rfl (by have h17 := h17 (by omega); rw [u8_id (x := ((s.getD (i : Int).toNat 0).toNat : Int) - 48) (by omega) (by omega), i64_id (x := 10 * (m : Int)) (by omega) (by omega), i64_id (x := ((s.getD (i : Int).toNat 0).toNat : Int) - 48) (by omega) (by omega), i64_id (by omega) (by omega)]; refine congrArg (AV.int _) ?_; simp only []; omega) (agree_cons rfl (by first | (refine congrArg (AV.int _) ?_; simp only [wrap_i64', tdivN, tmodN]; omega) | skip) (trivial)))) (by rfl)
      · try simp only [zg] at g27
        refine exit rfl (seq (reg [] [0] rfl (by decide) ?_))
        exact retH Tryz.func122 rfl rfl (by rw [intF_dec hcs, hi.done (by omega)]; rfl) (by rfl)
  · skip
    refine region (restTo 4 [] [0, 4, 9, 13] rfl (by decide) ?_)
    refine splitS 9 rfl (fun g9 => ?_) (fun g9 => ?_)
    · try simp only [zg] at g9
      refine rest [] [0, 4, 9, 13] rfl (by decide) ?_
      exact meet_a (true) _ _ (by (try rw [Int.toNat_zero] at g18); simp only [decide_eq_true_eq, beq_iff_eq, true_iff, Bool.false_eq_true, false_iff]; omega) (by exact zag rfl) (by rfl)
    · try simp only [zg] at g9
      refine restTo 5 [] [0, 4, 9, 13] rfl (by decide) ?_
      refine splitS 14 rfl (fun g14 => ?_) (fun g14 => ?_)
      · try simp only [zg] at g14
        refine rest [] [0, 4, 9, 13] rfl (by decide) ?_
        exact meet_a (true) _ _ (by (try rw [Int.toNat_zero] at g18); simp only [decide_eq_true_eq, beq_iff_eq, true_iff, Bool.false_eq_true, false_iff]; omega) (by exact zag rfl) (by rfl)
      · try simp only [zg] at g14
        refine restTo 4 [] [0, 4, 9, 13] rfl (by and_intros <;> first | trivial | omega) ?_
        refine splitS 18 rfl (fun g18 => ?_) (fun g18 => ?_)
        · try simp only [zg] at g18
          refine rest [] [0, 4, 9, 13] rfl (by decide) ?_
          exact meet_a (decide ((1 : Int) < (s.length : Int))) _ _ (by (try rw [Int.toNat_zero] at g18); simp only [decide_eq_true_eq, beq_iff_eq, true_iff, Bool.false_eq_true, false_iff]; omega) (by exact zag rfl) (by rfl)
        · try simp only [zg] at g18
          refine rest [] [0, 4, 9, 13] rfl (by decide) ?_
          exact meet_a (false) _ _ (by (try rw [Int.toNat_zero] at g18); simp only [decide_eq_true_eq, beq_iff_eq, true_iff, Bool.false_eq_true, false_iff]; omega) (by exact zag rfl) (by rfl)

end Go.Proofs.YtnohmijdpmelpaaGreat
set_option maxRecDepth 100000
set_option linter.unusedVariables false
set_option linter.unusedSimpArgs false
namespace Go.Proofs.YtnohmijdpmelpaaGreat
open Go Go.Am Go.Am.Runs

def digsL (s : List UInt8) : Bool := (unhexL s).isSome && decide ((s.length : Int) = 64)
def begL (s p : List UInt8) : Bool := decide (p.length ≤ s.length) && (s.take p.length == p)
def endL (s p : List UInt8) : Bool := decide (p.length ≤ s.length) && (s.drop (s.length - p.length) == p)
theorem begL_no {s p : List UInt8} (h : s.length < p.length) : begL s p = false := by unfold begL; rw [decide_eq_false (by omega)]; rfl
theorem begL_at {s p : List UInt8} (h : p.length ≤ s.length) : begL s p = (s.take p.length == p) := by unfold begL; rw [decide_eq_true h]; rfl
theorem endL_no {s p : List UInt8} (h : s.length < p.length) : endL s p = false := by unfold endL; rw [decide_eq_false (by omega)]; rfl
theorem endL_at {s p : List UInt8} (h : p.length ≤ s.length) : endL s p = (s.drop (s.length - p.length) == p) := by unfold endL; rw [decide_eq_true h]; rfl
def cutpL (s p : List UInt8) : List UInt8 × Bool := if begL s p = true then (s.drop p.length, true) else (s, false)
def cutsL (s p : List UInt8) : List UInt8 × Bool := if endL s p = true then (s.take (s.length - p.length), true) else (s, false)
theorem begL_le {s p : List UInt8} (h : begL s p = true) : p.length ≤ s.length := by
  unfold begL at h; simp at h; exact h.1
theorem endL_le {s p : List UInt8} (h : endL s p = true) : p.length ≤ s.length := by
  unfold endL at h; simp at h; exact h.1
theorem cutp_t {s p : List UInt8} (h : begL s p = true) : cutpL s p = (s.drop p.length, true) := if_pos h
theorem cutp_f {s p : List UInt8} (h : begL s p = false) : cutpL s p = (s, false) := if_neg (by rw [h]; exact Bool.false_ne_true)
theorem cuts_t {s p : List UInt8} (h : endL s p = true) : cutsL s p = (s.take (s.length - p.length), true) := if_pos h
theorem cuts_f {s p : List UInt8} (h : endL s p = false) : cutsL s p = (s, false) := if_neg (by rw [h]; exact Bool.false_ne_true)

theorem cdigits_ok (s : List UInt8) (hs : s.length ≤ 16777216) : FnOK Tryz.prog 84 [.str s] [] (.bool (digsL s)) [] := by
  refine FnOK.of_runs Tryz.func84 rfl (Nat.le_of_ble_eq_true rfl) ?_
  refine seq (reg [] [] rfl (by decide) ?_)
  refine seq (reg [(1, { res := .tup [.bs ((unhexL s).getD []) false, .bool (unhexL s).isSome] })] [0] rfl (by and_intros <;> first | exact ⟨⟩ | exact unhex_ok s hs) ?_)
  refine seq (region (restTo 2 [] [0, 2] rfl (by decide) ?_))
  refine splitS 11 rfl (fun g11 => ?_) (fun g11 => ?_)
  · try simp only [zg] at g11
    refine rest [] [0, 2] rfl (by decide) ?_
    exact retH Tryz.func84 rfl rfl (by refine congrArg AV.bool ?_; unfold digsL; rw [g11]; rfl) (by rfl)
  · try simp only [zg] at g11
    refine rest [] [0, 2] rfl (by decide) ?_
    exact retH Tryz.func84 rfl rfl (by refine congrArg AV.bool ?_; unfold digsL; rw [g11]; rfl) (by rfl)

theorem rdigits_ok (s : List UInt8) (hs : s.length ≤ 16777216) : FnOK Tryz.prog 50 [.str s] [] (.bool (digsL s)) [] := by
  refine FnOK.of_runs Tryz.func50 rfl (Nat.le_of_ble_eq_true rfl) ?_
  refine seq (reg [] [] rfl (by decide) ?_)
  refine seq (reg [(1, { res := .tup [.bs ((unhexL s).getD []) false, .bool (unhexL s).isSome] })] [0] rfl (by and_intros <;> first | exact ⟨⟩ | exact runhex_ok s hs) ?_)
  refine seq (region (restTo 2 [] [0, 2] rfl (by decide) ?_))
  refine splitS 11 rfl (fun g11 => ?_) (fun g11 => ?_)
  · try simp only [zg] at g11
    refine rest [] [0, 2] rfl (by decide) ?_
    exact retH Tryz.func50 rfl rfl (by refine congrArg AV.bool ?_; unfold digsL; rw [g11]; rfl) (by rfl)
  · try simp only [zg] at g11
    refine rest [] [0, 2] rfl (by decide) ?_
    exact retH Tryz.func50 rfl rfl (by refine congrArg AV.bool ?_; unfold digsL; rw [g11]; rfl) (by rfl)

theorem rbegins_ok (s p : List UInt8) (hs : s.length ≤ 16777216) (hp : p.length ≤ 16777216) : FnOK Tryz.prog 88 [.str s, .str p] [] (.bool (begL s p)) [] := by
  refine FnOK.of_runs Tryz.func88 rfl (Nat.le_of_ble_eq_true rfl) ?_
  refine seq (reg [] [] rfl (by decide) ?_)
  refine seq (region (restTo 6 [] [0, 2, 6, 7, 10] rfl (by decide) ?_))
  refine splitS 10 rfl (fun g10 => ?_) (fun g10 => ?_)
  · try simp only [zg] at g10
    have hle : p.length ≤ s.length := by omega
    refine rest [] [0, 2, 6, 7, 10] rfl (by and_intros <;> first | trivial | omega) ?_
    exact retH Tryz.func88 rfl rfl (by refine congrArg AV.bool ?_; (rw [begL_at hle]; simp)) (by rfl)
  · try simp only [zg] at g10
    have hle : s.length < p.length := by omega
    refine rest [] [0, 2, 6, 7, 10] rfl (by decide) ?_
    exact retH Tryz.func88 rfl rfl (by refine congrArg AV.bool ?_; (rw [begL_no hle]; done)) (by rfl)

theorem lpre_ok (s p : List UInt8) (hs : s.length ≤ 16777216) (hp : p.length ≤ 16777216) : FnOK Tryz.prog 120 [.str s, .str p] [] (.bool (begL s p)) [] := by
  refine FnOK.of_runs Tryz.func120 rfl (Nat.le_of_ble_eq_true rfl) ?_
  refine seq (reg [] [] rfl (by decide) ?_)
  refine seq (region (restTo 6 [] [0, 2, 6, 7, 10] rfl (by decide) ?_))
  refine splitS 10 rfl (fun g10 => ?_) (fun g10 => ?_)
  · try simp only [zg] at g10
    have hle : p.length ≤ s.length := by omega
    refine rest [] [0, 2, 6, 7, 10] rfl (by and_intros <;> first | trivial | omega) ?_
    exact retH Tryz.func120 rfl rfl (by refine congrArg AV.bool ?_; (rw [begL_at hle]; simp)) (by rfl)
  · try simp only [zg] at g10
    have hle : s.length < p.length := by omega
    refine rest [] [0, 2, 6, 7, 10] rfl (by decide) ?_
    exact retH Tryz.func120 rfl rfl (by refine congrArg AV.bool ?_; (rw [begL_no hle]; done)) (by rfl)

theorem hpre_ok (s p : List UInt8) (hs : s.length ≤ 16777216) (hp : p.length ≤ 16777216) : FnOK Tryz.prog 83 [.str s, .str p] [] (.bool (begL s p)) [] := by
  refine FnOK.of_runs Tryz.func83 rfl (Nat.le_of_ble_eq_true rfl) ?_
  refine seq (reg [] [] rfl (by decide) ?_)
  refine seq (reg [(2, { res := .bool (begL s p) })] [0, 1] rfl (by and_intros <;> first | exact ⟨⟩ | exact lpre_ok s p hs hp) ?_)
  exact retH Tryz.func83 rfl rfl (by rfl) (by rfl)

theorem lcutp_ok (s p : List UInt8) (hs : s.length ≤ 16777216) (hp : p.length ≤ 16777216) : FnOK Tryz.prog 143 [.str s, .str p] [] (.tup [.str (cutpL s p).1, .bool (cutpL s p).2]) [] := by
  refine FnOK.of_runs Tryz.func143 rfl (Nat.le_of_ble_eq_true rfl) ?_
  refine seq (reg [] [] rfl (by decide) ?_)
  refine seq (seq (reg [(2, { res := .bool (begL s p) })] [0, 1] rfl (by and_intros <;> first | exact ⟨⟩ | exact lpre_ok s p hs hp) ?_))
  refine condS rfl (fun g9 => ?_) (fun g9 => ?_)
  · try simp only [zg] at g9
    refine seq (reg [] [0] rfl (by decide) ?_)
    exact retH Tryz.func143 rfl rfl (by rw [cutp_f g9]) (by rfl)
  · try simp only [zg] at g9
    refine skip (seq (reg [] [0, 1] rfl (by have hle := begL_le g9; and_intros <;> first | exact ⟨⟩ | omega) ?_))
    exact retH Tryz.func143 rfl rfl (by rw [cutp_t g9]; simp) (by rfl)

theorem cutp_ok (s p : List UInt8) (hs : s.length ≤ 16777216) (hp : p.length ≤ 16777216) : FnOK Tryz.prog 111 [.str s, .str p] [] (.tup [.str (cutpL s p).1, .bool (cutpL s p).2]) [] := by
  refine FnOK.of_runs Tryz.func111 rfl (Nat.le_of_ble_eq_true rfl) ?_
  refine seq (reg [] [] rfl (by decide) ?_)
  refine seq (reg [(2, { res := .tup [.str (cutpL s p).1, .bool (cutpL s p).2] })] [0, 1] rfl (by and_intros <;> first | exact ⟨⟩ | exact lcutp_ok s p hs hp) ?_)
  exact retH Tryz.func111 rfl rfl (by rfl) (by rfl)

theorem lsuf_ok (s p : List UInt8) (hs : s.length ≤ 16777216) (hp : p.length ≤ 16777216) : FnOK Tryz.prog 144 [.str s, .str p] [] (.bool (endL s p)) [] := by
  refine FnOK.of_runs Tryz.func144 rfl (Nat.le_of_ble_eq_true rfl) ?_
  refine seq (reg [] [] rfl (by decide) ?_)
  refine seq (region (restTo 6 [] [0, 2, 6, 7, 9, 13] rfl (by (try rw [i64_id (x := (s.length : Int) - p.length) (by omega) (by omega)]); and_intros <;> exact ⟨⟩) ?_))
  refine splitS 10 rfl (fun g10 => ?_) (fun g10 => ?_)
  · try simp only [zg] at g10
    have hle : p.length ≤ s.length := by omega
    refine rest [] [0, 2, 6, 7, 9, 13] rfl (by (try rw [i64_id (x := (s.length : Int) - p.length) (by omega) (by omega)]); and_intros <;> first | exact ⟨⟩ | omega) ?_
    exact retH Tryz.func144 rfl rfl (by refine congrArg AV.bool ?_; (rw [endL_at hle, i64_id (x := (s.length : Int) - p.length) (by omega) (by omega), show ((s.length : Int) - p.length).toNat = s.length - p.length by omega]; simp)) (by rfl)
  · try simp only [zg] at g10
    have hle : s.length < p.length := by omega
    refine rest [] [0, 2, 6, 7, 9, 13] rfl (by (try rw [i64_id (x := (s.length : Int) - p.length) (by omega) (by omega)]); and_intros <;> exact ⟨⟩) ?_
    exact retH Tryz.func144 rfl rfl (by refine congrArg AV.bool ?_; (rw [endL_no hle]; done)) (by rfl)

theorem lcuts_ok (s p : List UInt8) (hs : s.length ≤ 16777216) (hp : p.length ≤ 16777216) : FnOK Tryz.prog 118 [.str s, .str p] [] (.tup [.str (cutsL s p).1, .bool (cutsL s p).2]) [] := by
  refine FnOK.of_runs Tryz.func118 rfl (Nat.le_of_ble_eq_true rfl) ?_
  refine seq (reg [] [] rfl (by decide) ?_)
  refine seq (seq (reg [(2, { res := .bool (endL s p) })] [0, 1] rfl (by and_intros <;> first | exact ⟨⟩ | exact lsuf_ok s p hs hp) ?_))
  refine condS rfl (fun g9 => ?_) (fun g9 => ?_)
  · try simp only [zg] at g9
    refine seq (reg [] [0] rfl (by decide) ?_)
    exact retH Tryz.func118 rfl rfl (by rw [cuts_f g9]) (by rfl)
  · try simp only [zg] at g9
    refine skip (seq (reg [] [0, 1, 3] rfl (by have hle := endL_le g9; rw [i64_id (x := (s.length : Int) - p.length) (by omega) (by omega)]; and_intros <;> first | exact ⟨⟩ | omega) ?_))
    exact retH Tryz.func118 rfl rfl (by have hle := endL_le g9; rw [cuts_t g9, i64_id (x := (s.length : Int) - p.length) (by omega) (by omega), show ((s.length : Int) - p.length).toNat = s.length - p.length by omega]; simp) (by rfl)

theorem cuts_ok (s p : List UInt8) (hs : s.length ≤ 16777216) (hp : p.length ≤ 16777216) : FnOK Tryz.prog 80 [.str s, .str p] [] (.tup [.str (cutsL s p).1, .bool (cutsL s p).2]) [] := by
  refine FnOK.of_runs Tryz.func80 rfl (Nat.le_of_ble_eq_true rfl) ?_
  refine seq (reg [] [] rfl (by decide) ?_)
  refine seq (reg [(2, { res := .tup [.str (cutsL s p).1, .bool (cutsL s p).2] })] [0, 1] rfl (by and_intros <;> first | exact ⟨⟩ | exact lcuts_ok s p hs hp) ?_)
  exact retH Tryz.func80 rfl rfl (by rfl) (by rfl)

end Go.Proofs.YtnohmijdpmelpaaGreat
