/- Times parsed. -/
import Derived.Test.YtnohmijdpmelpaaGreatCiv
set_option maxRecDepth 100000
set_option linter.unusedVariables false
set_option linter.unusedSimpArgs false
namespace Go.Proofs.YtnohmijdpmelpaaGreat
open Go Go.Am Go.Am.Runs

theorem sizeN_year (y : Nat) : monN y 13 = yearN y := by
  have e : ∀ k, monN y (k + 1 + 1) = monN y (k + 1) + sizeN y (k + 1) := fun k => rfl
  rw [e 11, e 10, e 9, e 8, e 7, e 6, e 5, e 4, e 3, e 2, e 1, e 0]
  unfold sizeN yearN
  by_cases h : leapN y = true <;> simp [h, monN]
theorem okD_date {y m d h mi s : Nat} (hk : okD y m d h mi s) : DateOf (dayN y m d) y (monN y m + (d - 1)) m (d - 1) := by
  obtain ⟨⟨y1, y2⟩, ⟨m1, m2⟩, ⟨d1, d2⟩, _⟩ := hk
  obtain ⟨B, hB, _⟩ := befN_nat y1 y2
  have hm := monN_step y m1
  have hx := monN_mono y (m + 1) (by omega) 13 (by omega)
  rw [sizeN_year] at hx
  refine ⟨y1, y2, ?_, by omega, m1, m2, rfl, by omega⟩
  unfold dayN
  rw [hB, Int.toNat_natCast]; omega
theorem okD_sec {y m d h mi s : Nat} (hk : okD y m d h mi s) : secN y m d h mi s ≤ 253402300799 ∧ dayN y m d = secN y m d h mi s / 86400 := by
  have hd := okD_date hk
  obtain ⟨_, _, _, h1, h2, h3⟩ := hk
  have e1 := hd.e1
  have l1 := hd.l1
  have e := befN_step y (by have := hd.y1; omega)
  have hm := (befN_mono (y + 1) (by omega) 10000 (by have := hd.y2; omega)).1
  rw [show befN 10000 = 2932897 by decide] at hm
  unfold secN
  generalize dayN y m d = D at *
  omega
abbrev posL : List (Nat × Nat) := [(0, 4), (4, 2), (6, 2), (9, 2), (11, 2), (13, 2)]
/-- the time of a text -/
def parsO (s : List UInt8) : Option Nat := match allN s posL with
  | some [y, m, d, h, mi, se] => if okD y m d h mi se ∧ basT y m (d - 1) (secN y m d h mi se) = s then some (secN y m d h mi se) else none
  | _ => none
theorem parsO_no {s : List UInt8} (h : allN s posL = none) : parsO s = none := by unfold parsO; rw [h]
theorem parsO_bad {s : List UInt8} {y m d h mi se : Nat} (e : allN s posL = some [y, m, d, h, mi, se]) (hn : ¬ (okD y m d h mi se ∧ basT y m (d - 1) (secN y m d h mi se) = s)) : parsO s = none := by unfold parsO; rw [e]; exact if_neg hn
theorem parsO_yes {s : List UInt8} {y m d h mi se : Nat} (e : allN s posL = some [y, m, d, h, mi, se]) (hn : okD y m d h mi se ∧ basT y m (d - 1) (secN y m d h mi se) = s) : parsO s = some (secN y m d h mi se) := by unfold parsO; rw [e]; exact if_pos hn
theorem parsO_len {s : List UInt8} (h : s.length ≠ 16) : parsO s = none := by
  unfold parsO
  split
  · refine if_neg fun e => h ?_
    rw [← e.2]; exact basT_len ..
  · rfl
theorem allN_six {s : List UInt8} {l : List Nat} (h : allN s posL = some l) : ∃ y m d h' mi se, l = [y, m, d, h', mi, se] ∧ getO s 0 4 = some y ∧ getO s 4 2 = some m ∧ getO s 6 2 = some d ∧ getO s 9 2 = some h' ∧ getO s 11 2 = some mi ∧ getO s 13 2 = some se := by
  unfold posL allN at h
  cases h1 : getO s 0 4 with
  | none => simp [h1] at h
  | some y =>
    cases h2 : getO s 4 2 with
    | none => simp [h1, h2, allN] at h
    | some m =>
      cases h3 : getO s 6 2 with
      | none => simp [h1, h2, h3, allN] at h
      | some d =>
        cases h4 : getO s 9 2 with
        | none => simp [h1, h2, h3, h4, allN] at h
        | some h' =>
          cases h5 : getO s 11 2 with
          | none => simp [h1, h2, h3, h4, h5, allN] at h
          | some mi =>
            cases h6 : getO s 13 2 with
            | none => simp [h1, h2, h3, h4, h5, h6, allN] at h
            | some se =>
              simp [h1, h2, h3, h4, h5, h6, allN] at h
              exact ⟨y, m, d, h', mi, se, h.symm, rfl, rfl, rfl, rfl, rfl, rfl⟩
theorem allN_of {s : List UInt8} {y m d h' mi se : Nat} (h1 : getO s 0 4 = some y) (h2 : getO s 4 2 = some m) (h3 : getO s 6 2 = some d) (h4 : getO s 9 2 = some h') (h5 : getO s 11 2 = some mi) (h6 : getO s 13 2 = some se) : allN s posL = some [y, m, d, h', mi, se] := by
  simp [posL, allN, h1, h2, h3, h4, h5, h6]
def numP (s : List UInt8) (f k : Nat) : Int := numI ((s.take (f + k)).drop f)
theorem numP_eq (s : List UInt8) (f k : Nat) : numP s f k = numI ((s.drop f).take k) := by unfold numP; rw [List.drop_take, Nat.add_sub_cancel_left]
theorem numP_some {s : List UInt8} {f k n : Nat} (h : getO s f k = some n) (hl : f + k ≤ s.length) : numP s f k = n := by rw [numP_eq]; exact numI_some (by rw [numI_piece s f k hl]; exact h)
theorem numP_nn {s : List UInt8} {f k : Nat} (h : 0 ≤ numP s f k) (hl : f + k ≤ s.length) : ∃ n, getO s f k = some n := by
  cases e : getO s f k with
  | some n => exact ⟨n, rfl⟩
  | none =>
    exfalso
    have : numP s f k = -1 := by rw [numP_eq]; exact numI_none (by rw [numI_piece s f k hl]; exact e)
    omega
theorem ofI_no {s : List UInt8} (hl : s.length = 16) (h : allN s posL = none) : ofI (numP s 0 4) (numP s 4 2) (numP s 6 2) (numP s 9 2) (numP s 11 2) (numP s 13 2) = none := by
  refine ofI_none fun hk => ?_
  obtain ⟨k1, k2, k3, k4, k5, k6⟩ := hk
  obtain ⟨y, e1⟩ := numP_nn (s := s) (f := 0) (k := 4) (by omega) (by omega)
  obtain ⟨m, e2⟩ := numP_nn (s := s) (f := 4) (k := 2) (by omega) (by omega)
  obtain ⟨d, e3⟩ := numP_nn (s := s) (f := 6) (k := 2) (by omega) (by omega)
  obtain ⟨h', e4⟩ := numP_nn (s := s) (f := 9) (k := 2) (by omega) (by omega)
  obtain ⟨mi, e5⟩ := numP_nn (s := s) (f := 11) (k := 2) (by omega) (by omega)
  obtain ⟨se, e6⟩ := numP_nn (s := s) (f := 13) (k := 2) (by omega) (by omega)
  rw [allN_of e1 e2 e3 e4 e5 e6] at h
  cases h
theorem ofI_yes {s : List UInt8} (hl : s.length = 16) {y m d h' mi se : Nat} (h : allN s posL = some [y, m, d, h', mi, se]) : ofI (numP s 0 4) (numP s 4 2) (numP s 6 2) (numP s 9 2) (numP s 11 2) (numP s 13 2) = ofO y m d h' mi se := by
  obtain ⟨y', m', d', h'', mi', se', e, e1, e2, e3, e4, e5, e6⟩ := allN_six h
  simp only [List.cons.injEq, and_true] at e
  obtain ⟨rfl, rfl, rfl, rfl, rfl, rfl⟩ := e
  rw [numP_some e1 (by omega), numP_some e2 (by omega), numP_some e3 (by omega), numP_some e4 (by omega), numP_some e5 (by omega), numP_some e6 (by omega), ofI_cast]
theorem numP_bd (s : List UInt8) (f k : Nat) (h : k ≤ 8) : -1 ≤ numP s f k ∧ numP s f k ≤ 100000000 := by rw [numP_eq]; exact numI_bd _ (by rw [List.length_take]; omega)
theorem posL_all (p : Nat × Nat) (hp : p ∈ posL) : p.1 ≤ 1000 ∧ 1 ≤ p.2 ∧ p.2 ≤ 8 := by
  have : ∀ p ∈ posL, p.1 ≤ 1000 ∧ 1 ≤ p.2 ∧ p.2 ≤ 8 := by decide
  exact this p hp
theorem pos_el (i : Nat) (hi : i < 6) : pEl posL i = elOf true 2 [.int .i64 0, .int .i64 4, .int .i64 4, .int .i64 2, .int .i64 6, .int .i64 2, .int .i64 9, .int .i64 2, .int .i64 11, .int .i64 2, .int .i64 13, .int .i64 2] i := by
  match i, hi with
  | 0, _ => rfl
  | 1, _ => rfl
  | 2, _ => rfl
  | 3, _ => rfl
  | 4, _ => rfl
  | 5, _ => rfl

theorem pb_none (s : List UInt8) (hs : s.length ≤ 16777216) (hall : allN s posL = none) : FnOK Tryz.prog 37 [.str s] [] (.tup [.int .i64 0, .bool false]) [] := by
  refine FnOK.of_runs Tryz.func37 rfl (Nat.le_of_ble_eq_true rfl) ?_
  refine seq (reg [] [] rfl (by decide) ?_)
  refine seq (region (restTo 7 [(8, { res := .tup [.sl 1 0 (intEl []) false, .bool false] })] [0] rfl (by and_intros <;> decide) ?_))
  refine frame [(0, .str s), (8, .str s), (9, .agg [.int .i64 0, .int .i64 4]), (10, .agg [.int .i64 4, .int .i64 2]), (11, .agg [.int .i64 6, .int .i64 2]), (12, .agg [.int .i64 9, .int .i64 2]), (13, .agg [.int .i64 11, .int .i64 2]), (14, .agg [.int .i64 13, .int .i64 2])] (by exact zag rfl) ?_
  refine restTo 1 [(8, { res := .tup [.sl 1 0 (intEl []) false, .bool false] })] [0] rfl (by and_intros <;> decide) ?_
  refine frame [(0, .str s), (8, .str s), (15, .sl 2 6 (elOf true 2 [.int .i64 0, .int .i64 4, .int .i64 4, .int .i64 2, .int .i64 6, .int .i64 2, .int .i64 9, .int .i64 2, .int .i64 11, .int .i64 2, .int .i64 13, .int .i64 2]) true)] (by exact zag rfl) ?_
  refine rest [(8, { res := .tup [.sl 1 0 (intEl []) false, .bool false] })] [0] rfl (by and_intros <;> first | decide | (have hal := (all_ok2 s posL hs posL_all (by decide)).arg (args := [.str s, .sl 2 6 (elOf true 2 [.int .i64 0, .int .i64 4, .int .i64 4, .int .i64 2, .int .i64 6, .int .i64 2, .int .i64 9, .int .i64 2, .int .i64 11, .int .i64 2, .int .i64 13, .int .i64 2]) false]) ⟨⟨Imp.refl _, rfl, rfl⟩, ⟨Imp.sl (m := 6) pos_el, rfl, rfl⟩, True.intro⟩; rw [hall] at hal; exact hal)) ?_
  refine seq (seq (reg [] [0] rfl (by decide) ?_))
  refine condT rfl (seq (reg [] [] rfl (by decide) ?_))
  exact retH Tryz.func37 rfl rfl (by rfl) (by rfl)

theorem pb_bad (s : List UInt8) (hs : s.length ≤ 16777216) {y m d h mi se : Nat} (hall : allN s posL = some [y, m, d, h, mi, se]) (hk : ¬ okD y m d h mi se) : FnOK Tryz.prog 37 [.str s] [] (.tup [.int .i64 0, .bool false]) [] := by
  refine FnOK.of_runs Tryz.func37 rfl (Nat.le_of_ble_eq_true rfl) ?_
  refine seq (reg [] [] rfl (by decide) ?_)
  refine seq (region (restTo 7 [(8, { res := .tup [.sl 1 6 (intEl [y, m, d, h, mi, se]) false, .bool true] })] [0] rfl (by and_intros <;> decide) ?_))
  refine frame [(0, .str s), (8, .str s), (9, .agg [.int .i64 0, .int .i64 4]), (10, .agg [.int .i64 4, .int .i64 2]), (11, .agg [.int .i64 6, .int .i64 2]), (12, .agg [.int .i64 9, .int .i64 2]), (13, .agg [.int .i64 11, .int .i64 2]), (14, .agg [.int .i64 13, .int .i64 2])] (by exact zag rfl) ?_
  refine restTo 1 [(8, { res := .tup [.sl 1 6 (intEl [y, m, d, h, mi, se]) false, .bool true] })] [0] rfl (by and_intros <;> decide) ?_
  refine frame [(0, .str s), (8, .str s), (15, .sl 2 6 (elOf true 2 [.int .i64 0, .int .i64 4, .int .i64 4, .int .i64 2, .int .i64 6, .int .i64 2, .int .i64 9, .int .i64 2, .int .i64 11, .int .i64 2, .int .i64 13, .int .i64 2]) true)] (by exact zag rfl) ?_
  refine rest [(8, { res := .tup [.sl 1 6 (intEl [y, m, d, h, mi, se]) false, .bool true] })] [0] rfl (by and_intros <;> first | decide | (have hal := (all_ok2 s posL hs posL_all (by decide)).arg (args := [.str s, .sl 2 6 (elOf true 2 [.int .i64 0, .int .i64 4, .int .i64 4, .int .i64 2, .int .i64 6, .int .i64 2, .int .i64 9, .int .i64 2, .int .i64 11, .int .i64 2, .int .i64 13, .int .i64 2]) false]) ⟨⟨Imp.refl _, rfl, rfl⟩, ⟨Imp.sl (m := 6) pos_el, rfl, rfl⟩, True.intro⟩; rw [hall] at hal; exact hal)) ?_
  refine seq (seq (reg [] [0] rfl (by decide) ?_))
  refine condS rfl (fun g20 => ?_) (fun g20 => ?_)
  · try simp only [zg] at g20
    (cases g20; done)
  · try simp only [zg] at g20
    refine skip (seq ?_)
    obtain ⟨y_, m_, d_, h_, mi_, se_, e_, b1, b2, b3, b4, b5, b6⟩ := allN_six hall
    simp only [List.cons.injEq, and_true] at e_
    obtain ⟨rfl, rfl, rfl, rfl, rfl, rfl⟩ := e_
    have c1 := getO_lt b1; have c2 := getO_lt b2; have c3 := getO_lt b3; have c4 := getO_lt b4; have c5 := getO_lt b5; have c6 := getO_lt b6
    refine regD [(18, { res := .tup [.int .i64 0, .bool false] })] [0, 3, 6, 9, 12, 15, 19, 20, 21, 22, 23] rfl rfl rfl (by and_intros <;> first | decide | (have hof := of_ok y m d h mi se (by simp only [show 10 ^ 4 = 10000 from rfl, show 10 ^ 2 = 100 from rfl] at c1 c2 c3 c4 c5 c6; omega); rw [ofO_none hk] at hof; exact hof)) ?_
    refine seq (seq (region (restTo 3 [] [0, 3, 5] rfl (by decide) ?_)))
    refine splitS 45 rfl (fun g45 => ?_) (fun g45 => ?_)
    · try simp only [zg] at g45
      refine rest [] [0, 3, 5] rfl (by decide) ?_
      refine condT rfl (seq (reg [] [] rfl (by decide) ?_))
      exact retH Tryz.func37 rfl rfl (by rfl) (by rfl)
    · try simp only [zg] at g45
      (cases g45; done)

theorem pb_ok (s : List UInt8) (hs : s.length ≤ 16777216) {y m d h mi se : Nat} (hall : allN s posL = some [y, m, d, h, mi, se]) (hk : okD y m d h mi se) : FnOK Tryz.prog 37 [.str s] [] (.tup [.int .i64 ((parsO s).getD 0 : Nat), .bool (parsO s).isSome]) [] := by
  refine FnOK.of_runs Tryz.func37 rfl (Nat.le_of_ble_eq_true rfl) ?_
  refine seq (reg [] [] rfl (by decide) ?_)
  refine seq (region (restTo 7 [(8, { res := .tup [.sl 1 6 (intEl [y, m, d, h, mi, se]) false, .bool true] })] [0] rfl (by and_intros <;> decide) ?_))
  refine frame [(0, .str s), (8, .str s), (9, .agg [.int .i64 0, .int .i64 4]), (10, .agg [.int .i64 4, .int .i64 2]), (11, .agg [.int .i64 6, .int .i64 2]), (12, .agg [.int .i64 9, .int .i64 2]), (13, .agg [.int .i64 11, .int .i64 2]), (14, .agg [.int .i64 13, .int .i64 2])] (by exact zag rfl) ?_
  refine restTo 1 [(8, { res := .tup [.sl 1 6 (intEl [y, m, d, h, mi, se]) false, .bool true] })] [0] rfl (by and_intros <;> decide) ?_
  refine frame [(0, .str s), (8, .str s), (15, .sl 2 6 (elOf true 2 [.int .i64 0, .int .i64 4, .int .i64 4, .int .i64 2, .int .i64 6, .int .i64 2, .int .i64 9, .int .i64 2, .int .i64 11, .int .i64 2, .int .i64 13, .int .i64 2]) true)] (by exact zag rfl) ?_
  refine rest [(8, { res := .tup [.sl 1 6 (intEl [y, m, d, h, mi, se]) false, .bool true] })] [0] rfl (by and_intros <;> first | decide | (have hal := (all_ok2 s posL hs posL_all (by decide)).arg (args := [.str s, .sl 2 6 (elOf true 2 [.int .i64 0, .int .i64 4, .int .i64 4, .int .i64 2, .int .i64 6, .int .i64 2, .int .i64 9, .int .i64 2, .int .i64 11, .int .i64 2, .int .i64 13, .int .i64 2]) false]) ⟨⟨Imp.refl _, rfl, rfl⟩, ⟨Imp.sl (m := 6) pos_el, rfl, rfl⟩, True.intro⟩; rw [hall] at hal; exact hal)) ?_
  refine seq (seq (reg [] [0] rfl (by decide) ?_))
  refine condS rfl (fun g20 => ?_) (fun g20 => ?_)
  · try simp only [zg] at g20
    (cases g20; done)
  · try simp only [zg] at g20
    refine skip (seq ?_)
    obtain ⟨y_, m_, d_, h_, mi_, se_, e_, b1, b2, b3, b4, b5, b6⟩ := allN_six hall
    simp only [List.cons.injEq, and_true] at e_
    obtain ⟨rfl, rfl, rfl, rfl, rfl, rfl⟩ := e_
    have c1 := getO_lt b1; have c2 := getO_lt b2; have c3 := getO_lt b3; have c4 := getO_lt b4; have c5 := getO_lt b5; have c6 := getO_lt b6
    refine regD [(18, { res := .tup [.int .i64 (secN y m d h mi se : Nat), .bool true] })] [0, 3, 6, 9, 12, 15, 19, 20, 21, 22, 23] rfl rfl rfl (by and_intros <;> first | decide | (have hof := of_ok y m d h mi se (by simp only [show 10 ^ 4 = 10000 from rfl, show 10 ^ 2 = 100 from rfl] at c1 c2 c3 c4 c5 c6; omega); rw [ofO_some hk] at hof; exact hof)) ?_
    refine seq (seq (region (restTo 3 [(4, { res := .str (basT y m (d - 1) (secN y m d h mi se)) })] [0, 3, 5] rfl (by and_intros <;> exact ⟨⟩) ?_)))
    refine splitS 45 rfl (fun g45 => ?_) (fun g45 => ?_)
    · try simp only [zg] at g45
      (cases g45; done)
    · try simp only [zg] at g45
      refine rest [(4, { res := .str (basT y m (d - 1) (secN y m d h mi se)) })] [0, 3, 5] rfl (by and_intros <;> first | exact ⟨⟩ | exact basic_ok (okD_date hk) _ (okD_sec hk).1 (okD_sec hk).2) ?_
      refine condS rfl (fun g50 => ?_) (fun g50 => ?_)
      · try simp only [zg] at g50
        refine seq (reg [] [] rfl (by decide) ?_)
        exact retH Tryz.func37 rfl rfl (by rw [parsO_bad hall (fun e => g50 e.2)]; rfl) (by rfl)
      · try simp only [zg] at g50
        refine skip (seq (reg [] [0] rfl (by decide) ?_))
        exact retH Tryz.func37 rfl rfl (by rw [parsO_yes hall ⟨hk, g50⟩]; rfl) (by rfl)

theorem rpb_len (s : List UInt8) (hs : s.length ≤ 16777216) (hl : s.length ≠ 16) : FnOK Tryz.prog 44 [.str s] [] (.tup [.int .i64 0, .bool false]) [] := by
  refine FnOK.of_runs Tryz.func44 rfl (Nat.le_of_ble_eq_true rfl) ?_
  refine seq (reg [] [] rfl (by decide) ?_)
  refine seq (seq (reg [] [0] rfl (by decide) ?_))
  refine condS rfl (fun g8 => ?_) (fun g8 => ?_)
  · try simp only [zg] at g8
    refine seq (reg [] [] rfl (by decide) ?_)
    exact retH Tryz.func44 rfl rfl (by rfl) (by rfl)
  · try simp only [zg] at g8
    exfalso; omega

theorem rpb_bad (s : List UInt8) (hs : s.length ≤ 16777216) (hl : s.length = 16) (hk : ofI (numP s 0 4) (numP s 4 2) (numP s 6 2) (numP s 9 2) (numP s 11 2) (numP s 13 2) = none) : FnOK Tryz.prog 44 [.str s] [] (.tup [.int .i64 0, .bool false]) [] := by
  refine FnOK.of_runs Tryz.func44 rfl (Nat.le_of_ble_eq_true rfl) ?_
  refine seq (reg [] [] rfl (by decide) ?_)
  refine seq (seq (reg [] [0] rfl (by decide) ?_))
  refine condS rfl (fun g8 => ?_) (fun g8 => ?_)
  · try simp only [zg] at g8
    exfalso; omega
  · try simp only [zg] at g8
    refine skip (seq (regD [(2, { res := .int .i64 (numP s 0 4) }), (5, { res := .int .i64 (numP s 4 2) }), (8, { res := .int .i64 (numP s 6 2) }), (11, { res := .int .i64 (numP s 9 2) }), (14, { res := .int .i64 (numP s 11 2) }), (17, { res := .int .i64 (numP s 13 2) }), (19, { res := .tup [.int .i64 0, .bool false] })] [0, 3, 6, 9, 12, 15, 20, 21, 22, 23, 24] rfl rfl rfl (by have n1 := numP_bd s 0 4 (by decide); have n2 := numP_bd s 4 2 (by decide); have n3 := numP_bd s 6 2 (by decide); have n4 := numP_bd s 9 2 (by decide); have n5 := numP_bd s 11 2 (by decide); have n6 := numP_bd s 13 2 (by decide); and_intros <;> first | exact ⟨⟩ | omega | exact number_ok ((s.take 4).drop 0) (by rw [List.length_drop, List.length_take]; omega) | exact number_ok ((s.take 6).drop 4) (by rw [List.length_drop, List.length_take]; omega) | exact number_ok ((s.take 8).drop 6) (by rw [List.length_drop, List.length_take]; omega) | exact number_ok ((s.take 11).drop 9) (by rw [List.length_drop, List.length_take]; omega) | exact number_ok ((s.take 13).drop 11) (by rw [List.length_drop, List.length_take]; omega) | exact number_ok ((s.take 15).drop 13) (by rw [List.length_drop, List.length_take]; omega) | (have hof := rof_ok (numP s 0 4) (numP s 4 2) (numP s 6 2) (numP s 9 2) (numP s 11 2) (numP s 13 2) ⟨n1, n2, n3, n4, n5, n6⟩; rw [hk] at hof; exact hof)) ?_))
    refine seq (seq (region (restTo 3 [] [0, 3, 5] rfl (by decide) ?_)))
    refine splitS 34 rfl (fun g34 => ?_) (fun g34 => ?_)
    · try simp only [zg] at g34
      refine rest [] [0, 3, 5] rfl (by decide) ?_
      refine condT rfl (seq (reg [] [] rfl (by decide) ?_))
      exact retH Tryz.func44 rfl rfl (by rfl) (by rfl)
    · try simp only [zg] at g34
      (cases g34; done)

theorem rpb_ok (s : List UInt8) (hs : s.length ≤ 16777216) (hl : s.length = 16) {y m d h mi se : Nat} (hall : allN s posL = some [y, m, d, h, mi, se]) (hk : okD y m d h mi se) : FnOK Tryz.prog 44 [.str s] [] (.tup [.int .i64 ((parsO s).getD 0 : Nat), .bool (parsO s).isSome]) [] := by
  refine FnOK.of_runs Tryz.func44 rfl (Nat.le_of_ble_eq_true rfl) ?_
  refine seq (reg [] [] rfl (by decide) ?_)
  refine seq (seq (reg [] [0] rfl (by decide) ?_))
  refine condS rfl (fun g8 => ?_) (fun g8 => ?_)
  · try simp only [zg] at g8
    exfalso; omega
  · try simp only [zg] at g8
    refine skip (seq (regD [(2, { res := .int .i64 (numP s 0 4) }), (5, { res := .int .i64 (numP s 4 2) }), (8, { res := .int .i64 (numP s 6 2) }), (11, { res := .int .i64 (numP s 9 2) }), (14, { res := .int .i64 (numP s 11 2) }), (17, { res := .int .i64 (numP s 13 2) }), (19, { res := .tup [.int .i64 (secN y m d h mi se : Nat), .bool true] })] [0, 3, 6, 9, 12, 15, 20, 21, 22, 23, 24] rfl rfl rfl (by have n1 := numP_bd s 0 4 (by decide); have n2 := numP_bd s 4 2 (by decide); have n3 := numP_bd s 6 2 (by decide); have n4 := numP_bd s 9 2 (by decide); have n5 := numP_bd s 11 2 (by decide); have n6 := numP_bd s 13 2 (by decide); and_intros <;> first | exact ⟨⟩ | omega | exact number_ok ((s.take 4).drop 0) (by rw [List.length_drop, List.length_take]; omega) | exact number_ok ((s.take 6).drop 4) (by rw [List.length_drop, List.length_take]; omega) | exact number_ok ((s.take 8).drop 6) (by rw [List.length_drop, List.length_take]; omega) | exact number_ok ((s.take 11).drop 9) (by rw [List.length_drop, List.length_take]; omega) | exact number_ok ((s.take 13).drop 11) (by rw [List.length_drop, List.length_take]; omega) | exact number_ok ((s.take 15).drop 13) (by rw [List.length_drop, List.length_take]; omega) | (have hof := rof_ok (numP s 0 4) (numP s 4 2) (numP s 6 2) (numP s 9 2) (numP s 11 2) (numP s 13 2) ⟨n1, n2, n3, n4, n5, n6⟩; rw [ofI_yes hl hall, ofO_some hk] at hof; exact hof)) ?_))
    refine seq (seq (region (restTo 3 [(4, { res := .str (basT y m (d - 1) (secN y m d h mi se)) })] [0, 3, 5] rfl (by and_intros <;> exact ⟨⟩) ?_)))
    refine splitS 34 rfl (fun g34 => ?_) (fun g34 => ?_)
    · try simp only [zg] at g34
      (cases g34; done)
    · try simp only [zg] at g34
      refine rest [(4, { res := .str (basT y m (d - 1) (secN y m d h mi se)) })] [0, 3, 5] rfl (by and_intros <;> first | exact ⟨⟩ | exact rbasic_ok (okD_date hk) _ (okD_sec hk).1 (okD_sec hk).2) ?_
      refine condS rfl (fun g39 => ?_) (fun g39 => ?_)
      · try simp only [zg] at g39
        refine seq (reg [] [] rfl (by decide) ?_)
        exact retH Tryz.func44 rfl rfl (by rw [parsO_bad hall (fun e => g39 e.2)]; rfl) (by rfl)
      · try simp only [zg] at g39
        refine skip (seq (reg [] [0] rfl (by decide) ?_))
        exact retH Tryz.func44 rfl rfl (by rw [parsO_yes hall ⟨hk, g39⟩]; rfl) (by rfl)


theorem parse_ok (s : List UInt8) (hs : s.length ≤ 16777216) : FnOK Tryz.prog 37 [.str s] [] (.tup [.int .i64 ((parsO s).getD 0 : Nat), .bool (parsO s).isSome]) [] := by
  cases e : allN s posL with
  | none => rw [parsO_no e]; exact pb_none s hs e
  | some l =>
    obtain ⟨y, m, d, h, mi, se, rfl, _⟩ := allN_six e
    by_cases hk : okD y m d h mi se
    · exact pb_ok s hs e hk
    · rw [parsO_bad e (fun x => hk x.1)]; exact pb_bad s hs e hk
theorem rparse_ok (s : List UInt8) (hs : s.length ≤ 16777216) : FnOK Tryz.prog 44 [.str s] [] (.tup [.int .i64 ((parsO s).getD 0 : Nat), .bool (parsO s).isSome]) [] := by
  by_cases hl : s.length = 16
  · cases e : allN s posL with
    | none => rw [parsO_no e]; exact rpb_bad s hs hl (ofI_no hl e)
    | some l =>
      obtain ⟨y, m, d, h, mi, se, rfl, _⟩ := allN_six e
      by_cases hk : okD y m d h mi se
      · exact rpb_ok s hs hl e hk
      · rw [parsO_bad e (fun x => hk x.1)]; exact rpb_bad s hs hl (by rw [ofI_yes hl e, ofO_none hk])
  · rw [parsO_len hl]; exact rpb_len s hs hl
/-- what a text's time is -/
structure TimeOf (t y m q n r : Nat) : Prop where
  date : DateOf n y r m q
  le : t ≤ 253402300799
  eq : n = t / 86400
end Go.Proofs.YtnohmijdpmelpaaGreat
