/- The document's claim in the target. -/
import Derived.Test.YtnohmijdpmelpaaGreatOwn
import Derived.Test.YtnohmijdpmelpaaGreatMg
set_option maxRecDepth 100000
set_option linter.unusedVariables false
set_option linter.unusedSimpArgs false
namespace Go.Proofs.YtnohmijdpmelpaaGreat
open Go Go.Am Go.Am.Runs

abbrev zB : List AV := [.str [], .str [], .str [], .str [], .int .i64 0, .bool false, .int .i64 0]
/-- a row that grows: so many texts, the rest is room -/
def vecN (f : Nat → List UInt8) (i cap : Nat) : List AV := (List.range i).map (fun j => .str (f j)) ++ List.replicate (cap - i) .bad
def vec2 (f g : Nat → List UInt8) (i cap : Nat) : List AV := (List.range 6).map (fun j => .str (if j < i then f j else g j)) ++ List.replicate (cap - 6) .bad
theorem vecN_len (f : Nat → List UInt8) {i cap : Nat} (h : i ≤ cap) : (vecN f i cap).length = cap := by simp [vecN]; omega
theorem vec2_len (f g : Nat → List UInt8) (i : Nat) {cap : Nat} (h : 6 ≤ cap) : (vec2 f g i cap).length = cap := by simp [vec2]; omega
theorem vecN_ok (f : Nat → List UInt8) (i cap : Nat) (p : Nat → Bool) : (vecN f i cap).all (fun c => okR p c && nr1 c) = true := by
  rw [List.all_eq_true]
  intro c hc
  unfold vecN at hc
  rw [List.mem_append] at hc
  rcases hc with hc | hc
  · obtain ⟨j, _, rfl⟩ := List.mem_map.1 hc; rfl
  · rw [(List.mem_replicate.1 hc).2]; rfl
theorem vecN_nr (f : Nat → List UInt8) (i cap : Nat) (k : Nat) : ((vecN f i cap).take k).all nr1 = true := by
  rw [List.all_eq_true]
  intro c hc
  have := List.all_eq_true.1 (vecN_ok f i cap fun _ => true) c (List.mem_of_mem_take hc)
  simp at this
  exact this.2
theorem vecN_one (f : Nat → List UInt8) {i cap : Nat} {el : Nat → AV} (hi : i = 0) (he : el 0 = .str (f i)) : grown [] 0 1 1 cap el = vecN f (i + 1) cap := by
  subst hi
  show [] ++ (((cpy 1 el).map un1) ++ List.replicate ((cap - (0 + 1)) * 1) .bad) = _
  have e : (cpy 1 el).map un1 = [.str (f 0)] := by simp [cpy, he, AV.cells, Am.un1]
  rw [e, Nat.mul_one]
  simp [vecN]
theorem vecN_snoc (f : Nat → List UInt8) {i c cap : Nat} {el : Nat → AV} (he : el 0 = .str (f i)) (hc : i ≤ c) : grown (vecN f i c) i 1 1 cap el = vecN f (i + 1) cap := by
  show (vecN f i c).take (i * 1) ++ (((cpy 1 el).map un1) ++ List.replicate ((cap - (i + 1)) * 1) .bad) = _
  have e : (cpy 1 el).map un1 = [.str (f i)] := by simp [cpy, he, AV.cells, Am.un1]
  rw [e, Nat.mul_one, Nat.mul_one]
  unfold vecN
  rw [List.take_left' (by simp), List.range_succ, List.map_append, List.append_assoc]
  rfl
theorem vec2_get (f g : Nat → List UInt8) {i : Nat} (cap : Nat) (hi : i < 6) : (vec2 f g i cap)[i]? = some (.str (g i)) := by
  unfold vec2
  rw [List.getElem?_append_left (by simp; omega), List.getElem?_map, List.getElem?_range hi]
  simp
theorem vec2_set (f g : Nat → List UInt8) {i : Nat} (cap : Nat) (hi : i < 6) : (vec2 f g i cap).set i (.str (f i)) = vec2 f g (i + 1) cap := by
  unfold vec2
  rw [List.set_append, if_pos (by simp; omega)]
  congr 1
  apply List.ext_getElem?
  intro j
  simp only [List.getElem?_set, List.getElem?_map, List.length_map, List.length_range]
  by_cases hj : j < 6
  · rw [List.getElem?_range hj]
    by_cases e : i = j
    · subst e
      rw [if_pos rfl, if_pos hi]
      simp
    · rw [if_neg e]
      simp only [Option.map_some]
      by_cases h : j < i
      · rw [if_pos h, if_pos (by omega)]
      · rw [if_neg h, if_neg (by omega)]
  · rw [List.getElem?_eq_none (by simp; omega), if_neg (by omega)]; rfl
theorem vec2_six (f g : Nat → List UInt8) (cap : Nat) : vec2 f g 6 cap = [.str (f 0), .str (f 1), .str (f 2), .str (f 3), .str (f 4), .str (f 5)] ++ List.replicate (cap - 6) .bad := rfl
theorem qryC_one {q : List Hd} (h : ¬ QOne q) : qryC q = .inl 304 := if_neg h
theorem qryC_un {q : List Hd} (h : QOne q) (h2 : ¬ QUn q) : qryC q = .inl 331 := by unfold qryC; rw [if_pos h, if_neg h2]
theorem qryC_fit {q : List Hd} (h : QOne q) (h2 : QUn q) (h3 : ¬ QFit q) : qryC q = .inl 304 := by unfold qryC; rw [if_pos h, if_pos h2, if_neg h3]
theorem qryC_ok {q : List Hd} (h : QOne q) (h2 : QUn q) (h3 : QFit q) : qryC q = .inr ⟨vQ q 1, vQ q 4, vQ q 5, vQ q 2, (intF (vQ q 3)).getD 0, true⟩ := by unfold qryC; rw [if_pos h, if_pos h2, if_pos h3]
theorem qNm_el (o : Bool) : Imp (.sl 1 6 (elOf false 1 [.str [88, 45, 65, 109, 122, 45, 65, 108, 103, 111, 114, 105, 116, 104, 109], .str [88, 45, 65, 109, 122, 45, 67, 114, 101, 100, 101, 110, 116, 105, 97, 108], .str [88, 45, 65, 109, 122, 45, 68, 97, 116, 101], .str [88, 45, 65, 109, 122, 45, 69, 120, 112, 105, 114, 101, 115], .str [88, 45, 65, 109, 122, 45, 83, 105, 103, 110, 101, 100, 72, 101, 97, 100, 101, 114, 115], .str [88, 45, 65, 109, 122, 45, 83, 105, 103, 110, 97, 116, 117, 114, 101]]) o) (.sl 1 6 (strEl qNm) o) := Imp.sl fun i hi => by
  match i, hi with
  | 0, _ => rfl
  | 1, _ => rfl
  | 2, _ => rfl
  | 3, _ => rfl
  | 4, _ => rfl
  | 5, _ => rfl

theorem wrong_ok (e : Int) : FnOK Tryz.prog 86 [.int .i64 e] [] (.agg [.str [], .str [], .str [], .str [], .int .i64 0, .bool false, .int .i64 e]) [] := by
  refine FnOK.of_runs Tryz.func86 rfl (Nat.le_of_ble_eq_true rfl) ?_
  refine seq (reg [] [] rfl (by decide) ?_)
  refine seq (reg [] [0] rfl (by and_intros <;> first | exact zl rfl | decide) ?_)
  exact retD Tryz.func86 rfl rfl rfl (by rfl) (by rfl) rfl

theorem rnamed_ok (l : List Hd) (name : List UInt8) (hl : l.length ≤ 16777216) : FnOK Tryz.prog 85 [.sl 2 l.length (hdEl l) false, .str name] [] (.sl 1 (allL l name).length (strEl (allL l name)) false) [] := by
  refine FnOK.of_runs Tryz.func85 rfl (Nat.le_of_ble_eq_true rfl) ?_
  refine seq (reg [] [] rfl (by decide) ?_)
  refine seq (reg [(2, { res := .sl 1 (allL l name).length (strEl (allL l name)) false })] [0, 1] rfl (by and_intros <;> first | decide | exact rall_ok l name hl) ?_)
  exact retH Tryz.func85 rfl rfl (by rfl) (by rfl)

set_option maxHeartbeats 2000000 in
theorem rinq_ok (q : List Hd) (hl : q.length ≤ 16777216) (hq : ∀ p ∈ q, p.1.length ≤ 8388608 ∧ p.2.length ≤ 8388608) : FnOK Tryz.prog 87 [.sl 2 q.length (hdEl q) false] [] (clA (qryC q)) [] := by
  refine FnOK.of_runs Tryz.func87 rfl (Nat.le_of_ble_eq_true rfl) ?_
  refine seq (reg [] [] rfl (by decide) ?_)
  refine seq (reg [] [] rfl (by decide) ?_)
  refine seq (region (restTo 0 [] [] rfl (by exact ⟨⟩) ?_))
  refine opG (κ := Unit) (Q := fun _ => True) (v := fun _ => .nilsl) (fr1 := _) (H1 := fun _ => _) rfl rfl rfl (OpSem.nilV (.inl rfl) rfl).toG (fun _ _ => ?_)
  refine rest [] [] rfl (by exact ⟨⟩) ?_
  refine seq (seq (reg [] [] rfl (by decide) ?_))
  refine block ?_
  -- loop 0
  refine loopF (σ := Nat × Option Nat) (fun s => s.1 ≤ 6 ∧ (∀ j, j < s.1 → (allL q (qNm.getD j [])).length = 1) ∧ (match s.2 with | none => s.1 = 0 | some c => s.1 ≤ c)) (fun s => [(0, .sl 2 q.length (hdEl q) false), (2, .ptr 0 0), (3, .sl 1 6 (strEl qNm) true), (4, match s.2 with | none => .nilsl | some c => .hs 1 0 s.1 c), (5, .int .i64 s.1)]) (fun s => match s.2 with | none => [zB] | some c => [zB, vecN (rawQ q) s.1 c]) (fun s => 6 - s.1) ((0, none)) (by exact ⟨Nat.zero_le _, fun j h => absurd h (Nat.not_lt_zero _), rfl⟩) (by exact agree_cons rfl (by rfl) (agree_cons rfl (by rfl) (agree_imp rfl (by exact qNm_el true) rfl rfl (agree_cons rfl (by rfl) (agree_cons rfl (by rfl) (trivial)))))) (by rfl) (fun ⟨i, c⟩ hi ih => ?_)
  have hi1 : i ≤ 6 := hi.1; have hnl := qNm_len i
  refine seq (seq ?_)
  rcases c with _ | c
  · skip
    refine reg [] [0] rfl (by decide) ?_
    refine condS rfl (fun g14 => ?_) (fun g14 => ?_)
    · try simp only [zg] at g14
      refine skip (seq (block (seq (reg [(4, { res := .str (qNm.getD i []) }), (5, { res := .sl 1 (allL q (qNm.getD i [])).length (strEl (allL q (qNm.getD i []))) false })] [0, 1, 2] rfl (by and_intros <;> first | exact ⟨⟩ | exact zl rfl | decide | exact rnamed_ok q (qNm.getD i []) (by omega) | omega | (have h6 : i = 0 ∨ i = 1 ∨ i = 2 ∨ i = 3 ∨ i = 4 ∨ i = 5 := (by omega); rcases h6 with rfl | rfl | rfl | rfl | rfl | rfl <;> rfl)) ?_))))
      refine seq (seq (reg [] [0] rfl (by decide) ?_))
      refine condS rfl (fun g25 => ?_) (fun g25 => ?_)
      · try simp only [zg] at g25
        refine seq (reg [(0, { res := .agg [.str [], .str [], .str [], .str [], .int .i64 0, .bool false, .int .i64 304] })] [] rfl (by and_intros <;> first | decide | exact wrong_ok 304) ?_)
        exact retD Tryz.func87 rfl rfl rfl (by rw [qryC_one (one_no (i := i) (by omega) (by omega))]; rfl) (by rfl) rfl
      · try simp only [zg] at g25
        refine skip (region (restTo 5 [(3, { res := .str (rawQ q i) })] [1] rfl (by and_intros <;> first | rfl | omega) ?_))
        refine opG rfl rfl rfl (OpSemG.app0 (e := 9) (sz := 1) (by_ := 16) rfl rfl rfl rfl rfl rfl (by decide) (by decide) (by decide)) (fun cap hcap => ?_)
        refine rest [(3, { res := .str (rawQ q i) })] [1] rfl (by and_intros <;> omega) ?_
        refine inBlock (reg [] [] rfl (by decide) ?_)
        refine id ?_
        have hz := vecN_one (rawQ q) (cap := cap) (el := elOf false 1 [.str (rawQ q i)]) hi.2.2 rfl
        refine heap (H2 := [zB, vecN (rawQ q) (i + 1) cap]) (congrArg (fun x => [zB, x]) hz) ?_
        exact ih ((i + 1, some cap)) _ _ (by exact ⟨by omega, fun k hk => by rcases Nat.lt_or_ge k i with h | h; exact hi.2.1 k h; (rw [show k = i by omega]; omega), (by show i + 1 ≤ cap; omega)⟩) (by simp only; omega) (by exact agree_cons rfl (by rfl) (agree_cons rfl (by first | rfl | (refine congrArg (AV.int _) ?_; simp only [wrap_i64', tdivN, tmodN]; omega) | skip) (agree_cons rfl (by first | rfl | (refine congrArg (AV.int _) ?_; simp only [wrap_i64', tdivN, tmodN]; omega) | skip) (agree_cons rfl (by first | rfl | (show AV.hs 1 0 1 cap = AV.hs 1 0 (i + 1) cap; rw [show i = 0 from hi.2.2])) (agree_cons rfl (by first | rfl | (refine congrArg (AV.int _) ?_; simp only [wrap_i64', tdivN, tmodN]; omega) | skip) (trivial)))))) (by rfl)
    · try simp only [zg] at g14
      exfalso; have := hi.2.2; simp only at this; omega
  · skip
    refine reg [] [0] rfl (by decide) ?_
    refine condS rfl (fun g14 => ?_) (fun g14 => ?_)
    · try simp only [zg] at g14
      refine skip (seq (block (seq (reg [(4, { res := .str (qNm.getD i []) }), (5, { res := .sl 1 (allL q (qNm.getD i [])).length (strEl (allL q (qNm.getD i []))) false })] [0, 1, 2] rfl (by and_intros <;> first | exact ⟨⟩ | exact zl rfl | decide | exact rnamed_ok q (qNm.getD i []) (by omega) | omega | (have h6 : i = 0 ∨ i = 1 ∨ i = 2 ∨ i = 3 ∨ i = 4 ∨ i = 5 := (by omega); rcases h6 with rfl | rfl | rfl | rfl | rfl | rfl <;> rfl)) ?_))))
      refine seq (seq (reg [] [0] rfl (by decide) ?_))
      refine condS rfl (fun g25 => ?_) (fun g25 => ?_)
      · try simp only [zg] at g25
        refine seq (reg [(0, { res := .agg [.str [], .str [], .str [], .str [], .int .i64 0, .bool false, .int .i64 304] })] [] rfl (by and_intros <;> first | decide | exact wrong_ok 304) ?_)
        exact retD Tryz.func87 rfl rfl rfl (by rw [qryC_one (one_no (i := i) (by omega) (by omega))]; rfl) (by rfl) rfl
      · try simp only [zg] at g25
        refine skip (region (restTo 5 [(3, { res := .str (rawQ q i) })] [1] rfl (by and_intros <;> first | rfl | omega) ?_))
        refine opG rfl rfl rfl (OpSemG.appG (e := 9) (sz := 1) (by_ := 16) rfl rfl rfl rfl rfl rfl rfl hi.2.2 (by rw [vecN_len (rawQ q) hi.2.2, Nat.mul_one]) (vecN_nr ..) (fun k hk => by obtain rfl : k = 0 := (by omega); rfl) (by show (i + 1) * 16 ≤ _; omega) (by show i + 1 ≤ _; omega)) (fun cap hcap => ?_)
        refine rest [(3, { res := .str (rawQ q i) })] [1] rfl (by and_intros <;> omega) ?_
        refine inBlock (reg [] [] rfl (by decide) ?_)
        refine id ?_
        have hz := vecN_snoc (rawQ q) (cap := cap) (el := elOf false 1 [.str (rawQ q i)]) rfl hi.2.2
        refine heap (H2 := [zB, [], vecN (rawQ q) (i + 1) cap]) (congrArg (fun x => [zB, [], x]) hz) ?_
        refine back 1 4 (H0 := [zB, []]) (blk := vecN (rawQ q) (i + 1) cap) [(0, .sl 2 q.length (hdEl q) false), (2, .ptr 0 0), (3, .sl 1 6 (strEl qNm) true), (5, .int .i64 (i + 1 : Nat))] (by exact agree_cons rfl (by rfl) (agree_cons rfl (by first | rfl | (refine congrArg (AV.int _) ?_; simp only [wrap_i64', tdivN, tmodN]; omega) | skip) (agree_cons rfl (by first | rfl | (refine congrArg (AV.int _) ?_; simp only [wrap_i64', tdivN, tmodN]; omega) | skip) (agree_cons rfl (by first | rfl | (refine congrArg (AV.int _) ?_; simp only [wrap_i64', tdivN, tmodN]; omega) | skip) (trivial))))) rfl rfl rfl rfl (Nat.zero_le _) (by simp only [List.all_append, List.all_cons, List.all_nil, vecN_ok, Bool.and_true]; rfl) rfl ?_
        exact ih ((i + 1, some cap)) _ _ (by exact ⟨by omega, fun k hk => by rcases Nat.lt_or_ge k i with h | h; exact hi.2.1 k h; (rw [show k = i by omega]; omega), (by show i + 1 ≤ cap; omega)⟩) (by simp only; omega) (by exact agree_cons rfl (by rfl) (agree_cons rfl (by rfl) (agree_cons rfl (by rfl) (agree_cons rfl (by rfl) (agree_cons rfl (by rfl) (trivial)))))) (by rfl)
    · try simp only [zg] at g14
      refine exit rfl (seq (seq ?_))
      obtain rfl : i = 6 := by omega
      have hone : QOne q := fun j hj => hi.2.1 j hj
      refine reg [] [] rfl (by decide) ?_
      refine block ?_
      -- loop 1
      refine loopF (σ := Nat) (fun j => j ≤ 6 ∧ ∀ k, k < j → (uQ q k).isSome = true) (fun j => [(2, .ptr 0 0), (4, .hs 1 0 6 c), (7, .int .i64 j)]) (fun j => [zB, vec2 (vQ q) (rawQ q) j c]) (fun j => 6 - j) (0) (by exact ⟨Nat.zero_le _, fun j h => absurd h (Nat.not_lt_zero _)⟩) (by exact zag rfl) (by rfl) (fun j hj jh => ?_)
      replace hj : j ≤ 6 ∧ ∀ k, k < j → (uQ q k).isSome = true := hj; have hj1 := hj.1; have hrl := rawQ_le hq j; have hvl := vec2_len (vQ q) (rawQ q) j hi.2.2
      refine seq (seq (reg [] [0] rfl (by decide) ?_))
      refine condS rfl (fun g34 => ?_) (fun g34 => ?_)
      · try simp only [zg] at g34
        refine skip (seq (block (seq (reg [(3, { res := .str (rawQ q j) }), (4, { res := .tup [.str (vQ q j), .bool (uQ q j).isSome] })] [0, 1] rfl (by and_intros <;> first | omega | (rw [show 0 + Int.toNat (j : Int) * 1 = j by rw [Int.toNat_natCast]; omega]; exact vec2_get (vQ q) (rawQ q) c (by omega)) | exact runesc_ok (rawQ q j) (by omega)) ?_))))
        refine seq (seq (reg [] [0] rfl (by decide) ?_))
        refine condS rfl (fun g46 => ?_) (fun g46 => ?_)
        · try simp only [zg] at g46
          refine seq (reg [(0, { res := .agg [.str [], .str [], .str [], .str [], .int .i64 0, .bool false, .int .i64 331] })] [] rfl (by and_intros <;> first | decide | exact wrong_ok 331) ?_)
          exact retD Tryz.func87 rfl rfl rfl (by rw [qryC_un hone (un_no (i := j) (by omega) (by simpa using g46))]; rfl) (by rfl) rfl
        · try simp only [zg] at g46
          refine skip (reg [] [0, 1, 2] rfl (by rw [hvl]; and_intros <;> omega) ?_)
          refine inBlock (reg [] [] rfl (by decide) ?_)
          exact jh (j + 1) _ _ (by exact ⟨by omega, fun k hk => by rcases Nat.lt_or_ge k j with h | h; exact hj.2 k h; (rw [show k = j by omega]; simp_all)⟩) (by omega) (by exact agree_cons rfl (by rfl) (agree_cons rfl (by first | rfl | (refine congrArg (AV.int _) ?_; simp only [wrap_i64', tdivN, tmodN]; omega) | skip) (agree_cons rfl (by first | rfl | (refine congrArg (AV.int _) ?_; simp only [wrap_i64', tdivN, tmodN]; omega) | skip) (trivial)))) (by rw [show 0 + Int.toNat (j : Int) * 1 = j by rw [Int.toNat_natCast]; omega]; exact congrArg (fun x => [zB, x]) (vec2_set (vQ q) (rawQ q) c (by omega)))
      · try simp only [zg] at g34
        refine exit rfl (seq ?_)
        obtain rfl : j = 6 := by omega
        have hqun : QUn q := fun k hk => hj.2 k hk
        have w1 := vQ_le hq 3; have w2 := vQ_le hq 5; have w3 := vQ_le hq 4; have hc6 : 6 ≤ c := hi.2.2
        refine heap (H2 := [zB, [.str (vQ q 0), .str (vQ q 1), .str (vQ q 2), .str (vQ q 3), .str (vQ q 4), .str (vQ q 5)] ++ List.replicate (c - 6) .bad]) (by rw [vec2_six]) ?_
        refine reg [(3, { res := .tup [.int .i64 ((intF (vQ q 3)).getD 0 : Nat), .bool (intF (vQ q 3)).isSome] })] [0] rfl (by and_intros <;> first | decide | exact rint_ok (vQ q 3) (by omega)) ?_
        refine seq (seq (region (restTo 5 [(20, { res := .bool (digsL (vQ q 5)) })] [0, 5, 9, 13, 17] rfl (by and_intros <;> decide) ?_)))
        refine splitS 63 rfl (fun g63 => ?_) (fun g63 => ?_)
        · try simp only [zg] at g63
          refine rest [(20, { res := .bool (digsL (vQ q 5)) })] [0, 5, 9, 13, 17] rfl (by and_intros <;> decide) ?_
          refine condT rfl (seq (reg [(0, { res := .agg [.str [], .str [], .str [], .str [], .int .i64 0, .bool false, .int .i64 304] })] [] rfl (by and_intros <;> first | decide | exact wrong_ok 304) ?_))
          exact retD Tryz.func87 rfl rfl rfl (by rw [qryC_fit hone hqun (fun h => by obtain ⟨k1, k2, k3, k4, k5⟩ := h; (simp_all; done))]; rfl) (by rfl) rfl
        · try simp only [zg] at g63
          refine restTo 4 [(20, { res := .bool (digsL (vQ q 5)) })] [0, 5, 9, 13, 17] rfl (by and_intros <;> decide) ?_
          refine splitS 67 rfl (fun g67 => ?_) (fun g67 => ?_)
          · try simp only [zg] at g67
            refine rest [(20, { res := .bool (digsL (vQ q 5)) })] [0, 5, 9, 13, 17] rfl (by and_intros <;> decide) ?_
            refine condT rfl (seq (reg [(0, { res := .agg [.str [], .str [], .str [], .str [], .int .i64 0, .bool false, .int .i64 304] })] [] rfl (by and_intros <;> first | decide | exact wrong_ok 304) ?_))
            exact retD Tryz.func87 rfl rfl rfl (by rw [qryC_fit hone hqun (fun h => by obtain ⟨k1, k2, k3, k4, k5⟩ := h; (simp_all; done))]; rfl) (by rfl) rfl
          · try simp only [zg] at g67
            refine restTo 4 [(20, { res := .bool (digsL (vQ q 5)) })] [0, 5, 9, 13, 17] rfl (by and_intros <;> decide) ?_
            refine splitS 71 rfl (fun g71 => ?_) (fun g71 => ?_)
            · try simp only [zg] at g71
              refine rest [(20, { res := .bool (digsL (vQ q 5)) })] [0, 5, 9, 13, 17] rfl (by and_intros <;> decide) ?_
              refine condT rfl (seq (reg [(0, { res := .agg [.str [], .str [], .str [], .str [], .int .i64 0, .bool false, .int .i64 304] })] [] rfl (by and_intros <;> first | decide | exact wrong_ok 304) ?_))
              exact retD Tryz.func87 rfl rfl rfl (by rw [qryC_fit hone hqun (fun h => by obtain ⟨k1, k2, k3, k4, k5⟩ := h; omega)]; rfl) (by rfl) rfl
            · try simp only [zg] at g71
              refine restTo 4 [(20, { res := .bool (digsL (vQ q 5)) })] [0, 5, 9, 13, 17] rfl (by and_intros <;> decide) ?_
              refine splitS 75 rfl (fun g75 => ?_) (fun g75 => ?_)
              · try simp only [zg] at g75
                refine rest [(20, { res := .bool (digsL (vQ q 5)) })] [0, 5, 9, 13, 17] rfl (by and_intros <;> decide) ?_
                refine condT rfl (seq (reg [(0, { res := .agg [.str [], .str [], .str [], .str [], .int .i64 0, .bool false, .int .i64 304] })] [] rfl (by and_intros <;> first | decide | exact wrong_ok 304) ?_))
                exact retD Tryz.func87 rfl rfl rfl (by rw [qryC_fit hone hqun (fun h => by obtain ⟨k1, k2, k3, k4, k5⟩ := h; omega)]; rfl) (by rfl) rfl
              · try simp only [zg] at g75
                refine rest [(20, { res := .bool (digsL (vQ q 5)) })] [0, 5, 9, 13, 17] rfl (by and_intros <;> first | decide | exact rdigits_ok (vQ q 5) (by omega)) ?_
                refine condS rfl (fun g81 => ?_) (fun g81 => ?_)
                · try simp only [zg] at g81
                  refine seq (reg [(0, { res := .agg [.str [], .str [], .str [], .str [], .int .i64 0, .bool false, .int .i64 304] })] [] rfl (by and_intros <;> first | decide | exact wrong_ok 304) ?_)
                  exact retD Tryz.func87 rfl rfl rfl (by rw [qryC_fit hone hqun (fun h => by obtain ⟨k1, k2, k3, k4, k5⟩ := h; (simp_all; done))]; rfl) (by rfl) rfl
                · try simp only [zg] at g81
                  refine skip (seq (regX [(2, { L := [1], res := .str (vQ q 1) }), (5, { L := [1], res := .str (vQ q 4) }), (8, { L := [1], res := .str (vQ q 5) }), (11, { L := [1], res := .str (vQ q 2) }), (14, { L := [0], res := .bad })] [0, 3, 6, 9, 12] rfl rfl rfl (by and_intros <;> first | exact zl rfl | decide | rfl) ?_))
                  exact retD Tryz.func87 rfl rfl rfl (by rw [qryC_ok hone hqun (show QFit q by unfold QFit; refine ⟨?_, ?_, ?_, ?_, ?_⟩ <;> omega)]; rfl) (by rfl) rfl

end Go.Proofs.YtnohmijdpmelpaaGreat
