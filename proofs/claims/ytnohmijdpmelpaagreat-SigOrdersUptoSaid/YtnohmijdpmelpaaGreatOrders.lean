/- The law SigOrders returns true and leaves its input as it was, for every input of bulk at most 1048576. The condition: the bulk of what is handed in is at most 1048576. -/
import Derived.Test.YtnohmijdpmelpaaGreatOrdersa
set_option maxRecDepth 100000
set_option linter.unusedVariables false
set_option linter.unusedSimpArgs false
namespace Go.Proofs.YtnohmijdpmelpaaGreat
open Go Go.Am
theorem low_z : Low [122] := fun c hc => by simp at hc; subst hc; decide
theorem bd_hA {t v : List UInt8} (ht : t.length + v.length ≤ 1048600) : Bd [71, 69, 84] t (hA v) SG [112] := Bd.of (by omega) (by simp only [hdW, hA, sgW, hostN, hostV, amzN, List.map_cons, List.map_nil, List.sum_cons, List.sum_nil, List.length_append, List.length_cons, List.length_nil]; omega)
theorem bd_gA {t v : List UInt8} (ht : t.length + v.length ≤ 1048600) : Bd [71, 69, 84] t (gA v) SG [112] := Bd.of (by omega) (by simp only [hdW, gA, sgW, hostN, hostV, amzN, List.map_cons, List.map_nil, List.sum_cons, List.sum_nil, List.length_append, List.length_cons, List.length_nil]; omega)

theorem call1 {a b x y v : List UInt8} (ha : Low a) (hb : Low b) (hx : Low x) (hy : Low y) (hl : a.length + b.length + x.length + y.length + v.length ≤ 1048576) (o : Bool) : FnOK Tryz.prog 7 [.agg [.str [71, 69, 84], .str ([47, 107, 63] ++ a ++ [61] ++ b ++ [38] ++ x ++ [61] ++ y), .sl 2 2 (hdEl (hA v)) false, .bs [] o], .sl 1 2 (strEl SG) false, .str [112], .bool false] [] (.tup [.str (txt (two (a, b) (x, y)) v), .int .i64 0]) [] := by
  have e : ([47, 107, 63] ++ a ++ [61] ++ b ++ [38] ++ x ++ [61] ++ y) = T1 a b x y := by simp [T1]
  have h := ccanon_ok [71, 69, 84] (T1 a b x y) (hA v) [] SG [112] false o (bd_hA (by rw [← e]; simp only [List.length_append, List.length_cons, List.length_nil]; omega))
  rw [canon1 v ha hb hx hy] at h
  rw [e]; exact h
theorem call2 {a b x y v : List UInt8} (ha : Low a) (hb : Low b) (hx : Low x) (hy : Low y) (hl : a.length + b.length + x.length + y.length + v.length ≤ 1048576) (o : Bool) : FnOK Tryz.prog 7 [.agg [.str [71, 69, 84], .str ([47, 37, 54, 98, 63, 38] ++ x ++ [61] ++ y ++ [38, 38] ++ a ++ [61] ++ b), .sl 2 2 (hdEl (gA v)) false, .bs [] o], .sl 1 2 (strEl SG) false, .str [112], .bool false] [] (.tup [.str (txt (two (a, b) (x, y)) v), .int .i64 0]) [] := by
  have e : ([47, 37, 54, 98, 63, 38] ++ x ++ [61] ++ y ++ [38, 38] ++ a ++ [61] ++ b) = T2 a b x y := by simp [T2]
  have h := ccanon_ok [71, 69, 84] (T2 a b x y) (gA v) [] SG [112] false o (bd_gA (by rw [← e]; simp only [List.length_append, List.length_cons, List.length_nil]; omega))
  rw [canon2 v ha hb hx hy] at h
  rw [e]; exact h
theorem call3 {a b x y v : List UInt8} (ha : Low a) (hb : Low b) (hx : Low x) (hy : Low y) (hl : a.length + b.length + x.length + y.length + v.length ≤ 1048576) (o : Bool) : FnOK Tryz.prog 7 [.agg [.str [71, 69, 84], .str ([47, 107, 63] ++ a ++ [61] ++ b ++ [38] ++ x ++ [61] ++ y ++ [122]), .sl 2 2 (hdEl (hA v)) false, .bs [] o], .sl 1 2 (strEl SG) false, .str [112], .bool false] [] (.tup [.str (txt (two (a, b) (x, y ++ [122])) v), .int .i64 0]) [] := by
  have e : ([47, 107, 63] ++ a ++ [61] ++ b ++ [38] ++ x ++ [61] ++ y ++ [122]) = T1 a b x (y ++ [122]) := by simp [T1]
  have h := ccanon_ok [71, 69, 84] (T1 a b x (y ++ [122])) (hA v) [] SG [112] false o (bd_hA (by rw [← e]; simp only [List.length_append, List.length_cons, List.length_nil]; omega))
  rw [canon1 v ha hb hx (low_app.2 ⟨hy, low_z⟩)] at h
  rw [e]; exact h
theorem imp_sg {o : Bool} : Imp (.sl 1 2 (elOf false 1 [.str [104, 111, 115, 116], .str [120, 45, 97, 109, 122, 45, 97]]) o) (.sl 1 2 (strEl SG) o) := Imp.slEq rfl fun i hi => by
  match i, hi with
  | 0, _ => rfl
  | 1, _ => rfl
theorem imp_hA {v : List UInt8} {o : Bool} : Imp (.sl 2 2 (elOf true 2 [.str [104, 111, 115, 116], .str [115, 51, 46, 108, 111, 99, 97, 108], .str [120, 45, 97, 109, 122, 45, 97], .str (v ++ [32, 32] ++ v)]) o) (.sl 2 2 (hdEl (hA v)) o) := Imp.slEq rfl fun i hi => by
  match i, hi with
  | 0, _ => rfl
  | 1, _ => rfl
theorem imp_gA {v : List UInt8} {o : Bool} : Imp (.sl 2 2 (elOf true 2 [.str [120, 45, 97, 109, 122, 45, 97], .str ([32] ++ v ++ [32, 9] ++ v ++ [9]), .str [104, 111, 115, 116], .str [115, 51, 46, 108, 111, 99, 97, 108]]) o) (.sl 2 2 (hdEl (gA v)) o) := Imp.slEq rfl fun i hi => by
  match i, hi with
  | 0, _ => rfl
  | 1, _ => rfl
def lowI (s : List UInt8) (i : Nat) : Prop := i ≤ s.length ∧ Low (s.take i)
theorem lowI_step {s : List UInt8} {i : Nat} (h : lowI s i) (hi : i < s.length) (h1 : 97 ≤ (s.getD i 0).toNat) (h2 : (s.getD i 0).toNat ≤ 122) : lowI s (i + 1) := by
  refine ⟨hi, ?_⟩
  rw [take_snoc 0 hi]
  exact low_app.2 ⟨h.2, fun c hc => by simp at hc; subst hc; simpa [List.getD_eq_getElem?_getD] using And.intro h1 h2⟩
theorem lowI_all {a b x y : List UInt8} {i : Nat} (h : lowI (a ++ b ++ x ++ y) i) (hi : (a ++ b ++ x ++ y).length ≤ i) : Low a ∧ Low b ∧ Low x ∧ Low y := by
  have h2 := h.2
  rw [List.take_of_length_le hi] at h2
  obtain ⟨h3, hy⟩ := low_app.1 h2
  obtain ⟨h4, hx⟩ := low_app.1 h3
  obtain ⟨ha, hb⟩ := low_app.1 h4
  exact ⟨ha, hb, hx, hy⟩

theorem sigOrders_ok (a b x y v : List UInt8) (hl : a.length + b.length + x.length + y.length + v.length ≤ 1048576) : FnOK Tryz.prog 6 [.str a, .str b, .str x, .str y, .str v] [] (.bool true) [] := by
  refine FnOK.of_runs Tryz.func6 rfl (Nat.le_of_ble_eq_true rfl) ?_
  refine Runs.seq ?_
  refine Runs.reg [] [] rfl (by (try simp only [wrap_i64', wrap_u8, wrap_u16, wrap_u32, wrap_u64, wrap_i32, List.length_cons, List.length_nil, List.length_append, List.length_map, tmodN, tdivN]); and_intros <;> first | exact True.intro | omega | skip) ?_
  refine Runs.seq ?_
  refine Runs.seq ?_
  refine Runs.reg [] [] rfl (by (try simp only [wrap_i64', wrap_u8, wrap_u16, wrap_u32, wrap_u64, wrap_i32, List.length_cons, List.length_nil, List.length_append, List.length_map, tmodN, tdivN]); and_intros <;> first | exact True.intro | omega | skip) ?_
  refine Runs.block ?_
  -- loop 0
  refine Runs.loopF (σ := Nat) (fun i => lowI (a ++ b ++ x ++ y) i) (fun i => [(0, .str a), (1, .str b), (2, .str x), (3, .str y), (4, .str v), (11, .int .i64 i)]) (fun _ => []) (fun i => (a ++ b ++ x ++ y).length - i) (0) (by exact ⟨Nat.zero_le _, by simp [Low]⟩) (by exact agree_cons rfl (by first | with_reducible rfl | (refine congrArg (AV.int _) ?_; (try simp only [wrap_i64', wrap_u8, wrap_u16, wrap_u32, wrap_u64, wrap_i32, List.length_cons, List.length_nil, List.length_append, List.length_map, tmodN, tdivN]); omega) | rfl | skip) (agree_cons rfl (by first | with_reducible rfl | (refine congrArg (AV.int _) ?_; (try simp only [wrap_i64', wrap_u8, wrap_u16, wrap_u32, wrap_u64, wrap_i32, List.length_cons, List.length_nil, List.length_append, List.length_map, tmodN, tdivN]); omega) | rfl | skip) (agree_cons rfl (by first | with_reducible rfl | (refine congrArg (AV.int _) ?_; (try simp only [wrap_i64', wrap_u8, wrap_u16, wrap_u32, wrap_u64, wrap_i32, List.length_cons, List.length_nil, List.length_append, List.length_map, tmodN, tdivN]); omega) | rfl | skip) (agree_cons rfl (by first | with_reducible rfl | (refine congrArg (AV.int _) ?_; (try simp only [wrap_i64', wrap_u8, wrap_u16, wrap_u32, wrap_u64, wrap_i32, List.length_cons, List.length_nil, List.length_append, List.length_map, tmodN, tdivN]); omega) | rfl | skip) (agree_cons rfl (by first | with_reducible rfl | (refine congrArg (AV.int _) ?_; (try simp only [wrap_i64', wrap_u8, wrap_u16, wrap_u32, wrap_u64, wrap_i32, List.length_cons, List.length_nil, List.length_append, List.length_map, tmodN, tdivN]); omega) | rfl | skip) (agree_cons rfl (by first | with_reducible rfl | (refine congrArg (AV.int _) ?_; (try simp only [wrap_i64', wrap_u8, wrap_u16, wrap_u32, wrap_u64, wrap_i32, List.length_cons, List.length_nil, List.length_append, List.length_map, tmodN, tdivN]); omega) | rfl | skip) (trivial))))))) (by rfl) (fun i hi ih => ?_)
  replace hi : lowI (a ++ b ++ x ++ y) i := hi; have hile := hi.1; simp only [List.length_append] at hile
  refine Runs.seq ?_
  refine Runs.seq ?_
  refine Runs.reg [] [0, 1, 3, 6, 9] rfl (by (try simp only [List.length_append, List.length_cons, List.length_nil, Int.toNat_natCast]); and_intros <;> first | exact True.intro | omega | exact Nat.le_of_ble_eq_true rfl | skip) ?_
  refine Runs.condS rfl (fun g33 => ?_) (fun g33 => ?_)
  · try simp only [decide_eq_true_eq, decide_eq_false_iff_not, notT, notF, beq_iff_eq, beq_eq_false_iff_ne, bne_iff_ne, bne_eq_false_iff_eq, tmodN, tdivN, Int.not_lt, Int.not_le] at g33
    rw [i64_id (x := (a.length : Int) + b.length) (by omega) (by omega), i64_id (x := (a.length : Int) + b.length + x.length) (by omega) (by omega), i64_id (x := (a.length : Int) + b.length + x.length + y.length) (by omega) (by omega)] at g33
    refine Runs.skip ?_
    refine Runs.seq ?_
    refine Runs.block ?_
    refine Runs.seq ?_
    refine Runs.reg [] [0, 1, 3, 5, 7] rfl (by (try simp only [List.length_append, List.length_cons, List.length_nil, Int.toNat_natCast]); and_intros <;> first | exact True.intro | omega | exact Nat.le_of_ble_eq_true rfl | skip) ?_
    refine Runs.seq ?_
    refine Runs.region ?_
    refine Runs.restTo 3 [] [0, 3] rfl (by (try simp only [wrap_i64', wrap_u8, wrap_u16, wrap_u32, wrap_u64, wrap_i32, List.length_cons, List.length_nil, List.length_append, List.length_map, tmodN, tdivN]); and_intros <;> first | exact True.intro | omega | skip) ?_
    refine Runs.splitS 47 rfl (fun g47 => ?_) (fun g47 => ?_)
    · try simp only [decide_eq_true_eq, decide_eq_false_iff_not, notT, notF, beq_iff_eq, beq_eq_false_iff_ne, bne_iff_ne, bne_eq_false_iff_eq, tmodN, tdivN, Int.not_lt, Int.not_le] at g47
      refine Runs.rest [] [0, 3] rfl (by (try simp only [wrap_i64', wrap_u8, wrap_u16, wrap_u32, wrap_u64, wrap_i32, List.length_cons, List.length_nil, List.length_append, List.length_map, tmodN, tdivN]); and_intros <;> first | exact True.intro | omega | skip) ?_
      refine Runs.condT rfl ?_
      refine Runs.seq ?_
      refine Runs.reg [(0, { res := .bool true })] [] rfl (by and_intros <;> first | exact True.intro | exact awake18_ok) ?_
      exact Runs.retH Tryz.func6 rfl rfl (by rfl) (by rfl)
    · try simp only [decide_eq_true_eq, decide_eq_false_iff_not, notT, notF, beq_iff_eq, beq_eq_false_iff_ne, bne_iff_ne, bne_eq_false_iff_eq, tmodN, tdivN, Int.not_lt, Int.not_le] at g47
      refine Runs.rest [] [0, 3] rfl (by (try simp only [wrap_i64', wrap_u8, wrap_u16, wrap_u32, wrap_u64, wrap_i32, List.length_cons, List.length_nil, List.length_append, List.length_map, tmodN, tdivN]); and_intros <;> first | exact True.intro | omega | skip) ?_
      refine Runs.condS rfl (fun g50 => ?_) (fun g50 => ?_)
      · try simp only [decide_eq_true_eq, decide_eq_false_iff_not, notT, notF, beq_iff_eq, beq_eq_false_iff_ne, bne_iff_ne, bne_eq_false_iff_eq, tmodN, tdivN, Int.not_lt, Int.not_le] at g50
        refine Runs.seq ?_
        refine Runs.reg [(0, { res := .bool true })] [] rfl (by and_intros <;> first | exact True.intro | exact awake18_ok) ?_
        exact Runs.retH Tryz.func6 rfl rfl (by rfl) (by rfl)
      · try simp only [decide_eq_true_eq, decide_eq_false_iff_not, notT, notF, beq_iff_eq, beq_eq_false_iff_ne, bne_iff_ne, bne_eq_false_iff_eq, tmodN, tdivN, Int.not_lt, Int.not_le] at g50
        refine Runs.skip ?_
        refine Runs.inBlock ?_
        refine Runs.reg [] [] rfl (by (try simp only [wrap_i64', wrap_u8, wrap_u16, wrap_u32, wrap_u64, wrap_i32, List.length_cons, List.length_nil, List.length_append, List.length_map, tmodN, tdivN]); and_intros <;> first | exact True.intro | omega | skip) ?_
        exact ih (i + 1) _ _ (by exact lowI_step hi (by simp only [List.length_append]; omega) (by have := g47; rw [Int.toNat_natCast] at this; omega) (by have := g50; rw [Int.toNat_natCast] at this; omega)) (by simp only [List.length_append]; omega) (by exact agree_cons rfl (by first | with_reducible rfl | (refine congrArg (AV.int _) ?_; (try simp only [wrap_i64', wrap_u8, wrap_u16, wrap_u32, wrap_u64, wrap_i32, List.length_cons, List.length_nil, List.length_append, List.length_map, tmodN, tdivN]); omega) | rfl | skip) (agree_cons rfl (by first | with_reducible rfl | (refine congrArg (AV.int _) ?_; (try simp only [wrap_i64', wrap_u8, wrap_u16, wrap_u32, wrap_u64, wrap_i32, List.length_cons, List.length_nil, List.length_append, List.length_map, tmodN, tdivN]); omega) | rfl | skip) (agree_cons rfl (by first | with_reducible rfl | (refine congrArg (AV.int _) ?_; (try simp only [wrap_i64', wrap_u8, wrap_u16, wrap_u32, wrap_u64, wrap_i32, List.length_cons, List.length_nil, List.length_append, List.length_map, tmodN, tdivN]); omega) | rfl | skip) (agree_cons rfl (by first | with_reducible rfl | (refine congrArg (AV.int _) ?_; (try simp only [wrap_i64', wrap_u8, wrap_u16, wrap_u32, wrap_u64, wrap_i32, List.length_cons, List.length_nil, List.length_append, List.length_map, tmodN, tdivN]); omega) | rfl | skip) (agree_cons rfl (by first | with_reducible rfl | (refine congrArg (AV.int _) ?_; (try simp only [wrap_i64', wrap_u8, wrap_u16, wrap_u32, wrap_u64, wrap_i32, List.length_cons, List.length_nil, List.length_append, List.length_map, tmodN, tdivN]); omega) | rfl | skip) (agree_cons rfl (by first | with_reducible rfl | (refine congrArg (AV.int _) ?_; (try simp only [wrap_i64', wrap_u8, wrap_u16, wrap_u32, wrap_u64, wrap_i32, List.length_cons, List.length_nil, List.length_append, List.length_map, tmodN, tdivN]); omega) | rfl | skip) (trivial))))))) (by rfl)
  · try simp only [decide_eq_true_eq, decide_eq_false_iff_not, notT, notF, beq_iff_eq, beq_eq_false_iff_ne, bne_iff_ne, bne_eq_false_iff_eq, tmodN, tdivN, Int.not_lt, Int.not_le] at g33
    rw [i64_id (x := (a.length : Int) + b.length) (by omega) (by omega), i64_id (x := (a.length : Int) + b.length + x.length) (by omega) (by omega), i64_id (x := (a.length : Int) + b.length + x.length + y.length) (by omega) (by omega)] at g33; have lo := lowI_all hi (by simp only [List.length_append]; omega)
    refine Runs.exit rfl ?_
    refine Runs.seq ?_
    refine Runs.seq ?_
    refine Runs.reg [] [0, 1] rfl (by (try simp only [wrap_i64', wrap_u8, wrap_u16, wrap_u32, wrap_u64, wrap_i32, List.length_cons, List.length_nil, List.length_append, List.length_map, tmodN, tdivN]); and_intros <;> first | exact True.intro | omega | skip) ?_
    refine Runs.condS rfl (fun g54 => ?_) (fun g54 => ?_)
    · try simp only [decide_eq_true_eq, decide_eq_false_iff_not, notT, notF, beq_iff_eq, beq_eq_false_iff_ne, bne_iff_ne, bne_eq_false_iff_eq, tmodN, tdivN, Int.not_lt, Int.not_le] at g54
      refine Runs.seq ?_
      refine Runs.reg [(0, { res := .bool true })] [] rfl (by and_intros <;> first | exact True.intro | exact awake18_ok) ?_
      exact Runs.retH Tryz.func6 rfl rfl (by rfl) (by rfl)
    · try simp only [decide_eq_true_eq, decide_eq_false_iff_not, notT, notF, beq_iff_eq, beq_eq_false_iff_ne, bne_iff_ne, bne_eq_false_iff_eq, tmodN, tdivN, Int.not_lt, Int.not_le] at g54
      refine Runs.skip ?_
      refine Runs.seq ?_
      refine Runs.reg [] [1, 3] rfl (by (try simp only [List.length_append, List.length_cons, List.length_nil, Int.toNat_natCast]); and_intros <;> first | exact True.intro | omega | exact Nat.le_of_ble_eq_true rfl | skip) ?_
      refine Runs.conv 13 (a := .sl 2 2 (hdEl (hA v)) true) (by exact imp_hA) (.inr (by intro vs h; cases h)) (by intro vs h; cases h) ?_
      refine Runs.seq ?_
      refine Runs.reg [] [0, 3] rfl (by (try simp only [List.length_append, List.length_cons, List.length_nil, Int.toNat_natCast]); and_intros <;> first | exact True.intro | omega | exact Nat.le_of_ble_eq_true rfl | skip) ?_
      refine Runs.conv 14 (a := .sl 2 2 (hdEl (gA v)) true) (by exact imp_gA) (.inr (by intro vs h; cases h)) (by intro vs h; cases h) ?_
      refine Runs.seq ?_
      obtain ⟨s1, hs1⟩ : ∃ s, s = txt (two (a, b) (x, y)) v := ⟨_, rfl⟩
      obtain ⟨s3, hs3⟩ : ∃ s, s = txt (two (a, b) (x, y ++ [122])) v := ⟨_, rfl⟩
      have hne : s1 ≠ s3 := by rw [hs1, hs3]; exact txt_ne v
      have m1 : ∀ o, FnOK Tryz.prog 7 [.agg [.str [71, 69, 84], .str ([47, 107, 63] ++ a ++ [61] ++ b ++ [38] ++ x ++ [61] ++ y), .sl 2 2 (hdEl (hA v)) false, .bs [] o], .sl 1 2 (strEl SG) false, .str [112], .bool false] [] (.tup [.str s1, .int .i64 0]) [] := by rw [hs1]; exact fun o => call1 lo.1 lo.2.1 lo.2.2.1 lo.2.2.2 hl o
      have m2 : ∀ o, FnOK Tryz.prog 7 [.agg [.str [71, 69, 84], .str ([47, 37, 54, 98, 63, 38] ++ x ++ [61] ++ y ++ [38, 38] ++ a ++ [61] ++ b), .sl 2 2 (hdEl (gA v)) false, .bs [] o], .sl 1 2 (strEl SG) false, .str [112], .bool false] [] (.tup [.str s1, .int .i64 0]) [] := by rw [hs1]; exact fun o => call2 lo.1 lo.2.1 lo.2.2.1 lo.2.2.2 hl o
      have m3 : ∀ o, FnOK Tryz.prog 7 [.agg [.str [71, 69, 84], .str ([47, 107, 63] ++ a ++ [61] ++ b ++ [38] ++ x ++ [61] ++ y ++ [122]), .sl 2 2 (hdEl (hA v)) false, .bs [] o], .sl 1 2 (strEl SG) false, .str [112], .bool false] [] (.tup [.str s3, .int .i64 0]) [] := by rw [hs3]; exact fun o => call3 lo.1 lo.2.1 lo.2.2.1 lo.2.2.2 hl o
      clear hs1 hs3
      refine Runs.reg [(14, { res := .tup [.str s1, .int .i64 0] })] [0, 3, 6, 9, 11] rfl (by (try simp only [List.length_append, List.length_cons, List.length_nil, Int.toNat_natCast]); and_intros <;> first | exact True.intro | omega | exact (m1 _).arg ⟨⟨Imp.refl _, rfl, rfl⟩, ⟨⟨imp_sg, rfl, rfl⟩, ⟨⟨Imp.refl _, rfl, rfl⟩, ⟨⟨Imp.refl _, rfl, rfl⟩, trivial⟩⟩⟩⟩ | exact Nat.le_of_ble_eq_true rfl) ?_
      refine Runs.seq ?_
      refine Runs.reg [(14, { res := .tup [.str s1, .int .i64 0] })] [0, 3, 6, 9, 11] rfl (by (try simp only [List.length_append, List.length_cons, List.length_nil, Int.toNat_natCast]); and_intros <;> first | exact True.intro | omega | exact (m2 _).arg ⟨⟨Imp.refl _, rfl, rfl⟩, ⟨⟨imp_sg, rfl, rfl⟩, ⟨⟨Imp.refl _, rfl, rfl⟩, ⟨⟨Imp.refl _, rfl, rfl⟩, trivial⟩⟩⟩⟩ | exact Nat.le_of_ble_eq_true rfl) ?_
      refine Runs.seq ?_
      refine Runs.reg [(15, { res := .tup [.str s3, .int .i64 0] })] [0, 3, 6, 9, 12] rfl (by (try simp only [List.length_append, List.length_cons, List.length_nil, Int.toNat_natCast]); and_intros <;> first | exact True.intro | omega | exact (m3 _).arg ⟨⟨Imp.refl _, rfl, rfl⟩, ⟨⟨imp_sg, rfl, rfl⟩, ⟨⟨Imp.refl _, rfl, rfl⟩, ⟨⟨Imp.refl _, rfl, rfl⟩, trivial⟩⟩⟩⟩ | exact Nat.le_of_ble_eq_true rfl) ?_
      refine Runs.seq ?_
      refine Runs.region ?_
      refine Runs.rest [(1, { res := .bool true }), (4, { res := .bool true }), (9, { res := .bool true }), (14, { res := .bool true }), (17, { res := .bool true })] [0, 3, 7, 8, 12, 13] rfl (by and_intros <;> first | exact True.intro | exact awake18_ok | (refine congrArg AV.bool ?_; exact decide_eq_true rfl) | (refine congrArg AV.bool ?_; simp; exact hne) | (refine congrArg AV.bool ?_; simp)) ?_
      exact Runs.retH Tryz.func6 rfl rfl (by rfl) (by rfl)
end Go.Proofs.YtnohmijdpmelpaaGreat
namespace Go.Proofs.YtnohmijdpmelpaaGreat.sigOrders
open Go.ChangeShapes Go.WideShapes Go.ChangeAt Go.RowKit Go.Am
theorem own : ownKnob Tryz.prog.godebug = none := by kernel_rfl
theorem contract (H : Type) (enc : TypeId × Value → H) (W : World) (base : Nat) (args : Array Value) (ds gs : List (DataW H)) (before : List MemPlace)
    (hval : ∀ (j : Nat) t v, Tryz.f6.params[j]? = some t → args[j]? = some v → Value.okWide Tryz.prog W .any base t v)
    (hW : DataW.Whole enc Tryz.prog Tryz.f6.params.toList Rows.sigOrdersSpec.vars false W args.toList ds gs before) (hk : Rows.uptoSmall H (ds ++ gs) = true) :
    Calls Tryz.prog 6 args W fun e W' => ∃ v, e = .returned v ∧ Rows.sigOrdersSpec.post enc Tryz.prog Tryz.f6 false true false false W args v W' := by
  have hW' := hW
  obtain ⟨p, q, hA0, hV, rfl, hfz, hnd⟩ := hW
  have hA : DataW.TrodAll enc Tryz.prog W 0 (fun _ => true) true Tryz.f6.params.toList args.toList ds p := hA0
  rw [Tryz.params6] at hA hval
  obtain ⟨v0, vs0, d0, ds0, p0, q0, hargs, rfl, rfl, h0, r0⟩ := trodAll_cons hA
  obtain ⟨v1, vs1, d1, ds1, p1, q1, rfl, rfl, rfl, h1, r1⟩ := trodAll_cons r0
  obtain ⟨v2, vs2, d2, ds2, p2, q2, rfl, rfl, rfl, h2, r2⟩ := trodAll_cons r1
  obtain ⟨v3, vs3, d3, ds3, p3, q3, rfl, rfl, rfl, h3, r3⟩ := trodAll_cons r2
  obtain ⟨v4, vs4, d4, ds4, p4, q4, rfl, rfl, rfl, h4, r4⟩ := trodAll_cons r3
  obtain ⟨rfl, rfl, rfl⟩ := trodAll_nil r4
  obtain rfl : args = #[v0, v1, v2, v3, v4] := by cases args; simp_all
  obtain ⟨rfl, rfl⟩ := trodVars_none hV
  obtain ⟨l0, e0, rfl, g0⟩ := arg_str Tryz.underlying9 (hval 0 9 v0 rfl rfl) h0
  obtain ⟨l1, e1, rfl, g1⟩ := arg_str Tryz.underlying9 (hval 1 9 v1 rfl rfl) h1
  obtain ⟨l2, e2, rfl, g2⟩ := arg_str Tryz.underlying9 (hval 2 9 v2 rfl rfl) h2
  obtain ⟨l3, e3, rfl, g3⟩ := arg_str Tryz.underlying9 (hval 3 9 v3 rfl rfl) h3
  obtain ⟨l4, e4, rfl, g4⟩ := arg_str Tryz.underlying9 (hval 4 9 v4 rfl rfl) h4
  have hb := of_decide_eq_true hk
  simp only [List.append_nil, Rows.uptoBulkAll] at hb
  have hl0 : l0.length ≤ 1048576 := by (try simp only [Rows.uptoBulk] at hb); omega
  have hl1 : l1.length ≤ 1048576 := by (try simp only [Rows.uptoBulk] at hb); omega
  have hl2 : l2.length ≤ 1048576 := by (try simp only [Rows.uptoBulk] at hb); omega
  have hl3 : l3.length ≤ 1048576 := by (try simp only [Rows.uptoBulk] at hb); omega
  have hl4 : l4.length ≤ 1048576 := by (try simp only [Rows.uptoBulk] at hb); omega
  refine ((sigOrders_ok l0 l1 l2 l3 l4 (by simp only [Rows.uptoBulk] at hb; omega)).law W (fun _ _ h => by cases h) [v0, v1, v2, v3, v4] rfl (fun i c v k1 k2 => ?_)).mono fun e W' ⟨he, hg⟩ => ?_
  · match i, k1, k2 with
    | 0, k1, k2 => simp at k1 k2; subst k1; subst k2; exact ⟨g0, rfl⟩
    | 1, k1, k2 => simp at k1 k2; subst k1; subst k2; exact ⟨g1, rfl⟩
    | 2, k1, k2 => simp at k1 k2; subst k1; subst k2; exact ⟨g2, rfl⟩
    | 3, k1, k2 => simp at k1 k2; subst k1; subst k2; exact ⟨g3, rfl⟩
    | 4, k1, k2 => simp at k1 k2; subst k1; subst k2; exact ⟨g4, rfl⟩
    | i + 5, k1, _ => simp at k1
  subst he
  exact ⟨_, rfl, post_law (by kernel_rfl) hW' rfl rfl rfl Tryz.underlying4 (by kernel_rfl) hg⟩
set_option maxRecDepth 100000 in
theorem lifted (os : Os) (started : os.Started) (H : Type) (enc : TypeId × Value → H) (F : Stop.Interp) :
    ReturnsInHanded {} Tryz.checked os 6 .any ((Rows.OpenSpec.upto Rows.sigOrdersSpec).pre6 enc Tryz.prog Tryz.f6 Rows.sigOrdersUptoRow.domain false) (((Rows.OpenSpec.upto Rows.sigOrdersSpec).at F).post enc Tryz.prog Tryz.f6 false true false false) := by
  refine returnsInHanded_of_cond (C := Tryz.checked) (s := Rows.OpenSpec.upto Rows.sigOrdersSpec) (k := Rows.uptoSmall) rfl own started (by kernel_rfl) Tryz.func6
    (OpenSpec.witness (enc := enc) (C := Tryz.checked) (s := Rows.OpenSpec.upto Rows.sigOrdersSpec) (k := Rows.uptoSmall) rfl false ⟨#[], #[.string ⟨#[]⟩, .string ⟨#[]⟩, .string ⟨#[]⟩, .string ⟨#[]⟩, .string ⟨#[]⟩], []⟩ 8 (by kernel_rfl) (by kernel_rfl) (by kernel_rfl)
      (x := ([.lit (.string []), .lit (.string []), .lit (.string []), .lit (.string []), .lit (.string [])], [], [])) (by kernel_rfl) rfl (by kernel_rfl)) ?_
  intro W base args ds gs before hval hW _ hk _
  exact contract H enc W base args ds gs before hval hW hk
theorem over : Rows.sigOrdersUptoRow.holds Tryz.pinned (Rows.OpenSpec.upto Rows.sigOrdersSpec) :=
  OpenClaim.holds_of_cond 6 Tryz.f6 rfl rfl rfl rfl rfl rfl rfl ⟨rfl, rfl, rfl, rfl, rfl⟩ rfl rfl rfl rfl rfl (by kernel_rfl) Tryz.func6 (by kernel_rfl)
    (of_decide_eq_true (by kernel_rfl)) (by unfold Func.isWrapper; first | (rw [if_pos (by decide +kernel)]; kernel_rfl) | (rw [if_neg (by decide +kernel)]; exact ⟨rfl, rfl⟩))
    (fun os started H enc _ F => lifted os started H enc F)
theorem proved : Rows.SigOrdersUptoSaid := over
end Go.Proofs.YtnohmijdpmelpaaGreat.sigOrders
