/- Queries, header values, and what the document fixes of layer 18. The shelf's contracts of strings.Builder's WriteByte and WriteString at this dump. Contracts of the machine turned to the walk of the kit: slices in memory, and in new memory; cells that are written. -/
import Derived.Test.YtdigohaeakclfaaGreatDoorMa09
import Derived.Test.YtdigohaeakclfaaGreatDoorMa07
import Derived.Shelf.Strings.Builder1
import Derived.Shelf.Strings.BuilderK
set_option maxRecDepth 100000
set_option linter.unusedVariables false
set_option linter.unusedSimpArgs false
namespace Go.Proofs.YtdigohaeakclfaaGreatDoor
open Go.Am Go.Am.Runs

theorem idx1_ok (s : List UInt8) (c : UInt8) : FnOK Tryz.prog 118 [.str s, .str [c]] [] (.int .i64 (Lib.indexByte s c)) [] := by
  refine FnOK.of_below rfl fun w G vs hl ha hw => ?_
  obtain ⟨v0, v1, rfl⟩ : ∃ v0 v1, vs = [v0, v1] := by
    match vs, hl with
    | [v0, v1], _ => exact ⟨v0, v1, rfl⟩
  have h0 := (ha 0 _ v0 rfl rfl).str_inv
  have h1 := (ha 1 _ v1 rfl rfl).str_inv
  subst h0; subst h1
  refine (Tryz.stringslite_Index_one ⟨s.toArray⟩ c w).mono ?_
  rintro e w' ⟨rfl, rfl⟩
  exact ⟨_, rfl, fun G w => .int .., RowKit.Below.refl _ _⟩
def cutF (s : List UInt8) (c : UInt8) : List UInt8 × List UInt8 × Bool :=
  if 0 ≤ Lib.indexByte s c then (s.take (Lib.indexByte s c).toNat, s.drop ((Lib.indexByte s c).toNat + 1), true) else (s, [], false)
theorem cut_some {s : List UInt8} {c : UInt8} {i : Nat} (h : Lib.indexByte s c = i) : cutF s c = (s.take i, s.drop (i + 1), true) ∧ i < s.length := by
  constructor
  · unfold cutF; rw [h, if_pos (by omega)]; rfl
  · have := (Lib.indexByte_some h).1
    exact (List.getElem?_eq_some_iff.1 this).1
theorem cut_none {s : List UInt8} {c : UInt8} (h : ¬ 0 ≤ Lib.indexByte s c) : cutF s c = (s, [], false) := if_neg h
theorem cut_len (s : List UInt8) (c : UInt8) : (cutF s c).1.length ≤ s.length ∧ (cutF s c).2.1.length ≤ s.length := by
  unfold cutF; split
  · simp only [List.length_take, List.length_drop]; omega
  · simp
def spI (s : List UInt8) (c : UInt8) : Nat → List (List UInt8) × Nat
  | 0 => ([], 0)
  | i + 1 => if (s.getD i 0).toNat = c.toNat then ((spI s c i).1 ++ [(s.take i).drop (spI s c i).2], i + 1) else spI s c i
def splitL (s : List UInt8) (c : UInt8) : List (List UInt8) := (spI s c s.length).1 ++ [s.drop (spI s c s.length).2]
theorem spI_le (s : List UInt8) (c : UInt8) : ∀ i, (spI s c i).1.length ≤ i ∧ (spI s c i).2 ≤ i
  | 0 => by simp [spI]
  | i + 1 => by
    have := spI_le s c i
    unfold spI; split
    · simp only [List.length_append, List.length_cons, List.length_nil]; omega
    · omega
theorem splitL_len (s : List UInt8) (c : UInt8) : (splitL s c).length ≤ s.length + 1 := by
  have := spI_le s c s.length
  unfold splitL; simp only [List.length_append, List.length_cons, List.length_nil]; omega
theorem spI_mem (s : List UInt8) (c : UInt8) : ∀ i, ∀ x, x ∈ (spI s c i).1 → x.length ≤ s.length
  | 0, x, h => by simp [spI] at h
  | i + 1, x, h => by
    unfold spI at h
    split at h
    · simp only [List.mem_append, List.mem_singleton] at h
      rcases h with h | rfl
      · exact spI_mem s c i x h
      · simp only [List.length_drop, List.length_take]; omega
    · exact spI_mem s c i x h
theorem split_part (s : List UInt8) (c : UInt8) (i : Nat) : ((splitL s c).getD i []).length ≤ s.length := by
  rw [List.getD_eq_getElem?_getD]
  cases h : (splitL s c)[i]? with
  | none => simp
  | some x =>
    have := List.mem_of_getElem? h
    simp only [splitL, List.mem_append, List.mem_singleton] at this
    rcases this with h | rfl
    · exact spI_mem s c _ x h
    · simp
theorem imp_off {sz m m' : Nat} {el el' : Nat → AV} {o : Bool} (hm : m = m') (h : ∀ i, i < m → el' i = el i) : Imp (.sl sz m el o) (.sl sz m' el' false) := fun G w ρ v hv =>
  let k := Imp.slEq (o := o) hm h G w ρ v hv
  let u := Imp.un1 _ G w ρ v k.1
  ⟨u.1, fun T hs => u.2 T (k.2 T hs)⟩
theorem imp_cut {sz n : Nat} {el : Nat → AV} {o : Bool} : Imp (.sl sz ((n : Int).toNat - Int.toNat 0) (fun i => el (Int.toNat 0 + i)) o) (.sl sz n el false) :=
  imp_off (by rw [Int.toNat_natCast]; rfl) fun i _ => by rw [show Int.toNat 0 + i = i from Nat.zero_add i]
abbrev Hd := List UInt8 × List UInt8
abbrev hdEl (l : List Hd) : Nat → AV := fun i => .agg [.str (l.getD i ([], [])).1, .str (l.getD i ([], [])).2]
theorem hd_app {l : List Hd} {n : Nat} {a b : List UInt8} {o : Bool} (hn : n = l.length) : Imp (.sl 2 (n + 1) (apEl n (hdEl l) (elOf true 2 [.str a, .str b])) o) (.sl 2 (l ++ [(a, b)]).length (hdEl (l ++ [(a, b)])) o) := by
  refine Imp.slEq (by simp [hn]) fun i hi => ?_
  rcases Nat.lt_or_ge i n with h | h
  · rw [apEl_lt h]
    simp only [hdEl, List.getD_eq_getElem?_getD]
    rw [List.getElem?_append_left (by omega)]
  · have : i = n := by omega
    subst this
    rw [apEl_ge h]
    subst hn
    simp [hdEl, elOf, List.getD_eq_getElem?_getD]
theorem st_app {out : List (List UInt8)} {n : Nat} {x : List UInt8} {o : Bool} (hn : n = out.length) (out2 : List (List UInt8)) (h2 : out2 = out ++ [x]) : Imp (.sl 1 (n + 1) (apEl n (strEl out) (elOf false 1 [.str x])) o) (.sl 1 out2.length (strEl out2) o) := by
  subst hn; subst h2
  refine Imp.slEq (by simp) fun i hi => ?_
  rcases Nat.lt_or_ge i out.length with h | h
  · rw [apEl_lt h]
    simp [List.getD_eq_getElem?_getD, List.getElem?_append_left h]
  · have : i = out.length := by omega
    subst this
    rw [apEl_ge h]
    simp [elOf, List.getD_eq_getElem?_getD]
def qN (ps : List (List UInt8)) : Nat → List Hd
  | 0 => []
  | i + 1 => if ps.getD i [] = [] then qN ps i else qN ps i ++ [((cutF (ps.getD i []) 61).1, (cutF (ps.getD i []) 61).2.1)]
theorem qN_len (ps : List (List UInt8)) : ∀ i, (qN ps i).length ≤ i
  | 0 => by simp [qN]
  | i + 1 => by
    have := qN_len ps i
    unfold qN; split
    · omega
    · simp only [List.length_append, List.length_cons, List.length_nil]; omega
def queryP (t : List UInt8) : List UInt8 := (cutF t 63).1
def queryQ (t : List UInt8) : List Hd := qN (splitL (cutF t 63).2.1 38) (splitL (cutF t 63).2.1 38).length
def aN (l : List Hd) (name : List UInt8) : Nat → List (List UInt8)
  | 0 => []
  | i + 1 => if (l.getD i ([], [])).1 = name then aN l name i ++ [(l.getD i ([], [])).2] else aN l name i
theorem aN_len (l : List Hd) (name : List UInt8) : ∀ i, (aN l name i).length ≤ i
  | 0 => by simp [aN]
  | i + 1 => by
    have := aN_len l name i
    unfold aN; split
    · simp only [List.length_append, List.length_cons, List.length_nil]; omega
    · omega
def allL (l : List Hd) (name : List UInt8) : List (List UInt8) := aN l name l.length

theorem slcut_ok (s : List UInt8) (c : UInt8) (hs : s.length ≤ 16777216) : FnOK Tryz.prog 117 [.str s, .str [c]] [] (.tup [.str (cutF s c).1, .str (cutF s c).2.1, .bool (cutF s c).2.2]) [] := by
  refine FnOK.of_runs Tryz.func117 rfl (Nat.le_of_ble_eq_true rfl) ?_
  refine seq (reg [] [] rfl (by decide) ?_)
  refine seq (seq (reg [(2, { res := .int .i64 (Lib.indexByte s c) })] [0, 1] rfl (by and_intros <;> first | exact ⟨⟩ | exact idx1_ok s c) ?_))
  refine seq (reg [] [0] rfl (by decide) ?_)
  refine condS rfl (fun g12 => ?_) (fun g12 => ?_)
  · try simp only [zg] at g12
    obtain ⟨i, hi⟩ := Int.eq_ofNat_of_zero_le g12; have hci := cut_some hi
    refine seq ?_
    refine regD [(2, { res := .str (s.take i) }), (6, { res := .int .i64 1 }), (7, { res := .int .i64 (i + 1 : Nat) }), (8, { res := .str (s.drop (i + 1)) })] [0, 1, 3, 4, 5] rfl rfl rfl (by and_intros <;> first | exact ⟨⟩ | omega | rfl | (refine congrArg (AV.int _) ?_; rw [i64_id (by omega) (by omega)]; omega) | (refine congrArg AV.str ?_; rw [hi]; rfl) | (refine congrArg AV.str ?_; rw [Int.toNat_natCast, Int.toNat_natCast, List.take_length])) ?_
    exact retH Tryz.func117 rfl rfl (by rw [hci.1]) (by rfl)
  · try simp only [zg] at g12
    have hcn := cut_none (s := s) (c := c) (by omega)
    refine skip (seq (reg [] [0] rfl (by decide) ?_))
    exact retH Tryz.func117 rfl rfl (by rw [hcn]) (by rfl)

theorem cut_ok (s : List UInt8) (c : UInt8) (hs : s.length ≤ 16777216) : FnOK Tryz.prog 77 [.str s, .str [c]] [] (.tup [.str (cutF s c).1, .str (cutF s c).2.1, .bool (cutF s c).2.2]) [] := by
  refine FnOK.of_runs Tryz.func77 rfl (Nat.le_of_ble_eq_true rfl) ?_
  refine seq (reg [] [] rfl (by decide) ?_)
  refine seq (reg [(2, { res := .tup [.str (cutF s c).1, .str (cutF s c).2.1, .bool (cutF s c).2.2] })] [0, 1] rfl (by and_intros <;> first | exact ⟨⟩ | exact slcut_ok s c hs) ?_)
  exact retH Tryz.func77 rfl rfl (by rfl) (by rfl)

theorem split_ok (s : List UInt8) (c : UInt8) (hs : s.length ≤ 16777216) : FnOK Tryz.prog 78 [.str s, .int .u8 c.toNat] [] (.sl 1 (splitL s c).length (strEl (splitL s c)) false) [] := by
  refine FnOK.of_runs Tryz.func78 rfl (Nat.le_of_ble_eq_true rfl) ?_
  refine seq (reg [] [] rfl (by decide) ?_)
  refine seq (reg [] [] rfl (by decide) ?_)
  refine seq (reg [] [] rfl (by decide) ?_)
  refine seq (seq (reg [] [0] rfl (by decide) ?_))
  refine block ?_
  -- loop 0
  refine loopF (σ := Nat) (fun i => i ≤ s.length) (fun i => [(0, .str s), (1, .int .u8 c.toNat), (5, .sl 1 (spI s c i).1.length (strEl (spI s c i).1) true), (6, .int .i64 (spI s c i).2), (9, .int .i64 s.length), (10, .int .i64 i)]) (fun _ => []) (fun i => s.length - i) (0) (by exact Nat.zero_le _) (by exact agree_cons rfl (by rfl) (agree_cons rfl (by rfl) (agree_imp rfl (by exact Imp.slEq rfl (fun i hi => absurd hi (Nat.not_lt_zero _))) rfl rfl (agree_cons rfl (by rfl) (agree_cons rfl (by rfl) (agree_cons rfl (by rfl) (trivial))))))) (by rfl) (fun i hi ih => ?_)
  replace hi : i ≤ s.length := hi; have hle := spI_le s c i
  refine seq (reg [] [] rfl (by decide) ?_)
  refine seq ?_
  refine condS rfl (fun g11 => ?_) (fun g11 => ?_)
  · try simp only [zg] at g11
    refine skip (seq (block (seq (reg [] [0] rfl (by decide) ?_))))
    refine seq (reg [] [0, 1, 3] rfl (by and_intros <;> first | exact ⟨⟩ | omega) ?_)
    refine condS rfl (fun g17 => ?_) (fun g17 => ?_)
    · try simp only [zg] at g17
      have hsp : spI s c (i + 1) = ((spI s c i).1 ++ [(s.take i).drop (spI s c i).2], i + 1) := if_pos (Int.ofNat_inj.1 g17)
      refine seq (reg [] [] rfl (by and_intros <;> first | exact ⟨⟩ | omega) ?_)
      refine reg [] [0] rfl (by decide) ?_
      refine inBlock (reg [] [] rfl (by decide) ?_)
      exact ih (i + 1) _ _ (by omega) (by omega) (by exact agree_cons rfl (by rfl) (agree_cons rfl (by first | rfl | (refine congrArg (AV.int _) ?_; simp only [wrap_i64', tdivN, tmodN]; omega) | skip) (agree_imp rfl (by (rw [hsp]; exact st_app rfl _ rfl)) rfl rfl (agree_cons rfl (by (rw [hsp, i64_id (by omega) (by omega)]; rfl)) (agree_cons rfl (by first | rfl | (refine congrArg (AV.int _) ?_; simp only [wrap_i64', tdivN, tmodN]; omega) | skip) (agree_cons rfl (by first | rfl | (refine congrArg (AV.int _) ?_; simp only [wrap_i64', tdivN, tmodN]; omega) | skip) (trivial))))))) (by rfl)
    · try simp only [zg] at g17
      have hsp : spI s c (i + 1) = spI s c i := if_neg (fun e => g17 (Int.ofNat_inj.2 e))
      refine skip (inBlock (reg [] [] rfl (by decide) ?_))
      exact ih (i + 1) _ _ (by omega) (by omega) (by exact agree_cons rfl (by rfl) (agree_cons rfl (by first | rfl | (refine congrArg (AV.int _) ?_; simp only [wrap_i64', tdivN, tmodN]; omega) | skip) (agree_imp rfl (by (rw [hsp]; exact Imp.refl _)) rfl rfl (agree_cons rfl (by (rw [hsp]; done)) (agree_cons rfl (by first | rfl | (refine congrArg (AV.int _) ?_; simp only [wrap_i64', tdivN, tmodN]; omega) | skip) (agree_cons rfl (by first | rfl | (refine congrArg (AV.int _) ?_; simp only [wrap_i64', tdivN, tmodN]; omega) | skip) (trivial))))))) (by rfl)
  · try simp only [zg] at g11
    refine exit rfl (seq ?_)
    obtain rfl : i = s.length := by omega
    have e : List.drop ((spI s c s.length).2 : Int).toNat (List.take (s.length : Int).toNat s) = s.drop (spI s c s.length).2 := by rw [Int.toNat_natCast, Int.toNat_natCast, List.take_length]
    refine reg [] [] rfl (by and_intros <;> first | exact ⟨⟩ | omega) ?_
    refine frame [(5, .sl 1 (splitL s c).length (strEl (splitL s c)) true)] (by exact agree_imp rfl (by exact st_app rfl (splitL s c) (by rw [e]; rfl)) rfl rfl trivial) ?_
    refine seq (reg [] [0, 1, 3] rfl (by and_intros <;> first | exact ⟨⟩ | omega) ?_)
    exact frame [(4, .sl 1 (splitL s c).length (strEl (splitL s c)) false)] (by exact agree_imp rfl (by exact imp_cut) rfl rfl trivial) (retH Tryz.func78 rfl rfl rfl rfl)

theorem query_ok (t : List UInt8) (ht : t.length ≤ 8388608) : FnOK Tryz.prog 35 [.str t] [] (.tup [.str (queryP t), .sl 2 (queryQ t).length (hdEl (queryQ t)) false]) [] := by
  refine FnOK.of_runs Tryz.func35 rfl (Nat.le_of_ble_eq_true rfl) ?_
  refine seq (reg [] [] rfl (by decide) ?_)
  refine seq ?_
  obtain ⟨q, hq⟩ : ∃ q, q = (cutF t 63).2.1 := ⟨_, rfl⟩; have hql : q.length ≤ t.length := (by rw [hq]; exact (cut_len t 63).2); obtain ⟨ps, hps⟩ : ∃ ps, ps = splitL q 38 := ⟨_, rfl⟩; have hpl : ps.length ≤ q.length + 1 := (by rw [hps]; exact splitL_len q 38)
  refine reg [(1, { res := .tup [.str (queryP t), .str q, .bool (cutF t 63).2.2] })] [0] rfl (by and_intros <;> first | exact ⟨⟩ | (rw [hq]; exact cut_ok t 63 (by omega))) ?_
  refine seq (seq (reg [(1, { res := .sl 1 ps.length (strEl ps) false })] [0] rfl (by and_intros <;> first | exact ⟨⟩ | (rw [hps]; exact split_ok q 38 (by omega))) ?_))
  refine block ?_
  -- loop 0
  refine loopF (σ := Nat) (fun i => i ≤ ps.length) (fun i => [(2, .str (queryP t)), (3, .sl 2 (qN ps i).length (hdEl (qN ps i)) true), (18, .sl 1 ps.length (strEl ps) false), (19, .int .i64 ps.length), (20, .int .i64 i)]) (fun _ => []) (fun i => ps.length - i) (0) (by exact Nat.zero_le _) (by exact agree_cons rfl (by rfl) (agree_imp rfl (by exact Imp.slEq rfl (fun i hi => absurd hi (Nat.not_lt_zero _))) rfl rfl (agree_cons rfl (by rfl) (agree_cons rfl (by rfl) (agree_cons rfl (by rfl) (trivial)))))) (by rfl) (fun i hi ih => ?_)
  replace hi : i ≤ ps.length := hi; have hqn := qN_len ps i
  refine seq (reg [] [] rfl (by decide) ?_)
  refine seq ?_
  refine condS rfl (fun g21 => ?_) (fun g21 => ?_)
  · try simp only [zg] at g21
    refine skip (seq (block (seq (reg [] [] rfl (by and_intros <;> first | exact ⟨⟩ | omega) ?_))))
    refine seq (reg [] [0] rfl (by decide) ?_)
    refine condS rfl (fun g25 => ?_) (fun g25 => ?_)
    · try simp only [zg] at g25
      have hqs : qN ps (i + 1) = qN ps i ++ [((cutF (ps.getD i []) 61).1, (cutF (ps.getD i []) 61).2.1)] := if_neg g25
      refine seq (reg [(1, { res := .tup [.str (cutF (ps.getD i []) 61).1, .str (cutF (ps.getD i []) 61).2.1, .bool (cutF (ps.getD i []) 61).2.2] })] [0] rfl (by and_intros <;> first | exact ⟨⟩ | exact cut_ok _ 61 (by have h := split_part q 38 i; rw [← hps] at h; exact Nat.le_trans h (by omega))) ?_)
      refine reg [] [] rfl (by and_intros <;> first | exact ⟨⟩ | omega) ?_
      refine inBlock (reg [] [] rfl (by decide) ?_)
      exact ih (i + 1) _ _ (by omega) (by omega) (by exact agree_cons rfl (by rfl) (agree_imp rfl (by (rw [hqs]; exact hd_app rfl)) rfl rfl (agree_cons rfl (by first | rfl | (refine congrArg (AV.int _) ?_; simp only [wrap_i64', tdivN, tmodN]; omega) | skip) (agree_cons rfl (by first | rfl | (refine congrArg (AV.int _) ?_; simp only [wrap_i64', tdivN, tmodN]; omega) | skip) (agree_cons rfl (by first | rfl | (refine congrArg (AV.int _) ?_; simp only [wrap_i64', tdivN, tmodN]; omega) | skip) (trivial)))))) (by rfl)
    · try simp only [zg] at g25
      have hqs : qN ps (i + 1) = qN ps i := if_pos g25
      refine skip (inBlock (reg [] [] rfl (by decide) ?_))
      exact ih (i + 1) _ _ (by omega) (by omega) (by exact agree_cons rfl (by rfl) (agree_imp rfl (by (rw [hqs]; exact Imp.refl _)) rfl rfl (agree_cons rfl (by first | rfl | (refine congrArg (AV.int _) ?_; simp only [wrap_i64', tdivN, tmodN]; omega) | skip) (agree_cons rfl (by first | rfl | (refine congrArg (AV.int _) ?_; simp only [wrap_i64', tdivN, tmodN]; omega) | skip) (agree_cons rfl (by first | rfl | (refine congrArg (AV.int _) ?_; simp only [wrap_i64', tdivN, tmodN]; omega) | skip) (trivial)))))) (by rfl)
  · try simp only [zg] at g21
    refine exit rfl (seq (regD [] [1, 2, 4] rfl rfl rfl (by and_intros <;> first | exact ⟨⟩ | omega) ?_))
    exact frame [(2, .str (queryP t)), (3, .sl 2 (queryQ t).length (hdEl (queryQ t)) false)] (by exact agree_cons rfl (by rfl) (agree_imp rfl (by rw [queryQ, ← hq, ← hps, show ps.length = i by omega]; exact imp_cut) rfl rfl trivial)) (retH Tryz.func35 rfl rfl rfl rfl)

theorem all_ok (l : List Hd) (name : List UInt8) (hl : l.length ≤ 16777216) : FnOK Tryz.prog 37 [.sl 2 l.length (hdEl l) false, .str name] [] (.sl 1 (allL l name).length (strEl (allL l name)) false) [] := by
  refine FnOK.of_runs Tryz.func37 rfl (Nat.le_of_ble_eq_true rfl) ?_
  refine seq (reg [] [] rfl (by decide) ?_)
  refine seq (reg [] [] rfl (by decide) ?_)
  refine seq (seq (reg [] [0] rfl (by decide) ?_))
  refine block ?_
  -- loop 0
  refine loopF (σ := Nat) (fun i => i ≤ l.length) (fun i => [(1, .str name), (5, .sl 1 (aN l name i).length (strEl (aN l name i)) true), (8, .sl 2 l.length (hdEl l) false), (9, .int .i64 l.length), (10, .int .i64 i)]) (fun _ => []) (fun i => l.length - i) (0) (by exact Nat.zero_le _) (by exact agree_cons rfl (by rfl) (agree_imp rfl (by exact Imp.slEq rfl (fun i hi => absurd hi (Nat.not_lt_zero _))) rfl rfl (agree_cons rfl (by rfl) (agree_cons rfl (by rfl) (agree_cons rfl (by rfl) (trivial)))))) (by rfl) (fun i hi ih => ?_)
  replace hi : i ≤ l.length := hi; have han := aN_len l name i
  refine seq (reg [] [] rfl (by decide) ?_)
  refine seq ?_
  refine condS rfl (fun g11 => ?_) (fun g11 => ?_)
  · try simp only [zg] at g11
    refine skip (seq (block (seq (reg [] [] rfl (by and_intros <;> first | exact ⟨⟩ | omega | exact zl rfl) ?_))))
    refine seq (reg [] [2] rfl (by decide) ?_)
    refine condS rfl (fun g17 => ?_) (fun g17 => ?_)
    · try simp only [zg] at g17
      have has : aN l name (i + 1) = aN l name i ++ [(l.getD i ([], [])).2] := if_pos g17
      refine reg [] [] rfl (by and_intros <;> first | exact ⟨⟩ | omega) ?_
      refine inBlock (reg [] [] rfl (by decide) ?_)
      refine drop 0 (Nat.le_of_ble_eq_true rfl) rfl ?_
      exact ih (i + 1) _ _ (by omega) (by omega) (by exact agree_cons rfl (by rfl) (agree_imp rfl (by (rw [has]; exact st_app rfl _ rfl)) rfl rfl (agree_cons rfl (by first | rfl | (refine congrArg (AV.int _) ?_; simp only [wrap_i64', tdivN, tmodN]; omega) | skip) (agree_cons rfl (by first | rfl | (refine congrArg (AV.int _) ?_; simp only [wrap_i64', tdivN, tmodN]; omega) | skip) (agree_cons rfl (by first | rfl | (refine congrArg (AV.int _) ?_; simp only [wrap_i64', tdivN, tmodN]; omega) | skip) (trivial)))))) (by rfl)
    · try simp only [zg] at g17
      have has : aN l name (i + 1) = aN l name i := if_neg g17
      refine skip (inBlock (reg [] [] rfl (by decide) ?_))
      refine drop 0 (Nat.le_of_ble_eq_true rfl) rfl ?_
      exact ih (i + 1) _ _ (by omega) (by omega) (by exact agree_cons rfl (by rfl) (agree_imp rfl (by (rw [has]; exact Imp.refl _)) rfl rfl (agree_cons rfl (by first | rfl | (refine congrArg (AV.int _) ?_; simp only [wrap_i64', tdivN, tmodN]; omega) | skip) (agree_cons rfl (by first | rfl | (refine congrArg (AV.int _) ?_; simp only [wrap_i64', tdivN, tmodN]; omega) | skip) (agree_cons rfl (by first | rfl | (refine congrArg (AV.int _) ?_; simp only [wrap_i64', tdivN, tmodN]; omega) | skip) (trivial)))))) (by rfl)
  · try simp only [zg] at g11
    refine exit rfl (seq (reg [] [0, 1, 3] rfl (by and_intros <;> first | exact ⟨⟩ | omega) ?_))
    exact frame [(4, .sl 1 (allL l name).length (strEl (allL l name)) false)] (by exact agree_imp rfl (by rw [allL, show l.length = i by omega]; exact imp_cut) rfl rfl trivial) (retH Tryz.func37 rfl rfl rfl rfl)


def awSec : List UInt8 := [119, 74, 97, 108, 114, 88, 85, 116, 110, 70, 69, 77, 73, 47, 75, 55, 77, 68, 69, 78, 71, 43, 98, 80, 120, 82, 102, 105, 67, 89, 69, 88, 65, 77, 80, 76, 69, 75, 69, 89]
def awDay : List UInt8 := [50, 48, 49, 50, 48, 50, 49, 53]
def awReg : List UInt8 := [117, 115, 45, 101, 97, 115, 116, 45, 49]
def awIam : List UInt8 := [105, 97, 109]
def awHex : List UInt8 := [102, 52, 55, 56, 48, 101, 50, 100, 57, 102, 54, 53, 102, 97, 56, 57, 53, 102, 57, 99, 54, 55, 98, 51, 50, 99, 101, 49, 98, 97, 102, 48, 98, 48, 100, 56, 97, 52, 51, 53, 48, 53, 97, 48, 48, 48, 97, 49, 97, 57, 101, 48, 57, 48, 100, 52, 49, 52, 100, 98, 52, 48, 52, 100]
theorem aw_key : hexL (skS awSec awDay awReg awIam) = awHex := by kernel_rfl
theorem sk_len (s d r v : List UInt8) : (skS s d r v).length = 32 := hmacS_len _ _
theorem qry_slash : queryP [47] = [47] ∧ queryQ [47] = [] := ⟨by kernel_rfl, by kernel_rfl⟩
theorem imp_nil {sz : Nat} {el el' : Nat → AV} {o : Bool} : Imp (.sl sz 0 el o) (.sl sz 0 el' false) := imp_off rfl fun i h => absurd h (Nat.not_lt_zero _)

theorem claimed_aw (e1 : Nat → AV) (o1 o2 : Bool) : FnOK Tryz.prog 47 [.agg [.str [71, 69, 84], .str [47], .sl 2 0 e1 o1, .bs [] o2]] [] (.tup [.nilp, .int .i64 300]) [] := by
  refine FnOK.of_runs Tryz.func47 rfl (Nat.le_of_ble_eq_true rfl) ?_
  refine seq (reg [] [] rfl (by decide) ?_)
  refine seq (reg [(2, { res := .tup [.str [47], .sl 2 0 (hdEl []) false] })] [] rfl (by and_intros <;> first | exact ⟨⟩ | (have h := query_ok [47] (by decide); rw [qry_slash.1, qry_slash.2] at h; exact h)) ?_)
  refine seq (reg [(2, { res := .sl 1 0 (strEl []) false })] [] rfl (by and_intros <;> first | exact ⟨⟩ | exact FnOK.arg (all_ok [] _ (by decide)) ⟨⟨imp_nil, rfl, rfl⟩, ⟨Imp.refl _, rfl, rfl⟩, trivial⟩) ?_)
  refine seq (reg [(1, { res := .sl 1 0 (strEl []) false }), (3, { res := .bool false })] [0] rfl (by and_intros <;> first | exact ⟨⟩ | exact all_ok [] _ (by decide) | rfl) ?_)
  refine seq (reg [] [] rfl (by decide) ?_)
  refine seq (block (seq (region (rest [(2, { res := .bool true }), (5, { res := .bool true })] [0, 4] rfl (by and_intros <;> first | exact ⟨⟩ | rfl) ?_))))
  refine condT rfl (seq (reg [] [] rfl (by decide) ?_))
  refine drop 0 (Nat.le_refl _) rfl ?_
  exact retH Tryz.func47 rfl rfl rfl rfl

theorem verify_aw (e1 e2 : Nat → AV) (o1 o2 o3 : Bool) : FnOK Tryz.prog 15 [.agg [.str [71, 69, 84], .str [47], .sl 2 0 e1 o1, .bs [] o2], .sl 2 0 e2 o3, .int .i64 0] [] (.tup [.agg [.str [], .str [], .str [], .str [], .bs [] false, .str []], .int .i64 300]) [] := by
  refine FnOK.of_runs Tryz.func15 rfl (Nat.le_of_ble_eq_true rfl) ?_
  refine seq (reg [] [] rfl (by decide) ?_)
  refine seq (reg [(1, { res := .tup [.nilp, .int .i64 300] })] [] rfl (by and_intros <;> first | exact ⟨⟩ | exact claimed_aw _ _ _) ?_)
  refine seq (seq (reg [(1, { res := .bool true })] [0] rfl (by and_intros <;> first | exact ⟨⟩ | rfl) ?_))
  refine condT rfl (seq (reg [] [1] rfl (by and_intros <;> first | exact ⟨⟩ | exact zl rfl) ?_))
  exact retD Tryz.func15 rfl rfl rfl rfl rfl rfl

theorem awake18_ok : FnOK Tryz.prog 11 [] [] (.bool true) [] := by
  refine FnOK.of_runs Tryz.func11 rfl (Nat.le_of_ble_eq_true rfl) ?_
  refine seq (reg [] [] rfl (by decide) ?_)
  refine seq (reg [(0, { res := .bs (skS awSec awDay awReg awIam) false })] [] rfl (by and_intros <;> first | exact ⟨⟩ | exact skey_ok _ _ _ _ (by decide) (by decide) (by decide) (by decide)) ?_)
  refine seq (reg [(1, { res := .tup [.agg [.str [], .str [], .str [], .str [], .bs [] false, .str []], .int .i64 300] })] [] rfl (by and_intros <;> first | exact ⟨⟩ | exact verify_aw _ _ _ _ _ | exact zl rfl) ?_)
  refine seq (region (rest [(1, { res := .str awHex }), (2, { res := .bool true }), (5, { res := .bool true })] [0, 4] rfl (by and_intros <;> first | exact ⟨⟩ | (rw [← aw_key]; exact rhex_ok _ false (by rw [sk_len]; decide)) | rfl) ?_))
  refine drop 0 (Nat.le_refl _) rfl ?_
  exact retH Tryz.func11 rfl rfl rfl rfl

end Go.Proofs.YtdigohaeakclfaaGreatDoor
namespace Go.Proofs
open Go Go.RowKit Go.Shelf
def Tryz.laysB_ren : Go.Shelf.Ren := ⟨fun | 166 => 70 | 167 => 83 | 240 => 110 | 276 => 146 | n => n, fun | 0 => 0 | 3 => 3 | 4 => 4 | 5 => 5 | 9 => 9 | 20 => 20 | 37 => 23 | 70 => 105 | 72 => 107 | 75 => 110 | 80 => 113 | 164 => 171 | n => n, fun | n => n⟩
theorem Tryz.lays167 : Go.Proofs.Lays.n167 Tryz.prog Tryz.laysB_ren := {
  mixed := by kernel_rfl
  f167 := Tryz.func83.trans (congrArg some (by kernel_rfl))
  f240 := Tryz.func110.trans (congrArg some (by kernel_rfl))
  f276 := Tryz.func146.trans (congrArg some (by kernel_rfl))
  t0 := Tryz.underlying0
  a0 := Tryz.isAgg0
  z0 := Tryz.sizeOf0
  v0 := Tryz.zeroValue0
  t4 := Tryz.underlying4
  a4 := Tryz.isAgg4
  z4 := Tryz.sizeOf4
  v4 := Tryz.zeroValue4
  t5 := Tryz.underlying5
  a5 := Tryz.isAgg5
  z5 := Tryz.sizeOf5
  v5 := Tryz.zeroValue5
  t9 := Tryz.underlying9
  a9 := Tryz.isAgg9
  z9 := Tryz.sizeOf9
  v9 := Tryz.zeroValue9
  t20 := Tryz.underlying20
  a20 := Tryz.isAgg20
  z20 := Tryz.sizeOf20
  v20 := Tryz.zeroValue20
  t37 := Tryz.underlying23
  a37 := Tryz.isAgg23
  z37 := Tryz.sizeOf23
  v37 := Tryz.zeroValue23
  t70 := Tryz.underlying105
  a70 := Tryz.isAgg105
  z70 := Tryz.sizeOf105
  v70 := Tryz.zeroValue105
  t72 := Tryz.underlying107
  a72 := Tryz.isAgg107
  z72 := Tryz.sizeOf107
  v72 := Tryz.zeroValue107
  t75 := Tryz.underlying110
  a75 := Tryz.isAgg110
  z75 := Tryz.sizeOf110
  v75 := Tryz.zeroValue110
  t164 := Tryz.underlying171
  a164 := Tryz.isAgg171
  z164 := Tryz.sizeOf171
  v164 := Tryz.zeroValue171 }
theorem Tryz.lays166 : Go.Proofs.Lays.n166 Tryz.prog Tryz.laysB_ren := {
  mixed := by kernel_rfl
  f166 := Tryz.func70.trans (congrArg some (by kernel_rfl))
  f240 := Tryz.func110.trans (congrArg some (by kernel_rfl))
  f276 := Tryz.func146.trans (congrArg some (by kernel_rfl))
  t0 := Tryz.underlying0
  a0 := Tryz.isAgg0
  z0 := Tryz.sizeOf0
  v0 := Tryz.zeroValue0
  t3 := Tryz.underlying3
  a3 := Tryz.isAgg3
  z3 := Tryz.sizeOf3
  v3 := Tryz.zeroValue3
  t4 := Tryz.underlying4
  a4 := Tryz.isAgg4
  z4 := Tryz.sizeOf4
  v4 := Tryz.zeroValue4
  t9 := Tryz.underlying9
  a9 := Tryz.isAgg9
  z9 := Tryz.sizeOf9
  v9 := Tryz.zeroValue9
  t20 := Tryz.underlying20
  a20 := Tryz.isAgg20
  z20 := Tryz.sizeOf20
  v20 := Tryz.zeroValue20
  t37 := Tryz.underlying23
  a37 := Tryz.isAgg23
  z37 := Tryz.sizeOf23
  v37 := Tryz.zeroValue23
  t70 := Tryz.underlying105
  a70 := Tryz.isAgg105
  z70 := Tryz.sizeOf105
  v70 := Tryz.zeroValue105
  t72 := Tryz.underlying107
  a72 := Tryz.isAgg107
  z72 := Tryz.sizeOf107
  v72 := Tryz.zeroValue107
  t75 := Tryz.underlying110
  a75 := Tryz.isAgg110
  z75 := Tryz.sizeOf110
  v75 := Tryz.zeroValue110
  t164 := Tryz.underlying171
  a164 := Tryz.isAgg171
  z164 := Tryz.sizeOf171
  v164 := Tryz.zeroValue171 }
theorem Tryz.Builder_Extra_B : Builder.Extra Tryz.prog Tryz.laysB_ren := {
  sizeBuilder := by kernel_rfl
  liesBuilder := by kernel_rfl
  t5 := Tryz.underlying5
  a5 := Tryz.isAgg5
  z5 := Tryz.sizeOf5
  v5 := Tryz.zeroValue5
  infoByte := by kernel_rfl
  cellsByte := by kernel_rfl
  sizeByte := by kernel_rfl
  neB5 := by decide }
end Go.Proofs
set_option maxRecDepth 100000
set_option linter.unusedVariables false
set_option linter.unusedSimpArgs false
set_option linter.unusedSectionVars false
namespace Go.Proofs.YtdigohaeakclfaaGreatDoor
open Go Go.Am Go.RowKit
/-- cells in a row -/
def SlAt (w : World) (v : Value) (xs : List Value) : Prop := ∃ (base : Option (Nat × Nat)) (cap : Nat), v = .slice (base.map fun p => mkA p.1 p.2) xs.length cap ∧ xs.length ≤ cap ∧ (base = none → cap = 0) ∧
  ∀ b o, base = some (b, o) → ∀ (q : Nat) (u : Value), xs[q]? = some u → w.cell? (mkA b (o + q)) = some u
/-- and in new memory -/
def FrAt (N : Nat) (w : World) (v : Value) (xs : List Value) : Prop := ∃ (base : Option (Nat × Nat)) (cap : Nat), v = .slice (base.map fun p => mkA p.1 p.2) xs.length cap ∧ xs.length ≤ cap ∧ (base = none → cap = 0) ∧
  ∀ b o, base = some (b, o) → ∀ (q : Nat) (u : Value), xs[q]? = some u → w.cell? (mkA b (o + q)) = some u ∧ N ≤ b ∧ w.frozen? (mkA b (o + q)) = false
theorem FrAt.at_ {N w v xs} (h : FrAt N w v xs) : SlAt w v xs := by
  obtain ⟨base, cap, h1, h2, h3, h4⟩ := h
  exact ⟨base, cap, h1, h2, h3, fun b o e q u hu => (h4 b o e q u hu).1⟩
theorem SlAt.below {N w w' v xs} (h : SlAt w v xs) (hN : w.heap.size ≤ N) (hb : Below N w w') : SlAt w' v xs := by
  obtain ⟨base, cap, h1, h2, h3, h4⟩ := h
  refine ⟨base, cap, h1, h2, h3, fun b o e q u hu => ?_⟩
  have := h4 b o e q u hu
  exact (hb.cell (p := mkA b (o + q)) (Nat.lt_of_lt_of_le (World.block_lt_of_cell? _ _ this) hN)).trans this
def bV (l : List UInt8) : List Value := l.map fun c => .int .u8 c.toNat
def sV (l : List (List UInt8)) : List Value := l.map fun s => .string ⟨s.toArray⟩
open Classical in
/-- whose is what, when the call begins: S is lent, all else is nobody's to touch -/
noncomputable def Gx (w : World) (S : Nat → Nat → Prop) : Gh := fun b o => if b < w.heap.size then (if S b o then .frz else .ctx) else .free
theorem Gx_wi {w : World} {S : Nat → Nat → Prop} (hS : ∀ b o v, S b o → w.cell? (mkA b o) = some v → v.oneCell' = true) : WI (Gx w S) w := by
  refine ⟨fun b o h => ?_, fun b o h => ?_, fun b o v h hc => ?_, fun b cs e => by cases e⟩
  · unfold Gx at h; split at h
    · split at h <;> simp [Own.mine] at h
    · simp [Own.mine] at h
  · unfold Gx; rw [if_neg (by omega)]
  · unfold Gx at h
    split at h
    · split at h
      · rename_i hs; exact hS b o v hs hc
      · simp [Own.mine] at h
    · simp [Own.mine] at h
theorem Gx_S {w : World} {S : Nat → Nat → Prop} {b o : Nat} (hb : b < w.heap.size) (h : S b o) : Gx w S b o = .frz := by unfold Gx; rw [if_pos hb, if_pos h]
theorem fn_kit {P : Program} {f : FuncId} {args : List AV} {res : AV} (h : FnOK P f args [] res []) (w : World) (S : Nat → Nat → Prop) (hS : ∀ b o v, S b o → w.cell? (mkA b o) = some v → v.oneCell' = true) (vs : List Value) (hl : vs.length = args.length)
    (ha : ∀ (i : Nat) (c : AV) (v : Value), args[i]? = some c → vs[i]? = some v → VR (Gx w S) w [] c v ∧ nr c = true) :
    Calls P f vs.toArray w fun e w' => ∃ v G', e = .returned v ∧ VR G' w' [] res v ∧ Below w.heap.size w w' ∧ (∀ b o, G' b o = .frz → b < w.heap.size → S b o) ∧ (∀ b o, G' b o = .frz → w.heap.size ≤ b → w'.frozen? (mkA b o) = false) := by
  refine (h w (Gx w S) [] vs hl (fun i c v h1 h2 => ⟨(ha i c v h1 h2).1, SpV_nr (ha i c v h1 h2).2⟩) ⟨rfl, fun id b blk j c h1 => by simp at h1⟩ (Gx_wi hS)).mono ?_
  rintro e w' ⟨v, G', ρ', rfl, ht, hwi, hρ, hbr, hv, _⟩
  have : ρ' = [] := List.eq_nil_of_length_eq_zero (by rw [← hbr.len]; rfl)
  subst this
  refine ⟨v, G', rfl, hv, ⟨ht.os, ht.tape, ht.output, ht.size, fun k hk => ht.blk k hk fun o => ?_⟩, fun b o e hb => ?_, fun b o e hb => ?_⟩
  · unfold Gx; rw [if_pos hk]; split
    · exact .inl rfl
    · exact .inr rfl
  · apply Classical.byContradiction
    intro hs
    have : Gx w S b o = .ctx := by unfold Gx; rw [if_pos hb, if_neg hs]
    rw [ht.ctx b o this] at e; cases e
  · refine ht.fz b o ?_ e
    unfold Gx; rw [if_neg (by omega)]; simp
theorem bs_arg {w : World} {S : Nat → Nat → Prop} {v : Value} {l : List UInt8} (h : SlAt w v (bV l)) (hS : ∀ base cap, v = .slice (base.map fun p => mkA p.1 p.2) l.length cap → ∀ b o, base = some (b, o) → ∀ q, q < l.length → S b (o + q)) : VR (Gx w S) w [] (.bs l false) v := by
  obtain ⟨base, cap, h1, h2, h3, h4⟩ := h
  have hl : (bV l).length = l.length := by simp [bV]
  rw [hl] at h1 h2
  subst h1
  refine .bs _ _ _ _ (.sl _ _ _ _ _ base cap (fun q => (bV l).getD q undef) h2 h3 (fun i hi => rfl) (fun b o e q hq => ?_) (fun i j c hi hj => ?_))
  · have hq' : q < (bV l).length := by omega
    have := h4 b o e q _ (List.getElem?_eq_getElem hq')
    refine ⟨Gx_S (World.block_lt_of_cell? _ _ this) (hS base cap rfl b o e q (by omega)), ?_⟩
    rw [this, List.getD_eq_getElem?_getD, List.getElem?_eq_getElem hq']; rfl
  · have hj' : j = 0 := by have := (List.getElem?_eq_some_iff.1 hj).1; simp [byteEl, AV.cells] at this; omega
    subst hj'
    simp [byteEl, AV.cells] at hj
    subst hj
    have : (bV l).getD (i * 1 + 0) undef = .int .u8 ((l[i]?.getD 0).toNat) := by simp [bV, List.getD_eq_getElem?_getD, List.getElem?_eq_getElem hi]
    rw [this]
    exact .int _ _ _
theorem sl_arg {w : World} {S : Nat → Nat → Prop} {v : Value} {l : List (List UInt8)} (h : SlAt w v (sV l)) (hS : ∀ base cap, v = .slice (base.map fun p => mkA p.1 p.2) l.length cap → ∀ b o, base = some (b, o) → ∀ q, q < l.length → S b (o + q)) : VR (Gx w S) w [] (.sl 1 l.length (strEl l) false) v := by
  obtain ⟨base, cap, h1, h2, h3, h4⟩ := h
  have hl : (sV l).length = l.length := by simp [sV]
  rw [hl] at h1 h2
  subst h1
  refine .sl _ _ _ _ _ base cap (fun q => (sV l).getD q undef) h2 h3 (fun i hi => rfl) (fun b o e q hq => ?_) (fun i j c hi hj => ?_)
  · have hq' : q < (sV l).length := by omega
    have := h4 b o e q _ (List.getElem?_eq_getElem hq')
    refine ⟨Gx_S (World.block_lt_of_cell? _ _ this) (hS base cap rfl b o e q (by omega)), ?_⟩
    rw [this, List.getD_eq_getElem?_getD, List.getElem?_eq_getElem hq']; rfl
  · have hj' : j = 0 := by have := (List.getElem?_eq_some_iff.1 hj).1; simp [AV.cells] at this; omega
    subst hj'
    cases hj
    have : (sV l).getD (i * 1 + 0) undef = .string ⟨(l.getD i []).toArray⟩ := by simp [sV, List.getD_eq_getElem?_getD, List.getElem?_eq_getElem hi]
    rw [this]
    exact .str _ _
/-- the cells of a slice -/
def cellsOf (v : Value) (n : Nat) : Nat → Nat → Prop := fun b o => ∃ base cap b' o' q, v = .slice (base.map fun p => mkA p.1 p.2) n cap ∧ base = some (b', o') ∧ q < n ∧ b = b' ∧ o = o' + q
theorem SlAt.cells {w : World} {v : Value} {xs : List Value} (h : SlAt w v xs) {b o : Nat} {u : Value} (hc : cellsOf v xs.length b o) (hu : w.cell? (mkA b o) = some u) : u ∈ xs := by
  obtain ⟨base, cap, h1, h2, h3, h4⟩ := h
  obtain ⟨base', cap', b', o', q, e1, e2, e3, rfl, rfl⟩ := hc
  subst e2
  rw [h1] at e1
  cases base with
  | none => simp at e1
  | some p =>
    obtain ⟨pb, po⟩ := p
    simp only [Option.map_some, Value.slice.injEq, Option.some.injEq, mkA, Addr.mk.injEq] at e1
    obtain ⟨⟨rfl, rfl, _⟩, _⟩ := e1
    have := h4 pb po rfl q _ (List.getElem?_eq_getElem e3)
    rw [hu] at this
    rw [Option.some.inj this]
    exact List.getElem_mem e3
theorem bV_one {l : List UInt8} : ∀ u, u ∈ bV l → u.oneCell' = true := fun u hu => by obtain ⟨x, _, rfl⟩ := List.mem_map.1 hu; rfl
theorem sV_one {l : List (List UInt8)} : ∀ u, u ∈ sV l → u.oneCell' = true := fun u hu => by obtain ⟨x, _, rfl⟩ := List.mem_map.1 hu; rfl
theorem bV_len (l : List UInt8) : (bV l).length = l.length := by simp [bV]
theorem sV_len (l : List (List UInt8)) : (sV l).length = l.length := by simp [sV]
theorem cellSet {w : World} {b o : Nat} {u : Value} (x : Value) (h : w.cell? (mkA b o) = some u) (b' o' : Nat) :
    (w.setCell (mkA b o) x).cell? (mkA b' o') = if b' = b ∧ o' = o then some x else w.cell? (mkA b' o') := by
  unfold World.setCell World.cell? mkA at *
  by_cases hb : b' = b
  · subst hb
    simp only [Array.getElem?_modify, if_true] at *
    cases hc : w.heap[b']? with
    | none => rw [hc] at h; cases h
    | some ob =>
      rw [hc] at h
      simp only [Option.map_some]
      cases ob with
      | cells vs t rg =>
        simp only [true_and, Option.isSome_none, Bool.false_eq_true, if_false] at *
        rw [Array.getElem?_setIfInBounds]
        by_cases ho : o = o'
        · subst ho
          have : o < vs.size := (Array.getElem?_eq_some_iff.1 h).1
          simp [this]
        · rw [if_neg ho, if_neg (fun h => ho h.symm)]
      | _ => cases h
  · simp only [hb, false_and, if_false]
    rw [Array.getElem?_modify, if_neg (fun h => hb h.symm)]
theorem frzSet {w : World} {b o : Nat} (x : Value) (b' o' : Nat) : (w.setCell (mkA b o) x).frozen? (mkA b' o') = w.frozen? (mkA b' o') := by
  unfold World.setCell World.frozen? mkA
  simp only [Array.getElem?_modify]
  by_cases hb : b = b'
  · subst hb
    cases hc : w.heap[b]? with
    | none => simp
    | some ob => cases ob <;> simp
  · simp [hb]
/-- a cell of it is written -/
theorem FrAt.set {N : Nat} {w : World} {b o n cap : Nat} {xs : List Value} (h : FrAt N w (.slice (some (mkA b o)) n cap) xs) {j : Nat} (hj : j < xs.length) (x : Value) :
    FrAt N (w.setCell (mkA b (o + j)) x) (.slice (some (mkA b o)) n cap) (xs.set j x) ∧ N ≤ b := by
  obtain ⟨base, cap', h1, h2, h3, h4⟩ := h
  cases base with
  | none => simp at h1
  | some p =>
    obtain ⟨b', o'⟩ := p
    simp only [Option.map_some, Value.slice.injEq, Option.some.injEq, mkA, Addr.mk.injEq] at h1
    obtain ⟨⟨rfl, rfl, _⟩, rfl, rfl⟩ := h1
    have hcj := h4 b o rfl j _ (List.getElem?_eq_getElem hj)
    refine ⟨⟨some (b, o), cap, by simp [mkA], by simpa using h2, by simp, fun b' o' e q u hu => ?_⟩, hcj.2.1⟩
    cases e
    rw [cellSet x hcj.1, frzSet]
    rw [List.getElem?_set] at hu
    by_cases hq : j = q
    · subst hq
      simp only [if_true] at hu
      rw [if_pos hj] at hu; cases hu
      rw [if_pos ⟨rfl, rfl⟩]
      exact ⟨rfl, hcj.2⟩
    · rw [if_neg hq] at hu
      rw [if_neg (by omega)]
      exact h4 b o rfl q u hu
theorem FrAt.len {N : Nat} {w : World} {v : Value} {xs : List Value} (h : FrAt N w v xs) : ∃ b c, v = .slice b xs.length c := by
  obtain ⟨base, cap', h1, _⟩ := h
  exact ⟨_, _, h1⟩
theorem FrAt.below {N M : Nat} {w w' : World} {v : Value} {xs : List Value} (h : FrAt N w v xs) (hM : w.heap.size ≤ M) (hb : Below M w w') : FrAt N w' v xs := by
  obtain ⟨base, cap, h1, h2, h3, h4⟩ := h
  refine ⟨base, cap, h1, h2, h3, fun b o e q u hu => ?_⟩
  obtain ⟨c1, c2, c3⟩ := h4 b o e q u hu
  have hlt := Nat.lt_of_lt_of_le (World.block_lt_of_cell? _ _ c1) hM
  refine ⟨(hb.cell (p := mkA b (o + q)) hlt).trans c1, c2, ?_⟩
  rw [World.frozen?_of_block (hb.block _ hlt)]; exact c3
end Go.Proofs.YtdigohaeakclfaaGreatDoor
