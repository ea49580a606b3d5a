/- The law SigSigns returns true and leaves its input as it was, for every input of bulk at most 1048576. The condition: the bulk of what is handed in is at most 1048576. -/
import Derived.Test.YtnohmijdpmelpaaGreatRef
import Derived.Test.YtnohmijdpmelpaaGreatRows
set_option maxRecDepth 100000
set_option linter.unusedVariables false
set_option linter.unusedSimpArgs false
namespace Go.Proofs.YtnohmijdpmelpaaGreat
open Go.Am
theorem one_le {H : Type} (d : DataW H) : 1 ≤ Rows.uptoBulk d := by
  cases d with
  | lit l => cases l <;> simp [Rows.uptoBulk]
  | _ => simp [Rows.uptoBulk]
theorem length_le {H : Type} (l : List (DataW H)) : l.length ≤ Rows.uptoBulkAll l := by
  induction l with
  | nil => simp [Rows.uptoBulkAll]
  | cons x r ih => have := one_le x; simp only [Rows.uptoBulkAll, List.length_cons]; omega

theorem idx1_ok (s : List UInt8) (c : UInt8) : FnOK Tryz.prog 128 [.str s, .str [c]] [] (.int .i64 (Lib.indexByte s c)) [] := by
  refine FnOK.of_below rfl fun w G vs hl ha hw => ?_
  obtain ⟨v0, v1, rfl⟩ : ∃ v0 v1, vs = [v0, v1] := by
    match vs, hl with
    | [v0, v1], _ => exact ⟨v0, v1, rfl⟩
  have h0 := (ha 0 _ v0 rfl rfl).str_inv
  have h1 := (ha 1 _ v1 rfl rfl).str_inv
  subst h0; subst h1
  refine (Tryz.stringslite_Index_one ⟨s.toArray⟩ c w).mono ?_
  rintro e w' ⟨rfl, rfl⟩
  exact ⟨_, rfl, fun G w => .int .., RowKit.Below.refl _ _⟩
def cutF (s : List UInt8) (c : UInt8) : List UInt8 × List UInt8 × Bool :=
  if 0 ≤ Lib.indexByte s c then (s.take (Lib.indexByte s c).toNat, s.drop ((Lib.indexByte s c).toNat + 1), true) else (s, [], false)
theorem cut_some {s : List UInt8} {c : UInt8} {i : Nat} (h : Lib.indexByte s c = i) : cutF s c = (s.take i, s.drop (i + 1), true) ∧ i < s.length := by
  constructor
  · unfold cutF; rw [h, if_pos (by omega)]; rfl
  · have := (Lib.indexByte_some h).1
    exact (List.getElem?_eq_some_iff.1 this).1
theorem cut_none {s : List UInt8} {c : UInt8} (h : ¬ 0 ≤ Lib.indexByte s c) : cutF s c = (s, [], false) := if_neg h
theorem cut_len (s : List UInt8) (c : UInt8) : (cutF s c).1.length ≤ s.length ∧ (cutF s c).2.1.length ≤ s.length := by
  unfold cutF; split
  · simp only [List.length_take, List.length_drop]; omega
  · simp
def spI (s : List UInt8) (c : UInt8) : Nat → List (List UInt8) × Nat
  | 0 => ([], 0)
  | i + 1 => if (s.getD i 0).toNat = c.toNat then ((spI s c i).1 ++ [(s.take i).drop (spI s c i).2], i + 1) else spI s c i
def splitL (s : List UInt8) (c : UInt8) : List (List UInt8) := (spI s c s.length).1 ++ [s.drop (spI s c s.length).2]
theorem spI_le (s : List UInt8) (c : UInt8) : ∀ i, (spI s c i).1.length ≤ i ∧ (spI s c i).2 ≤ i
  | 0 => by simp [spI]
  | i + 1 => by
    have := spI_le s c i
    unfold spI; split
    · simp only [List.length_append, List.length_cons, List.length_nil]; omega
    · omega
theorem splitL_len (s : List UInt8) (c : UInt8) : (splitL s c).length ≤ s.length + 1 := by
  have := spI_le s c s.length
  unfold splitL; simp only [List.length_append, List.length_cons, List.length_nil]; omega
theorem spI_mem (s : List UInt8) (c : UInt8) : ∀ i, ∀ x, x ∈ (spI s c i).1 → x.length ≤ s.length
  | 0, x, h => by simp [spI] at h
  | i + 1, x, h => by
    unfold spI at h
    split at h
    · simp only [List.mem_append, List.mem_singleton] at h
      rcases h with h | rfl
      · exact spI_mem s c i x h
      · simp only [List.length_drop, List.length_take]; omega
    · exact spI_mem s c i x h
theorem split_part (s : List UInt8) (c : UInt8) (i : Nat) : ((splitL s c).getD i []).length ≤ s.length := by
  rw [List.getD_eq_getElem?_getD]
  cases h : (splitL s c)[i]? with
  | none => simp
  | some x =>
    have := List.mem_of_getElem? h
    simp only [splitL, List.mem_append, List.mem_singleton] at this
    rcases this with h | rfl
    · exact spI_mem s c _ x h
    · simp
theorem imp_off {sz m m' : Nat} {el el' : Nat → AV} {o : Bool} (hm : m = m') (h : ∀ i, i < m → el' i = el i) : Imp (.sl sz m el o) (.sl sz m' el' false) := fun G w ρ v hv =>
  let k := Imp.slEq (o := o) hm h G w ρ v hv
  let u := Imp.un1 _ G w ρ v k.1
  ⟨u.1, fun T hs => u.2 T (k.2 T hs)⟩
theorem imp_cut {sz n : Nat} {el : Nat → AV} {o : Bool} : Imp (.sl sz ((n : Int).toNat - Int.toNat 0) (fun i => el (Int.toNat 0 + i)) o) (.sl sz n el false) :=
  imp_off (by rw [Int.toNat_natCast]; rfl) fun i _ => by rw [show Int.toNat 0 + i = i from Nat.zero_add i]
abbrev Hd := List UInt8 × List UInt8
abbrev hdEl (l : List Hd) : Nat → AV := fun i => .agg [.str (l.getD i ([], [])).1, .str (l.getD i ([], [])).2]
theorem hd_app {l : List Hd} {n : Nat} {a b : List UInt8} {o : Bool} (hn : n = l.length) : Imp (.sl 2 (n + 1) (apEl n (hdEl l) (elOf true 2 [.str a, .str b])) o) (.sl 2 (l ++ [(a, b)]).length (hdEl (l ++ [(a, b)])) o) := by
  refine Imp.slEq (by simp [hn]) fun i hi => ?_
  rcases Nat.lt_or_ge i n with h | h
  · rw [apEl_lt h]
    simp only [hdEl, List.getD_eq_getElem?_getD]
    rw [List.getElem?_append_left (by omega)]
  · have : i = n := by omega
    subst this
    rw [apEl_ge h]
    subst hn
    simp [hdEl, elOf, List.getD_eq_getElem?_getD]
theorem st_app {out : List (List UInt8)} {n : Nat} {x : List UInt8} {o : Bool} (hn : n = out.length) (out2 : List (List UInt8)) (h2 : out2 = out ++ [x]) : Imp (.sl 1 (n + 1) (apEl n (strEl out) (elOf false 1 [.str x])) o) (.sl 1 out2.length (strEl out2) o) := by
  subst hn; subst h2
  refine Imp.slEq (by simp) fun i hi => ?_
  rcases Nat.lt_or_ge i out.length with h | h
  · rw [apEl_lt h]
    simp [List.getD_eq_getElem?_getD, List.getElem?_append_left h]
  · have : i = out.length := by omega
    subst this
    rw [apEl_ge h]
    simp [elOf, List.getD_eq_getElem?_getD]
def qN (ps : List (List UInt8)) : Nat → List Hd
  | 0 => []
  | i + 1 => if ps.getD i [] = [] then qN ps i else qN ps i ++ [((cutF (ps.getD i []) 61).1, (cutF (ps.getD i []) 61).2.1)]
theorem qN_len (ps : List (List UInt8)) : ∀ i, (qN ps i).length ≤ i
  | 0 => by simp [qN]
  | i + 1 => by
    have := qN_len ps i
    unfold qN; split
    · omega
    · simp only [List.length_append, List.length_cons, List.length_nil]; omega
def queryP (t : List UInt8) : List UInt8 := (cutF t 63).1
def queryQ (t : List UInt8) : List Hd := qN (splitL (cutF t 63).2.1 38) (splitL (cutF t 63).2.1 38).length
def aN (l : List Hd) (name : List UInt8) : Nat → List (List UInt8)
  | 0 => []
  | i + 1 => if (l.getD i ([], [])).1 = name then aN l name i ++ [(l.getD i ([], [])).2] else aN l name i
theorem aN_len (l : List Hd) (name : List UInt8) : ∀ i, (aN l name i).length ≤ i
  | 0 => by simp [aN]
  | i + 1 => by
    have := aN_len l name i
    unfold aN; split
    · simp only [List.length_append, List.length_cons, List.length_nil]; omega
    · omega
def allL (l : List Hd) (name : List UInt8) : List (List UInt8) := aN l name l.length

theorem slcut_ok (s : List UInt8) (c : UInt8) (hs : s.length ≤ 16777216) : FnOK Tryz.prog 93 [.str s, .str [c]] [] (.tup [.str (cutF s c).1, .str (cutF s c).2.1, .bool (cutF s c).2.2]) [] := by
  refine FnOK.of_runs Tryz.func93 rfl (Nat.le_of_ble_eq_true rfl) ?_
  refine Runs.seq ?_
  refine Runs.reg [] [] rfl (by (try simp only [wrap_i64', wrap_u8, wrap_u16, wrap_u32, wrap_u64, wrap_i32, List.length_cons, List.length_nil, List.length_append, List.length_map, tmodN, tdivN]); and_intros <;> first | exact True.intro | omega | skip) ?_
  refine Runs.seq ?_
  refine Runs.seq ?_
  refine Runs.reg [(2, { res := .int .i64 (Lib.indexByte s c) })] [0, 1] rfl (by and_intros <;> first | exact True.intro | exact idx1_ok s c) ?_
  refine Runs.seq ?_
  refine Runs.reg [] [0] rfl (by (try simp only [wrap_i64', wrap_u8, wrap_u16, wrap_u32, wrap_u64, wrap_i32, List.length_cons, List.length_nil, List.length_append, List.length_map, tmodN, tdivN]); and_intros <;> first | exact True.intro | omega | skip) ?_
  refine Runs.condS rfl (fun g12 => ?_) (fun g12 => ?_)
  · try simp only [decide_eq_true_eq, decide_eq_false_iff_not, notT, notF, beq_iff_eq, beq_eq_false_iff_ne, bne_iff_ne, bne_eq_false_iff_eq, tmodN, tdivN, Int.not_lt, Int.not_le] at g12
    obtain ⟨i, hi⟩ := Int.eq_ofNat_of_zero_le g12; have hci := cut_some hi
    refine Runs.seq ?_
    refine Runs.regD [(2, { res := .str (s.take i) }), (6, { res := .int .i64 1 }), (7, { res := .int .i64 (i + 1 : Nat) }), (8, { res := .str (s.drop (i + 1)) })] [0, 1, 3, 4, 5] rfl rfl rfl (by and_intros <;> first | exact True.intro | omega | rfl | (refine congrArg (AV.int _) ?_; rw [i64_id (by omega) (by omega)]; omega) | (refine congrArg AV.str ?_; rw [hi]; rfl) | (refine congrArg AV.str ?_; rw [Int.toNat_natCast, Int.toNat_natCast, List.take_length])) ?_
    exact Runs.retH Tryz.func93 rfl rfl (by rw [hci.1]) (by rfl)
  · try simp only [decide_eq_true_eq, decide_eq_false_iff_not, notT, notF, beq_iff_eq, beq_eq_false_iff_ne, bne_iff_ne, bne_eq_false_iff_eq, tmodN, tdivN, Int.not_lt, Int.not_le] at g12
    have hcn := cut_none (s := s) (c := c) (by omega)
    refine Runs.skip ?_
    refine Runs.seq ?_
    refine Runs.reg [] [0] rfl (by (try simp only [wrap_i64', wrap_u8, wrap_u16, wrap_u32, wrap_u64, wrap_i32, List.length_cons, List.length_nil, List.length_append, List.length_map, tmodN, tdivN]); and_intros <;> first | exact True.intro | omega | skip) ?_
    exact Runs.retH Tryz.func93 rfl rfl (by rw [hcn]) (by rfl)

theorem cut_ok (s : List UInt8) (c : UInt8) (hs : s.length ≤ 16777216) : FnOK Tryz.prog 51 [.str s, .str [c]] [] (.tup [.str (cutF s c).1, .str (cutF s c).2.1, .bool (cutF s c).2.2]) [] := by
  refine FnOK.of_runs Tryz.func51 rfl (Nat.le_of_ble_eq_true rfl) ?_
  refine Runs.seq ?_
  refine Runs.reg [] [] rfl (by (try simp only [wrap_i64', wrap_u8, wrap_u16, wrap_u32, wrap_u64, wrap_i32, List.length_cons, List.length_nil, List.length_append, List.length_map, tmodN, tdivN]); and_intros <;> first | exact True.intro | omega | skip) ?_
  refine Runs.seq ?_
  refine Runs.reg [(2, { res := .tup [.str (cutF s c).1, .str (cutF s c).2.1, .bool (cutF s c).2.2] })] [0, 1] rfl (by and_intros <;> first | exact True.intro | exact slcut_ok s c hs) ?_
  exact Runs.retH Tryz.func51 rfl rfl (by rfl) (by rfl)

theorem split_ok (s : List UInt8) (c : UInt8) (hs : s.length ≤ 16777216) : FnOK Tryz.prog 52 [.str s, .int .u8 c.toNat] [] (.sl 1 (splitL s c).length (strEl (splitL s c)) false) [] := by
  refine FnOK.of_runs Tryz.func52 rfl (Nat.le_of_ble_eq_true rfl) ?_
  refine Runs.seq ?_
  refine Runs.reg [] [] rfl (by (try simp only [wrap_i64', wrap_u8, wrap_u16, wrap_u32, wrap_u64, wrap_i32, List.length_cons, List.length_nil, List.length_append, List.length_map, tmodN, tdivN]); and_intros <;> first | exact True.intro | omega | skip) ?_
  refine Runs.seq ?_
  refine Runs.reg [] [] rfl (by (try simp only [wrap_i64', wrap_u8, wrap_u16, wrap_u32, wrap_u64, wrap_i32, List.length_cons, List.length_nil, List.length_append, List.length_map, tmodN, tdivN]); and_intros <;> first | exact True.intro | omega | skip) ?_
  refine Runs.seq ?_
  refine Runs.reg [] [] rfl (by (try simp only [wrap_i64', wrap_u8, wrap_u16, wrap_u32, wrap_u64, wrap_i32, List.length_cons, List.length_nil, List.length_append, List.length_map, tmodN, tdivN]); and_intros <;> first | exact True.intro | omega | skip) ?_
  refine Runs.seq ?_
  refine Runs.seq ?_
  refine Runs.reg [] [0] rfl (by (try simp only [wrap_i64', wrap_u8, wrap_u16, wrap_u32, wrap_u64, wrap_i32, List.length_cons, List.length_nil, List.length_append, List.length_map, tmodN, tdivN]); and_intros <;> first | exact True.intro | omega | skip) ?_
  refine Runs.block ?_
  -- loop 0
  refine Runs.loopF (σ := Nat) (fun i => i ≤ s.length) (fun i => [(0, .str s), (1, .int .u8 c.toNat), (5, .sl 1 (spI s c i).1.length (strEl (spI s c i).1) true), (6, .int .i64 (spI s c i).2), (9, .int .i64 s.length), (10, .int .i64 i)]) (fun _ => []) (fun i => s.length - i) (0) (by exact Nat.zero_le _) (by exact agree_cons rfl (by first | with_reducible rfl | (refine congrArg (AV.int _) ?_; (try simp only [wrap_i64', wrap_u8, wrap_u16, wrap_u32, wrap_u64, wrap_i32, List.length_cons, List.length_nil, List.length_append, List.length_map, tmodN, tdivN]); omega) | rfl | skip) (agree_cons rfl (by first | with_reducible rfl | (refine congrArg (AV.int _) ?_; (try simp only [wrap_i64', wrap_u8, wrap_u16, wrap_u32, wrap_u64, wrap_i32, List.length_cons, List.length_nil, List.length_append, List.length_map, tmodN, tdivN]); omega) | rfl | skip) (agree_imp rfl (by exact Imp.slEq rfl (fun i hi => absurd hi (Nat.not_lt_zero _))) rfl rfl (agree_cons rfl (by first | with_reducible rfl | (refine congrArg (AV.int _) ?_; (try simp only [wrap_i64', wrap_u8, wrap_u16, wrap_u32, wrap_u64, wrap_i32, List.length_cons, List.length_nil, List.length_append, List.length_map, tmodN, tdivN]); omega) | rfl | skip) (agree_cons rfl (by first | with_reducible rfl | (refine congrArg (AV.int _) ?_; (try simp only [wrap_i64', wrap_u8, wrap_u16, wrap_u32, wrap_u64, wrap_i32, List.length_cons, List.length_nil, List.length_append, List.length_map, tmodN, tdivN]); omega) | rfl | skip) (agree_cons rfl (by first | with_reducible rfl | (refine congrArg (AV.int _) ?_; (try simp only [wrap_i64', wrap_u8, wrap_u16, wrap_u32, wrap_u64, wrap_i32, List.length_cons, List.length_nil, List.length_append, List.length_map, tmodN, tdivN]); omega) | rfl | skip) (trivial))))))) (by rfl) (fun i hi ih => ?_)
  replace hi : i ≤ s.length := hi; have hle := spI_le s c i
  refine Runs.seq ?_
  refine Runs.reg [] [] rfl (by (try simp only [wrap_i64', wrap_u8, wrap_u16, wrap_u32, wrap_u64, wrap_i32, List.length_cons, List.length_nil, List.length_append, List.length_map, tmodN, tdivN]); and_intros <;> first | exact True.intro | omega | skip) ?_
  refine Runs.seq ?_
  refine Runs.condS rfl (fun g11 => ?_) (fun g11 => ?_)
  · try simp only [decide_eq_true_eq, decide_eq_false_iff_not, notT, notF, beq_iff_eq, beq_eq_false_iff_ne, bne_iff_ne, bne_eq_false_iff_eq, tmodN, tdivN, Int.not_lt, Int.not_le] at g11
    refine Runs.skip ?_
    refine Runs.seq ?_
    refine Runs.block ?_
    refine Runs.seq ?_
    refine Runs.reg [] [0] rfl (by (try simp only [wrap_i64', wrap_u8, wrap_u16, wrap_u32, wrap_u64, wrap_i32, List.length_cons, List.length_nil, List.length_append, List.length_map, tmodN, tdivN]); and_intros <;> first | exact True.intro | omega | skip) ?_
    refine Runs.seq ?_
    refine Runs.reg [] [0, 1, 3] rfl (by and_intros <;> first | exact True.intro | omega) ?_
    refine Runs.condS rfl (fun g17 => ?_) (fun g17 => ?_)
    · try simp only [decide_eq_true_eq, decide_eq_false_iff_not, notT, notF, beq_iff_eq, beq_eq_false_iff_ne, bne_iff_ne, bne_eq_false_iff_eq, tmodN, tdivN, Int.not_lt, Int.not_le] at g17
      have hsp : spI s c (i + 1) = ((spI s c i).1 ++ [(s.take i).drop (spI s c i).2], i + 1) := if_pos (Int.ofNat_inj.1 g17)
      refine Runs.seq ?_
      refine Runs.reg [] [] rfl (by and_intros <;> first | exact True.intro | omega) ?_
      refine Runs.reg [] [0] rfl (by (try simp only [wrap_i64', wrap_u8, wrap_u16, wrap_u32, wrap_u64, wrap_i32, List.length_cons, List.length_nil, List.length_append, List.length_map, tmodN, tdivN]); and_intros <;> first | exact True.intro | omega | skip) ?_
      refine Runs.inBlock ?_
      refine Runs.reg [] [] rfl (by (try simp only [wrap_i64', wrap_u8, wrap_u16, wrap_u32, wrap_u64, wrap_i32, List.length_cons, List.length_nil, List.length_append, List.length_map, tmodN, tdivN]); and_intros <;> first | exact True.intro | omega | skip) ?_
      exact ih (i + 1) _ _ (by first | exact True.intro | omega) (by omega) (by exact agree_cons rfl (by first | with_reducible rfl | (refine congrArg (AV.int _) ?_; (try simp only [wrap_i64', wrap_u8, wrap_u16, wrap_u32, wrap_u64, wrap_i32, List.length_cons, List.length_nil, List.length_append, List.length_map, tmodN, tdivN]); omega) | rfl | skip) (agree_cons rfl (by first | with_reducible rfl | (refine congrArg (AV.int _) ?_; (try simp only [wrap_i64', wrap_u8, wrap_u16, wrap_u32, wrap_u64, wrap_i32, List.length_cons, List.length_nil, List.length_append, List.length_map, tmodN, tdivN]); omega) | rfl | skip) (agree_imp rfl (by first | (rw [hsp]; exact Imp.refl _) | (rw [hsp]; exact st_app rfl _ rfl)) rfl rfl (agree_cons rfl (by first | (rw [hsp]; done) | (rw [hsp, i64_id (by omega) (by omega)]; rfl)) (agree_cons rfl (by first | with_reducible rfl | (refine congrArg (AV.int _) ?_; (try simp only [wrap_i64', wrap_u8, wrap_u16, wrap_u32, wrap_u64, wrap_i32, List.length_cons, List.length_nil, List.length_append, List.length_map, tmodN, tdivN]); omega) | rfl | skip) (agree_cons rfl (by first | with_reducible rfl | (refine congrArg (AV.int _) ?_; (try simp only [wrap_i64', wrap_u8, wrap_u16, wrap_u32, wrap_u64, wrap_i32, List.length_cons, List.length_nil, List.length_append, List.length_map, tmodN, tdivN]); omega) | rfl | skip) (trivial))))))) (by rfl)
    · try simp only [decide_eq_true_eq, decide_eq_false_iff_not, notT, notF, beq_iff_eq, beq_eq_false_iff_ne, bne_iff_ne, bne_eq_false_iff_eq, tmodN, tdivN, Int.not_lt, Int.not_le] at g17
      have hsp : spI s c (i + 1) = spI s c i := if_neg (fun e => g17 (Int.ofNat_inj.2 e))
      refine Runs.skip ?_
      refine Runs.inBlock ?_
      refine Runs.reg [] [] rfl (by (try simp only [wrap_i64', wrap_u8, wrap_u16, wrap_u32, wrap_u64, wrap_i32, List.length_cons, List.length_nil, List.length_append, List.length_map, tmodN, tdivN]); and_intros <;> first | exact True.intro | omega | skip) ?_
      exact ih (i + 1) _ _ (by first | exact True.intro | omega) (by omega) (by exact agree_cons rfl (by first | with_reducible rfl | (refine congrArg (AV.int _) ?_; (try simp only [wrap_i64', wrap_u8, wrap_u16, wrap_u32, wrap_u64, wrap_i32, List.length_cons, List.length_nil, List.length_append, List.length_map, tmodN, tdivN]); omega) | rfl | skip) (agree_cons rfl (by first | with_reducible rfl | (refine congrArg (AV.int _) ?_; (try simp only [wrap_i64', wrap_u8, wrap_u16, wrap_u32, wrap_u64, wrap_i32, List.length_cons, List.length_nil, List.length_append, List.length_map, tmodN, tdivN]); omega) | rfl | skip) (agree_imp rfl (by first | (rw [hsp]; exact Imp.refl _) | (rw [hsp]; exact st_app rfl _ rfl)) rfl rfl (agree_cons rfl (by first | (rw [hsp]; done) | (rw [hsp, i64_id (by omega) (by omega)]; rfl)) (agree_cons rfl (by first | with_reducible rfl | (refine congrArg (AV.int _) ?_; (try simp only [wrap_i64', wrap_u8, wrap_u16, wrap_u32, wrap_u64, wrap_i32, List.length_cons, List.length_nil, List.length_append, List.length_map, tmodN, tdivN]); omega) | rfl | skip) (agree_cons rfl (by first | with_reducible rfl | (refine congrArg (AV.int _) ?_; (try simp only [wrap_i64', wrap_u8, wrap_u16, wrap_u32, wrap_u64, wrap_i32, List.length_cons, List.length_nil, List.length_append, List.length_map, tmodN, tdivN]); omega) | rfl | skip) (trivial))))))) (by rfl)
  · try simp only [decide_eq_true_eq, decide_eq_false_iff_not, notT, notF, beq_iff_eq, beq_eq_false_iff_ne, bne_iff_ne, bne_eq_false_iff_eq, tmodN, tdivN, Int.not_lt, Int.not_le] at g11
    refine Runs.exit rfl ?_
    refine Runs.seq ?_
    obtain rfl : i = s.length := by omega
    have e : List.drop ((spI s c s.length).2 : Int).toNat (List.take (s.length : Int).toNat s) = s.drop (spI s c s.length).2 := by rw [Int.toNat_natCast, Int.toNat_natCast, List.take_length]
    refine Runs.reg [] [] rfl (by and_intros <;> first | exact True.intro | omega) ?_
    refine Runs.frame [(5, .sl 1 (splitL s c).length (strEl (splitL s c)) true)] (by exact agree_imp rfl (by exact st_app rfl (splitL s c) (by rw [e]; rfl)) rfl rfl trivial) ?_
    refine Runs.seq ?_
    refine Runs.reg [] [0, 1, 3] rfl (by and_intros <;> first | exact True.intro | omega) ?_
    exact Runs.frame [(4, .sl 1 (splitL s c).length (strEl (splitL s c)) false)] (by exact agree_imp rfl (by exact imp_cut) rfl rfl trivial) (Runs.retH Tryz.func52 rfl rfl rfl rfl)

theorem query_ok (t : List UInt8) (ht : t.length ≤ 8388608) : FnOK Tryz.prog 17 [.str t] [] (.tup [.str (queryP t), .sl 2 (queryQ t).length (hdEl (queryQ t)) false]) [] := by
  refine FnOK.of_runs Tryz.func17 rfl (Nat.le_of_ble_eq_true rfl) ?_
  refine Runs.seq ?_
  refine Runs.reg [] [] rfl (by (try simp only [wrap_i64', wrap_u8, wrap_u16, wrap_u32, wrap_u64, wrap_i32, List.length_cons, List.length_nil, List.length_append, List.length_map, tmodN, tdivN]); and_intros <;> first | exact True.intro | omega | skip) ?_
  refine Runs.seq ?_
  obtain ⟨q, hq⟩ : ∃ q, q = (cutF t 63).2.1 := ⟨_, rfl⟩; have hql : q.length ≤ t.length := (by rw [hq]; exact (cut_len t 63).2); obtain ⟨ps, hps⟩ : ∃ ps, ps = splitL q 38 := ⟨_, rfl⟩; have hpl : ps.length ≤ q.length + 1 := (by rw [hps]; exact splitL_len q 38)
  refine Runs.reg [(1, { res := .tup [.str (queryP t), .str q, .bool (cutF t 63).2.2] })] [0] rfl (by and_intros <;> first | exact True.intro | (rw [hq]; exact cut_ok t 63 (by omega))) ?_
  refine Runs.seq ?_
  refine Runs.seq ?_
  refine Runs.reg [(1, { res := .sl 1 ps.length (strEl ps) false })] [0] rfl (by and_intros <;> first | exact True.intro | (rw [hps]; exact split_ok q 38 (by omega))) ?_
  refine Runs.block ?_
  -- loop 0
  refine Runs.loopF (σ := Nat) (fun i => i ≤ ps.length) (fun i => [(2, .str (queryP t)), (3, .sl 2 (qN ps i).length (hdEl (qN ps i)) true), (18, .sl 1 ps.length (strEl ps) false), (19, .int .i64 ps.length), (20, .int .i64 i)]) (fun _ => []) (fun i => ps.length - i) (0) (by exact Nat.zero_le _) (by exact agree_cons rfl (by first | with_reducible rfl | (refine congrArg (AV.int _) ?_; (try simp only [wrap_i64', wrap_u8, wrap_u16, wrap_u32, wrap_u64, wrap_i32, List.length_cons, List.length_nil, List.length_append, List.length_map, tmodN, tdivN]); omega) | rfl | skip) (agree_imp rfl (by exact Imp.slEq rfl (fun i hi => absurd hi (Nat.not_lt_zero _))) rfl rfl (agree_cons rfl (by first | with_reducible rfl | (refine congrArg (AV.int _) ?_; (try simp only [wrap_i64', wrap_u8, wrap_u16, wrap_u32, wrap_u64, wrap_i32, List.length_cons, List.length_nil, List.length_append, List.length_map, tmodN, tdivN]); omega) | rfl | skip) (agree_cons rfl (by first | with_reducible rfl | (refine congrArg (AV.int _) ?_; (try simp only [wrap_i64', wrap_u8, wrap_u16, wrap_u32, wrap_u64, wrap_i32, List.length_cons, List.length_nil, List.length_append, List.length_map, tmodN, tdivN]); omega) | rfl | skip) (agree_cons rfl (by first | with_reducible rfl | (refine congrArg (AV.int _) ?_; (try simp only [wrap_i64', wrap_u8, wrap_u16, wrap_u32, wrap_u64, wrap_i32, List.length_cons, List.length_nil, List.length_append, List.length_map, tmodN, tdivN]); omega) | rfl | skip) (trivial)))))) (by rfl) (fun i hi ih => ?_)
  replace hi : i ≤ ps.length := hi; have hqn := qN_len ps i
  refine Runs.seq ?_
  refine Runs.reg [] [] rfl (by (try simp only [wrap_i64', wrap_u8, wrap_u16, wrap_u32, wrap_u64, wrap_i32, List.length_cons, List.length_nil, List.length_append, List.length_map, tmodN, tdivN]); and_intros <;> first | exact True.intro | omega | skip) ?_
  refine Runs.seq ?_
  refine Runs.condS rfl (fun g21 => ?_) (fun g21 => ?_)
  · try simp only [decide_eq_true_eq, decide_eq_false_iff_not, notT, notF, beq_iff_eq, beq_eq_false_iff_ne, bne_iff_ne, bne_eq_false_iff_eq, tmodN, tdivN, Int.not_lt, Int.not_le] at g21
    refine Runs.skip ?_
    refine Runs.seq ?_
    refine Runs.block ?_
    refine Runs.seq ?_
    refine Runs.reg [] [] rfl (by and_intros <;> first | exact True.intro | omega) ?_
    refine Runs.seq ?_
    refine Runs.reg [] [0] rfl (by (try simp only [wrap_i64', wrap_u8, wrap_u16, wrap_u32, wrap_u64, wrap_i32, List.length_cons, List.length_nil, List.length_append, List.length_map, tmodN, tdivN]); and_intros <;> first | exact True.intro | omega | skip) ?_
    refine Runs.condS rfl (fun g25 => ?_) (fun g25 => ?_)
    · try simp only [decide_eq_true_eq, decide_eq_false_iff_not, notT, notF, beq_iff_eq, beq_eq_false_iff_ne, bne_iff_ne, bne_eq_false_iff_eq, tmodN, tdivN, Int.not_lt, Int.not_le] at g25
      have hqs : qN ps (i + 1) = qN ps i ++ [((cutF (ps.getD i []) 61).1, (cutF (ps.getD i []) 61).2.1)] := if_neg g25
      refine Runs.seq ?_
      refine Runs.reg [(1, { res := .tup [.str (cutF (ps.getD i []) 61).1, .str (cutF (ps.getD i []) 61).2.1, .bool (cutF (ps.getD i []) 61).2.2] })] [0] rfl (by and_intros <;> first | exact True.intro | exact cut_ok _ 61 (by have h := split_part q 38 i; rw [← hps] at h; exact Nat.le_trans h (by omega))) ?_
      refine Runs.reg [] [] rfl (by and_intros <;> first | exact True.intro | omega) ?_
      refine Runs.inBlock ?_
      refine Runs.reg [] [] rfl (by (try simp only [wrap_i64', wrap_u8, wrap_u16, wrap_u32, wrap_u64, wrap_i32, List.length_cons, List.length_nil, List.length_append, List.length_map, tmodN, tdivN]); and_intros <;> first | exact True.intro | omega | skip) ?_
      exact ih (i + 1) _ _ (by first | exact True.intro | omega) (by omega) (by exact agree_cons rfl (by first | with_reducible rfl | (refine congrArg (AV.int _) ?_; (try simp only [wrap_i64', wrap_u8, wrap_u16, wrap_u32, wrap_u64, wrap_i32, List.length_cons, List.length_nil, List.length_append, List.length_map, tmodN, tdivN]); omega) | rfl | skip) (agree_imp rfl (by first | (rw [hqs]; exact Imp.refl _) | (rw [hqs]; exact hd_app rfl)) rfl rfl (agree_cons rfl (by first | with_reducible rfl | (refine congrArg (AV.int _) ?_; (try simp only [wrap_i64', wrap_u8, wrap_u16, wrap_u32, wrap_u64, wrap_i32, List.length_cons, List.length_nil, List.length_append, List.length_map, tmodN, tdivN]); omega) | rfl | skip) (agree_cons rfl (by first | with_reducible rfl | (refine congrArg (AV.int _) ?_; (try simp only [wrap_i64', wrap_u8, wrap_u16, wrap_u32, wrap_u64, wrap_i32, List.length_cons, List.length_nil, List.length_append, List.length_map, tmodN, tdivN]); omega) | rfl | skip) (agree_cons rfl (by first | with_reducible rfl | (refine congrArg (AV.int _) ?_; (try simp only [wrap_i64', wrap_u8, wrap_u16, wrap_u32, wrap_u64, wrap_i32, List.length_cons, List.length_nil, List.length_append, List.length_map, tmodN, tdivN]); omega) | rfl | skip) (trivial)))))) (by rfl)
    · try simp only [decide_eq_true_eq, decide_eq_false_iff_not, notT, notF, beq_iff_eq, beq_eq_false_iff_ne, bne_iff_ne, bne_eq_false_iff_eq, tmodN, tdivN, Int.not_lt, Int.not_le] at g25
      have hqs : qN ps (i + 1) = qN ps i := if_pos g25
      refine Runs.skip ?_
      refine Runs.inBlock ?_
      refine Runs.reg [] [] rfl (by (try simp only [wrap_i64', wrap_u8, wrap_u16, wrap_u32, wrap_u64, wrap_i32, List.length_cons, List.length_nil, List.length_append, List.length_map, tmodN, tdivN]); and_intros <;> first | exact True.intro | omega | skip) ?_
      exact ih (i + 1) _ _ (by first | exact True.intro | omega) (by omega) (by exact agree_cons rfl (by first | with_reducible rfl | (refine congrArg (AV.int _) ?_; (try simp only [wrap_i64', wrap_u8, wrap_u16, wrap_u32, wrap_u64, wrap_i32, List.length_cons, List.length_nil, List.length_append, List.length_map, tmodN, tdivN]); omega) | rfl | skip) (agree_imp rfl (by first | (rw [hqs]; exact Imp.refl _) | (rw [hqs]; exact hd_app rfl)) rfl rfl (agree_cons rfl (by first | with_reducible rfl | (refine congrArg (AV.int _) ?_; (try simp only [wrap_i64', wrap_u8, wrap_u16, wrap_u32, wrap_u64, wrap_i32, List.length_cons, List.length_nil, List.length_append, List.length_map, tmodN, tdivN]); omega) | rfl | skip) (agree_cons rfl (by first | with_reducible rfl | (refine congrArg (AV.int _) ?_; (try simp only [wrap_i64', wrap_u8, wrap_u16, wrap_u32, wrap_u64, wrap_i32, List.length_cons, List.length_nil, List.length_append, List.length_map, tmodN, tdivN]); omega) | rfl | skip) (agree_cons rfl (by first | with_reducible rfl | (refine congrArg (AV.int _) ?_; (try simp only [wrap_i64', wrap_u8, wrap_u16, wrap_u32, wrap_u64, wrap_i32, List.length_cons, List.length_nil, List.length_append, List.length_map, tmodN, tdivN]); omega) | rfl | skip) (trivial)))))) (by rfl)
  · try simp only [decide_eq_true_eq, decide_eq_false_iff_not, notT, notF, beq_iff_eq, beq_eq_false_iff_ne, bne_iff_ne, bne_eq_false_iff_eq, tmodN, tdivN, Int.not_lt, Int.not_le] at g21
    refine Runs.exit rfl ?_
    refine Runs.seq ?_
    refine Runs.regD [] [1, 2, 4] rfl rfl rfl (by and_intros <;> first | exact True.intro | omega) ?_
    exact Runs.frame [(2, .str (queryP t)), (3, .sl 2 (queryQ t).length (hdEl (queryQ t)) false)] (by exact agree_cons rfl (by rfl) (agree_imp rfl (by rw [queryQ, ← hq, ← hps, show ps.length = i by omega]; exact imp_cut) rfl rfl trivial)) (Runs.retH Tryz.func17 rfl rfl rfl rfl)

theorem all_ok (l : List Hd) (name : List UInt8) (hl : l.length ≤ 16777216) : FnOK Tryz.prog 20 [.sl 2 l.length (hdEl l) false, .str name] [] (.sl 1 (allL l name).length (strEl (allL l name)) false) [] := by
  refine FnOK.of_runs Tryz.func20 rfl (Nat.le_of_ble_eq_true rfl) ?_
  refine Runs.seq ?_
  refine Runs.reg [] [] rfl (by (try simp only [wrap_i64', wrap_u8, wrap_u16, wrap_u32, wrap_u64, wrap_i32, List.length_cons, List.length_nil, List.length_append, List.length_map, tmodN, tdivN]); and_intros <;> first | exact True.intro | omega | skip) ?_
  refine Runs.seq ?_
  refine Runs.reg [] [] rfl (by (try simp only [wrap_i64', wrap_u8, wrap_u16, wrap_u32, wrap_u64, wrap_i32, List.length_cons, List.length_nil, List.length_append, List.length_map, tmodN, tdivN]); and_intros <;> first | exact True.intro | omega | skip) ?_
  refine Runs.seq ?_
  refine Runs.seq ?_
  refine Runs.reg [] [0] rfl (by (try simp only [wrap_i64', wrap_u8, wrap_u16, wrap_u32, wrap_u64, wrap_i32, List.length_cons, List.length_nil, List.length_append, List.length_map, tmodN, tdivN]); and_intros <;> first | exact True.intro | omega | skip) ?_
  refine Runs.block ?_
  -- loop 0
  refine Runs.loopF (σ := Nat) (fun i => i ≤ l.length) (fun i => [(1, .str name), (5, .sl 1 (aN l name i).length (strEl (aN l name i)) true), (8, .sl 2 l.length (hdEl l) false), (9, .int .i64 l.length), (10, .int .i64 i)]) (fun _ => []) (fun i => l.length - i) (0) (by exact Nat.zero_le _) (by exact agree_cons rfl (by first | with_reducible rfl | (refine congrArg (AV.int _) ?_; (try simp only [wrap_i64', wrap_u8, wrap_u16, wrap_u32, wrap_u64, wrap_i32, List.length_cons, List.length_nil, List.length_append, List.length_map, tmodN, tdivN]); omega) | rfl | skip) (agree_imp rfl (by exact Imp.slEq rfl (fun i hi => absurd hi (Nat.not_lt_zero _))) rfl rfl (agree_cons rfl (by first | with_reducible rfl | (refine congrArg (AV.int _) ?_; (try simp only [wrap_i64', wrap_u8, wrap_u16, wrap_u32, wrap_u64, wrap_i32, List.length_cons, List.length_nil, List.length_append, List.length_map, tmodN, tdivN]); omega) | rfl | skip) (agree_cons rfl (by first | with_reducible rfl | (refine congrArg (AV.int _) ?_; (try simp only [wrap_i64', wrap_u8, wrap_u16, wrap_u32, wrap_u64, wrap_i32, List.length_cons, List.length_nil, List.length_append, List.length_map, tmodN, tdivN]); omega) | rfl | skip) (agree_cons rfl (by first | with_reducible rfl | (refine congrArg (AV.int _) ?_; (try simp only [wrap_i64', wrap_u8, wrap_u16, wrap_u32, wrap_u64, wrap_i32, List.length_cons, List.length_nil, List.length_append, List.length_map, tmodN, tdivN]); omega) | rfl | skip) (trivial)))))) (by rfl) (fun i hi ih => ?_)
  replace hi : i ≤ l.length := hi; have han := aN_len l name i
  refine Runs.seq ?_
  refine Runs.reg [] [] rfl (by (try simp only [wrap_i64', wrap_u8, wrap_u16, wrap_u32, wrap_u64, wrap_i32, List.length_cons, List.length_nil, List.length_append, List.length_map, tmodN, tdivN]); and_intros <;> first | exact True.intro | omega | skip) ?_
  refine Runs.seq ?_
  refine Runs.condS rfl (fun g11 => ?_) (fun g11 => ?_)
  · try simp only [decide_eq_true_eq, decide_eq_false_iff_not, notT, notF, beq_iff_eq, beq_eq_false_iff_ne, bne_iff_ne, bne_eq_false_iff_eq, tmodN, tdivN, Int.not_lt, Int.not_le] at g11
    refine Runs.skip ?_
    refine Runs.seq ?_
    refine Runs.block ?_
    refine Runs.seq ?_
    refine Runs.reg [] [] rfl (by and_intros <;> first | exact True.intro | omega | exact Nat.le_of_ble_eq_true rfl) ?_
    refine Runs.seq ?_
    refine Runs.reg [] [2] rfl (by (try simp only [wrap_i64', wrap_u8, wrap_u16, wrap_u32, wrap_u64, wrap_i32, List.length_cons, List.length_nil, List.length_append, List.length_map, tmodN, tdivN]); and_intros <;> first | exact True.intro | omega | skip) ?_
    refine Runs.condS rfl (fun g17 => ?_) (fun g17 => ?_)
    · try simp only [decide_eq_true_eq, decide_eq_false_iff_not, notT, notF, beq_iff_eq, beq_eq_false_iff_ne, bne_iff_ne, bne_eq_false_iff_eq, tmodN, tdivN, Int.not_lt, Int.not_le] at g17
      have has : aN l name (i + 1) = aN l name i ++ [(l.getD i ([], [])).2] := if_pos g17
      refine Runs.reg [] [] rfl (by and_intros <;> first | exact True.intro | omega) ?_
      refine Runs.inBlock ?_
      refine Runs.reg [] [] rfl (by (try simp only [wrap_i64', wrap_u8, wrap_u16, wrap_u32, wrap_u64, wrap_i32, List.length_cons, List.length_nil, List.length_append, List.length_map, tmodN, tdivN]); and_intros <;> first | exact True.intro | omega | skip) ?_
      refine Runs.drop 0 (Nat.le_refl _) rfl ?_
      exact ih (i + 1) _ _ (by first | exact True.intro | omega) (by omega) (by exact agree_cons rfl (by first | with_reducible rfl | (refine congrArg (AV.int _) ?_; (try simp only [wrap_i64', wrap_u8, wrap_u16, wrap_u32, wrap_u64, wrap_i32, List.length_cons, List.length_nil, List.length_append, List.length_map, tmodN, tdivN]); omega) | rfl | skip) (agree_imp rfl (by first | (rw [has]; exact Imp.refl _) | (rw [has]; exact st_app rfl _ rfl)) rfl rfl (agree_cons rfl (by first | with_reducible rfl | (refine congrArg (AV.int _) ?_; (try simp only [wrap_i64', wrap_u8, wrap_u16, wrap_u32, wrap_u64, wrap_i32, List.length_cons, List.length_nil, List.length_append, List.length_map, tmodN, tdivN]); omega) | rfl | skip) (agree_cons rfl (by first | with_reducible rfl | (refine congrArg (AV.int _) ?_; (try simp only [wrap_i64', wrap_u8, wrap_u16, wrap_u32, wrap_u64, wrap_i32, List.length_cons, List.length_nil, List.length_append, List.length_map, tmodN, tdivN]); omega) | rfl | skip) (agree_cons rfl (by first | with_reducible rfl | (refine congrArg (AV.int _) ?_; (try simp only [wrap_i64', wrap_u8, wrap_u16, wrap_u32, wrap_u64, wrap_i32, List.length_cons, List.length_nil, List.length_append, List.length_map, tmodN, tdivN]); omega) | rfl | skip) (trivial)))))) (by rfl)
    · try simp only [decide_eq_true_eq, decide_eq_false_iff_not, notT, notF, beq_iff_eq, beq_eq_false_iff_ne, bne_iff_ne, bne_eq_false_iff_eq, tmodN, tdivN, Int.not_lt, Int.not_le] at g17
      have has : aN l name (i + 1) = aN l name i := if_neg g17
      refine Runs.skip ?_
      refine Runs.inBlock ?_
      refine Runs.reg [] [] rfl (by (try simp only [wrap_i64', wrap_u8, wrap_u16, wrap_u32, wrap_u64, wrap_i32, List.length_cons, List.length_nil, List.length_append, List.length_map, tmodN, tdivN]); and_intros <;> first | exact True.intro | omega | skip) ?_
      refine Runs.drop 0 (Nat.le_refl _) rfl ?_
      exact ih (i + 1) _ _ (by first | exact True.intro | omega) (by omega) (by exact agree_cons rfl (by first | with_reducible rfl | (refine congrArg (AV.int _) ?_; (try simp only [wrap_i64', wrap_u8, wrap_u16, wrap_u32, wrap_u64, wrap_i32, List.length_cons, List.length_nil, List.length_append, List.length_map, tmodN, tdivN]); omega) | rfl | skip) (agree_imp rfl (by first | (rw [has]; exact Imp.refl _) | (rw [has]; exact st_app rfl _ rfl)) rfl rfl (agree_cons rfl (by first | with_reducible rfl | (refine congrArg (AV.int _) ?_; (try simp only [wrap_i64', wrap_u8, wrap_u16, wrap_u32, wrap_u64, wrap_i32, List.length_cons, List.length_nil, List.length_append, List.length_map, tmodN, tdivN]); omega) | rfl | skip) (agree_cons rfl (by first | with_reducible rfl | (refine congrArg (AV.int _) ?_; (try simp only [wrap_i64', wrap_u8, wrap_u16, wrap_u32, wrap_u64, wrap_i32, List.length_cons, List.length_nil, List.length_append, List.length_map, tmodN, tdivN]); omega) | rfl | skip) (agree_cons rfl (by first | with_reducible rfl | (refine congrArg (AV.int _) ?_; (try simp only [wrap_i64', wrap_u8, wrap_u16, wrap_u32, wrap_u64, wrap_i32, List.length_cons, List.length_nil, List.length_append, List.length_map, tmodN, tdivN]); omega) | rfl | skip) (trivial)))))) (by rfl)
  · try simp only [decide_eq_true_eq, decide_eq_false_iff_not, notT, notF, beq_iff_eq, beq_eq_false_iff_ne, bne_iff_ne, bne_eq_false_iff_eq, tmodN, tdivN, Int.not_lt, Int.not_le] at g11
    refine Runs.exit rfl ?_
    refine Runs.seq ?_
    refine Runs.reg [] [0, 1, 3] rfl (by and_intros <;> first | exact True.intro | omega) ?_
    exact Runs.frame [(4, .sl 1 (allL l name).length (strEl (allL l name)) false)] (by exact agree_imp rfl (by rw [allL, show l.length = i by omega]; exact imp_cut) rfl rfl trivial) (Runs.retH Tryz.func20 rfl rfl rfl rfl)


def awSec : List UInt8 := [119, 74, 97, 108, 114, 88, 85, 116, 110, 70, 69, 77, 73, 47, 75, 55, 77, 68, 69, 78, 71, 43, 98, 80, 120, 82, 102, 105, 67, 89, 69, 88, 65, 77, 80, 76, 69, 75, 69, 89]
def awDay : List UInt8 := [50, 48, 49, 50, 48, 50, 49, 53]
def awReg : List UInt8 := [117, 115, 45, 101, 97, 115, 116, 45, 49]
def awIam : List UInt8 := [105, 97, 109]
def awHex : List UInt8 := [102, 52, 55, 56, 48, 101, 50, 100, 57, 102, 54, 53, 102, 97, 56, 57, 53, 102, 57, 99, 54, 55, 98, 51, 50, 99, 101, 49, 98, 97, 102, 48, 98, 48, 100, 56, 97, 52, 51, 53, 48, 53, 97, 48, 48, 48, 97, 49, 97, 57, 101, 48, 57, 48, 100, 52, 49, 52, 100, 98, 52, 48, 52, 100]
theorem aw_key : hexL (skS awSec awDay awReg awIam) = awHex := by kernel_rfl
theorem sk_len (s d r v : List UInt8) : (skS s d r v).length = 32 := hmacS_len _ _
theorem qry_slash : queryP [47] = [47] ∧ queryQ [47] = [] := ⟨by kernel_rfl, by kernel_rfl⟩
theorem imp_nil {sz : Nat} {el el' : Nat → AV} {o : Bool} : Imp (.sl sz 0 el o) (.sl sz 0 el' false) := imp_off rfl fun i h => absurd h (Nat.not_lt_zero _)

theorem claimed_aw (e1 : Nat → AV) (o1 o2 : Bool) : FnOK Tryz.prog 36 [.agg [.str [71, 69, 84], .str [47], .sl 2 0 e1 o1, .bs [] o2]] [] (.tup [.nilp, .int .i64 300]) [] := by
  refine FnOK.of_runs Tryz.func36 rfl (Nat.le_of_ble_eq_true rfl) ?_
  refine Runs.seq ?_
  refine Runs.reg [] [] rfl (by (try simp only [wrap_i64', wrap_u8, wrap_u16, wrap_u32, wrap_u64, wrap_i32, List.length_cons, List.length_nil, List.length_append, List.length_map, tmodN, tdivN]); and_intros <;> first | exact True.intro | omega | skip) ?_
  refine Runs.seq ?_
  refine Runs.reg [(2, { res := .tup [.str [47], .sl 2 0 (hdEl []) false] })] [] rfl (by and_intros <;> first | exact True.intro | (have h := query_ok [47] (by decide); rw [qry_slash.1, qry_slash.2] at h; exact h) | exact Nat.le_of_ble_eq_true rfl) ?_
  refine Runs.seq ?_
  refine Runs.reg [(2, { res := .sl 1 0 (strEl []) false })] [] rfl (by and_intros <;> first | exact True.intro | exact FnOK.arg (all_ok [] _ (by decide)) ⟨⟨imp_nil, rfl, rfl⟩, ⟨Imp.refl _, rfl, rfl⟩, trivial⟩) ?_
  refine Runs.seq ?_
  refine Runs.reg [(1, { res := .sl 1 0 (strEl []) false }), (3, { res := .bool false })] [0] rfl (by and_intros <;> first | exact True.intro | exact all_ok [] _ (by decide) | rfl) ?_
  refine Runs.seq ?_
  refine Runs.reg [] [] rfl (by (try simp only [wrap_i64', wrap_u8, wrap_u16, wrap_u32, wrap_u64, wrap_i32, List.length_cons, List.length_nil, List.length_append, List.length_map, tmodN, tdivN]); and_intros <;> first | exact True.intro | omega | skip) ?_
  refine Runs.seq ?_
  refine Runs.block ?_
  refine Runs.seq ?_
  refine Runs.region ?_
  refine Runs.rest [(2, { res := .bool true }), (5, { res := .bool true })] [0, 4] rfl (by and_intros <;> first | exact True.intro | rfl) ?_
  refine Runs.condT rfl ?_
  refine Runs.seq ?_
  refine Runs.reg [] [] rfl (by (try simp only [wrap_i64', wrap_u8, wrap_u16, wrap_u32, wrap_u64, wrap_i32, List.length_cons, List.length_nil, List.length_append, List.length_map, tmodN, tdivN]); and_intros <;> first | exact True.intro | omega | skip) ?_
  refine Runs.drop 0 (Nat.le_refl _) rfl ?_
  exact Runs.retH Tryz.func36 rfl rfl rfl rfl

theorem verify_aw (e1 e2 : Nat → AV) (o1 o2 o3 : Bool) : FnOK Tryz.prog 14 [.agg [.str [71, 69, 84], .str [47], .sl 2 0 e1 o1, .bs [] o2], .sl 2 0 e2 o3, .int .i64 0] [] (.tup [.agg [.str [], .str [], .str [], .str [], .bs [] false, .str []], .int .i64 300]) [] := by
  refine FnOK.of_runs Tryz.func14 rfl (Nat.le_of_ble_eq_true rfl) ?_
  refine Runs.seq ?_
  refine Runs.reg [] [] rfl (by (try simp only [wrap_i64', wrap_u8, wrap_u16, wrap_u32, wrap_u64, wrap_i32, List.length_cons, List.length_nil, List.length_append, List.length_map, tmodN, tdivN]); and_intros <;> first | exact True.intro | omega | skip) ?_
  refine Runs.seq ?_
  refine Runs.reg [(1, { res := .tup [.nilp, .int .i64 300] })] [] rfl (by and_intros <;> first | exact True.intro | exact claimed_aw _ _ _ | exact Nat.le_of_ble_eq_true rfl) ?_
  refine Runs.seq ?_
  refine Runs.seq ?_
  refine Runs.reg [(1, { res := .bool true })] [0] rfl (by and_intros <;> first | exact True.intro | rfl) ?_
  refine Runs.condT rfl ?_
  refine Runs.seq ?_
  refine Runs.reg [] [1] rfl (by and_intros <;> first | exact True.intro | exact Nat.le_of_ble_eq_true rfl) ?_
  exact Runs.retD Tryz.func14 rfl rfl rfl rfl rfl rfl

theorem awake18_ok : FnOK Tryz.prog 9 [] [] (.bool true) [] := by
  refine FnOK.of_runs Tryz.func9 rfl (Nat.le_of_ble_eq_true rfl) ?_
  refine Runs.seq ?_
  refine Runs.reg [] [] rfl (by (try simp only [wrap_i64', wrap_u8, wrap_u16, wrap_u32, wrap_u64, wrap_i32, List.length_cons, List.length_nil, List.length_append, List.length_map, tmodN, tdivN]); and_intros <;> first | exact True.intro | omega | skip) ?_
  refine Runs.seq ?_
  refine Runs.reg [(0, { res := .bs (skS awSec awDay awReg awIam) false })] [] rfl (by and_intros <;> first | exact True.intro | exact skey_ok _ _ _ _ (by decide) (by decide) (by decide) (by decide)) ?_
  refine Runs.seq ?_
  refine Runs.reg [(1, { res := .tup [.agg [.str [], .str [], .str [], .str [], .bs [] false, .str []], .int .i64 300] })] [] rfl (by and_intros <;> first | exact True.intro | exact verify_aw _ _ _ _ _ | exact Nat.le_of_ble_eq_true rfl) ?_
  refine Runs.seq ?_
  refine Runs.region ?_
  refine Runs.rest [(1, { res := .str awHex }), (2, { res := .bool true }), (5, { res := .bool true })] [0, 4] rfl (by and_intros <;> first | exact True.intro | (rw [← aw_key]; exact rhex_ok _ false (by rw [sk_len]; decide)) | exact congrArg AV.bool (by decide) | rfl) ?_
  refine Runs.drop 0 (Nat.le_refl _) rfl ?_
  exact Runs.retH Tryz.func9 rfl rfl rfl rfl


theorem sigSigns_ok (s d r key date scope text : List UInt8) (hs : s.length ≤ 1048576) (hd : d.length ≤ 1048576) (hr : r.length ≤ 1048576) (hk : key.length ≤ 1048576) (hdt : date.length ≤ 1048576) (hsc : scope.length ≤ 1048576) (ht : text.length ≤ 1048576) : FnOK Tryz.prog 4 [.str s, .str d, .str r, .bs key false, .str date, .str scope, .str text] [] (.bool true) [] := by
  refine FnOK.of_runs Tryz.func4 rfl (Nat.le_of_ble_eq_true rfl) ?_
  refine Runs.seq ?_
  refine Runs.reg [] [] rfl (by (try simp only [wrap_i64', wrap_u8, wrap_u16, wrap_u32, wrap_u64, wrap_i32, List.length_cons, List.length_nil, List.length_append, List.length_map, tmodN, tdivN]); and_intros <;> first | exact True.intro | omega | skip) ?_
  refine Runs.seq ?_
  obtain ⟨k1, h1⟩ : ∃ x, x = skS s d r [115, 51] := ⟨_, rfl⟩
  obtain ⟨k2, h2⟩ : ∃ x, x = signS key date scope text := ⟨_, rfl⟩
  have m1 : FnOK Tryz.prog 10 [.str s, .str d, .str r, .str [115, 51]] [] (.bs k1 false) [] := by rw [h1]; exact skey_ok s d r _ hs hd hr (by decide)
  have m2 : FnOK Tryz.prog 11 [.str s, .str d, .str r, .str [115, 51]] [] (.bs k1 false) [] := by rw [h1]; exact rskey_ok s d r _ hs hd hr (by decide)
  have m3 : FnOK Tryz.prog 12 [.bs key false, .str date, .str scope, .str text] [] (.str k2) [] := by rw [h2]; exact sign_ok key date scope text hk hdt hsc (by omega)
  have m4 : FnOK Tryz.prog 13 [.bs key false, .str date, .str scope, .str text] [] (.str k2) [] := by rw [h2]; exact rsign_ok key date scope text hk hdt hsc (by omega)
  refine Runs.regD [(3, { res := .bs k1 false }), (8, { res := .bs k1 false }), (10, { res := .bool true }), (16, { res := .str k2 }), (21, { res := .str k2 }), (22, { res := .bool true }), (25, { res := .bool true })] [0, 1, 2, 5, 6, 7, 12, 13, 14, 15, 17, 18, 19, 20] rfl rfl rfl (by and_intros <;> first | exact True.intro | exact m1 | exact m2 | exact m3 | exact m4 | exact awake18_ok | (refine congrArg AV.bool ?_; simp)) ?_
  exact Runs.retH Tryz.func4 rfl rfl (by rfl) (by rfl)

end Go.Proofs.YtnohmijdpmelpaaGreat
namespace Go.Proofs.YtnohmijdpmelpaaGreat.sigSigns
open Go.ChangeShapes Go.WideShapes Go.ChangeAt Go.RowKit Go.Am
theorem own : ownKnob Tryz.prog.godebug = none := by kernel_rfl
theorem contract (H : Type) (enc : TypeId × Value → H) (W : World) (base : Nat) (args : Array Value) (ds gs : List (DataW H)) (before : List MemPlace)
    (hval : ∀ (j : Nat) t v, Tryz.f4.params[j]? = some t → args[j]? = some v → Value.okWide Tryz.prog W .any base t v)
    (hW : DataW.Whole enc Tryz.prog Tryz.f4.params.toList Rows.sigSignsSpec.vars false W args.toList ds gs before) (hk : Rows.uptoSmall H (ds ++ gs) = true) :
    Calls Tryz.prog 4 args W fun e W' => ∃ v, e = .returned v ∧ Rows.sigSignsSpec.post enc Tryz.prog Tryz.f4 false true false false W args v W' := by
  have hW' := hW
  obtain ⟨p, q, hA0, hV, rfl, hfz, hnd⟩ := hW
  have hA : DataW.TrodAll enc Tryz.prog W 0 (fun _ => true) true Tryz.f4.params.toList args.toList ds p := hA0
  rw [Tryz.params4] at hA hval
  obtain ⟨v0, vs0, d0, ds0, p0, q0, hargs, rfl, rfl, h0, r0⟩ := trodAll_cons hA
  obtain ⟨v1, vs1, d1, ds1, p1, q1, rfl, rfl, rfl, h1, r1⟩ := trodAll_cons r0
  obtain ⟨v2, vs2, d2, ds2, p2, q2, rfl, rfl, rfl, h2, r2⟩ := trodAll_cons r1
  obtain ⟨v3, vs3, d3, ds3, p3, q3, rfl, rfl, rfl, h3, r3⟩ := trodAll_cons r2
  obtain ⟨v4, vs4, d4, ds4, p4, q4, rfl, rfl, rfl, h4, r4⟩ := trodAll_cons r3
  obtain ⟨v5, vs5, d5, ds5, p5, q5, rfl, rfl, rfl, h5, r5⟩ := trodAll_cons r4
  obtain ⟨v6, vs6, d6, ds6, p6, q6, rfl, rfl, rfl, h6, r6⟩ := trodAll_cons r5
  obtain ⟨rfl, rfl, rfl⟩ := trodAll_nil r6
  obtain rfl : args = #[v0, v1, v2, v3, v4, v5, v6] := by cases args; simp_all
  obtain ⟨rfl, rfl⟩ := trodVars_none hV
  obtain ⟨l0, e0, rfl, g0⟩ := arg_str Tryz.underlying9 (hval 0 9 v0 rfl rfl) h0
  obtain ⟨l1, e1, rfl, g1⟩ := arg_str Tryz.underlying9 (hval 1 9 v1 rfl rfl) h1
  obtain ⟨l2, e2, rfl, g2⟩ := arg_str Tryz.underlying9 (hval 2 9 v2 rfl rfl) h2
  obtain ⟨l3, g3, e3⟩ := arg_bytes Tryz.underlying23 Tryz.underlying5 (by kernel_rfl) (hval 3 23 v3 rfl rfl) h3
  obtain ⟨l4, e4, rfl, g4⟩ := arg_str Tryz.underlying9 (hval 4 9 v4 rfl rfl) h4
  obtain ⟨l5, e5, rfl, g5⟩ := arg_str Tryz.underlying9 (hval 5 9 v5 rfl rfl) h5
  obtain ⟨l6, e6, rfl, g6⟩ := arg_str Tryz.underlying9 (hval 6 9 v6 rfl rfl) h6
  have hb := of_decide_eq_true hk
  simp only [List.append_nil, Rows.uptoBulkAll] at hb
  have hl0 : l0.length ≤ 1048576 := by (try simp only [Rows.uptoBulk] at hb); omega
  have hl1 : l1.length ≤ 1048576 := by (try simp only [Rows.uptoBulk] at hb); omega
  have hl2 : l2.length ≤ 1048576 := by (try simp only [Rows.uptoBulk] at hb); omega
  have hl3 : l3.length ≤ 1048576 := by
    rcases e3 with ⟨rfl, rfl⟩ | ⟨es, sp, rfl, e3⟩
    · simp
    · have := length_le es
      simp only [Rows.uptoBulk] at hb; omega
  have hl4 : l4.length ≤ 1048576 := by (try simp only [Rows.uptoBulk] at hb); omega
  have hl5 : l5.length ≤ 1048576 := by (try simp only [Rows.uptoBulk] at hb); omega
  have hl6 : l6.length ≤ 1048576 := by (try simp only [Rows.uptoBulk] at hb); omega
  refine ((sigSigns_ok l0 l1 l2 l3 l4 l5 l6 hl0 hl1 hl2 hl3 hl4 hl5 hl6).law W (fun _ _ h => by cases h) [v0, v1, v2, v3, v4, v5, v6] rfl (fun i c v k1 k2 => ?_)).mono fun e W' ⟨he, hg⟩ => ?_
  · match i, k1, k2 with
    | 0, k1, k2 => simp at k1 k2; subst k1; subst k2; exact ⟨g0, rfl⟩
    | 1, k1, k2 => simp at k1 k2; subst k1; subst k2; exact ⟨g1, rfl⟩
    | 2, k1, k2 => simp at k1 k2; subst k1; subst k2; exact ⟨g2, rfl⟩
    | 3, k1, k2 => simp at k1 k2; subst k1; subst k2; exact ⟨g3, rfl⟩
    | 4, k1, k2 => simp at k1 k2; subst k1; subst k2; exact ⟨g4, rfl⟩
    | 5, k1, k2 => simp at k1 k2; subst k1; subst k2; exact ⟨g5, rfl⟩
    | 6, k1, k2 => simp at k1 k2; subst k1; subst k2; exact ⟨g6, rfl⟩
    | i + 7, k1, _ => simp at k1
  subst he
  exact ⟨_, rfl, post_law (by kernel_rfl) hW' rfl rfl rfl Tryz.underlying4 (by kernel_rfl) hg⟩
set_option maxRecDepth 100000 in
theorem lifted (os : Os) (started : os.Started) (H : Type) (enc : TypeId × Value → H) (F : Stop.Interp) :
    ReturnsInHanded {} Tryz.checked os 4 .any ((Rows.OpenSpec.upto Rows.sigSignsSpec).pre6 enc Tryz.prog Tryz.f4 Rows.sigSignsUptoRow.domain false) (((Rows.OpenSpec.upto Rows.sigSignsSpec).at F).post enc Tryz.prog Tryz.f4 false true false false) := by
  refine returnsInHanded_of_cond (C := Tryz.checked) (s := Rows.OpenSpec.upto Rows.sigSignsSpec) (k := Rows.uptoSmall) rfl own started (by kernel_rfl) Tryz.func4
    (OpenSpec.witness (enc := enc) (C := Tryz.checked) (s := Rows.OpenSpec.upto Rows.sigSignsSpec) (k := Rows.uptoSmall) rfl false ⟨#[], #[.string ⟨#[]⟩, .string ⟨#[]⟩, .string ⟨#[]⟩, .slice none 0 0, .string ⟨#[]⟩, .string ⟨#[]⟩, .string ⟨#[]⟩], []⟩ 8 (by kernel_rfl) (by kernel_rfl) (by kernel_rfl)
      (x := ([.lit (.string []), .lit (.string []), .lit (.string []), .nil, .lit (.string []), .lit (.string []), .lit (.string [])], [], [])) (by kernel_rfl) rfl (by kernel_rfl)) ?_
  intro W base args ds gs before hval hW _ hk _
  exact contract H enc W base args ds gs before hval hW hk
theorem over : Rows.sigSignsUptoRow.holds Tryz.pinned (Rows.OpenSpec.upto Rows.sigSignsSpec) :=
  OpenClaim.holds_of_cond 4 Tryz.f4 rfl rfl rfl rfl rfl rfl rfl ⟨rfl, rfl, rfl, rfl, rfl⟩ rfl rfl rfl rfl rfl (by kernel_rfl) Tryz.func4 (by kernel_rfl)
    (of_decide_eq_true (by kernel_rfl)) (by unfold Func.isWrapper; first | (rw [if_pos (by decide +kernel)]; kernel_rfl) | (rw [if_neg (by decide +kernel)]; exact ⟨rfl, rfl⟩))
    (fun os started H enc _ F => lifted os started H enc F)
theorem proved : Rows.SigSignsUptoSaid := over
end Go.Proofs.YtnohmijdpmelpaaGreat.sigSigns
