/- contracts. -/
import Derived.Test.YtfkpdfpnpcdhaaaG3
set_option maxRecDepth 100000
set_option linter.unusedVariables false
set_option linter.unusedSimpArgs false
set_option linter.unusedSectionVars false
namespace Go.Proofs.LP
open Go Go.Am Go.Proofs
variable [MM]
abbrev uL (l : List (List UInt8)) : List (List UInt8) := unlL (risL l)
abbrev fL (l : List (List UInt8)) (p d : List UInt8) : List Ti := fullL (uL l) p d []
theorem uL_ok (l : List (List UInt8)) : Unl (risL l) (uL l) := unl_all (ris_sor l)
theorem uL_len (l : List (List UInt8)) : (uL l).length ≤ l.length := by have := (uL_ok l).len; rwa [risL_len] at this
theorem uL_small {l : List (List UInt8)} (hs : ∀ x, x ∈ l → x.length ≤ 1048576) : ∀ x, x ∈ uL l → x.length ≤ 1048576 := fun x hx => ris_small hs x ((uL_ok l).mem x hx)
theorem fL_len (l : List (List UInt8)) (p d : List UInt8) : (fL l p d).length ≤ l.length := by
  have := uptoL_len (uL l) p d [] (uL l).length
  have := uL_len l
  unfold fL fullL; omega
theorem fL_strict (l : List (List UInt8)) (p d : List UInt8) : (fL l p d).Pairwise fun x y => Lt x.nm y.nm := by
  unfold fL
  rw [full_R p d (uL l) [] (sor_lt (uL_ok l).lt)]
  exact strict_R p d (uL l) [] (uL_ok l).lt (Nat.le_refl _)
/-- the name behind which one goes on -/
def mkM (F : List Ti) (c : Nat) : List UInt8 := if c = 0 then [] else (F.getD (c - 1) ⟨[], false, 0⟩).nm
theorem full_at (l : List (List UInt8)) (p d : List UInt8) {c : Nat} (hc : c ≤ (fL l p d).length) : fullL (uL l) p d (mkM (fL l p d) c) = (fL l p d).drop c := by
  unfold mkM
  by_cases h : c = 0
  · subst h; rfl
  · rw [if_neg h, full_markers p d (uL l) _ (sor_lt (uL_ok l).lt)]
    exact filter_drop (fL_strict l p d) (by omega) hc
theorem page_at (l : List (List UInt8)) (p d : List UInt8) (hl : l.length ≤ 60) (hs : ∀ x, x ∈ l → x.length ≤ 1048576) {c : Nat} (hc : c ≤ (fL l p d).length) (sz : Int) (h1 : 1 ≤ sz) :
    FnOK Try.prog 33 [.sl 1 (uL l).length (strEl (uL l)) false, .agg [.str p, .str d, .str (mkM (fL l p d) c), .str [], .str [], .str [], .int .i64 sz, .int .i64 0]] []
      (.tup [.sl 22 (((fL l p d).drop c).take sz.toNat).length (tiEl (((fL l p d).drop c).take sz.toNat)) false, .bool (decide (sz.toNat < ((fL l p d).drop c).length))]) [] := by
  have h := page_ok (uL l) p d (mkM (fL l p d) c) [] [] [] sz 0 (by have := uL_len l; omega) (fun x hx => by have := uL_small hs x hx; omega)
  have e1 : pgLL (uL l) p d (mkM (fL l p d) c) sz = ((fL l p d).drop c).take sz.toNat := by unfold pgLL; rw [if_neg (by omega), full_at l p d hc]
  have e2 : pgML (uL l) p d (mkM (fL l p d) c) sz = decide (sz.toNat < ((fL l p d).drop c).length) := by unfold pgML; rw [if_neg (by omega), full_at l p d hc]
  rw [e1, e2] at h
  exact h
theorem ti_app (X Y : List Ti) (o : Bool) : Imp (.sl 22 (X.length + Y.length) (apEl X.length (tiEl X) (tiEl Y)) o) (.sl 22 (X ++ Y).length (tiEl (X ++ Y)) o) := by
  refine Imp.slEq (by simp) fun i hi => ?_
  rcases Nat.lt_or_ge i X.length with h | h
  · rw [apEl_lt h]
    simp [tiEl, List.getD_eq_getElem?_getD, List.getElem?_append_left h]
  · rw [apEl_ge h]
    simp [tiEl, List.getD_eq_getElem?_getD, List.getElem?_append_right h]
theorem ti_app2 (F : List Ti) (c s : Nat) (o : Bool) : Imp (.sl 22 ((F.take c).length + ((F.drop c).take s).length) (apEl (F.take c).length (tiEl (F.take c)) (tiEl ((F.drop c).take s))) o) (.sl 22 (F.take (c + s)).length (tiEl (F.take (c + s))) o) := by
  have := ti_app (F.take c) ((F.drop c).take s) o
  rwa [← List.take_add] at this
theorem strs_app (out : List (List UInt8)) (x : List UInt8) (o : Bool) : Imp (.sl 1 (out.length + 1) (apEl out.length (strEl out) (elOf false 1 [.str x])) o) (.sl 1 (out ++ [x]).length (strEl (out ++ [x])) o) := by
  refine Imp.slEq (by simp) fun i hi => ?_
  rcases Nat.lt_or_ge i out.length with h | h
  · rw [apEl_lt h]
    simp [strEl, List.getD_eq_getElem?_getD, List.getElem?_append_left h]
  · have : i = out.length := by omega
    subst this
    rw [apEl_ge (Nat.le_refl _)]
    simp [strEl, elOf]
theorem key_ne (p d : List UInt8) {n : List UInt8} (h : n ≠ []) : ¬ Le (key p d n) [] := by
  intro e
  have e' := le_as e (sleL_nil _)
  unfold key at e'
  split at e'
  · rename_i c
    have := (group_pre c).2 [] (by rw [e']; exact List.prefix_refl _)
    rw [e'] at this
    have h2 : (groupF [] p d).2 = true := by rw [this]
    unfold groupF at h2
    split at h2
    · rename_i hc
      obtain ⟨_, hd, hi⟩ := hc
      rw [List.drop_nil] at hi
      unfold Lib.index at hi
      cases d with
      | nil => exact hd rfl
      | cons _ _ => simp at hi
    · cases h2
  · exact h e'
theorem cov1 (l : List (List UInt8)) (p d : List UInt8) (t : Nat) (ht : t < (uL l).length) (hp : Lib.hasPrefix ((uL l).getD t []) p = true) : inB (uL l) (fL l p d) p d t (fL l p d).length = true := by
  have hne : (uL l).getD t [] ≠ [] := (uL_ok l).ne _ (by rw [List.getD_eq_getElem?_getD, List.getElem?_eq_getElem ht]; exact List.getElem_mem _)
  obtain ⟨x, x1, x2, x3⟩ := (has_R p d (uL l) [] (k := (uL l).length)).2 t ht hp (key_ne p d hne)
  unfold inB
  rw [List.take_of_length_le (Nat.le_refl _), List.any_eq_true]
  refine ⟨x, ?_, ?_⟩
  · unfold fL; rw [full_R p d (uL l) [] (sor_lt (uL_ok l).lt)]; exact x1
  · unfold matB; rw [x2, x3]; simp
theorem cov2 (l : List (List UInt8)) (p d : List UInt8) (x : Ti) (hx : x ∈ fL l p d) : atB (uL l) p d (uL l).length x = true := by
  unfold fL at hx
  rw [full_R p d (uL l) [] (sor_lt (uL_ok l).lt)] at hx
  obtain ⟨t, t1, t2, t3, t4⟩ := (has_R p d (uL l) [] (k := (uL l).length)).1 x hx
  unfold atB
  rw [List.any_eq_true]
  exact ⟨t, List.mem_range.2 t1, by unfold matB; rw [t2, t3, t4]; simp⟩
theorem pg_len {F : List Ti} {c : Nat} {sz : Int} (h1 : 1 ≤ sz) (h2 : sz.toNat < (F.drop c).length) : ((((F.drop c).take sz.toNat).length : Nat) : Int) = sz := by
  rw [List.length_take, Nat.min_eq_left (Nat.le_of_lt h2)]; omega
theorem ord_at (l : List (List UInt8)) (p d : List UInt8) {i : Nat} (h : i + 1 < (fL l p d).length) : sleL ((fL l p d).getD (i + 1) ⟨[], false, 0⟩).nm ((fL l p d).getD i ⟨[], false, 0⟩).nm = false := by
  have := List.pairwise_iff_getElem.1 (fL_strict l p d) i (i + 1) (by omega) h (by omega)
  rw [List.getD_eq_getElem?_getD, List.getElem?_eq_getElem h, List.getD_eq_getElem?_getD, List.getElem?_eq_getElem (show i < (fL l p d).length by omega)]
  exact Bool.eq_false_iff.2 fun h' => this.2 (le_as this.1 h')
theorem last_at {F : List Ti} {c s : Nat} (h1 : 1 ≤ s) (h2 : s < (F.drop c).length) : (((F.drop c).take s).getD (s - 1) ⟨[], false, 0⟩).nm = mkM F (c + s) := by
  rw [List.length_drop] at h2
  unfold mkM
  rw [if_neg (by omega), List.getD_eq_getElem?_getD, List.getElem?_take, if_pos (by omega), List.getElem?_drop, List.getD_eq_getElem?_getD, show c + (s - 1) = c + s - 1 by omega]
theorem last_ix {u : List (List UInt8)} (h : u ≠ []) (hl : u.length ≤ 1048576) : u.getLast? = some (u.getD (IntKind.i64.wrap ((u.length : Int) - 1)).toNat []) := by
  have h1 := List.length_pos_iff.2 h
  have e : (IntKind.i64.wrap ((u.length : Int) - 1)).toNat = u.length - 1 := by rw [IntKind.wrap_i64]; omega
  rw [e, List.getLast?_eq_getElem?, List.getD_eq_getElem?_getD, List.getElem?_eq_getElem (show u.length - 1 < u.length by omega)]; rfl
theorem unl_take (R : List (List UInt8)) (i : Nat) (h : i < R.length) : unlL (R.take (i + 1)) = unlS (unlL (R.take i)) (R.getD i []) := by
  rw [← unlL_snoc]; congr 1
  rw [List.take_add_one, List.getD_eq_getElem?_getD, List.getElem?_eq_getElem h]; rfl

set_option maxHeartbeats 2000000 in
theorem listAll_ok (l : List (List UInt8)) (p d : List UInt8) (sz : Int) (hl : l.length ≤ 1048576) (hs : ∀ x, x ∈ l → x.length ≤ 1048576) (hz : sz < 9223372036854775808) : FnOK Try.prog 9 [.sl 1 l.length (strEl l) false, .str p, .str d, .int .i64 sz] [] (.bool true) [] := by
  refine FnOK.of_runs Try.func9 rfl (Nat.le_of_ble_eq_true rfl) ?_
  refine Runs.seq ?_
  refine Runs.reg [] [] rfl (by (try simp only [wrap_i64', wrap_u8, wrap_u16, wrap_u32, wrap_u64, wrap_i32, List.length_cons, List.length_nil, List.length_append, List.length_map, tmodN, tdivN]); and_intros <;> first | exact True.intro | omega | skip) ?_
  refine Runs.seq ?_
  refine Runs.seq ?_
  refine Runs.region ?_
  refine Runs.restTo 4 [] [0, 4] rfl (by (try simp only [wrap_i64', wrap_u8, wrap_u16, wrap_u32, wrap_u64, wrap_i32, List.length_cons, List.length_nil, List.length_append, List.length_map, tmodN, tdivN]); and_intros <;> first | exact True.intro | omega | skip) ?_
  refine Runs.splitS 23 rfl (fun g23 => ?_) (fun g23 => ?_)
  · try simp only [decide_eq_true_eq, decide_eq_false_iff_not, notT, notF, beq_iff_eq, beq_eq_false_iff_ne, bne_iff_ne, bne_eq_false_iff_eq, tmodN, tdivN, Int.not_lt, Int.not_le] at g23
    refine Runs.rest [] [0, 4] rfl (by (try simp only [wrap_i64', wrap_u8, wrap_u16, wrap_u32, wrap_u64, wrap_i32, List.length_cons, List.length_nil, List.length_append, List.length_map, tmodN, tdivN]); and_intros <;> first | exact True.intro | omega | skip) ?_
    refine Runs.condT rfl ?_
    refine Runs.seq ?_
    refine Runs.reg [(0, { res := .bool true })] [] rfl (by and_intros <;> first | exact True.intro | exact awake23_ok) ?_
    exact Runs.retH Try.func9 rfl rfl (by rfl) (by rfl)
  · try simp only [decide_eq_true_eq, decide_eq_false_iff_not, notT, notF, beq_iff_eq, beq_eq_false_iff_ne, bne_iff_ne, bne_eq_false_iff_eq, tmodN, tdivN, Int.not_lt, Int.not_le] at g23
    refine Runs.rest [] [0, 4] rfl (by (try simp only [wrap_i64', wrap_u8, wrap_u16, wrap_u32, wrap_u64, wrap_i32, List.length_cons, List.length_nil, List.length_append, List.length_map, tmodN, tdivN]); and_intros <;> first | exact True.intro | omega | skip) ?_
    refine Runs.condS rfl (fun g26 => ?_) (fun g26 => ?_)
    · try simp only [decide_eq_true_eq, decide_eq_false_iff_not, notT, notF, beq_iff_eq, beq_eq_false_iff_ne, bne_iff_ne, bne_eq_false_iff_eq, tmodN, tdivN, Int.not_lt, Int.not_le] at g26
      refine Runs.seq ?_
      refine Runs.reg [(0, { res := .bool true })] [] rfl (by and_intros <;> first | exact True.intro | exact awake23_ok) ?_
      exact Runs.retH Try.func9 rfl rfl (by rfl) (by rfl)
    · try simp only [decide_eq_true_eq, decide_eq_false_iff_not, notT, notF, beq_iff_eq, beq_eq_false_iff_ne, bne_iff_ne, bne_eq_false_iff_eq, tmodN, tdivN, Int.not_lt, Int.not_le] at g26
      refine Runs.skip ?_
      refine Runs.seq ?_
      refine Runs.reg [(1, { res := .sl 1 (risL l).length (strEl (risL l)) false })] [0] rfl (by and_intros <;> first | exact True.intro | exact rising_ok l hl) ?_
      refine Runs.seq ?_
      refine Runs.reg [] [] rfl (by (try simp only [wrap_i64', wrap_u8, wrap_u16, wrap_u32, wrap_u64, wrap_i32, List.length_cons, List.length_nil, List.length_append, List.length_map, tmodN, tdivN]); and_intros <;> first | exact True.intro | omega | skip) ?_
      refine Runs.seq ?_
      refine Runs.seq ?_
      refine Runs.reg [] [] rfl (by (try simp only [wrap_i64', wrap_u8, wrap_u16, wrap_u32, wrap_u64, wrap_i32, List.length_cons, List.length_nil, List.length_append, List.length_map, tmodN, tdivN]); and_intros <;> first | exact True.intro | omega | skip) ?_
      refine Runs.block ?_
      -- loop 0
      refine Runs.loopF (σ := Nat) (fun i => i ≤ (risL l).length) (fun i => [(1, .str p), (2, .str d), (3, .int .i64 sz), (9, .sl 1 (risL l).length (strEl (risL l)) false), (10, .sl 1 (unlL ((risL l).take i)).length (strEl (unlL ((risL l).take i))) true), (11, .int .i64 i)]) (fun _ => []) (fun i => (risL l).length - i) (0) (by first | exact True.intro | omega) (by exact agree_cons rfl (by first | with_reducible rfl | (refine congrArg (AV.int _) ?_; (try simp only [wrap_i64', wrap_u8, wrap_u16, wrap_u32, wrap_u64, wrap_i32, List.length_cons, List.length_nil, List.length_append, List.length_map, tmodN, tdivN]); omega) | rfl | skip) (agree_cons rfl (by first | with_reducible rfl | (refine congrArg (AV.int _) ?_; (try simp only [wrap_i64', wrap_u8, wrap_u16, wrap_u32, wrap_u64, wrap_i32, List.length_cons, List.length_nil, List.length_append, List.length_map, tmodN, tdivN]); omega) | rfl | skip) (agree_cons rfl (by first | with_reducible rfl | (refine congrArg (AV.int _) ?_; (try simp only [wrap_i64', wrap_u8, wrap_u16, wrap_u32, wrap_u64, wrap_i32, List.length_cons, List.length_nil, List.length_append, List.length_map, tmodN, tdivN]); omega) | rfl | skip) (agree_cons rfl (by first | with_reducible rfl | (refine congrArg (AV.int _) ?_; (try simp only [wrap_i64', wrap_u8, wrap_u16, wrap_u32, wrap_u64, wrap_i32, List.length_cons, List.length_nil, List.length_append, List.length_map, tmodN, tdivN]); omega) | rfl | skip) (agree_imp rfl (by exact Imp.slEq rfl (fun i hi => absurd hi (Nat.not_lt_zero _))) rfl rfl (agree_cons rfl (by first | with_reducible rfl | (refine congrArg (AV.int _) ?_; (try simp only [wrap_i64', wrap_u8, wrap_u16, wrap_u32, wrap_u64, wrap_i32, List.length_cons, List.length_nil, List.length_append, List.length_map, tmodN, tdivN]); omega) | rfl | skip) (trivial))))))) (by rfl) (fun i hi ih => ?_)
      have hr := risL_len l; have hul : (unlL ((risL l).take i)).length ≤ i := (by have := (unl_of (ris_sor l) i hi).len; rw [List.length_take] at this; omega)
      refine Runs.seq ?_
      refine Runs.seq ?_
      refine Runs.reg [] [0, 1] rfl (by (try simp only [wrap_i64', wrap_u8, wrap_u16, wrap_u32, wrap_u64, wrap_i32, List.length_cons, List.length_nil, List.length_append, List.length_map, tmodN, tdivN]); and_intros <;> first | exact True.intro | omega | skip) ?_
      refine Runs.condS rfl (fun g33 => ?_) (fun g33 => ?_)
      · try simp only [decide_eq_true_eq, decide_eq_false_iff_not, notT, notF, beq_iff_eq, beq_eq_false_iff_ne, bne_iff_ne, bne_eq_false_iff_eq, tmodN, tdivN, Int.not_lt, Int.not_le] at g33
        refine Runs.skip ?_
        refine Runs.seq ?_
        refine Runs.block ?_
        refine Runs.seq ?_
        rcases (show (risL l).getD i [] = [] ∨ ((risL l).getD i [] ≠ [] ∧ (unlL ((risL l).take i)) = []) ∨ ((risL l).getD i [] ≠ [] ∧ (unlL ((risL l).take i)) ≠ []) by (by_cases c1 : (risL l).getD i [] = []; exact .inl c1; by_cases c2 : (unlL ((risL l).take i)) = []; exact .inr (.inl ⟨c1, c2⟩); exact .inr (.inr ⟨c1, c2⟩))) with c1 | ⟨c1, c2⟩ | ⟨c1, c2⟩
        · skip
          have hun : unlL ((risL l).take (i + 1)) = (unlL ((risL l).take i)) := by (rw [unl_take _ _ (by omega), unlS, if_neg (fun h => h.1 c1)])
          refine Runs.regD [(4, { res := .bool false })] [0, 1, 6, 10, 11, 16, 17] rfl rfl rfl (by and_intros <;> first | exact True.intro | omega | exact congrArg AV.bool (by rw [Int.toNat_natCast, c1]; rfl)) ?_
          refine Runs.condF rfl ?_
          refine Runs.skip ?_
          refine Runs.inBlock ?_
          refine Runs.reg [] [] rfl (by (try simp only [wrap_i64', wrap_u8, wrap_u16, wrap_u32, wrap_u64, wrap_i32, List.length_cons, List.length_nil, List.length_append, List.length_map, tmodN, tdivN]); and_intros <;> first | exact True.intro | omega | skip) ?_
          exact ih (i + 1) _ _ (by first | exact True.intro | omega) (by omega) (by exact agree_cons rfl (by first | with_reducible rfl | (refine congrArg (AV.int _) ?_; (try simp only [wrap_i64', wrap_u8, wrap_u16, wrap_u32, wrap_u64, wrap_i32, List.length_cons, List.length_nil, List.length_append, List.length_map, tmodN, tdivN]); omega) | rfl | skip) (agree_cons rfl (by first | with_reducible rfl | (refine congrArg (AV.int _) ?_; (try simp only [wrap_i64', wrap_u8, wrap_u16, wrap_u32, wrap_u64, wrap_i32, List.length_cons, List.length_nil, List.length_append, List.length_map, tmodN, tdivN]); omega) | rfl | skip) (agree_cons rfl (by first | with_reducible rfl | (refine congrArg (AV.int _) ?_; (try simp only [wrap_i64', wrap_u8, wrap_u16, wrap_u32, wrap_u64, wrap_i32, List.length_cons, List.length_nil, List.length_append, List.length_map, tmodN, tdivN]); omega) | rfl | skip) (agree_cons rfl (by first | with_reducible rfl | (refine congrArg (AV.int _) ?_; (try simp only [wrap_i64', wrap_u8, wrap_u16, wrap_u32, wrap_u64, wrap_i32, List.length_cons, List.length_nil, List.length_append, List.length_map, tmodN, tdivN]); omega) | rfl | skip) (agree_imp rfl (by rw [hun]; first | exact strs_app _ _ true | exact Imp.refl _) rfl rfl (agree_cons rfl (by first | with_reducible rfl | (refine congrArg (AV.int _) ?_; (try simp only [wrap_i64', wrap_u8, wrap_u16, wrap_u32, wrap_u64, wrap_i32, List.length_cons, List.length_nil, List.length_append, List.length_map, tmodN, tdivN]); omega) | rfl | skip) (trivial))))))) (by rfl)
        · skip
          have hun : unlL ((risL l).take (i + 1)) = (unlL ((risL l).take i)) ++ [(risL l).getD i []] := by (rw [unl_take _ _ (by omega), unlS, if_pos ⟨c1, by rw [c2]; simp⟩])
          refine Runs.regD [(4, { res := .bool true }), (8, { res := .bool true })] [0, 1, 6, 10, 11, 16, 17] rfl rfl rfl (by and_intros <;> first | exact True.intro | omega | exact congrArg AV.bool (by rw [Int.toNat_natCast]; simpa using c1) | (rw [c2]; rfl)) ?_
          refine Runs.condT rfl ?_
          refine Runs.reg [] [1, 2] rfl (by (try simp only [wrap_i64', wrap_u8, wrap_u16, wrap_u32, wrap_u64, wrap_i32, List.length_cons, List.length_nil, List.length_append, List.length_map, tmodN, tdivN]); and_intros <;> first | exact True.intro | omega | skip) ?_
          refine Runs.inBlock ?_
          refine Runs.reg [] [] rfl (by (try simp only [wrap_i64', wrap_u8, wrap_u16, wrap_u32, wrap_u64, wrap_i32, List.length_cons, List.length_nil, List.length_append, List.length_map, tmodN, tdivN]); and_intros <;> first | exact True.intro | omega | skip) ?_
          exact ih (i + 1) _ _ (by first | exact True.intro | omega) (by omega) (by exact agree_cons rfl (by first | with_reducible rfl | (refine congrArg (AV.int _) ?_; (try simp only [wrap_i64', wrap_u8, wrap_u16, wrap_u32, wrap_u64, wrap_i32, List.length_cons, List.length_nil, List.length_append, List.length_map, tmodN, tdivN]); omega) | rfl | skip) (agree_cons rfl (by first | with_reducible rfl | (refine congrArg (AV.int _) ?_; (try simp only [wrap_i64', wrap_u8, wrap_u16, wrap_u32, wrap_u64, wrap_i32, List.length_cons, List.length_nil, List.length_append, List.length_map, tmodN, tdivN]); omega) | rfl | skip) (agree_cons rfl (by first | with_reducible rfl | (refine congrArg (AV.int _) ?_; (try simp only [wrap_i64', wrap_u8, wrap_u16, wrap_u32, wrap_u64, wrap_i32, List.length_cons, List.length_nil, List.length_append, List.length_map, tmodN, tdivN]); omega) | rfl | skip) (agree_cons rfl (by first | with_reducible rfl | (refine congrArg (AV.int _) ?_; (try simp only [wrap_i64', wrap_u8, wrap_u16, wrap_u32, wrap_u64, wrap_i32, List.length_cons, List.length_nil, List.length_append, List.length_map, tmodN, tdivN]); omega) | rfl | skip) (agree_imp rfl (by rw [hun]; first | exact strs_app _ _ true | exact Imp.refl _) rfl rfl (agree_cons rfl (by first | with_reducible rfl | (refine congrArg (AV.int _) ?_; (try simp only [wrap_i64', wrap_u8, wrap_u16, wrap_u32, wrap_u64, wrap_i32, List.length_cons, List.length_nil, List.length_append, List.length_map, tmodN, tdivN]); omega) | rfl | skip) (trivial))))))) (by rfl)
        · skip
          refine Runs.regD [(4, { res := .bool true }), (8, { res := .bool false })] [0, 1, 6, 10, 11, 16, 17] rfl rfl rfl (by and_intros <;> first | exact True.intro | omega | exact congrArg AV.bool (by rw [Int.toNat_natCast]; simpa using c1) | exact congrArg AV.bool (beq_eq_false_iff_ne.2 (by have := List.length_pos_iff.2 c2; omega)) | (rw [IntKind.wrap_i64]; have := List.length_pos_iff.2 c2; omega)) ?_
          refine Runs.condS rfl (fun g58 => ?_) (fun g58 => ?_)
          · try simp only [decide_eq_true_eq, decide_eq_false_iff_not, notT, notF, beq_iff_eq, beq_eq_false_iff_ne, bne_iff_ne, bne_eq_false_iff_eq, tmodN, tdivN, Int.not_lt, Int.not_le] at g58
            have hun : unlL ((risL l).take (i + 1)) = (unlL ((risL l).take i)) ++ [(risL l).getD i []] := by (rw [unl_take _ _ (by omega), unlS, if_pos ⟨c1, fun h => g58 (Option.some.inj ((last_ix c2 (by omega)).symm.trans h))⟩])
            refine Runs.reg [] [1, 2] rfl (by (try simp only [wrap_i64', wrap_u8, wrap_u16, wrap_u32, wrap_u64, wrap_i32, List.length_cons, List.length_nil, List.length_append, List.length_map, tmodN, tdivN]); and_intros <;> first | exact True.intro | omega | skip) ?_
            refine Runs.inBlock ?_
            refine Runs.reg [] [] rfl (by (try simp only [wrap_i64', wrap_u8, wrap_u16, wrap_u32, wrap_u64, wrap_i32, List.length_cons, List.length_nil, List.length_append, List.length_map, tmodN, tdivN]); and_intros <;> first | exact True.intro | omega | skip) ?_
            exact ih (i + 1) _ _ (by first | exact True.intro | omega) (by omega) (by exact agree_cons rfl (by first | with_reducible rfl | (refine congrArg (AV.int _) ?_; (try simp only [wrap_i64', wrap_u8, wrap_u16, wrap_u32, wrap_u64, wrap_i32, List.length_cons, List.length_nil, List.length_append, List.length_map, tmodN, tdivN]); omega) | rfl | skip) (agree_cons rfl (by first | with_reducible rfl | (refine congrArg (AV.int _) ?_; (try simp only [wrap_i64', wrap_u8, wrap_u16, wrap_u32, wrap_u64, wrap_i32, List.length_cons, List.length_nil, List.length_append, List.length_map, tmodN, tdivN]); omega) | rfl | skip) (agree_cons rfl (by first | with_reducible rfl | (refine congrArg (AV.int _) ?_; (try simp only [wrap_i64', wrap_u8, wrap_u16, wrap_u32, wrap_u64, wrap_i32, List.length_cons, List.length_nil, List.length_append, List.length_map, tmodN, tdivN]); omega) | rfl | skip) (agree_cons rfl (by first | with_reducible rfl | (refine congrArg (AV.int _) ?_; (try simp only [wrap_i64', wrap_u8, wrap_u16, wrap_u32, wrap_u64, wrap_i32, List.length_cons, List.length_nil, List.length_append, List.length_map, tmodN, tdivN]); omega) | rfl | skip) (agree_imp rfl (by rw [hun]; first | exact strs_app _ _ true | exact Imp.refl _) rfl rfl (agree_cons rfl (by first | with_reducible rfl | (refine congrArg (AV.int _) ?_; (try simp only [wrap_i64', wrap_u8, wrap_u16, wrap_u32, wrap_u64, wrap_i32, List.length_cons, List.length_nil, List.length_append, List.length_map, tmodN, tdivN]); omega) | rfl | skip) (trivial))))))) (by rfl)
          · try simp only [decide_eq_true_eq, decide_eq_false_iff_not, notT, notF, beq_iff_eq, beq_eq_false_iff_ne, bne_iff_ne, bne_eq_false_iff_eq, tmodN, tdivN, Int.not_lt, Int.not_le] at g58
            have hun : unlL ((risL l).take (i + 1)) = (unlL ((risL l).take i)) := by (rw [unl_take _ _ (by omega), unlS, if_neg (fun h => h.2 ((last_ix c2 (by omega)).trans (congrArg some g58)))])
            refine Runs.skip ?_
            refine Runs.inBlock ?_
            refine Runs.reg [] [] rfl (by (try simp only [wrap_i64', wrap_u8, wrap_u16, wrap_u32, wrap_u64, wrap_i32, List.length_cons, List.length_nil, List.length_append, List.length_map, tmodN, tdivN]); and_intros <;> first | exact True.intro | omega | skip) ?_
            exact ih (i + 1) _ _ (by first | exact True.intro | omega) (by omega) (by exact agree_cons rfl (by first | with_reducible rfl | (refine congrArg (AV.int _) ?_; (try simp only [wrap_i64', wrap_u8, wrap_u16, wrap_u32, wrap_u64, wrap_i32, List.length_cons, List.length_nil, List.length_append, List.length_map, tmodN, tdivN]); omega) | rfl | skip) (agree_cons rfl (by first | with_reducible rfl | (refine congrArg (AV.int _) ?_; (try simp only [wrap_i64', wrap_u8, wrap_u16, wrap_u32, wrap_u64, wrap_i32, List.length_cons, List.length_nil, List.length_append, List.length_map, tmodN, tdivN]); omega) | rfl | skip) (agree_cons rfl (by first | with_reducible rfl | (refine congrArg (AV.int _) ?_; (try simp only [wrap_i64', wrap_u8, wrap_u16, wrap_u32, wrap_u64, wrap_i32, List.length_cons, List.length_nil, List.length_append, List.length_map, tmodN, tdivN]); omega) | rfl | skip) (agree_cons rfl (by first | with_reducible rfl | (refine congrArg (AV.int _) ?_; (try simp only [wrap_i64', wrap_u8, wrap_u16, wrap_u32, wrap_u64, wrap_i32, List.length_cons, List.length_nil, List.length_append, List.length_map, tmodN, tdivN]); omega) | rfl | skip) (agree_imp rfl (by rw [hun]; first | exact strs_app _ _ true | exact Imp.refl _) rfl rfl (agree_cons rfl (by first | with_reducible rfl | (refine congrArg (AV.int _) ?_; (try simp only [wrap_i64', wrap_u8, wrap_u16, wrap_u32, wrap_u64, wrap_i32, List.length_cons, List.length_nil, List.length_append, List.length_map, tmodN, tdivN]); omega) | rfl | skip) (trivial))))))) (by rfl)
      · try simp only [decide_eq_true_eq, decide_eq_false_iff_not, notT, notF, beq_iff_eq, beq_eq_false_iff_ne, bne_iff_ne, bne_eq_false_iff_eq, tmodN, tdivN, Int.not_lt, Int.not_le] at g33
        refine Runs.exit rfl ?_
        refine Runs.seq ?_
        obtain rfl : i = (risL l).length := by omega
        rw [List.take_length]
        refine Runs.reg [(4, { res := .tup [.sl 22 (fL l p d).length (tiEl (fL l p d)) false, .bool false] })] [0, 1, 2] rfl (by and_intros <;> first | exact True.intro | decide | exact page_full [] p d [] (uL l) (by have := uL_len l; omega) (uL_small hs)) ?_
        refine Runs.seq ?_
        refine Runs.seq ?_
        refine Runs.reg [] [0] rfl (by (try simp only [wrap_i64', wrap_u8, wrap_u16, wrap_u32, wrap_u64, wrap_i32, List.length_cons, List.length_nil, List.length_append, List.length_map, tmodN, tdivN]); and_intros <;> first | exact True.intro | omega | skip) ?_
        refine Runs.condS rfl (fun g74 => ?_) (fun g74 => ?_)
        · try simp only [decide_eq_true_eq, decide_eq_false_iff_not, notT, notF, beq_iff_eq, beq_eq_false_iff_ne, bne_iff_ne, bne_eq_false_iff_eq, tmodN, tdivN, Int.not_lt, Int.not_le] at g74
          cases g74
        · try simp only [decide_eq_true_eq, decide_eq_false_iff_not, notT, notF, beq_iff_eq, beq_eq_false_iff_ne, bne_iff_ne, bne_eq_false_iff_eq, tmodN, tdivN, Int.not_lt, Int.not_le] at g74
          refine Runs.skip ?_
          refine Runs.seq ?_
          refine Runs.reg [] [] rfl (by (try simp only [wrap_i64', wrap_u8, wrap_u16, wrap_u32, wrap_u64, wrap_i32, List.length_cons, List.length_nil, List.length_append, List.length_map, tmodN, tdivN]); and_intros <;> first | exact True.intro | omega | skip) ?_
          refine Runs.seq ?_
          refine Runs.reg [] [0, 1, 2] rfl (by and_intros <;> first | exact True.intro | exact (Nat.le_refl 8) | omega) ?_
          refine Runs.seq ?_
          refine Runs.seq ?_
          refine Runs.reg [] [] rfl (by (try simp only [wrap_i64', wrap_u8, wrap_u16, wrap_u32, wrap_u64, wrap_i32, List.length_cons, List.length_nil, List.length_append, List.length_map, tmodN, tdivN]); and_intros <;> first | exact True.intro | omega | skip) ?_
          refine Runs.block ?_
          -- loop 1
          refine Runs.loopF (σ := Nat × Nat) (fun s => s.2 ≤ s.1 ∧ s.1 ≤ (fL l p d).length ∧ (s.1 < (fL l p d).length ∨ s.1 = 0)) (fun s => [(1, .str p), (2, .str d), (3, .int .i64 sz), (10, .sl 1 (uL l).length (strEl (uL l)) true), (12, .sl 22 (fL l p d).length (tiEl (fL l p d)) false), (14, .sl 22 ((fL l p d).take s.1).length (tiEl ((fL l p d).take s.1)) true), (15, .ptr 0 0), (16, .int .i64 s.2)]) (fun s => [[.str p, .str d, .str (mkM (fL l p d) s.1), .str [], .str [], .str [], .int .i64 sz, .int .i64 0]]) (fun s => 70 - s.2) ((0, 0)) (by first | exact True.intro | omega) (by exact agree_cons rfl (by first | with_reducible rfl | (refine congrArg (AV.int _) ?_; (try simp only [wrap_i64', wrap_u8, wrap_u16, wrap_u32, wrap_u64, wrap_i32, List.length_cons, List.length_nil, List.length_append, List.length_map, tmodN, tdivN]); omega) | rfl | skip) (agree_cons rfl (by first | with_reducible rfl | (refine congrArg (AV.int _) ?_; (try simp only [wrap_i64', wrap_u8, wrap_u16, wrap_u32, wrap_u64, wrap_i32, List.length_cons, List.length_nil, List.length_append, List.length_map, tmodN, tdivN]); omega) | rfl | skip) (agree_cons rfl (by first | with_reducible rfl | (refine congrArg (AV.int _) ?_; (try simp only [wrap_i64', wrap_u8, wrap_u16, wrap_u32, wrap_u64, wrap_i32, List.length_cons, List.length_nil, List.length_append, List.length_map, tmodN, tdivN]); omega) | rfl | skip) (agree_cons rfl (by first | with_reducible rfl | (refine congrArg (AV.int _) ?_; (try simp only [wrap_i64', wrap_u8, wrap_u16, wrap_u32, wrap_u64, wrap_i32, List.length_cons, List.length_nil, List.length_append, List.length_map, tmodN, tdivN]); omega) | rfl | skip) (agree_cons rfl (by first | with_reducible rfl | (refine congrArg (AV.int _) ?_; (try simp only [wrap_i64', wrap_u8, wrap_u16, wrap_u32, wrap_u64, wrap_i32, List.length_cons, List.length_nil, List.length_append, List.length_map, tmodN, tdivN]); omega) | rfl | skip) (agree_imp rfl (by exact Imp.slEq rfl (fun i hi => absurd hi (Nat.not_lt_zero _))) rfl rfl (agree_cons rfl (by first | with_reducible rfl | (refine congrArg (AV.int _) ?_; (try simp only [wrap_i64', wrap_u8, wrap_u16, wrap_u32, wrap_u64, wrap_i32, List.length_cons, List.length_nil, List.length_append, List.length_map, tmodN, tdivN]); omega) | rfl | skip) (agree_cons rfl (by first | with_reducible rfl | (refine congrArg (AV.int _) ?_; (try simp only [wrap_i64', wrap_u8, wrap_u16, wrap_u32, wrap_u64, wrap_i32, List.length_cons, List.length_nil, List.length_append, List.length_map, tmodN, tdivN]); omega) | rfl | skip) (trivial))))))))) (by rfl) (fun ⟨c, t⟩ hi ih => ?_)
          obtain ⟨hi1, hi2, hi3⟩ := hi; have hF := fL_len l p d; simp only at hi1 hi2 hi3
          refine Runs.seq ?_
          refine Runs.seq ?_
          refine Runs.reg [] [0] rfl (by (try simp only [wrap_i64', wrap_u8, wrap_u16, wrap_u32, wrap_u64, wrap_i32, List.length_cons, List.length_nil, List.length_append, List.length_map, tmodN, tdivN]); and_intros <;> first | exact True.intro | omega | skip) ?_
          refine Runs.condS rfl (fun g80 => ?_) (fun g80 => ?_)
          · try simp only [decide_eq_true_eq, decide_eq_false_iff_not, notT, notF, beq_iff_eq, beq_eq_false_iff_ne, bne_iff_ne, bne_eq_false_iff_eq, tmodN, tdivN, Int.not_lt, Int.not_le] at g80
            refine Runs.skip ?_
            refine Runs.seq ?_
            refine Runs.block ?_
            refine Runs.seq ?_
            refine Runs.reg [(2, { res := .tup [.sl 22 (((fL l p d).drop c).take sz.toNat).length (tiEl (((fL l p d).drop c).take sz.toNat)) false, .bool (decide (sz.toNat < ((fL l p d).drop c).length))] })] [0] rfl (by and_intros <;> first | exact True.intro | omega | exact page_at l p d (by omega) hs (c := c) (by omega) sz (by omega)) ?_
            refine Runs.seq ?_
            refine Runs.reg [] [1] rfl (by and_intros <;> first | exact True.intro | omega | (simp only [List.length_take, List.length_drop]; omega)) ?_
            refine Runs.conv 14 (a := .sl 22 ((fL l p d).take (c + sz.toNat)).length (tiEl ((fL l p d).take (c + sz.toNat))) true) (by exact ti_app2 (fL l p d) c sz.toNat true) (.inr (by intro vs h; cases h)) (by intro vs h; cases h) ?_
            refine Runs.seq ?_
            refine Runs.seq ?_
            refine Runs.reg [] [0] rfl (by (try simp only [wrap_i64', wrap_u8, wrap_u16, wrap_u32, wrap_u64, wrap_i32, List.length_cons, List.length_nil, List.length_append, List.length_map, tmodN, tdivN]); and_intros <;> first | exact True.intro | omega | skip) ?_
            refine Runs.condS rfl (fun g93 => ?_) (fun g93 => ?_)
            · try simp only [decide_eq_true_eq, decide_eq_false_iff_not, notT, notF, beq_iff_eq, beq_eq_false_iff_ne, bne_iff_ne, bne_eq_false_iff_eq, tmodN, tdivN, Int.not_lt, Int.not_le] at g93
              have hall : (fL l p d).take (c + sz.toNat) = (fL l p d) := List.take_of_length_le (by rw [List.length_drop] at g93; omega)
              refine Runs.exit rfl ?_
              refine Runs.seq ?_
              refine Runs.seq ?_
              refine Runs.reg [] [0, 2] rfl (by (try simp only [wrap_i64', wrap_u8, wrap_u16, wrap_u32, wrap_u64, wrap_i32, List.length_cons, List.length_nil, List.length_append, List.length_map, tmodN, tdivN]); and_intros <;> first | exact True.intro | omega | skip) ?_
              refine Runs.condS rfl (fun g110 => ?_) (fun g110 => ?_)
              · try simp only [decide_eq_true_eq, decide_eq_false_iff_not, notT, notF, beq_iff_eq, beq_eq_false_iff_ne, bne_iff_ne, bne_eq_false_iff_eq, tmodN, tdivN, Int.not_lt, Int.not_le] at g110
                exact absurd (by rw [hall]) g110
              · try simp only [decide_eq_true_eq, decide_eq_false_iff_not, notT, notF, beq_iff_eq, beq_eq_false_iff_ne, bne_iff_ne, bne_eq_false_iff_eq, tmodN, tdivN, Int.not_lt, Int.not_le] at g110
                refine Runs.skip ?_
                refine Runs.seq ?_
                refine Runs.seq ?_
                refine Runs.reg [] [] rfl (by (try simp only [wrap_i64', wrap_u8, wrap_u16, wrap_u32, wrap_u64, wrap_i32, List.length_cons, List.length_nil, List.length_append, List.length_map, tmodN, tdivN]); and_intros <;> first | exact True.intro | omega | skip) ?_
                refine Runs.block ?_
                -- loop 2
                refine Runs.drop 0 (Nat.le_refl _) rfl ?_
                refine Runs.loopF (σ := Nat) (fun i => i ≤ (fL l p d).length) (fun i => [(1, .str p), (2, .str d), (3, .int .i64 sz), (10, .sl 1 (uL l).length (strEl (uL l)) true), (12, .sl 22 (fL l p d).length (tiEl (fL l p d)) false), (14, .sl 22 (fL l p d).length (tiEl (fL l p d)) true), (19, .int .i64 i)]) (fun _ => []) (fun i => (fL l p d).length - i) (0) (by first | exact True.intro | omega) (by exact agree_cons rfl (by first | with_reducible rfl | (refine congrArg (AV.int _) ?_; (try simp only [wrap_i64', wrap_u8, wrap_u16, wrap_u32, wrap_u64, wrap_i32, List.length_cons, List.length_nil, List.length_append, List.length_map, tmodN, tdivN]); omega) | rfl | skip) (agree_cons rfl (by first | with_reducible rfl | (refine congrArg (AV.int _) ?_; (try simp only [wrap_i64', wrap_u8, wrap_u16, wrap_u32, wrap_u64, wrap_i32, List.length_cons, List.length_nil, List.length_append, List.length_map, tmodN, tdivN]); omega) | rfl | skip) (agree_cons rfl (by first | with_reducible rfl | (refine congrArg (AV.int _) ?_; (try simp only [wrap_i64', wrap_u8, wrap_u16, wrap_u32, wrap_u64, wrap_i32, List.length_cons, List.length_nil, List.length_append, List.length_map, tmodN, tdivN]); omega) | rfl | skip) (agree_cons rfl (by first | with_reducible rfl | (refine congrArg (AV.int _) ?_; (try simp only [wrap_i64', wrap_u8, wrap_u16, wrap_u32, wrap_u64, wrap_i32, List.length_cons, List.length_nil, List.length_append, List.length_map, tmodN, tdivN]); omega) | rfl | skip) (agree_cons rfl (by first | with_reducible rfl | (refine congrArg (AV.int _) ?_; (try simp only [wrap_i64', wrap_u8, wrap_u16, wrap_u32, wrap_u64, wrap_i32, List.length_cons, List.length_nil, List.length_append, List.length_map, tmodN, tdivN]); omega) | rfl | skip) (agree_cons rfl (by rw [hall]) (agree_cons rfl (by first | with_reducible rfl | (refine congrArg (AV.int _) ?_; (try simp only [wrap_i64', wrap_u8, wrap_u16, wrap_u32, wrap_u64, wrap_i32, List.length_cons, List.length_nil, List.length_append, List.length_map, tmodN, tdivN]); omega) | rfl | skip) (trivial)))))))) (by rfl) (fun i hi ih => ?_)
                refine Runs.seq ?_
                refine Runs.seq ?_
                refine Runs.reg [] [0, 1] rfl (by (try simp only [wrap_i64', wrap_u8, wrap_u16, wrap_u32, wrap_u64, wrap_i32, List.length_cons, List.length_nil, List.length_append, List.length_map, tmodN, tdivN]); and_intros <;> first | exact True.intro | omega | skip) ?_
                refine Runs.condS rfl (fun g114 => ?_) (fun g114 => ?_)
                · try simp only [decide_eq_true_eq, decide_eq_false_iff_not, notT, notF, beq_iff_eq, beq_eq_false_iff_ne, bne_iff_ne, bne_eq_false_iff_eq, tmodN, tdivN, Int.not_lt, Int.not_le] at g114
                  refine Runs.skip ?_
                  refine Runs.seq ?_
                  refine Runs.block ?_
                  refine Runs.seq ?_
                  rcases i with _ | i
                  · skip
                    refine Runs.regD [(10, { res := .bool false }), (22, { res := .bool false }), (26, { res := .bool false })] [0, 1, 5, 6, 12, 13, 17, 18, 25, 28, 29, 33, 34] rfl rfl rfl (by and_intros <;> first | exact True.intro | omega | exact congrArg AV.bool (by simp) | (rw [List.length_pos_iff] at *; omega)) ?_
                    refine Runs.condF rfl ?_
                    refine Runs.skip ?_
                    refine Runs.inBlock ?_
                    refine Runs.reg [] [] rfl (by (try simp only [wrap_i64', wrap_u8, wrap_u16, wrap_u32, wrap_u64, wrap_i32, List.length_cons, List.length_nil, List.length_append, List.length_map, tmodN, tdivN]); and_intros <;> first | exact True.intro | omega | skip) ?_
                    exact ih (1) _ _ (by first | exact True.intro | omega) (by omega) (by exact agree_cons rfl (by first | with_reducible rfl | (refine congrArg (AV.int _) ?_; (try simp only [wrap_i64', wrap_u8, wrap_u16, wrap_u32, wrap_u64, wrap_i32, List.length_cons, List.length_nil, List.length_append, List.length_map, tmodN, tdivN]); omega) | rfl | skip) (agree_cons rfl (by first | with_reducible rfl | (refine congrArg (AV.int _) ?_; (try simp only [wrap_i64', wrap_u8, wrap_u16, wrap_u32, wrap_u64, wrap_i32, List.length_cons, List.length_nil, List.length_append, List.length_map, tmodN, tdivN]); omega) | rfl | skip) (agree_cons rfl (by first | with_reducible rfl | (refine congrArg (AV.int _) ?_; (try simp only [wrap_i64', wrap_u8, wrap_u16, wrap_u32, wrap_u64, wrap_i32, List.length_cons, List.length_nil, List.length_append, List.length_map, tmodN, tdivN]); omega) | rfl | skip) (agree_cons rfl (by first | with_reducible rfl | (refine congrArg (AV.int _) ?_; (try simp only [wrap_i64', wrap_u8, wrap_u16, wrap_u32, wrap_u64, wrap_i32, List.length_cons, List.length_nil, List.length_append, List.length_map, tmodN, tdivN]); omega) | rfl | skip) (agree_cons rfl (by first | with_reducible rfl | (refine congrArg (AV.int _) ?_; (try simp only [wrap_i64', wrap_u8, wrap_u16, wrap_u32, wrap_u64, wrap_i32, List.length_cons, List.length_nil, List.length_append, List.length_map, tmodN, tdivN]); omega) | rfl | skip) (agree_cons rfl (by first | with_reducible rfl | (refine congrArg (AV.int _) ?_; (try simp only [wrap_i64', wrap_u8, wrap_u16, wrap_u32, wrap_u64, wrap_i32, List.length_cons, List.length_nil, List.length_append, List.length_map, tmodN, tdivN]); omega) | rfl | skip) (agree_cons rfl (by first | with_reducible rfl | (refine congrArg (AV.int _) ?_; (try simp only [wrap_i64', wrap_u8, wrap_u16, wrap_u32, wrap_u64, wrap_i32, List.length_cons, List.length_nil, List.length_append, List.length_map, tmodN, tdivN]); omega) | rfl | skip) (trivial)))))))) (by rfl)
                  · skip
                    refine Runs.regD [(10, { res := .bool false }), (22, { res := .bool false }), (26, { res := .bool true }), (39, { res := .bool false })] [0, 1, 5, 6, 12, 13, 17, 18, 25, 28, 29, 33, 34] rfl rfl rfl (by and_intros <;> first | exact True.intro | omega | (rw [IntKind.wrap_i64]; omega) | (refine congrArg AV.bool ?_; simp; done) | exact congrArg AV.bool (by rw [show (IntKind.i64.wrap (((i + 1 : Nat) : Int) - 1)).toNat = i by (rw [IntKind.wrap_i64]; omega)]; exact ord_at l p d (by omega))) ?_
                    refine Runs.condF rfl ?_
                    refine Runs.skip ?_
                    refine Runs.inBlock ?_
                    refine Runs.reg [] [] rfl (by (try simp only [wrap_i64', wrap_u8, wrap_u16, wrap_u32, wrap_u64, wrap_i32, List.length_cons, List.length_nil, List.length_append, List.length_map, tmodN, tdivN]); and_intros <;> first | exact True.intro | omega | skip) ?_
                    exact ih (i + 1 + 1) _ _ (by first | exact True.intro | omega) (by omega) (by exact agree_cons rfl (by first | with_reducible rfl | (refine congrArg (AV.int _) ?_; (try simp only [wrap_i64', wrap_u8, wrap_u16, wrap_u32, wrap_u64, wrap_i32, List.length_cons, List.length_nil, List.length_append, List.length_map, tmodN, tdivN]); omega) | rfl | skip) (agree_cons rfl (by first | with_reducible rfl | (refine congrArg (AV.int _) ?_; (try simp only [wrap_i64', wrap_u8, wrap_u16, wrap_u32, wrap_u64, wrap_i32, List.length_cons, List.length_nil, List.length_append, List.length_map, tmodN, tdivN]); omega) | rfl | skip) (agree_cons rfl (by first | with_reducible rfl | (refine congrArg (AV.int _) ?_; (try simp only [wrap_i64', wrap_u8, wrap_u16, wrap_u32, wrap_u64, wrap_i32, List.length_cons, List.length_nil, List.length_append, List.length_map, tmodN, tdivN]); omega) | rfl | skip) (agree_cons rfl (by first | with_reducible rfl | (refine congrArg (AV.int _) ?_; (try simp only [wrap_i64', wrap_u8, wrap_u16, wrap_u32, wrap_u64, wrap_i32, List.length_cons, List.length_nil, List.length_append, List.length_map, tmodN, tdivN]); omega) | rfl | skip) (agree_cons rfl (by first | with_reducible rfl | (refine congrArg (AV.int _) ?_; (try simp only [wrap_i64', wrap_u8, wrap_u16, wrap_u32, wrap_u64, wrap_i32, List.length_cons, List.length_nil, List.length_append, List.length_map, tmodN, tdivN]); omega) | rfl | skip) (agree_cons rfl (by first | with_reducible rfl | (refine congrArg (AV.int _) ?_; (try simp only [wrap_i64', wrap_u8, wrap_u16, wrap_u32, wrap_u64, wrap_i32, List.length_cons, List.length_nil, List.length_append, List.length_map, tmodN, tdivN]); omega) | rfl | skip) (agree_cons rfl (by first | with_reducible rfl | (refine congrArg (AV.int _) ?_; (try simp only [wrap_i64', wrap_u8, wrap_u16, wrap_u32, wrap_u64, wrap_i32, List.length_cons, List.length_nil, List.length_append, List.length_map, tmodN, tdivN]); omega) | rfl | skip) (trivial)))))))) (by rfl)
                · try simp only [decide_eq_true_eq, decide_eq_false_iff_not, notT, notF, beq_iff_eq, beq_eq_false_iff_ne, bne_iff_ne, bne_eq_false_iff_eq, tmodN, tdivN, Int.not_lt, Int.not_le] at g114
                  refine Runs.exit rfl ?_
                  refine Runs.seq ?_
                  refine Runs.region ?_
                  refine Runs.rest [(4, { res := .bool true }), (6, { res := .bool true })] [0, 1, 2, 3] rfl (by and_intros <;> first | exact True.intro | exact awake23_ok | exact covers_ok (uL l) (fL l p d) p d (by have := uL_len l; omega) (by have := fL_len l p d; omega) (uL_small hs) (cov1 l p d) (cov2 l p d)) ?_
                  exact Runs.retH Try.func9 rfl rfl (by rfl) (by rfl)
            · try simp only [decide_eq_true_eq, decide_eq_false_iff_not, notT, notF, beq_iff_eq, beq_eq_false_iff_ne, bne_iff_ne, bne_eq_false_iff_eq, tmodN, tdivN, Int.not_lt, Int.not_le] at g93
              refine Runs.skip ?_
              refine Runs.seq ?_
              refine Runs.seq ?_
              refine Runs.reg [] [0, 2] rfl (by (try simp only [wrap_i64', wrap_u8, wrap_u16, wrap_u32, wrap_u64, wrap_i32, List.length_cons, List.length_nil, List.length_append, List.length_map, tmodN, tdivN]); and_intros <;> first | exact True.intro | omega | skip) ?_
              refine Runs.condS rfl (fun g97 => ?_) (fun g97 => ?_)
              · try simp only [decide_eq_true_eq, decide_eq_false_iff_not, notT, notF, beq_iff_eq, beq_eq_false_iff_ne, bne_iff_ne, bne_eq_false_iff_eq, tmodN, tdivN, Int.not_lt, Int.not_le] at g97
                exact absurd (pg_len g26 g93) g97
              · try simp only [decide_eq_true_eq, decide_eq_false_iff_not, notT, notF, beq_iff_eq, beq_eq_false_iff_ne, bne_iff_ne, bne_eq_false_iff_eq, tmodN, tdivN, Int.not_lt, Int.not_le] at g97
                have g93a : sz.toNat < (fL l p d).length - c := by (rwa [List.length_drop] at g93)
                refine Runs.skip ?_
                have hix : (IntKind.i64.wrap ((((((fL l p d).drop c).take sz.toNat).length : Nat) : Int) - 1)).toNat = sz.toNat - 1 := by (rw [g97, IntKind.wrap_i64]; omega)
                refine Runs.reg [(6, { res := .str (mkM (fL l p d) (c + sz.toNat)) })] [0, 1] rfl (by and_intros <;> first | exact True.intro | omega | (rw [IntKind.wrap_i64]; omega) | (change some (AV.str _) = some (AV.str _); rw [hix, last_at (by omega) g93]) | exact Nat.le_of_ble_eq_true rfl | skip) ?_
                refine Runs.inBlock ?_
                refine Runs.reg [] [] rfl (by (try simp only [wrap_i64', wrap_u8, wrap_u16, wrap_u32, wrap_u64, wrap_i32, List.length_cons, List.length_nil, List.length_append, List.length_map, tmodN, tdivN]); and_intros <;> first | exact True.intro | omega | skip) ?_
                exact ih (c + sz.toNat, t + 1) _ _ (by first | exact True.intro | omega) (by omega) (by exact agree_cons rfl (by first | with_reducible rfl | (refine congrArg (AV.int _) ?_; (try simp only [wrap_i64', wrap_u8, wrap_u16, wrap_u32, wrap_u64, wrap_i32, List.length_cons, List.length_nil, List.length_append, List.length_map, tmodN, tdivN]); omega) | rfl | skip) (agree_cons rfl (by first | with_reducible rfl | (refine congrArg (AV.int _) ?_; (try simp only [wrap_i64', wrap_u8, wrap_u16, wrap_u32, wrap_u64, wrap_i32, List.length_cons, List.length_nil, List.length_append, List.length_map, tmodN, tdivN]); omega) | rfl | skip) (agree_cons rfl (by first | with_reducible rfl | (refine congrArg (AV.int _) ?_; (try simp only [wrap_i64', wrap_u8, wrap_u16, wrap_u32, wrap_u64, wrap_i32, List.length_cons, List.length_nil, List.length_append, List.length_map, tmodN, tdivN]); omega) | rfl | skip) (agree_cons rfl (by first | with_reducible rfl | (refine congrArg (AV.int _) ?_; (try simp only [wrap_i64', wrap_u8, wrap_u16, wrap_u32, wrap_u64, wrap_i32, List.length_cons, List.length_nil, List.length_append, List.length_map, tmodN, tdivN]); omega) | rfl | skip) (agree_cons rfl (by first | with_reducible rfl | (refine congrArg (AV.int _) ?_; (try simp only [wrap_i64', wrap_u8, wrap_u16, wrap_u32, wrap_u64, wrap_i32, List.length_cons, List.length_nil, List.length_append, List.length_map, tmodN, tdivN]); omega) | rfl | skip) (agree_cons rfl (by first | with_reducible rfl | (refine congrArg (AV.int _) ?_; (try simp only [wrap_i64', wrap_u8, wrap_u16, wrap_u32, wrap_u64, wrap_i32, List.length_cons, List.length_nil, List.length_append, List.length_map, tmodN, tdivN]); omega) | rfl | skip) (agree_cons rfl (by first | with_reducible rfl | (refine congrArg (AV.int _) ?_; (try simp only [wrap_i64', wrap_u8, wrap_u16, wrap_u32, wrap_u64, wrap_i32, List.length_cons, List.length_nil, List.length_append, List.length_map, tmodN, tdivN]); omega) | rfl | skip) (agree_cons rfl (by first | with_reducible rfl | (refine congrArg (AV.int _) ?_; (try simp only [wrap_i64', wrap_u8, wrap_u16, wrap_u32, wrap_u64, wrap_i32, List.length_cons, List.length_nil, List.length_append, List.length_map, tmodN, tdivN]); omega) | rfl | skip) (trivial))))))))) (by rfl)
          · try simp only [decide_eq_true_eq, decide_eq_false_iff_not, notT, notF, beq_iff_eq, beq_eq_false_iff_ne, bne_iff_ne, bne_eq_false_iff_eq, tmodN, tdivN, Int.not_lt, Int.not_le] at g80
            (exfalso; omega)

end Go.Proofs.LP
