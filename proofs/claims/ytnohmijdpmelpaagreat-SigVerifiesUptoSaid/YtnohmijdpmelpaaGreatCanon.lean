/- The canonical text, as the document and as the program make it. -/
import Derived.Test.YtnohmijdpmelpaaGreatQuw
import Derived.Test.YtnohmijdpmelpaaGreatJoin
set_option maxRecDepth 100000
set_option linter.unusedVariables false
set_option linter.unusedSimpArgs false
namespace Go.Proofs.YtnohmijdpmelpaaGreat
open Go.Am Go.Am.Runs

/-- values of a name, folded, the first k -/
def vN (hd : List Hd) (n : List UInt8) (k : Nat) : List (List UInt8) := ((allL hd n).take k).map foldL
theorem vN_len (hd : List Hd) (n : List UInt8) {k : Nat} (hk : k ≤ (allL hd n).length) : (vN hd n k).length = k := by unfold vN; rw [List.length_map, List.length_take]; omega
theorem vN_step (hd : List Hd) (n : List UInt8) {k : Nat} (hk : k < (allL hd n).length) : vN hd n (k + 1) = vN hd n k ++ [foldL ((allL hd n).getD k [])] := by
  unfold vN
  rw [take_snoc [] hk, List.map_append]; rfl
theorem vN_all (hd : List Hd) (n : List UInt8) : vN hd n (allL hd n).length = valsL hd n := by unfold vN valsL; rw [List.take_length]
theorem allL_len (hd : List Hd) (n : List UInt8) : (allL hd n).length ≤ hd.length := aN_len hd n hd.length
theorem aN_mem (hd : List Hd) (n : List UInt8) : ∀ i, ∀ x ∈ aN hd n i, x = [] ∨ ∃ p ∈ hd, x = p.2
  | 0, x, h => by simp [aN] at h
  | i + 1, x, h => by
    unfold aN at h
    split at h
    · rw [List.mem_append, List.mem_singleton] at h
      rcases h with h | rfl
      · exact aN_mem hd n i x h
      · rw [List.getD_eq_getElem?_getD]
        cases e : hd[i]? with
        | none => exact .inl rfl
        | some p => exact .inr ⟨p, List.mem_of_getElem? e, rfl⟩
    · exact aN_mem hd n i x h
/-- what the bounds on a request give -/
structure Bd (m t : List UInt8) (hd : List Hd) (sg : List (List UInt8)) (pay : List UInt8) : Prop where
  lm : m.length ≤ 4194304
  lt : t.length ≤ 2097152
  lh : hd.length ≤ 4194304
  lv : ∀ p ∈ hd, p.2.length ≤ 4194304
  ls : sg.length ≤ 4194304
  ln : ∀ n ∈ sg, n.length ≤ 4194304
  lp : pay.length ≤ 4194304
  vals : ∀ n, (joinL (valsL hd n) [44]).length ≤ 8388608
  lines : ∀ i, ((sg.take i).flatMap (lineL hd)).length ≤ 17600000000000
  join : (joinL sg [59]).length ≤ 8388608
theorem Bd.val {m t : List UInt8} {hd : List Hd} {sg : List (List UInt8)} {pay : List UInt8} (b : Bd m t hd sg pay) (n : List UInt8) (k : Nat) : ((allL hd n).getD k []).length ≤ 4194304 := by
  rw [List.getD_eq_getElem?_getD]
  cases e : (allL hd n)[k]? with
  | none => simp
  | some x =>
    rcases aN_mem hd n hd.length x (List.mem_of_getElem? e) with h | ⟨p, hp, rfl⟩
    · simp [h]
    · exact b.lv p hp
theorem Bd.name {m t : List UInt8} {hd : List Hd} {sg : List (List UInt8)} {pay : List UInt8} (b : Bd m t hd sg pay) (k : Nat) : (sg.getD k []).length ≤ 4194304 := by
  rw [List.getD_eq_getElem?_getD]
  cases e : sg[k]? with
  | none => simp
  | some x => exact b.ln x (List.mem_of_getElem? e)
abbrev pQ (t : List UInt8) : List UInt8 := (unescL (queryP t)).getD []
abbrev qQ (t : List UInt8) (pre : Bool) : List UInt8 := (queryC t pre).getD []
theorem unesc_getD (t : List UInt8) (h : t.length ≤ 2097152) : (pQ t).length ≤ 2097152 := by
  unfold pQ
  have := queryP_len t
  cases e : unescL (queryP t) with
  | none => simp
  | some x => have := unesc_le e; simp only [Option.getD_some]; omega
theorem queryC_getD (t : List UInt8) (pre : Bool) (h : t.length ≤ 2097152) : (qQ t pre).length ≤ 35184372088832 := by
  unfold qQ
  cases e : queryC t pre with
  | none => simp
  | some x => exact queryC_len t pre h x e
theorem canon_none {m t : List UInt8} {hd : List Hd} {sg : List (List UInt8)} {pay : List UInt8} {pre : Bool} (h : (unescL (queryP t)).isSome = false ∨ (queryC t pre).isSome = false) : canonL m t hd sg pay pre = none := by
  unfold canonL
  rcases h with h | h
  · rw [Option.isSome_eq_false_iff, Option.isNone_iff_eq_none] at h; rw [h]
  · rw [Option.isSome_eq_false_iff, Option.isNone_iff_eq_none] at h; rw [h]; split <;> simp_all
theorem canon_some {m t : List UInt8} {hd : List Hd} {sg : List (List UInt8)} {pay : List UInt8} {pre : Bool} (h1 : (unescL (queryP t)).isSome = true) (h2 : (queryC t pre).isSome = true) : canonL m t hd sg pay pre = some (textC m (escL (pQ t) true) (qQ t pre) hd sg pay) := by
  unfold canonL pQ qQ
  cases e1 : unescL (queryP t) with
  | none => rw [e1] at h1; cases h1
  | some a =>
    cases e2 : queryC t pre with
    | none => rw [e2] at h2; cases h2
    | some b => rfl
def lineC (hd : List Hd) (n : List UInt8) : List UInt8 := n ++ [58] ++ joinL (valsL hd n) [44]
/-- the lines, the first i -/
def lsN (hd : List Hd) (h3 : List (List UInt8)) (sg : List (List UInt8)) (i : Nat) : List (List UInt8) := h3 ++ (sg.take i).map (lineC hd)
theorem lsN_len (hd : List Hd) (h3 sg : List (List UInt8)) {i : Nat} (hi : i ≤ sg.length) : (lsN hd h3 sg i).length = h3.length + i := by unfold lsN; rw [List.length_append, List.length_map, List.length_take]; omega
theorem lsN_step (hd : List Hd) (h3 sg : List (List UInt8)) {i : Nat} (hi : i < sg.length) : lsN hd h3 sg (i + 1) = lsN hd h3 sg i ++ [lineC hd (sg.getD i [])] := by
  unfold lsN
  rw [take_snoc [] hi, List.map_append, List.append_assoc]; rfl
theorem st_app3 {out : List (List UInt8)} {n : Nat} {a b c : List UInt8} {o : Bool} (hn : n = out.length) (out2 : List (List UInt8)) (h2 : out2 = out ++ [a, b, c]) : Imp (.sl 1 (n + 3) (apEl n (strEl out) (elOf false 1 [.str a, .str b, .str c])) o) (.sl 1 out2.length (strEl out2) o) := by
  subst hn; subst h2
  refine Imp.slEq (by simp) fun i hi => ?_
  rcases Nat.lt_or_ge i out.length with h | h
  · rw [apEl_lt h]
    simp [List.getD_eq_getElem?_getD, List.getElem?_append_left h]
  · rw [apEl_ge h]
    obtain ⟨j, rfl⟩ : ∃ j, i = out.length + j := ⟨i - out.length, by omega⟩
    have hj : j < 3 := by omega
    rw [Nat.add_sub_cancel_left]
    match j, hj with
    | 0, _ => simp [elOf, List.getD_eq_getElem?_getD, List.getElem?_append_right]
    | 1, _ => simp [elOf, List.getD_eq_getElem?_getD, List.getElem?_append_right]
    | 2, _ => simp [elOf, List.getD_eq_getElem?_getD, List.getElem?_append_right]
theorem lit3 {a b c : List UInt8} {o : Bool} (out2 : List (List UInt8)) (h2 : out2 = [a, b, c]) : Imp (.sl 1 3 (elOf false 1 [.str a, .str b, .str c]) o) (.sl 1 out2.length (strEl out2) o) := by
  subst h2
  refine Imp.slEq rfl fun i hi => ?_
  match i, hi with
  | 0, _ => rfl
  | 1, _ => rfl
  | 2, _ => rfl
theorem fm_move (f : List UInt8 → List UInt8) : ∀ sg : List (List UInt8), [10] ++ sg.flatMap (fun n => f n ++ [10]) = (sg.map fun n => [10] ++ f n).flatten ++ [10]
  | [] => rfl
  | n :: sg => by
    have ih := fm_move f sg
    simp only [List.flatMap_cons, List.map_cons, List.flatten_cons, List.append_assoc] at ih ⊢
    rw [← ih]
theorem join_text (m p q : List UInt8) (hd : List Hd) (sg : List (List UInt8)) (pay : List UInt8) : joinL (lsN hd [m, p, q] sg sg.length ++ [[], joinL sg [59], pay]) [10] = textC m p q hd sg pay := by
  rw [joinL_lib]
  unfold lsN textC headC
  rw [List.take_length]
  simp only [List.cons_append, List.nil_append]
  rw [Lib.join_cons]
  unfold Lib.joinTail
  simp only [List.map_cons, List.map_append, List.flatten_cons, List.flatten_append, List.map_map, List.map_nil, List.flatten_nil, List.append_nil, List.nil_append]
  have hm := fm_move (lineC hd) sg
  have hf : sg.flatMap (lineL hd) = sg.flatMap (fun n => lineC hd n ++ [10]) := rfl
  rw [hf]
  simp only [List.append_assoc, List.cons_append, List.nil_append] at hm ⊢
  have h : ∀ X : List UInt8, 10 :: (List.flatMap (fun n => lineC hd n ++ [10]) sg ++ X) = (List.map ((fun x => 10 :: x) ∘ lineC hd) sg).flatten ++ 10 :: X := fun X => by
    rw [← List.cons_append, hm, List.append_assoc]; rfl
  rw [h]
theorem rcanon_ok (m t : List UInt8) (hd : List Hd) (body : List UInt8) (sg : List (List UInt8)) (pay : List UInt8) (pre o : Bool) (b : Bd m t hd sg pay) : FnOK Tryz.prog 8 [.agg [.str m, .str t, .sl 2 hd.length (hdEl hd) false, .bs body o], .sl 1 sg.length (strEl sg) false, .str pay, .bool pre] [] (.tup [.str ((canonL m t hd sg pay pre).getD []), .int .i64 (errC (canonL m t hd sg pay pre))]) [] := by
  refine FnOK.of_runs Tryz.func8 rfl (Nat.le_of_ble_eq_true rfl) ?_
  refine seq (reg [] [] rfl (by decide) ?_)
  refine seq ?_
  have bt := b.lt; have bm := b.lm; have bh := b.lh; have bs := b.ls; have bp := b.lp; have hpq := unesc_getD t bt; have hqq := queryC_getD t pre bt; have hql := queryP_len t; have hes := escL_len true (pQ t); have hjb := b.join
  refine reg [(2, { res := .tup [.str (queryP t), .sl 2 (queryQ t).length (hdEl (queryQ t)) false] })] [] rfl (by and_intros <;> first | exact ⟨⟩ | exact rquery_ok t (by omega)) ?_
  refine seq (reg [(1, { res := .tup [.str (pQ t), .bool (unescL (queryP t)).isSome] })] [0] rfl (by and_intros <;> first | exact ⟨⟩ | exact runesc_ok _ (by omega)) ?_)
  refine seq (reg [(3, { res := .tup [.str (qQ t pre), .bool (queryC t pre).isSome] })] [2] rfl (by and_intros <;> first | exact ⟨⟩ | exact rquery18_ok t pre bt) ?_)
  refine seq (seq (region (restTo 3 [] [0, 3] rfl (by decide) ?_)))
  refine splitS 41 rfl (fun g41 => ?_) (fun g41 => ?_)
  · try simp only [zg] at g41
    refine rest [] [0, 3] rfl (by decide) ?_
    refine condT rfl (seq (reg [] [] rfl (by decide) ?_))
    refine drop 0 (Nat.zero_le _) rfl ?_
    exact retH Tryz.func8 rfl rfl (by rw [canon_none (.inl g41)]; rfl) (by rfl)
  · try simp only [zg] at g41
    refine rest [] [0, 3] rfl (by decide) ?_
    refine condS rfl (fun g44 => ?_) (fun g44 => ?_)
    · try simp only [zg] at g44
      refine seq (reg [] [] rfl (by decide) ?_)
      refine drop 0 (Nat.zero_le _) rfl ?_
      exact retH Tryz.func8 rfl rfl (by rw [canon_none (.inr g44)]; rfl) (by rfl)
    · try simp only [zg] at g44
      refine skip (seq (regD [(4, { res := .str (escL (pQ t) true) })] [3, 7] rfl rfl rfl (by (try simp only [List.length_append, List.length_cons, List.length_nil, headC, Int.toNat_natCast]); and_intros <;> first | exact ⟨⟩ | exact resc_ok _ _ (by omega) | omega) ?_))
      refine seq (seq (reg [] [] rfl (by decide) ?_))
      refine block ?_
      -- loop 0
      refine loopF (σ := Nat) (fun i => i ≤ sg.length) (fun i => [(1, .sl 1 sg.length (strEl sg) false), (2, .str pay), (4, .ptr 0 0), (16, .str ((headC m (escL (pQ t) true) (qQ t pre)) ++ (sg.take i).flatMap (lineL hd))), (17, .int .i64 i)]) (fun _ => [[.str m, .str t, .sl 2 hd.length (hdEl hd) false, .bs body false]]) (fun i => sg.length - i) (0) (by exact Nat.zero_le _) (by exact agree_cons rfl (by rfl) (agree_cons rfl (by rfl) (agree_cons rfl (by rfl) (agree_cons rfl (by exact congrArg AV.str (by simp [headC])) (agree_cons rfl (by rfl) (trivial)))))) (by rfl) (fun i hi ih => ?_)
      replace hi : i ≤ sg.length := hi; have hbl := b.lines i; have hbn := b.name i
      refine seq (seq (reg [] [0, 1] rfl (by decide) ?_))
      refine condS rfl (fun g58 => ?_) (fun g58 => ?_)
      · try simp only [zg] at g58
        refine skip (seq (block (seq (regD [(6, { res := .sl 1 (allL hd (sg.getD i [])).length (strEl (allL hd (sg.getD i []))) false })] [2, 3] rfl rfl rfl (by and_intros <;> first | exact ⟨⟩ | exact rall_ok hd _ (by omega) | omega) ?_))))
        refine seq (reg [] [] rfl (by decide) ?_)
        refine seq (seq (reg [] [] rfl (by decide) ?_))
        refine block ?_
        -- loop 1
        refine loopF (σ := Nat) (fun k => k ≤ (allL hd (sg.getD i [])).length) (fun k => [(1, .sl 1 sg.length (strEl sg) false), (2, .str pay), (4, .ptr 0 0), (16, .str ((headC m (escL (pQ t) true) (qQ t pre)) ++ (sg.take i).flatMap (lineL hd))), (17, .int .i64 i), (18, .sl 1 (allL hd (sg.getD i [])).length (strEl (allL hd (sg.getD i []))) false), (19, .sl 1 (vN hd (sg.getD i []) k).length (strEl (vN hd (sg.getD i []) k)) true), (20, .int .i64 k)]) (fun _ => [[.str m, .str t, .sl 2 hd.length (hdEl hd) false, .bs body false]]) (fun k => (allL hd (sg.getD i [])).length - k) (0) (by exact Nat.zero_le _) (by exact agree_cons rfl (by rfl) (agree_cons rfl (by rfl) (agree_cons rfl (by rfl) (agree_cons rfl (by rfl) (agree_cons rfl (by rfl) (agree_cons rfl (by rfl) (agree_imp rfl (by exact Imp.slEq rfl (fun i hi => absurd hi (Nat.not_lt_zero _))) rfl rfl (agree_cons rfl (by rfl) (trivial))))))))) (by rfl) (fun k hk jh => ?_)
        replace hk : k ≤ (allL hd (sg.getD i [])).length := hk; have hvl := vN_len hd (sg.getD i []) hk; have hal := allL_len hd (sg.getD i [])
        refine seq (seq (reg [] [0, 1] rfl (by decide) ?_))
        refine condS rfl (fun g71 => ?_) (fun g71 => ?_)
        · try simp only [zg] at g71
          refine skip (seq (block (reg [(5, { res := .str (foldL ((allL hd (sg.getD i [])).getD k [])) })] [1, 2] rfl (by and_intros <;> first | exact ⟨⟩ | exact rfold_ok ((allL hd (sg.getD i [])).getD k []) (by have := b.val (sg.getD i []) k; omega) | ((skip); omega)) ?_)))
          refine inBlock (reg [] [] rfl (by decide) ?_)
          exact jh (k + 1) _ _ (by omega) (by omega) (by exact agree_cons rfl (by rfl) (agree_cons rfl (by first | rfl | (refine congrArg (AV.int _) ?_; simp only [wrap_i64', tdivN, tmodN]; omega) | skip) (agree_cons rfl (by first | rfl | (refine congrArg (AV.int _) ?_; simp only [wrap_i64', tdivN, tmodN]; omega) | skip) (agree_cons rfl (by first | rfl | (refine congrArg (AV.int _) ?_; simp only [wrap_i64', tdivN, tmodN]; omega) | skip) (agree_cons rfl (by first | rfl | (refine congrArg (AV.int _) ?_; simp only [wrap_i64', tdivN, tmodN]; omega) | skip) (agree_cons rfl (by first | rfl | (refine congrArg (AV.int _) ?_; simp only [wrap_i64', tdivN, tmodN]; omega) | skip) (agree_imp rfl (by first | (rw [vN_step hd (sg.getD i []) (by omega)]; exact st_app rfl _ rfl)) rfl rfl (agree_cons rfl (by first | rfl | (refine congrArg (AV.int _) ?_; simp only [wrap_i64', tdivN, tmodN]; omega) | skip) (trivial))))))))) (by rfl)
        · try simp only [zg] at g71
          have hke : k = (allL hd (sg.getD i [])).length := (by omega); have hvk : vN hd (sg.getD i []) k = valsL hd (sg.getD i []) := (by rw [hke, vN_all]); have hvb := b.vals (sg.getD i [])
          refine exit rfl (regD [(8, { res := .str (joinL (valsL hd (sg.getD i [])) [44]) })] [1, 2, 7] rfl rfl rfl (by (try simp only [List.length_append, List.length_cons, List.length_nil, headC, Int.toNat_natCast]); and_intros <;> first | exact ⟨⟩ | (rw [hvk]; exact rjoin_ok _ _ (by have := valsL_len hd (sg.getD i []); omega) (by have := b.vals (sg.getD i []); omega)) | omega) ?_)
          refine inBlock (reg [] [] rfl (by decide) ?_)
          exact ih (i + 1) _ _ (by omega) (by omega) (by exact agree_cons rfl (by rfl) (agree_cons rfl (by first | rfl | (refine congrArg (AV.int _) ?_; simp only [wrap_i64', tdivN, tmodN]; omega) | skip) (agree_cons rfl (by first | rfl | (refine congrArg (AV.int _) ?_; simp only [wrap_i64', tdivN, tmodN]; omega) | skip) (agree_cons rfl (by exact congrArg AV.str (by rw [fm_step hd (by omega)]; simp [lineL])) (agree_cons rfl (by first | rfl | (refine congrArg (AV.int _) ?_; simp only [wrap_i64', tdivN, tmodN]; omega) | skip) (trivial)))))) (by rfl)
      · try simp only [zg] at g58
        refine exit rfl (seq (reg [(3, { res := .str (joinL sg [59]) })] [0, 2, 6] rfl (by (try simp only [List.length_append, List.length_cons, List.length_nil, headC, Int.toNat_natCast]); and_intros <;> first | exact ⟨⟩ | exact rjoin_ok sg [59] (by omega) (by have := b.join; omega) | omega) ?_))
        refine drop 0 (Nat.zero_le _) rfl ?_
        exact retH Tryz.func8 rfl rfl (by rw [canon_some g41 g44]; rw [show i = sg.length by omega, List.take_length]; simp only [textC, errC, Option.getD_some, Option.isSome_some, if_true]) (by rfl)

theorem ccanon_ok (m t : List UInt8) (hd : List Hd) (body : List UInt8) (sg : List (List UInt8)) (pay : List UInt8) (pre o : Bool) (b : Bd m t hd sg pay) : FnOK Tryz.prog 7 [.agg [.str m, .str t, .sl 2 hd.length (hdEl hd) false, .bs body o], .sl 1 sg.length (strEl sg) false, .str pay, .bool pre] [] (.tup [.str ((canonL m t hd sg pay pre).getD []), .int .i64 (errC (canonL m t hd sg pay pre))]) [] := by
  refine FnOK.of_runs Tryz.func7 rfl (Nat.le_of_ble_eq_true rfl) ?_
  refine seq (reg [] [] rfl (by decide) ?_)
  refine seq ?_
  have bt := b.lt; have bm := b.lm; have bh := b.lh; have bs := b.ls; have bp := b.lp; have hpq := unesc_getD t bt; have hqq := queryC_getD t pre bt; have hql := queryP_len t; have hes := escL_len true (pQ t); have hjb := b.join
  refine reg [(2, { res := .tup [.str (queryP t), .sl 2 (queryQ t).length (hdEl (queryQ t)) false] })] [] rfl (by and_intros <;> first | exact ⟨⟩ | exact query_ok t (by omega)) ?_
  refine seq (reg [(1, { res := .tup [.str (escL (pQ t) true), .bool (unescL (queryP t)).isSome] })] [0] rfl (by and_intros <;> first | exact ⟨⟩ | exact escaped_ok _ _ (by omega)) ?_)
  refine seq (reg [(2, { res := .tup [.str (qQ t pre), .bool (queryC t pre).isSome] })] [0, 1] rfl (by and_intros <;> first | exact ⟨⟩ | exact query19_ok (queryQ t) pre (by have := queryQ_len t; omega) (fun p hp => by have := query_part t p hp; omega)) ?_)
  refine seq (seq (region (restTo 3 [] [0, 3] rfl (by decide) ?_)))
  refine splitS 41 rfl (fun g41 => ?_) (fun g41 => ?_)
  · try simp only [zg] at g41
    refine rest [] [0, 3] rfl (by decide) ?_
    refine condT rfl (seq (reg [] [] rfl (by decide) ?_))
    refine drop 0 (Nat.zero_le _) rfl ?_
    exact retH Tryz.func7 rfl rfl (by rw [canon_none (.inl g41)]; rfl) (by rfl)
  · try simp only [zg] at g41
    refine rest [] [0, 3] rfl (by decide) ?_
    refine condS rfl (fun g44 => ?_) (fun g44 => ?_)
    · try simp only [zg] at g44
      refine seq (reg [] [] rfl (by decide) ?_)
      refine drop 0 (Nat.zero_le _) rfl ?_
      exact retH Tryz.func7 rfl rfl (by rw [canon_none (.inr g44)]; rfl) (by rfl)
    · try simp only [zg] at g44
      refine skip (seq (reg [] [2, 3] rfl (by decide) ?_))
      refine seq (seq (reg [] [0] rfl (by decide) ?_))
      refine block ?_
      -- loop 0
      refine loopF (σ := Nat) (fun i => i ≤ sg.length) (fun i => [(1, .sl 1 sg.length (strEl sg) false), (2, .str pay), (4, .ptr 0 0), (16, .sl 1 (lsN hd [m, escL (pQ t) true, qQ t pre] sg i).length (strEl (lsN hd [m, escL (pQ t) true, qQ t pre] sg i)) true), (50, .sl 1 sg.length (strEl sg) false), (51, .int .i64 sg.length), (52, .int .i64 i)]) (fun _ => [[.str m, .str t, .sl 2 hd.length (hdEl hd) false, .bs body false]]) (fun i => sg.length - i) (0) (by exact Nat.zero_le _) (by exact agree_cons rfl (by rfl) (agree_cons rfl (by rfl) (agree_cons rfl (by rfl) (agree_imp rfl (by exact lit3 _ rfl) rfl rfl (agree_cons rfl (by rfl) (agree_cons rfl (by rfl) (agree_cons rfl (by rfl) (trivial)))))))) (by rfl) (fun i hi ih => ?_)
      replace hi : i ≤ sg.length := hi; have hbn := b.name i; have hll := lsN_len hd [m, escL (pQ t) true, qQ t pre] sg hi
      refine seq (reg [] [] rfl (by decide) ?_)
      refine seq ?_
      refine condS rfl (fun g53 => ?_) (fun g53 => ?_)
      · try simp only [zg] at g53
        refine skip (seq (block (seq (reg [] [] rfl (by and_intros <;> first | trivial | omega) ?_))))
        refine seq (reg [] [] rfl (by decide) ?_)
        refine seq (seq (reg [(3, { res := .sl 1 (allL hd (sg.getD i [])).length (strEl (allL hd (sg.getD i []))) false })] [2] rfl (by and_intros <;> first | exact ⟨⟩ | exact all_ok hd _ (by omega)) ?_))
        refine block ?_
        -- loop 1
        refine loopF (σ := Nat) (fun k => k ≤ (allL hd (sg.getD i [])).length) (fun k => [(1, .sl 1 sg.length (strEl sg) false), (2, .str pay), (4, .ptr 0 0), (16, .sl 1 (lsN hd [m, escL (pQ t) true, qQ t pre] sg i).length (strEl (lsN hd [m, escL (pQ t) true, qQ t pre] sg i)) true), (50, .sl 1 sg.length (strEl sg) false), (51, .int .i64 sg.length), (52, .int .i64 i), (18, .str (sg.getD i [])), (19, .sl 1 (vN hd (sg.getD i []) k).length (strEl (vN hd (sg.getD i []) k)) true), (59, .sl 1 (allL hd (sg.getD i [])).length (strEl (allL hd (sg.getD i []))) false), (60, .int .i64 (allL hd (sg.getD i [])).length), (61, .int .i64 k)]) (fun _ => [[.str m, .str t, .sl 2 hd.length (hdEl hd) false, .bs body false]]) (fun k => (allL hd (sg.getD i [])).length - k) (0) (by exact Nat.zero_le _) (by exact agree_cons rfl (by rfl) (agree_cons rfl (by rfl) (agree_cons rfl (by rfl) (agree_cons rfl (by rfl) (agree_cons rfl (by rfl) (agree_cons rfl (by rfl) (agree_cons rfl (by rfl) (agree_cons rfl (by rfl) (agree_imp rfl (by exact Imp.slEq rfl (fun i hi => absurd hi (Nat.not_lt_zero _))) rfl rfl (agree_cons rfl (by rfl) (agree_cons rfl (by rfl) (agree_cons rfl (by rfl) (trivial))))))))))))) (by rfl) (fun k hk jh => ?_)
        replace hk : k ≤ (allL hd (sg.getD i [])).length := hk; have hvl := vN_len hd (sg.getD i []) hk; have hal := allL_len hd (sg.getD i [])
        refine seq (reg [] [] rfl (by decide) ?_)
        refine seq ?_
        refine condS rfl (fun g62 => ?_) (fun g62 => ?_)
        · try simp only [zg] at g62
          refine skip (seq (block (seq (reg [] [] rfl (by and_intros <;> first | trivial | omega) ?_))))
          refine reg [(2, { res := .str (foldL ((allL hd (sg.getD i [])).getD k [])) })] [1] rfl (by and_intros <;> first | exact ⟨⟩ | exact cfold_ok ((allL hd (sg.getD i [])).getD k []) (by have := b.val (sg.getD i []) k; omega) | ((skip); omega)) ?_
          refine inBlock (reg [] [] rfl (by decide) ?_)
          exact jh (k + 1) _ _ (by omega) (by omega) (by exact agree_cons rfl (by rfl) (agree_cons rfl (by first | rfl | (refine congrArg (AV.int _) ?_; simp only [wrap_i64', tdivN, tmodN]; omega) | skip) (agree_cons rfl (by first | rfl | (refine congrArg (AV.int _) ?_; simp only [wrap_i64', tdivN, tmodN]; omega) | skip) (agree_cons rfl (by first | rfl | (refine congrArg (AV.int _) ?_; simp only [wrap_i64', tdivN, tmodN]; omega) | skip) (agree_cons rfl (by first | rfl | (refine congrArg (AV.int _) ?_; simp only [wrap_i64', tdivN, tmodN]; omega) | skip) (agree_cons rfl (by first | rfl | (refine congrArg (AV.int _) ?_; simp only [wrap_i64', tdivN, tmodN]; omega) | skip) (agree_cons rfl (by first | rfl | (refine congrArg (AV.int _) ?_; simp only [wrap_i64', tdivN, tmodN]; omega) | skip) (agree_cons rfl (by first | rfl | (refine congrArg (AV.int _) ?_; simp only [wrap_i64', tdivN, tmodN]; omega) | skip) (agree_imp rfl (by (rw [vN_step hd (sg.getD i []) (by omega)]; exact st_app rfl _ rfl)) rfl rfl (agree_cons rfl (by first | rfl | (refine congrArg (AV.int _) ?_; simp only [wrap_i64', tdivN, tmodN]; omega) | skip) (agree_cons rfl (by first | rfl | (refine congrArg (AV.int _) ?_; simp only [wrap_i64', tdivN, tmodN]; omega) | skip) (agree_cons rfl (by first | rfl | (refine congrArg (AV.int _) ?_; simp only [wrap_i64', tdivN, tmodN]; omega) | skip) (trivial))))))))))))) (by rfl)
        · try simp only [zg] at g62
          have hke : k = (allL hd (sg.getD i [])).length := (by omega); have hvk : vN hd (sg.getD i []) k = valsL hd (sg.getD i []) := (by rw [hke, vN_all]); have hvb := b.vals (sg.getD i [])
          refine exit rfl (reg [(4, { res := .str (joinL (valsL hd (sg.getD i [])) [44]) })] [1, 3] rfl (by (try simp only [List.length_append, List.length_cons, List.length_nil, Int.toNat_natCast, hll]); and_intros <;> first | exact ⟨⟩ | (rw [hvk]; exact join_ok _ _ (by have := valsL_len hd (sg.getD i []); omega) (by omega)) | omega) ?_)
          refine inBlock (reg [] [] rfl (by decide) ?_)
          exact ih (i + 1) _ _ (by omega) (by omega) (by exact agree_cons rfl (by rfl) (agree_cons rfl (by first | rfl | (refine congrArg (AV.int _) ?_; simp only [wrap_i64', tdivN, tmodN]; omega) | skip) (agree_cons rfl (by first | rfl | (refine congrArg (AV.int _) ?_; simp only [wrap_i64', tdivN, tmodN]; omega) | skip) (agree_imp rfl (by (rw [lsN_step hd [m, escL (pQ t) true, qQ t pre] sg (by omega)]; exact st_app rfl _ rfl)) rfl rfl (agree_cons rfl (by first | rfl | (refine congrArg (AV.int _) ?_; simp only [wrap_i64', tdivN, tmodN]; omega) | skip) (agree_cons rfl (by first | rfl | (refine congrArg (AV.int _) ?_; simp only [wrap_i64', tdivN, tmodN]; omega) | skip) (agree_cons rfl (by first | rfl | (refine congrArg (AV.int _) ?_; simp only [wrap_i64', tdivN, tmodN]; omega) | skip) (trivial)))))))) (by rfl)
      · try simp only [zg] at g53
        refine exit rfl (seq (reg [(2, { res := .str (joinL sg [59]) })] [1, 3] rfl (by (try simp only [List.length_append, List.length_cons, List.length_nil, Int.toNat_natCast, hll]); and_intros <;> first | exact ⟨⟩ | exact join_ok sg [59] (by omega) (by omega) | omega) ?_))
        refine conv 16 (a := .sl 1 (lsN hd [m, escL (pQ t) true, qQ t pre] sg sg.length ++ [[], joinL sg [59], pay]).length (strEl (lsN hd [m, escL (pQ t) true, qQ t pre] sg sg.length ++ [[], joinL sg [59], pay])) true) (by exact st_app3 rfl _ (by rw [show i = sg.length by omega])) (.inr (by intro vs h; cases h)) (by intro vs h; cases h) ?_
        refine seq ?_
        have hls := b.lines sg.length; rw [List.take_length] at hls; have hFl : (lsN hd [m, escL (pQ t) true, qQ t pre] sg sg.length ++ [[], joinL sg [59], pay]).length ≤ 16777216 := (by rw [List.length_append, lsN_len _ _ _ (Nat.le_refl _)]; simp only [List.length_cons, List.length_nil]; omega); have hTl : (joinL (lsN hd [m, escL (pQ t) true, qQ t pre] sg sg.length ++ [[], joinL sg [59], pay]) [10]).length ≤ 140737488355328 := (by rw [join_text]; simp only [textC, headC, List.length_append, List.length_cons, List.length_nil]; omega)
        refine reg [(1, { res := .str (textC m (escL (pQ t) true) (qQ t pre) hd sg pay) })] [0] rfl (by and_intros <;> first | exact ⟨⟩ | (rw [← join_text]; exact join_ok _ _ hFl hTl)) ?_
        refine drop 0 (Nat.zero_le _) rfl ?_
        exact retH Tryz.func7 rfl rfl (by rw [canon_some g41 g44]; simp only [errC, Option.getD_some, Option.isSome_some, if_true]) (by rfl)

end Go.Proofs.YtnohmijdpmelpaaGreat
