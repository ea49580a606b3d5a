/- The canonical text, as the document and as the program make it. What Verify calls: digits and numbers read. -/
import Derived.Test.YtdigohaeakclfaaGreatDoorMa14
set_option maxRecDepth 100000
set_option linter.unusedVariables false
set_option linter.unusedSimpArgs false
namespace Go.Proofs.YtdigohaeakclfaaGreatDoor
open Go.Am Go.Am.Runs

/-- values of a name, folded, the first k -/
def vN (hd : List Hd) (n : List UInt8) (k : Nat) : List (List UInt8) := ((allL hd n).take k).map foldL
theorem vN_len (hd : List Hd) (n : List UInt8) {k : Nat} (hk : k ≤ (allL hd n).length) : (vN hd n k).length = k := by unfold vN; rw [List.length_map, List.length_take]; omega
theorem vN_step (hd : List Hd) (n : List UInt8) {k : Nat} (hk : k < (allL hd n).length) : vN hd n (k + 1) = vN hd n k ++ [foldL ((allL hd n).getD k [])] := by
  unfold vN
  rw [take_snoc [] hk, List.map_append]; rfl
theorem vN_all (hd : List Hd) (n : List UInt8) : vN hd n (allL hd n).length = valsL hd n := by unfold vN valsL; rw [List.take_length]
theorem allL_len (hd : List Hd) (n : List UInt8) : (allL hd n).length ≤ hd.length := aN_len hd n hd.length
theorem aN_mem (hd : List Hd) (n : List UInt8) : ∀ i, ∀ x ∈ aN hd n i, x = [] ∨ ∃ p ∈ hd, x = p.2
  | 0, x, h => by simp [aN] at h
  | i + 1, x, h => by
    unfold aN at h
    split at h
    · rw [List.mem_append, List.mem_singleton] at h
      rcases h with h | rfl
      · exact aN_mem hd n i x h
      · rw [List.getD_eq_getElem?_getD]
        cases e : hd[i]? with
        | none => exact .inl rfl
        | some p => exact .inr ⟨p, List.mem_of_getElem? e, rfl⟩
    · exact aN_mem hd n i x h
/-- what the bounds on a request give -/
structure Bd (m t : List UInt8) (hd : List Hd) (sg : List (List UInt8)) (pay : List UInt8) : Prop where
  lm : m.length ≤ 4194304
  lt : t.length ≤ 3500000
  lh : hd.length ≤ 4194304
  lv : ∀ p ∈ hd, p.2.length ≤ 4194304
  ls : sg.length ≤ 4194304
  ln : ∀ n ∈ sg, n.length ≤ 4194304
  lp : pay.length ≤ 4194304
  vals : ∀ n, (joinL (valsL hd n) [44]).length ≤ 8388608
  lines : ∀ i, ((sg.take i).flatMap (lineL hd)).length ≤ 17600000000000
  join : (joinL sg [59]).length ≤ 8388608
theorem Bd.val {m t : List UInt8} {hd : List Hd} {sg : List (List UInt8)} {pay : List UInt8} (b : Bd m t hd sg pay) (n : List UInt8) (k : Nat) : ((allL hd n).getD k []).length ≤ 4194304 := by
  rw [List.getD_eq_getElem?_getD]
  cases e : (allL hd n)[k]? with
  | none => simp
  | some x =>
    rcases aN_mem hd n hd.length x (List.mem_of_getElem? e) with h | ⟨p, hp, rfl⟩
    · simp [h]
    · exact b.lv p hp
theorem Bd.name {m t : List UInt8} {hd : List Hd} {sg : List (List UInt8)} {pay : List UInt8} (b : Bd m t hd sg pay) (k : Nat) : (sg.getD k []).length ≤ 4194304 := by
  rw [List.getD_eq_getElem?_getD]
  cases e : sg[k]? with
  | none => simp
  | some x => exact b.ln x (List.mem_of_getElem? e)
abbrev pQ (t : List UInt8) : List UInt8 := (unescL (queryP t)).getD []
abbrev qQ (t : List UInt8) (pre : Bool) : List UInt8 := (queryC t pre).getD []
theorem unesc_getD (t : List UInt8) (h : t.length ≤ 3500000) : (pQ t).length ≤ 3500000 := by
  unfold pQ
  have := queryP_len t
  cases e : unescL (queryP t) with
  | none => simp
  | some x => have := unesc_le e; simp only [Option.getD_some]; omega
theorem queryC_getD (t : List UInt8) (pre : Bool) (h : t.length ≤ 3500000) : (qQ t pre).length ≤ 80000000000000 := by
  unfold qQ
  cases e : queryC t pre with
  | none => simp
  | some x => exact queryC_len t pre h x e
theorem canon_none {m t : List UInt8} {hd : List Hd} {sg : List (List UInt8)} {pay : List UInt8} {pre : Bool} (h : (unescL (queryP t)).isSome = false ∨ (queryC t pre).isSome = false) : canonL m t hd sg pay pre = none := by
  unfold canonL
  rcases h with h | h
  · rw [Option.isSome_eq_false_iff, Option.isNone_iff_eq_none] at h; rw [h]
  · rw [Option.isSome_eq_false_iff, Option.isNone_iff_eq_none] at h; rw [h]; split <;> simp_all
theorem canon_some {m t : List UInt8} {hd : List Hd} {sg : List (List UInt8)} {pay : List UInt8} {pre : Bool} (h1 : (unescL (queryP t)).isSome = true) (h2 : (queryC t pre).isSome = true) : canonL m t hd sg pay pre = some (textC m (escL (pQ t) true) (qQ t pre) hd sg pay) := by
  unfold canonL pQ qQ
  cases e1 : unescL (queryP t) with
  | none => rw [e1] at h1; cases h1
  | some a =>
    cases e2 : queryC t pre with
    | none => rw [e2] at h2; cases h2
    | some b => rfl
def lineC (hd : List Hd) (n : List UInt8) : List UInt8 := n ++ [58] ++ joinL (valsL hd n) [44]
/-- the lines, the first i -/
def lsN (hd : List Hd) (h3 : List (List UInt8)) (sg : List (List UInt8)) (i : Nat) : List (List UInt8) := h3 ++ (sg.take i).map (lineC hd)
theorem lsN_len (hd : List Hd) (h3 sg : List (List UInt8)) {i : Nat} (hi : i ≤ sg.length) : (lsN hd h3 sg i).length = h3.length + i := by unfold lsN; rw [List.length_append, List.length_map, List.length_take]; omega
theorem lsN_step (hd : List Hd) (h3 sg : List (List UInt8)) {i : Nat} (hi : i < sg.length) : lsN hd h3 sg (i + 1) = lsN hd h3 sg i ++ [lineC hd (sg.getD i [])] := by
  unfold lsN
  rw [take_snoc [] hi, List.map_append, List.append_assoc]; rfl
theorem st_app3 {out : List (List UInt8)} {n : Nat} {a b c : List UInt8} {o : Bool} (hn : n = out.length) (out2 : List (List UInt8)) (h2 : out2 = out ++ [a, b, c]) : Imp (.sl 1 (n + 3) (apEl n (strEl out) (elOf false 1 [.str a, .str b, .str c])) o) (.sl 1 out2.length (strEl out2) o) := by
  subst hn; subst h2
  refine Imp.slEq (by simp) fun i hi => ?_
  rcases Nat.lt_or_ge i out.length with h | h
  · rw [apEl_lt h]
    simp [List.getD_eq_getElem?_getD, List.getElem?_append_left h]
  · rw [apEl_ge h]
    obtain ⟨j, rfl⟩ : ∃ j, i = out.length + j := ⟨i - out.length, by omega⟩
    have hj : j < 3 := by omega
    rw [Nat.add_sub_cancel_left]
    match j, hj with
    | 0, _ => simp [elOf, List.getD_eq_getElem?_getD, List.getElem?_append_right]
    | 1, _ => simp [elOf, List.getD_eq_getElem?_getD, List.getElem?_append_right]
    | 2, _ => simp [elOf, List.getD_eq_getElem?_getD, List.getElem?_append_right]
theorem lit3 {a b c : List UInt8} {o : Bool} (out2 : List (List UInt8)) (h2 : out2 = [a, b, c]) : Imp (.sl 1 3 (elOf false 1 [.str a, .str b, .str c]) o) (.sl 1 out2.length (strEl out2) o) := by
  subst h2
  refine Imp.slEq rfl fun i hi => ?_
  match i, hi with
  | 0, _ => rfl
  | 1, _ => rfl
  | 2, _ => rfl
theorem fm_move (f : List UInt8 → List UInt8) : ∀ sg : List (List UInt8), [10] ++ sg.flatMap (fun n => f n ++ [10]) = (sg.map fun n => [10] ++ f n).flatten ++ [10]
  | [] => rfl
  | n :: sg => by
    have ih := fm_move f sg
    simp only [List.flatMap_cons, List.map_cons, List.flatten_cons, List.append_assoc] at ih ⊢
    rw [← ih]
theorem join_text (m p q : List UInt8) (hd : List Hd) (sg : List (List UInt8)) (pay : List UInt8) : joinL (lsN hd [m, p, q] sg sg.length ++ [[], joinL sg [59], pay]) [10] = textC m p q hd sg pay := by
  rw [joinL_lib]
  unfold lsN textC headC
  rw [List.take_length]
  simp only [List.cons_append, List.nil_append]
  rw [Lib.join_cons]
  unfold Lib.joinTail
  simp only [List.map_cons, List.map_append, List.flatten_cons, List.flatten_append, List.map_map, List.map_nil, List.flatten_nil, List.append_nil, List.nil_append]
  have hm := fm_move (lineC hd) sg
  have hf : sg.flatMap (lineL hd) = sg.flatMap (fun n => lineC hd n ++ [10]) := rfl
  rw [hf]
  simp only [List.append_assoc, List.cons_append, List.nil_append] at hm ⊢
  have h : ∀ X : List UInt8, 10 :: (List.flatMap (fun n => lineC hd n ++ [10]) sg ++ X) = (List.map ((fun x => 10 :: x) ∘ lineC hd) sg).flatten ++ 10 :: X := fun X => by
    rw [← List.cons_append, hm, List.append_assoc]; rfl
  rw [h]
theorem rcanon_ok (m t : List UInt8) (hd : List Hd) (body : List UInt8) (sg : List (List UInt8)) (pay : List UInt8) (pre o : Bool) (b : Bd m t hd sg pay) : FnOK Tryz.prog 30 [.agg [.str m, .str t, .sl 2 hd.length (hdEl hd) false, .bs body o], .sl 1 sg.length (strEl sg) false, .str pay, .bool pre] [] (.tup [.str ((canonL m t hd sg pay pre).getD []), .int .i64 (errC (canonL m t hd sg pay pre))]) [] := by
  refine FnOK.of_runs Tryz.func30 rfl (Nat.le_of_ble_eq_true rfl) ?_
  refine seq (reg [] [] rfl (by decide) ?_)
  refine seq ?_
  have bt := b.lt; have bm := b.lm; have bh := b.lh; have bs := b.ls; have bp := b.lp; have hpq := unesc_getD t bt; have hqq := queryC_getD t pre bt; have hql := queryP_len t; have hes := escL_len true (pQ t); have hjb := b.join
  refine reg [(2, { res := .tup [.str (queryP t), .sl 2 (queryQ t).length (hdEl (queryQ t)) false] })] [] rfl (by and_intros <;> first | exact ⟨⟩ | exact rquery_ok t (by omega)) ?_
  refine seq (reg [(1, { res := .tup [.str (pQ t), .bool (unescL (queryP t)).isSome] })] [0] rfl (by and_intros <;> first | exact ⟨⟩ | exact runesc_ok _ (by omega)) ?_)
  refine seq (reg [(3, { res := .tup [.str (qQ t pre), .bool (queryC t pre).isSome] })] [2] rfl (by and_intros <;> first | exact ⟨⟩ | exact rquery18_ok t pre bt) ?_)
  refine seq (seq (region (restTo 3 [] [0, 3] rfl (by decide) ?_)))
  refine splitS 41 rfl (fun g41 => ?_) (fun g41 => ?_)
  · try simp only [zg] at g41
    refine rest [] [0, 3] rfl (by decide) ?_
    refine condT rfl (seq (reg [] [] rfl (by decide) ?_))
    refine drop 0 (Nat.zero_le _) rfl ?_
    exact retH Tryz.func30 rfl rfl (by rw [canon_none (.inl g41)]; rfl) (by rfl)
  · try simp only [zg] at g41
    refine rest [] [0, 3] rfl (by decide) ?_
    refine condS rfl (fun g44 => ?_) (fun g44 => ?_)
    · try simp only [zg] at g44
      refine seq (reg [] [] rfl (by decide) ?_)
      refine drop 0 (Nat.zero_le _) rfl ?_
      exact retH Tryz.func30 rfl rfl (by rw [canon_none (.inr g44)]; rfl) (by rfl)
    · try simp only [zg] at g44
      refine skip (seq (regD [(4, { res := .str (escL (pQ t) true) })] [3, 7] rfl rfl rfl (by (try simp only [List.length_append, List.length_cons, List.length_nil, headC, Int.toNat_natCast]); and_intros <;> first | exact ⟨⟩ | exact resc_ok _ _ (by omega) | omega) ?_))
      refine seq (seq (reg [] [] rfl (by decide) ?_))
      refine block ?_
      -- loop 0
      refine loopF (σ := Nat) (fun i => i ≤ sg.length) (fun i => [(1, .sl 1 sg.length (strEl sg) false), (2, .str pay), (4, .ptr 0 0), (16, .str ((headC m (escL (pQ t) true) (qQ t pre)) ++ (sg.take i).flatMap (lineL hd))), (17, .int .i64 i)]) (fun _ => [[.str m, .str t, .sl 2 hd.length (hdEl hd) false, .bs body false]]) (fun i => sg.length - i) (0) (by exact Nat.zero_le _) (by exact agree_cons rfl (by rfl) (agree_cons rfl (by rfl) (agree_cons rfl (by rfl) (agree_cons rfl (by exact congrArg AV.str (by simp [headC])) (agree_cons rfl (by rfl) (trivial)))))) (by rfl) (fun i hi ih => ?_)
      replace hi : i ≤ sg.length := hi; have hbl := b.lines i; have hbn := b.name i
      refine seq (seq (reg [] [0, 1] rfl (by decide) ?_))
      refine condS rfl (fun g58 => ?_) (fun g58 => ?_)
      · try simp only [zg] at g58
        refine skip (seq (block (seq (regD [(6, { res := .sl 1 (allL hd (sg.getD i [])).length (strEl (allL hd (sg.getD i []))) false })] [2, 3] rfl rfl rfl (by and_intros <;> first | exact ⟨⟩ | exact rall_ok hd _ (by omega) | omega) ?_))))
        refine seq (reg [] [] rfl (by decide) ?_)
        refine seq (seq (reg [] [] rfl (by decide) ?_))
        refine block ?_
        -- loop 1
        refine loopF (σ := Nat) (fun k => k ≤ (allL hd (sg.getD i [])).length) (fun k => [(1, .sl 1 sg.length (strEl sg) false), (2, .str pay), (4, .ptr 0 0), (16, .str ((headC m (escL (pQ t) true) (qQ t pre)) ++ (sg.take i).flatMap (lineL hd))), (17, .int .i64 i), (18, .sl 1 (allL hd (sg.getD i [])).length (strEl (allL hd (sg.getD i []))) false), (19, .sl 1 (vN hd (sg.getD i []) k).length (strEl (vN hd (sg.getD i []) k)) true), (20, .int .i64 k)]) (fun _ => [[.str m, .str t, .sl 2 hd.length (hdEl hd) false, .bs body false]]) (fun k => (allL hd (sg.getD i [])).length - k) (0) (by exact Nat.zero_le _) (by exact agree_cons rfl (by rfl) (agree_cons rfl (by rfl) (agree_cons rfl (by rfl) (agree_cons rfl (by rfl) (agree_cons rfl (by rfl) (agree_cons rfl (by rfl) (agree_imp rfl (by exact Imp.slEq rfl (fun i hi => absurd hi (Nat.not_lt_zero _))) rfl rfl (agree_cons rfl (by rfl) (trivial))))))))) (by rfl) (fun k hk jh => ?_)
        replace hk : k ≤ (allL hd (sg.getD i [])).length := hk; have hvl := vN_len hd (sg.getD i []) hk; have hal := allL_len hd (sg.getD i [])
        refine seq (seq (reg [] [0, 1] rfl (by decide) ?_))
        refine condS rfl (fun g71 => ?_) (fun g71 => ?_)
        · try simp only [zg] at g71
          refine skip (seq (block (reg [(5, { res := .str (foldL ((allL hd (sg.getD i [])).getD k [])) })] [1, 2] rfl (by and_intros <;> first | exact ⟨⟩ | exact rfold_ok ((allL hd (sg.getD i [])).getD k []) (by have := b.val (sg.getD i []) k; omega) | ((skip); omega)) ?_)))
          refine inBlock (reg [] [] rfl (by decide) ?_)
          exact jh (k + 1) _ _ (by omega) (by omega) (by exact agree_cons rfl (by rfl) (agree_cons rfl (by first | rfl | (refine congrArg (AV.int _) ?_; simp only [wrap_i64', tdivN, tmodN]; omega) | skip) (agree_cons rfl (by first | rfl | (refine congrArg (AV.int _) ?_; simp only [wrap_i64', tdivN, tmodN]; omega) | skip) (agree_cons rfl (by first | rfl | (refine congrArg (AV.int _) ?_; simp only [wrap_i64', tdivN, tmodN]; omega) | skip) (agree_cons rfl (by first | rfl | (refine congrArg (AV.int _) ?_; simp only [wrap_i64', tdivN, tmodN]; omega) | skip) (agree_cons rfl (by first | rfl | (refine congrArg (AV.int _) ?_; simp only [wrap_i64', tdivN, tmodN]; omega) | skip) (agree_imp rfl (by first | (rw [vN_step hd (sg.getD i []) (by omega)]; exact st_app rfl _ rfl)) rfl rfl (agree_cons rfl (by first | rfl | (refine congrArg (AV.int _) ?_; simp only [wrap_i64', tdivN, tmodN]; omega) | skip) (trivial))))))))) (by rfl)
        · try simp only [zg] at g71
          have hke : k = (allL hd (sg.getD i [])).length := (by omega); have hvk : vN hd (sg.getD i []) k = valsL hd (sg.getD i []) := (by rw [hke, vN_all]); have hvb := b.vals (sg.getD i [])
          refine exit rfl (regD [(8, { res := .str (joinL (valsL hd (sg.getD i [])) [44]) })] [1, 2, 7] rfl rfl rfl (by (try simp only [List.length_append, List.length_cons, List.length_nil, headC, Int.toNat_natCast]); and_intros <;> first | exact ⟨⟩ | (rw [hvk]; exact rjoin_ok _ _ (by have := valsL_len hd (sg.getD i []); omega) (by have := b.vals (sg.getD i []); omega)) | omega) ?_)
          refine inBlock (reg [] [] rfl (by decide) ?_)
          exact ih (i + 1) _ _ (by omega) (by omega) (by exact agree_cons rfl (by rfl) (agree_cons rfl (by first | rfl | (refine congrArg (AV.int _) ?_; simp only [wrap_i64', tdivN, tmodN]; omega) | skip) (agree_cons rfl (by first | rfl | (refine congrArg (AV.int _) ?_; simp only [wrap_i64', tdivN, tmodN]; omega) | skip) (agree_cons rfl (by exact congrArg AV.str (by rw [fm_step hd (by omega)]; simp [lineL])) (agree_cons rfl (by first | rfl | (refine congrArg (AV.int _) ?_; simp only [wrap_i64', tdivN, tmodN]; omega) | skip) (trivial)))))) (by rfl)
      · try simp only [zg] at g58
        refine exit rfl (seq (reg [(3, { res := .str (joinL sg [59]) })] [0, 2, 6] rfl (by (try simp only [List.length_append, List.length_cons, List.length_nil, headC, Int.toNat_natCast]); and_intros <;> first | exact ⟨⟩ | exact rjoin_ok sg [59] (by omega) (by have := b.join; omega) | omega) ?_))
        refine drop 0 (Nat.zero_le _) rfl ?_
        exact retH Tryz.func30 rfl rfl (by rw [canon_some g41 g44]; rw [show i = sg.length by omega, List.take_length]; simp only [textC, errC, Option.getD_some, Option.isSome_some, if_true]) (by rfl)

theorem ccanon_ok (m t : List UInt8) (hd : List Hd) (body : List UInt8) (sg : List (List UInt8)) (pay : List UInt8) (pre o : Bool) (b : Bd m t hd sg pay) : FnOK Tryz.prog 22 [.agg [.str m, .str t, .sl 2 hd.length (hdEl hd) false, .bs body o], .sl 1 sg.length (strEl sg) false, .str pay, .bool pre] [] (.tup [.str ((canonL m t hd sg pay pre).getD []), .int .i64 (errC (canonL m t hd sg pay pre))]) [] := by
  refine FnOK.of_runs Tryz.func22 rfl (Nat.le_of_ble_eq_true rfl) ?_
  refine seq (reg [] [] rfl (by decide) ?_)
  refine seq ?_
  have bt := b.lt; have bm := b.lm; have bh := b.lh; have bs := b.ls; have bp := b.lp; have hpq := unesc_getD t bt; have hqq := queryC_getD t pre bt; have hql := queryP_len t; have hes := escL_len true (pQ t); have hjb := b.join
  refine reg [(2, { res := .tup [.str (queryP t), .sl 2 (queryQ t).length (hdEl (queryQ t)) false] })] [] rfl (by and_intros <;> first | exact ⟨⟩ | exact query_ok t (by omega)) ?_
  refine seq (reg [(1, { res := .tup [.str (escL (pQ t) true), .bool (unescL (queryP t)).isSome] })] [0] rfl (by and_intros <;> first | exact ⟨⟩ | exact escaped_ok _ _ (by omega)) ?_)
  refine seq (reg [(2, { res := .tup [.str (qQ t pre), .bool (queryC t pre).isSome] })] [0, 1] rfl (by and_intros <;> first | exact ⟨⟩ | exact query19_ok (queryQ t) pre (by have := queryQ_len t; omega) (fun p hp => by have := query_part t p hp; omega)) ?_)
  refine seq (seq (region (restTo 3 [] [0, 3] rfl (by decide) ?_)))
  refine splitS 41 rfl (fun g41 => ?_) (fun g41 => ?_)
  · try simp only [zg] at g41
    refine rest [] [0, 3] rfl (by decide) ?_
    refine condT rfl (seq (reg [] [] rfl (by decide) ?_))
    refine drop 0 (Nat.zero_le _) rfl ?_
    exact retH Tryz.func22 rfl rfl (by rw [canon_none (.inl g41)]; rfl) (by rfl)
  · try simp only [zg] at g41
    refine rest [] [0, 3] rfl (by decide) ?_
    refine condS rfl (fun g44 => ?_) (fun g44 => ?_)
    · try simp only [zg] at g44
      refine seq (reg [] [] rfl (by decide) ?_)
      refine drop 0 (Nat.zero_le _) rfl ?_
      exact retH Tryz.func22 rfl rfl (by rw [canon_none (.inr g44)]; rfl) (by rfl)
    · try simp only [zg] at g44
      refine skip (seq (reg [] [2, 3] rfl (by decide) ?_))
      refine seq (seq (reg [] [0] rfl (by decide) ?_))
      refine block ?_
      -- loop 0
      refine loopF (σ := Nat) (fun i => i ≤ sg.length) (fun i => [(1, .sl 1 sg.length (strEl sg) false), (2, .str pay), (4, .ptr 0 0), (16, .sl 1 (lsN hd [m, escL (pQ t) true, qQ t pre] sg i).length (strEl (lsN hd [m, escL (pQ t) true, qQ t pre] sg i)) true), (50, .sl 1 sg.length (strEl sg) false), (51, .int .i64 sg.length), (52, .int .i64 i)]) (fun _ => [[.str m, .str t, .sl 2 hd.length (hdEl hd) false, .bs body false]]) (fun i => sg.length - i) (0) (by exact Nat.zero_le _) (by exact agree_cons rfl (by rfl) (agree_cons rfl (by rfl) (agree_cons rfl (by rfl) (agree_imp rfl (by exact lit3 _ rfl) rfl rfl (agree_cons rfl (by rfl) (agree_cons rfl (by rfl) (agree_cons rfl (by rfl) (trivial)))))))) (by rfl) (fun i hi ih => ?_)
      replace hi : i ≤ sg.length := hi; have hbn := b.name i; have hll := lsN_len hd [m, escL (pQ t) true, qQ t pre] sg hi
      refine seq (reg [] [] rfl (by decide) ?_)
      refine seq ?_
      refine condS rfl (fun g53 => ?_) (fun g53 => ?_)
      · try simp only [zg] at g53
        refine skip (seq (block (seq (reg [] [] rfl (by and_intros <;> first | trivial | omega) ?_))))
        refine seq (reg [] [] rfl (by decide) ?_)
        refine seq (seq (reg [(3, { res := .sl 1 (allL hd (sg.getD i [])).length (strEl (allL hd (sg.getD i []))) false })] [2] rfl (by and_intros <;> first | exact ⟨⟩ | exact all_ok hd _ (by omega)) ?_))
        refine block ?_
        -- loop 1
        refine loopF (σ := Nat) (fun k => k ≤ (allL hd (sg.getD i [])).length) (fun k => [(1, .sl 1 sg.length (strEl sg) false), (2, .str pay), (4, .ptr 0 0), (16, .sl 1 (lsN hd [m, escL (pQ t) true, qQ t pre] sg i).length (strEl (lsN hd [m, escL (pQ t) true, qQ t pre] sg i)) true), (50, .sl 1 sg.length (strEl sg) false), (51, .int .i64 sg.length), (52, .int .i64 i), (18, .str (sg.getD i [])), (19, .sl 1 (vN hd (sg.getD i []) k).length (strEl (vN hd (sg.getD i []) k)) true), (59, .sl 1 (allL hd (sg.getD i [])).length (strEl (allL hd (sg.getD i []))) false), (60, .int .i64 (allL hd (sg.getD i [])).length), (61, .int .i64 k)]) (fun _ => [[.str m, .str t, .sl 2 hd.length (hdEl hd) false, .bs body false]]) (fun k => (allL hd (sg.getD i [])).length - k) (0) (by exact Nat.zero_le _) (by exact agree_cons rfl (by rfl) (agree_cons rfl (by rfl) (agree_cons rfl (by rfl) (agree_cons rfl (by rfl) (agree_cons rfl (by rfl) (agree_cons rfl (by rfl) (agree_cons rfl (by rfl) (agree_cons rfl (by rfl) (agree_imp rfl (by exact Imp.slEq rfl (fun i hi => absurd hi (Nat.not_lt_zero _))) rfl rfl (agree_cons rfl (by rfl) (agree_cons rfl (by rfl) (agree_cons rfl (by rfl) (trivial))))))))))))) (by rfl) (fun k hk jh => ?_)
        replace hk : k ≤ (allL hd (sg.getD i [])).length := hk; have hvl := vN_len hd (sg.getD i []) hk; have hal := allL_len hd (sg.getD i [])
        refine seq (reg [] [] rfl (by decide) ?_)
        refine seq ?_
        refine condS rfl (fun g62 => ?_) (fun g62 => ?_)
        · try simp only [zg] at g62
          refine skip (seq (block (seq (reg [] [] rfl (by and_intros <;> first | trivial | omega) ?_))))
          refine reg [(2, { res := .str (foldL ((allL hd (sg.getD i [])).getD k [])) })] [1] rfl (by and_intros <;> first | exact ⟨⟩ | exact cfold_ok ((allL hd (sg.getD i [])).getD k []) (by have := b.val (sg.getD i []) k; omega) | ((skip); omega)) ?_
          refine inBlock (reg [] [] rfl (by decide) ?_)
          exact jh (k + 1) _ _ (by omega) (by omega) (by exact agree_cons rfl (by rfl) (agree_cons rfl (by first | rfl | (refine congrArg (AV.int _) ?_; simp only [wrap_i64', tdivN, tmodN]; omega) | skip) (agree_cons rfl (by first | rfl | (refine congrArg (AV.int _) ?_; simp only [wrap_i64', tdivN, tmodN]; omega) | skip) (agree_cons rfl (by first | rfl | (refine congrArg (AV.int _) ?_; simp only [wrap_i64', tdivN, tmodN]; omega) | skip) (agree_cons rfl (by first | rfl | (refine congrArg (AV.int _) ?_; simp only [wrap_i64', tdivN, tmodN]; omega) | skip) (agree_cons rfl (by first | rfl | (refine congrArg (AV.int _) ?_; simp only [wrap_i64', tdivN, tmodN]; omega) | skip) (agree_cons rfl (by first | rfl | (refine congrArg (AV.int _) ?_; simp only [wrap_i64', tdivN, tmodN]; omega) | skip) (agree_cons rfl (by first | rfl | (refine congrArg (AV.int _) ?_; simp only [wrap_i64', tdivN, tmodN]; omega) | skip) (agree_imp rfl (by (rw [vN_step hd (sg.getD i []) (by omega)]; exact st_app rfl _ rfl)) rfl rfl (agree_cons rfl (by first | rfl | (refine congrArg (AV.int _) ?_; simp only [wrap_i64', tdivN, tmodN]; omega) | skip) (agree_cons rfl (by first | rfl | (refine congrArg (AV.int _) ?_; simp only [wrap_i64', tdivN, tmodN]; omega) | skip) (agree_cons rfl (by first | rfl | (refine congrArg (AV.int _) ?_; simp only [wrap_i64', tdivN, tmodN]; omega) | skip) (trivial))))))))))))) (by rfl)
        · try simp only [zg] at g62
          have hke : k = (allL hd (sg.getD i [])).length := (by omega); have hvk : vN hd (sg.getD i []) k = valsL hd (sg.getD i []) := (by rw [hke, vN_all]); have hvb := b.vals (sg.getD i [])
          refine exit rfl (reg [(4, { res := .str (joinL (valsL hd (sg.getD i [])) [44]) })] [1, 3] rfl (by (try simp only [List.length_append, List.length_cons, List.length_nil, Int.toNat_natCast, hll]); and_intros <;> first | exact ⟨⟩ | (rw [hvk]; exact join_ok _ _ (by have := valsL_len hd (sg.getD i []); omega) (by omega)) | omega) ?_)
          refine inBlock (reg [] [] rfl (by decide) ?_)
          exact ih (i + 1) _ _ (by omega) (by omega) (by exact agree_cons rfl (by rfl) (agree_cons rfl (by first | rfl | (refine congrArg (AV.int _) ?_; simp only [wrap_i64', tdivN, tmodN]; omega) | skip) (agree_cons rfl (by first | rfl | (refine congrArg (AV.int _) ?_; simp only [wrap_i64', tdivN, tmodN]; omega) | skip) (agree_imp rfl (by (rw [lsN_step hd [m, escL (pQ t) true, qQ t pre] sg (by omega)]; exact st_app rfl _ rfl)) rfl rfl (agree_cons rfl (by first | rfl | (refine congrArg (AV.int _) ?_; simp only [wrap_i64', tdivN, tmodN]; omega) | skip) (agree_cons rfl (by first | rfl | (refine congrArg (AV.int _) ?_; simp only [wrap_i64', tdivN, tmodN]; omega) | skip) (agree_cons rfl (by first | rfl | (refine congrArg (AV.int _) ?_; simp only [wrap_i64', tdivN, tmodN]; omega) | skip) (trivial)))))))) (by rfl)
      · try simp only [zg] at g53
        refine exit rfl (seq (reg [(2, { res := .str (joinL sg [59]) })] [1, 3] rfl (by (try simp only [List.length_append, List.length_cons, List.length_nil, Int.toNat_natCast, hll]); and_intros <;> first | exact ⟨⟩ | exact join_ok sg [59] (by omega) (by omega) | omega) ?_))
        refine conv 16 (a := .sl 1 (lsN hd [m, escL (pQ t) true, qQ t pre] sg sg.length ++ [[], joinL sg [59], pay]).length (strEl (lsN hd [m, escL (pQ t) true, qQ t pre] sg sg.length ++ [[], joinL sg [59], pay])) true) (by exact st_app3 rfl _ (by rw [show i = sg.length by omega])) (.inr (by intro vs h; cases h)) (by intro vs h; cases h) ?_
        refine seq ?_
        have hls := b.lines sg.length; rw [List.take_length] at hls; have hFl : (lsN hd [m, escL (pQ t) true, qQ t pre] sg sg.length ++ [[], joinL sg [59], pay]).length ≤ 16777216 := (by rw [List.length_append, lsN_len _ _ _ (Nat.le_refl _)]; simp only [List.length_cons, List.length_nil]; omega); have hTl : (joinL (lsN hd [m, escL (pQ t) true, qQ t pre] sg sg.length ++ [[], joinL sg [59], pay]) [10]).length ≤ 140737488355328 := (by rw [join_text]; simp only [textC, headC, List.length_append, List.length_cons, List.length_nil]; omega)
        refine reg [(1, { res := .str (textC m (escL (pQ t) true) (qQ t pre) hd sg pay) })] [0] rfl (by and_intros <;> first | exact ⟨⟩ | (rw [← join_text]; exact join_ok _ _ hFl hTl)) ?_
        refine drop 0 (Nat.zero_le _) rfl ?_
        exact retH Tryz.func22 rfl rfl (by rw [canon_some g41 g44]; simp only [errC, Option.getD_some, Option.isSome_some, if_true]) (by rfl)

end Go.Proofs.YtdigohaeakclfaaGreatDoor
set_option maxRecDepth 100000
set_option linter.unusedVariables false
set_option linter.unusedSimpArgs false
namespace Go.Proofs.YtdigohaeakclfaaGreatDoor
open Go Go.Am Go.Am.Runs

def decF : List UInt8 → Nat → Option Nat
  | [], n => some n
  | c :: r, n => if 48 ≤ c.toNat ∧ c.toNat ≤ 57 then decF r (10 * n + (c.toNat - 48)) else none
def intF (s : List UInt8) : Option Nat := if s.length < 1 ∨ 18 < s.length ∨ (1 < s.length ∧ (s.getD 0 0).toNat = 48) then none else decF s 0
structure DecI (s : List UInt8) (i n : Nat) : Prop where
  le : i ≤ s.length
  le18 : s.length ≤ 18
  lt : n < 10 ^ i
  eq : decF s 0 = decF (s.drop i) n
theorem DecI.bad {s i n} (h : DecI s i n) (hi : i < s.length) (hc : ¬ (48 ≤ (s.getD i 0).toNat ∧ (s.getD i 0).toNat ≤ 57)) : decF s 0 = none := by
  rw [h.eq, List.drop_eq_getElem_cons hi, decF]
  have : s[i] = s.getD i 0 := by rw [List.getD_eq_getElem?_getD, List.getElem?_eq_getElem hi]; rfl
  rw [this, if_neg hc]
theorem DecI.step {s i n} (h : DecI s i n) (hi : i < s.length) (hc : 48 ≤ (s.getD i 0).toNat ∧ (s.getD i 0).toNat ≤ 57) : DecI s (i + 1) (10 * n + ((s.getD i 0).toNat - 48)) := by
  refine ⟨by omega, h.le18, ?_, ?_⟩
  · have := h.lt
    rw [Nat.pow_succ]; omega
  · rw [h.eq, List.drop_eq_getElem_cons hi, decF]
    have : s[i] = s.getD i 0 := by rw [List.getD_eq_getElem?_getD, List.getElem?_eq_getElem hi]; rfl
    rw [this, if_pos hc]
theorem DecI.done {s i n} (h : DecI s i n) (hi : s.length ≤ i) : decF s 0 = some n := by
  rw [h.eq, List.drop_eq_nil_of_le hi, decF]
end Go.Proofs.YtdigohaeakclfaaGreatDoor
set_option maxRecDepth 100000
set_option linter.unusedVariables false
set_option linter.unusedSimpArgs false
namespace Go.Proofs.YtdigohaeakclfaaGreatDoor
open Go Go.Am Go.Am.Runs

def digsL (s : List UInt8) : Bool := (unhexL s).isSome && decide ((s.length : Int) = 64)
def begL (s p : List UInt8) : Bool := decide (p.length ≤ s.length) && (s.take p.length == p)
def endL (s p : List UInt8) : Bool := decide (p.length ≤ s.length) && (s.drop (s.length - p.length) == p)
def cutpL (s p : List UInt8) : List UInt8 × Bool := if begL s p = true then (s.drop p.length, true) else (s, false)
def cutsL (s p : List UInt8) : List UInt8 × Bool := if endL s p = true then (s.take (s.length - p.length), true) else (s, false)
theorem cutp_t {s p : List UInt8} (h : begL s p = true) : cutpL s p = (s.drop p.length, true) := if_pos h
end Go.Proofs.YtdigohaeakclfaaGreatDoor
set_option maxRecDepth 100000
set_option linter.unusedVariables false
set_option linter.unusedSimpArgs false
namespace Go.Proofs.YtdigohaeakclfaaGreatDoor
open Go Go.Am Go.Am.Runs

def leapN (y : Nat) : Bool := decide (y % 4 = 0) && !decide (y % 100 = 0) || decide (y % 400 = 0)
def sizeN (y m : Nat) : Nat := if m = 4 ∨ m = 6 ∨ m = 9 ∨ m = 11 then 30 else if m = 2 then (if leapN y = true then 29 else 28) else 31
def yearN (y : Nat) : Nat := if leapN y = true then 366 else 365
/-- days from 1970 to a year's first one -/
def befN (y : Nat) : Int := ((y - 1 : Nat) : Int) * 365 + ((y - 1) / 4 : Nat) - ((y - 1) / 100 : Nat) + ((y - 1) / 400 : Nat) - 719162
theorem leapN_iff (y : Nat) : leapN y = true ↔ (y % 4 = 0 ∧ ¬ y % 100 = 0) ∨ y % 400 = 0 := by unfold leapN; simp
theorem befN_step (y : Nat) (hy : 1 ≤ y) : befN (y + 1) = befN y + yearN y := by
  unfold befN yearN
  by_cases h : leapN y = true
  · rw [if_pos h]
    have := (leapN_iff y).1 h
    omega
  · rw [if_neg h]
    have : ¬ ((y % 4 = 0 ∧ ¬ y % 100 = 0) ∨ y % 400 = 0) := fun e => h ((leapN_iff y).2 e)
    omega
theorem befN_70 : befN 1970 = 0 := by decide
theorem sizeN_30 {y m : Nat} (h : m = 4 ∨ m = 6 ∨ m = 9 ∨ m = 11) : sizeN y m = 30 := if_pos h
theorem sizeN_29 {y m : Nat} (h : m = 2) (hl : leapN y = true) : sizeN y m = 29 := by unfold sizeN; rw [if_neg (by omega), if_pos h, if_pos hl]
theorem sizeN_28 {y m : Nat} (h : m = 2) (hl : leapN y = false) : sizeN y m = 28 := by unfold sizeN; rw [if_neg (by omega), if_pos h, if_neg (by rw [hl]; exact Bool.false_ne_true)]
theorem sizeN_31 {y m : Nat} (h : ¬ (m = 4 ∨ m = 6 ∨ m = 9 ∨ m = 11)) (h2 : m ≠ 2) : sizeN y m = 31 := by unfold sizeN; rw [if_neg h, if_neg h2]
theorem sizeN_bd (y m : Nat) : 28 ≤ sizeN y m ∧ sizeN y m ≤ 31 := by unfold sizeN; (repeat' split) <;> omega
theorem leap_t {y : Nat} (h : (y % 4 = 0 ∧ ¬ y % 100 = 0) ∨ y % 400 = 0) : leapN y = true := (leapN_iff y).2 h
theorem leap_f {y : Nat} (h : ¬ ((y % 4 = 0 ∧ ¬ y % 100 = 0) ∨ y % 400 = 0)) : leapN y = false := by
  cases e : leapN y with
  | false => rfl
  | true => exact absurd ((leapN_iff y).1 e) h

theorem leap_ok (y : Nat) (hy : y ≤ 100000) : FnOK Tryz.prog 129 [.int .i64 y] [] (.bool (leapN y)) [] := by
  refine FnOK.of_runs Tryz.func129 rfl (Nat.le_of_ble_eq_true rfl) ?_
  refine seq (reg [] [] rfl (by decide) ?_)
  refine seq (region (restTo 4 [] [0, 4, 9] rfl (by decide) ?_))
  refine splitS 6 rfl (fun g6 => ?_) (fun g6 => ?_)
  · try simp only [zg] at g6
    refine restTo 5 [] [0, 4, 9] rfl (by decide) ?_
    refine splitS 11 rfl (fun g11 => ?_) (fun g11 => ?_)
    · try simp only [zg] at g11
      refine rest [] [0, 4, 9] rfl (by decide) ?_
      exact retH Tryz.func129 rfl rfl (by refine congrArg AV.bool ?_; rw [Bool.eq_iff_iff, leapN_iff]; (try simp only [decide_eq_true_eq, decide_eq_false_iff_not, notT, notF, beq_iff_eq, beq_eq_false_iff_ne, bne_iff_ne, bne_eq_false_iff_eq, tmodN, tdivN, Int.not_lt, Int.not_le, Bool.false_eq_true, true_iff, false_iff]); omega) (by rfl)
    · try simp only [zg] at g11
      refine rest [] [0, 4, 9] rfl (by decide) ?_
      exact retH Tryz.func129 rfl rfl (by refine congrArg AV.bool ?_; rw [Bool.eq_iff_iff, leapN_iff]; (try simp only [decide_eq_true_eq, decide_eq_false_iff_not, notT, notF, beq_iff_eq, beq_eq_false_iff_ne, bne_iff_ne, bne_eq_false_iff_eq, tmodN, tdivN, Int.not_lt, Int.not_le, Bool.false_eq_true, true_iff, false_iff]); omega) (by rfl)
  · try simp only [zg] at g6
    refine rest [] [0, 4, 9] rfl (by decide) ?_
    exact retH Tryz.func129 rfl rfl (by refine congrArg AV.bool ?_; rw [Bool.eq_iff_iff, leapN_iff]; (try simp only [decide_eq_true_eq, decide_eq_false_iff_not, notT, notF, beq_iff_eq, beq_eq_false_iff_ne, bne_iff_ne, bne_eq_false_iff_eq, tmodN, tdivN, Int.not_lt, Int.not_le, Bool.false_eq_true, true_iff, false_iff]); omega) (by rfl)

theorem is_ok (t : Int) (h0 : -9223372036854775808 ≤ t) (h1 : t ≤ 9223372036854775807) : FnOK Tryz.prog 97 [.int .i64 t] [] (.bool (decide (0 ≤ t ∧ t ≤ 253402300799))) [] := by
  refine FnOK.of_runs Tryz.func97 rfl (Nat.le_of_ble_eq_true rfl) ?_
  refine seq (reg [] [] rfl (by decide) ?_)
  refine seq (region (restTo 3 [] [0, 3] rfl (by decide) ?_))
  refine splitS 5 rfl (fun g5 => ?_) (fun g5 => ?_)
  · try simp only [zg] at g5
    refine rest [] [0, 3] rfl (by decide) ?_
    exact retH Tryz.func97 rfl rfl (by refine congrArg AV.bool ?_; rw [Bool.eq_iff_iff]; simp; omega) (by rfl)
  · try simp only [zg] at g5
    refine rest [] [0, 3] rfl (by decide) ?_
    exact retH Tryz.func97 rfl rfl (by refine congrArg AV.bool ?_; rw [Bool.eq_iff_iff]; simp; omega) (by rfl)

theorem before_ok (y : Nat) (hy : y ≤ 100000) (h1 : 1 ≤ y) : FnOK Tryz.prog 98 [.int .i64 y] [] (.int .i64 (befN y)) [] := by
  refine FnOK.of_runs Tryz.func98 rfl (Nat.le_of_ble_eq_true rfl) ?_
  refine seq (reg [] [] rfl (by decide) ?_)
  refine seq ?_
  obtain ⟨z, rfl⟩ : ∃ z, y = z + 1 := ⟨y - 1, by omega⟩
  refine reg [(1, { res := .int .i64 (z : Nat) })] [] rfl (by and_intros <;> first | exact ⟨⟩ | (refine congrArg (AV.int _) ?_; rw [i64_id (by omega) (by omega)]; omega)) ?_
  refine seq ?_
  refine reg [(3, { res := .int .i64 (z / 4 : Nat) }), (6, { res := .int .i64 (z / 100 : Nat) }), (9, { res := .int .i64 (z / 400 : Nat) })] [0, 2, 5, 8] rfl (by and_intros <;> first | decide | (refine congrArg (AV.int _) ?_; rw [tdivN, i64_id (by omega) (by omega)]; rfl)) ?_
  exact retH Tryz.func98 rfl rfl (by refine congrArg (AV.int _) ?_; (try simp only [wrap_i64']); unfold befN; simp only [Nat.add_sub_cancel]; omega) (by rfl)

theorem year_ok (y : Nat) (hy : y ≤ 100000) : FnOK Tryz.prog 95 [.int .i64 y] [] (.int .i64 (yearN y)) [] := by
  refine FnOK.of_runs Tryz.func95 rfl (Nat.le_of_ble_eq_true rfl) ?_
  refine seq (reg [] [] rfl (by decide) ?_)
  refine seq (seq (reg [(1, { res := .bool (leapN y) })] [0] rfl (by and_intros <;> first | exact ⟨⟩ | exact leap_ok y hy) ?_))
  refine condS rfl (fun g4 => ?_) (fun g4 => ?_)
  · try simp only [zg] at g4
    refine seq (reg [] [] rfl (by decide) ?_)
    exact retH Tryz.func95 rfl rfl (by unfold yearN; rw [if_pos g4]; rfl) (by rfl)
  · try simp only [zg] at g4
    refine skip (seq (reg [] [] rfl (by decide) ?_))
    exact retH Tryz.func95 rfl rfl (by unfold yearN; rw [if_neg (by rw [g4]; exact Bool.false_ne_true)]; rfl) (by rfl)

theorem rsize_ok (y m : Nat) (hy : y ≤ 100000) (hm : m ≤ 100000) : FnOK Tryz.prog 96 [.int .i64 y, .int .i64 m] [] (.int .i64 (sizeN y m)) [] := by
  refine FnOK.of_runs Tryz.func96 rfl (Nat.le_of_ble_eq_true rfl) ?_
  refine seq (reg [] [] rfl (by decide) ?_)
  refine seq (seq (reg [] [0] rfl (by decide) ?_))
  refine block (seq (seq (reg [] [] rfl (by decide) ?_)))
  refine condS rfl (fun g6 => ?_) (fun g6 => ?_)
  · try simp only [zg] at g6
    refine skip ?_
    refine condS rfl (fun g6 => ?_) (fun g6 => ?_)
    · try simp only [zg] at g6
      refine seq (reg [] [] rfl (by decide) ?_)
      exact retH Tryz.func96 rfl rfl (by (refine congrArg (AV.int _) ?_; (rw [sizeN_30 (by omega)]; rfl))) (by rfl)
    · try simp only [zg] at g6
      refine seq (reg [] [] rfl (by decide) ?_)
      refine condS rfl (fun g11 => ?_) (fun g11 => ?_)
      · try simp only [zg] at g11
        refine seq (seq (reg [(1, { res := .bool (leapN y) })] [0] rfl (by and_intros <;> first | exact ⟨⟩ | exact leap_ok y hy) ?_))
        refine condS rfl (fun g14 => ?_) (fun g14 => ?_)
        · try simp only [zg] at g14
          refine seq (reg [] [] rfl (by decide) ?_)
          exact retH Tryz.func96 rfl rfl (by (exfalso; omega)) (by rfl)
        · try simp only [zg] at g14
          refine skip (seq (reg [] [] rfl (by decide) ?_))
          exact retH Tryz.func96 rfl rfl (by (exfalso; omega)) (by rfl)
      · try simp only [zg] at g11
        refine skip (inBlock (seq (reg [] [] rfl (by decide) ?_)))
        exact retH Tryz.func96 rfl rfl (by (exfalso; omega)) (by rfl)
  · try simp only [zg] at g6
    refine seq (reg [] [] rfl (by decide) ?_)
    refine condS rfl (fun g6 => ?_) (fun g6 => ?_)
    · try simp only [zg] at g6
      refine skip ?_
      refine condS rfl (fun g6 => ?_) (fun g6 => ?_)
      · try simp only [zg] at g6
        refine seq (reg [] [] rfl (by decide) ?_)
        exact retH Tryz.func96 rfl rfl (by (refine congrArg (AV.int _) ?_; (rw [sizeN_30 (by omega)]; rfl))) (by rfl)
      · try simp only [zg] at g6
        refine seq (reg [] [] rfl (by decide) ?_)
        refine condS rfl (fun g11 => ?_) (fun g11 => ?_)
        · try simp only [zg] at g11
          refine seq (seq (reg [(1, { res := .bool (leapN y) })] [0] rfl (by and_intros <;> first | exact ⟨⟩ | exact leap_ok y hy) ?_))
          refine condS rfl (fun g14 => ?_) (fun g14 => ?_)
          · try simp only [zg] at g14
            refine seq (reg [] [] rfl (by decide) ?_)
            exact retH Tryz.func96 rfl rfl (by (exfalso; omega)) (by rfl)
          · try simp only [zg] at g14
            refine skip (seq (reg [] [] rfl (by decide) ?_))
            exact retH Tryz.func96 rfl rfl (by (exfalso; omega)) (by rfl)
        · try simp only [zg] at g11
          refine skip (inBlock (seq (reg [] [] rfl (by decide) ?_)))
          exact retH Tryz.func96 rfl rfl (by (exfalso; omega)) (by rfl)
    · try simp only [zg] at g6
      refine seq (reg [] [] rfl (by decide) ?_)
      refine condS rfl (fun g6 => ?_) (fun g6 => ?_)
      · try simp only [zg] at g6
        refine skip ?_
        refine condS rfl (fun g6 => ?_) (fun g6 => ?_)
        · try simp only [zg] at g6
          refine seq (reg [] [] rfl (by decide) ?_)
          exact retH Tryz.func96 rfl rfl (by (refine congrArg (AV.int _) ?_; (rw [sizeN_30 (by omega)]; rfl))) (by rfl)
        · try simp only [zg] at g6
          refine seq (reg [] [] rfl (by decide) ?_)
          refine condS rfl (fun g11 => ?_) (fun g11 => ?_)
          · try simp only [zg] at g11
            refine seq (seq (reg [(1, { res := .bool (leapN y) })] [0] rfl (by and_intros <;> first | exact ⟨⟩ | exact leap_ok y hy) ?_))
            refine condS rfl (fun g14 => ?_) (fun g14 => ?_)
            · try simp only [zg] at g14
              refine seq (reg [] [] rfl (by decide) ?_)
              exact retH Tryz.func96 rfl rfl (by (exfalso; omega)) (by rfl)
            · try simp only [zg] at g14
              refine skip (seq (reg [] [] rfl (by decide) ?_))
              exact retH Tryz.func96 rfl rfl (by (exfalso; omega)) (by rfl)
          · try simp only [zg] at g11
            refine skip (inBlock (seq (reg [] [] rfl (by decide) ?_)))
            exact retH Tryz.func96 rfl rfl (by (exfalso; omega)) (by rfl)
      · try simp only [zg] at g6
        refine reg [] [] rfl (by decide) ?_
        refine condS rfl (fun g6 => ?_) (fun g6 => ?_)
        · try simp only [zg] at g6
          refine seq (reg [] [] rfl (by decide) ?_)
          exact retH Tryz.func96 rfl rfl (by (refine congrArg (AV.int _) ?_; (rw [sizeN_30 (by omega)]; rfl))) (by rfl)
        · try simp only [zg] at g6
          refine seq (reg [] [] rfl (by decide) ?_)
          refine condS rfl (fun g11 => ?_) (fun g11 => ?_)
          · try simp only [zg] at g11
            refine seq (seq (reg [(1, { res := .bool (leapN y) })] [0] rfl (by and_intros <;> first | exact ⟨⟩ | exact leap_ok y hy) ?_))
            refine condS rfl (fun g14 => ?_) (fun g14 => ?_)
            · try simp only [zg] at g14
              refine seq (reg [] [] rfl (by decide) ?_)
              exact retH Tryz.func96 rfl rfl (by first | (exfalso; omega) | (refine congrArg (AV.int _) ?_; (rw [sizeN_29 (by omega) (by assumption)]; rfl))) (by rfl)
            · try simp only [zg] at g14
              refine skip (seq (reg [] [] rfl (by decide) ?_))
              exact retH Tryz.func96 rfl rfl (by first | (exfalso; omega) | (refine congrArg (AV.int _) ?_; (rw [sizeN_28 (by omega) (by assumption)]; rfl))) (by rfl)
          · try simp only [zg] at g11
            refine skip (inBlock (seq (reg [] [] rfl (by decide) ?_)))
            exact retH Tryz.func96 rfl rfl (by (refine congrArg (AV.int _) ?_; (rw [sizeN_31 (by omega) (by omega)]; rfl))) (by rfl)

theorem csize_ok (y m : Nat) (hy : y ≤ 100000) (hm : m ≤ 100000) : FnOK Tryz.prog 99 [.int .i64 y, .int .i64 m] [] (.int .i64 (sizeN y m)) [] := by
  refine FnOK.of_runs Tryz.func99 rfl (Nat.le_of_ble_eq_true rfl) ?_
  refine seq (reg [] [] rfl (by decide) ?_)
  refine seq (seq (reg [] [0] rfl (by decide) ?_))
  refine block (seq (block (seq (block (block (seq (seq (seq (seq (reg [] [] rfl (by decide) ?_))))))))))
  refine condS rfl (fun g6 => ?_) (fun g6 => ?_)
  · try simp only [zg] at g6
    refine skip ?_
    refine condS rfl (fun g6 => ?_) (fun g6 => ?_)
    · try simp only [zg] at g6
      refine exit rfl (inBlock (seq (seq (reg [] [] rfl (by decide) ?_))))
      exact retH Tryz.func99 rfl rfl (by (refine congrArg (AV.int _) ?_; (rw [sizeN_30 (by omega)]; rfl))) (by rfl)
    · try simp only [zg] at g6
      refine skip (seq (seq (reg [] [] rfl (by decide) ?_)))
      refine condS rfl (fun g10 => ?_) (fun g10 => ?_)
      · try simp only [zg] at g10
        refine exit rfl (seq (seq (reg [] [] rfl (by decide) ?_)))
        exact retH Tryz.func99 rfl rfl (by (exfalso; omega)) (by rfl)
      · try simp only [zg] at g10
        refine skip (seq (reg [] [] rfl (by decide) ?_))
        refine condS rfl (fun g12 => ?_) (fun g12 => ?_)
        · try simp only [zg] at g12
          refine exit rfl (seq (seq (seq (region (restTo 4 [] [0, 4, 8] rfl (by decide) ?_)))))
          refine splitS 17 rfl (fun g17 => ?_) (fun g17 => ?_)
          · try simp only [zg] at g17
            refine restTo 4 [] [0, 4, 8] rfl (by decide) ?_
            refine splitS 21 rfl (fun g21 => ?_) (fun g21 => ?_)
            · try simp only [zg] at g21
              refine rest [] [0, 4, 8] rfl (by decide) ?_
              refine condT rfl (seq (reg [] [] rfl (by decide) ?_))
              exact retH Tryz.func99 rfl rfl (by (exfalso; omega)) (by rfl)
            · try simp only [zg] at g21
              refine rest [] [0, 4, 8] rfl (by decide) ?_
              refine condS rfl (fun g26 => ?_) (fun g26 => ?_)
              · try simp only [zg] at g26
                refine seq (reg [] [] rfl (by decide) ?_)
                exact retH Tryz.func99 rfl rfl (by (exfalso; omega)) (by rfl)
              · try simp only [zg] at g26
                refine skip (seq (reg [] [] rfl (by decide) ?_))
                exact retH Tryz.func99 rfl rfl (by (exfalso; omega)) (by rfl)
          · try simp only [zg] at g17
            refine rest [] [0, 4, 8] rfl (by decide) ?_
            refine condF rfl (skip (seq (reg [] [] rfl (by decide) ?_)))
            exact retH Tryz.func99 rfl rfl (by (exfalso; omega)) (by rfl)
        · try simp only [zg] at g12
          refine skip (exit rfl (seq (reg [] [] rfl (by decide) ?_)))
          exact retH Tryz.func99 rfl rfl (by (exfalso; omega)) (by rfl)
  · try simp only [zg] at g6
    refine seq (reg [] [] rfl (by decide) ?_)
    refine condS rfl (fun g6 => ?_) (fun g6 => ?_)
    · try simp only [zg] at g6
      refine skip ?_
      refine condS rfl (fun g6 => ?_) (fun g6 => ?_)
      · try simp only [zg] at g6
        refine exit rfl (inBlock (seq (seq (reg [] [] rfl (by decide) ?_))))
        exact retH Tryz.func99 rfl rfl (by (refine congrArg (AV.int _) ?_; (rw [sizeN_30 (by omega)]; rfl))) (by rfl)
      · try simp only [zg] at g6
        refine skip (seq (seq (reg [] [] rfl (by decide) ?_)))
        refine condS rfl (fun g10 => ?_) (fun g10 => ?_)
        · try simp only [zg] at g10
          refine exit rfl (seq (seq (reg [] [] rfl (by decide) ?_)))
          exact retH Tryz.func99 rfl rfl (by (exfalso; omega)) (by rfl)
        · try simp only [zg] at g10
          refine skip (seq (reg [] [] rfl (by decide) ?_))
          refine condS rfl (fun g12 => ?_) (fun g12 => ?_)
          · try simp only [zg] at g12
            refine exit rfl (seq (seq (seq (region (restTo 4 [] [0, 4, 8] rfl (by decide) ?_)))))
            refine splitS 17 rfl (fun g17 => ?_) (fun g17 => ?_)
            · try simp only [zg] at g17
              refine restTo 4 [] [0, 4, 8] rfl (by decide) ?_
              refine splitS 21 rfl (fun g21 => ?_) (fun g21 => ?_)
              · try simp only [zg] at g21
                refine rest [] [0, 4, 8] rfl (by decide) ?_
                refine condT rfl (seq (reg [] [] rfl (by decide) ?_))
                exact retH Tryz.func99 rfl rfl (by (exfalso; omega)) (by rfl)
              · try simp only [zg] at g21
                refine rest [] [0, 4, 8] rfl (by decide) ?_
                refine condS rfl (fun g26 => ?_) (fun g26 => ?_)
                · try simp only [zg] at g26
                  refine seq (reg [] [] rfl (by decide) ?_)
                  exact retH Tryz.func99 rfl rfl (by (exfalso; omega)) (by rfl)
                · try simp only [zg] at g26
                  refine skip (seq (reg [] [] rfl (by decide) ?_))
                  exact retH Tryz.func99 rfl rfl (by (exfalso; omega)) (by rfl)
            · try simp only [zg] at g17
              refine rest [] [0, 4, 8] rfl (by decide) ?_
              refine condF rfl (skip (seq (reg [] [] rfl (by decide) ?_)))
              exact retH Tryz.func99 rfl rfl (by (exfalso; omega)) (by rfl)
          · try simp only [zg] at g12
            refine skip (exit rfl (seq (reg [] [] rfl (by decide) ?_)))
            exact retH Tryz.func99 rfl rfl (by (exfalso; omega)) (by rfl)
    · try simp only [zg] at g6
      refine reg [] [] rfl (by decide) ?_
      refine condS rfl (fun g6 => ?_) (fun g6 => ?_)
      · try simp only [zg] at g6
        refine exit rfl (inBlock (seq (seq (reg [] [] rfl (by decide) ?_))))
        exact retH Tryz.func99 rfl rfl (by (refine congrArg (AV.int _) ?_; (rw [sizeN_30 (by omega)]; rfl))) (by rfl)
      · try simp only [zg] at g6
        refine skip (seq (seq (reg [] [] rfl (by decide) ?_)))
        refine condS rfl (fun g10 => ?_) (fun g10 => ?_)
        · try simp only [zg] at g10
          refine exit rfl (seq (seq (reg [] [] rfl (by decide) ?_)))
          exact retH Tryz.func99 rfl rfl (by (refine congrArg (AV.int _) ?_; (rw [sizeN_30 (by omega)]; rfl))) (by rfl)
        · try simp only [zg] at g10
          refine skip (seq (reg [] [] rfl (by decide) ?_))
          refine condS rfl (fun g12 => ?_) (fun g12 => ?_)
          · try simp only [zg] at g12
            refine exit rfl (seq (seq (seq (region (restTo 4 [] [0, 4, 8] rfl (by decide) ?_)))))
            refine splitS 17 rfl (fun g17 => ?_) (fun g17 => ?_)
            · try simp only [zg] at g17
              refine restTo 4 [] [0, 4, 8] rfl (by decide) ?_
              refine splitS 21 rfl (fun g21 => ?_) (fun g21 => ?_)
              · try simp only [zg] at g21
                refine rest [] [0, 4, 8] rfl (by decide) ?_
                refine condT rfl (seq (reg [] [] rfl (by decide) ?_))
                exact retH Tryz.func99 rfl rfl (by (refine congrArg (AV.int _) ?_; (rw [sizeN_29 (by omega) (by first | assumption | exact leap_t (by omega))]; rfl))) (by rfl)
              · try simp only [zg] at g21
                refine rest [] [0, 4, 8] rfl (by decide) ?_
                refine condS rfl (fun g26 => ?_) (fun g26 => ?_)
                · try simp only [zg] at g26
                  refine seq (reg [] [] rfl (by decide) ?_)
                  exact retH Tryz.func99 rfl rfl (by (refine congrArg (AV.int _) ?_; (rw [sizeN_29 (by omega) (by first | assumption | exact leap_t (by omega))]; rfl))) (by rfl)
                · try simp only [zg] at g26
                  refine skip (seq (reg [] [] rfl (by decide) ?_))
                  exact retH Tryz.func99 rfl rfl (by (refine congrArg (AV.int _) ?_; (rw [sizeN_28 (by omega) (by first | assumption | exact leap_f (by omega))]; rfl))) (by rfl)
            · try simp only [zg] at g17
              refine rest [] [0, 4, 8] rfl (by decide) ?_
              refine condF rfl (skip (seq (reg [] [] rfl (by decide) ?_)))
              exact retH Tryz.func99 rfl rfl (by (refine congrArg (AV.int _) ?_; (rw [sizeN_28 (by omega) (by first | assumption | exact leap_f (by omega))]; rfl))) (by rfl)
          · try simp only [zg] at g12
            refine skip (exit rfl (seq (reg [] [] rfl (by decide) ?_)))
            exact retH Tryz.func99 rfl rfl (by (refine congrArg (AV.int _) ?_; (rw [sizeN_31 (by omega) (by omega)]; rfl))) (by rfl)

end Go.Proofs.YtdigohaeakclfaaGreatDoor
set_option maxRecDepth 100000
set_option linter.unusedVariables false
set_option linter.unusedSimpArgs false
namespace Go.Proofs.YtdigohaeakclfaaGreatDoor
open Go Go.Am Go.Am.Runs

/-- days of a year ahead of a month -/
def monN (y : Nat) : Nat → Nat
  | 0 => 0
  | 1 => 0
  | m + 2 => monN y (m + 1) + sizeN y (m + 1)
theorem monN_step (y : Nat) {m : Nat} (h : 1 ≤ m) : monN y (m + 1) = monN y m + sizeN y m := by
  obtain ⟨k, rfl⟩ : ∃ k, m = k + 1 := ⟨m - 1, by omega⟩
  rfl
theorem monN_mono (y : Nat) (a : Nat) (ha : 1 ≤ a) : ∀ b, a ≤ b → monN y a ≤ monN y b
  | 0, h => by omega
  | b + 1, h => by
    by_cases e : a = b + 1
    · rw [e]; exact Nat.le_refl _
    · have := monN_mono y a ha b (by omega)
      rw [monN_step y (by omega)]; omega
theorem yearN_bd (y : Nat) : 365 ≤ yearN y ∧ yearN y ≤ 366 := by unfold yearN; split <;> omega
theorem befN_mono (a : Nat) (ha : 1 ≤ a) : ∀ b, a ≤ b → befN a + 365 * ((b - a : Nat) : Int) ≤ befN b ∧ befN b ≤ befN a + 366 * ((b - a : Nat) : Int)
  | 0, h => by omega
  | b + 1, h => by
    by_cases e : a = b + 1
    · subst e; simp
    · have ih := befN_mono a ha b (by omega)
      have hy := yearN_bd b
      rw [befN_step b (by omega)]
      have : ((b + 1 - a : Nat) : Int) = ((b - a : Nat) : Int) + 1 := by omega
      rw [this]; omega
/-- a day's date: year, day of the year, month, day of the month (from 0) -/
structure DateOf (n y r m q : Nat) : Prop where
  y1 : 1970 ≤ y
  y2 : y ≤ 9999
  e1 : (n : Int) = befN y + r
  l1 : r < yearN y
  m1 : 1 ≤ m
  m2 : m ≤ 12
  e2 : r = monN y m + q
  l2 : q < sizeN y m
theorem DateOf.le {n y r m q : Nat} (h : DateOf n y r m q) {k : Nat} (hk : 1 ≤ k) (hn : befN k ≤ n) : k ≤ y := by
  by_cases e : k ≤ y
  · exact e
  · exfalso
    have h1 := (befN_mono (y + 1) (by omega) k (by omega)).1
    have h2 := befN_step y (by have := h.y1; omega)
    have := h.e1; have := h.l1
    omega
theorem DateOf.yeq {n y r m q : Nat} (h : DateOf n y r m q) {k : Nat} (hk : 1 ≤ k) (h1 : befN k ≤ n) (h2 : (n : Int) < befN (k + 1)) : k = y := by
  have hle := h.le hk h1
  by_cases e : k = y
  · exact e
  · exfalso
    have h3 := (befN_mono (k + 1) (by omega) y (by omega)).1
    have := h.e1
    omega
theorem DateOf.mle {n y r m q : Nat} (h : DateOf n y r m q) {k : Nat} (hk : 1 ≤ k) (hn : monN y k ≤ r) : k ≤ m := by
  by_cases e : k ≤ m
  · exact e
  · exfalso
    have h1 := monN_mono y (m + 1) (by omega) k (by omega)
    rw [monN_step y h.m1] at h1
    have := h.e2; have := h.l2; omega
theorem DateOf.meq {n y r m q : Nat} (h : DateOf n y r m q) {k : Nat} (hk : 1 ≤ k) (h1 : monN y k ≤ r) (h2 : r < monN y (k + 1)) : k = m := by
  have hle := h.mle hk h1
  by_cases e : k = m
  · exact e
  · exfalso
    have h3 := monN_mono y (k + 1) (by omega) m (by omega)
    have := h.e2; omega
theorem bef_start (n : Nat) : befN (1970 + n / 366) ≤ n := by
  have := (befN_mono 1970 (by omega) (1970 + n / 366) (by omega)).2
  rw [befN_70] at this
  have e : ((1970 + n / 366 - 1970 : Nat) : Int) = ((n / 366 : Nat) : Int) := by omega
  rw [e] at this
  omega
theorem is_true {t : Nat} (ht : t ≤ 253402300799) : FnOK Tryz.prog 97 [.int .i64 t] [] (.bool true) [] := by
  have := is_ok (t : Int) (by omega) (by omega)
  rwa [decide_eq_true (by omega)] at this

theorem civil_ok {n y r m q : Nat} (h : DateOf n y r m q) (t : Nat) (ht : t ≤ 253402300799) (hn : n = t / 86400) : FnOK Tryz.prog 59 [.int .i64 t] [] (.tup [.int .i64 y, .int .i64 m, .int .i64 (q + 1 : Nat), .int .i64 (t / 3600 % 24 : Nat), .int .i64 (t / 60 % 60 : Nat), .int .i64 (t % 60 : Nat), .bool true]) [] := by
  refine FnOK.of_runs Tryz.func59 rfl (Nat.le_of_ble_eq_true rfl) ?_
  refine seq (reg [] [] rfl (by decide) ?_)
  refine seq (seq ?_)
  have y1 := h.y1; have y2 := h.y2; have e1 := h.e1; have l1 := h.l1; have m1 := h.m1; have m2 := h.m2; have e2 := h.e2; have l2 := h.l2; have yb := yearN_bd y; have sb := sizeN_bd y m; have hn2 : n ≤ 2932896 := by omega
  refine reg [(1, { res := .bool true })] [0] rfl (by and_intros <;> first | exact ⟨⟩ | exact is_true ht) ?_
  refine condF rfl (skip (seq ?_))
  refine reg [(1, { res := .int .i64 (n : Nat) })] [0] rfl (by and_intros <;> first | decide | (refine congrArg (AV.int _) ?_; (try simp only [tdivN, tmodN]); (rw [i64_id (by omega) (by omega)]); omega)) ?_
  refine seq ?_
  refine reg [(1, { res := .int .i64 (n / 366 : Nat) }), (2, { res := .int .i64 (1970 + n / 366 : Nat) })] [0] rfl (by and_intros <;> first | decide | (refine congrArg (AV.int _) ?_; (try simp only [tdivN, tmodN]); (rw [i64_id (by omega) (by omega)]); omega)) ?_
  refine seq (block ?_)
  -- loop 0
  refine loopF (σ := Nat) (fun k => befN k ≤ n ∧ 1970 ≤ k ∧ k ≤ y) (fun k => [(0, .int .i64 t), (2, .int .i64 k), (9, .int .i64 n)]) (fun _ => []) (fun k => y - k) (1970 + n / 366) (by exact ⟨bef_start n, by omega, h.le (by omega) (bef_start n)⟩) (by exact zag rfl) (by rfl) (fun k hi ih => ?_)
  replace hi : befN k ≤ n ∧ 1970 ≤ k ∧ k ≤ y := hi; have hi3 := hi.2.2; have hi2 := hi.2.1
  refine seq (seq ?_)
  refine reg [(1, { res := .int .i64 (k + 1 : Nat) }), (2, { res := .int .i64 (befN (k + 1)) })] [0, 3] rfl (by and_intros <;> first | exact ⟨⟩ | exact before_ok (k + 1) (by omega) (by omega) | (refine congrArg (AV.int _) ?_; (try simp only [tdivN, tmodN]); (rw [i64_id (by omega) (by omega)]); omega)) ?_
  refine condS rfl (fun g22 => ?_) (fun g22 => ?_)
  · try simp only [zg] at g22
    refine skip (block ?_)
    refine reg [(1, { res := .int .i64 (k + 1 : Nat) })] [] rfl (by and_intros <;> first | exact ⟨⟩ | (refine congrArg (AV.int _) ?_; (try simp only [tdivN, tmodN]); (rw [i64_id (by omega) (by omega)]); omega)) ?_
    refine inBlock ?_
    exact ih (k + 1) _ _ (by exact ⟨g22, by omega, h.le (by omega) g22⟩) (by have := h.le (k := k + 1) (by omega) g22; omega) (by exact zag rfl) (by rfl)
  · try simp only [zg] at g22
    have hky : y = k := (h.yeq (by omega) hi.1 g22).symm; subst hky
    refine exit rfl (seq ?_)
    refine reg [(2, { res := .int .i64 (befN y) }), (3, { res := .int .i64 (r : Nat) })] [1] rfl (by and_intros <;> first | exact ⟨⟩ | exact before_ok y (by omega) (by omega) | (refine congrArg (AV.int _) ?_; (try simp only [tdivN, tmodN]); (rw [i64_id (by omega) (by omega)]); omega)) ?_
    refine seq (reg [] [] rfl (by decide) ?_)
    refine seq (block ?_)
    -- loop 1
    refine loopF (σ := Nat) (fun k => 1 ≤ k ∧ k ≤ m ∧ monN y k ≤ r) (fun k => [(0, .int .i64 t), (2, .int .i64 y), (3, .int .i64 k), (9, .int .i64 (r - monN y k : Nat))]) (fun _ => []) (fun k => m - k) (1) (by exact ⟨by omega, by omega, Nat.zero_le _⟩) (by exact zag rfl) (by rfl) (fun k hk ih => ?_)
    replace hk : 1 ≤ k ∧ k ≤ m ∧ monN y k ≤ r := hk; have hk1 := hk.1; have hk2 := hk.2.1; have hk3 := hk.2.2
    refine seq (seq (reg [(3, { res := .int .i64 (sizeN y k) })] [0, 1, 2] rfl (by and_intros <;> first | exact ⟨⟩ | exact csize_ok y k (by omega) (by omega)) ?_))
    refine condS rfl (fun g33 => ?_) (fun g33 => ?_)
    · try simp only [zg] at g33
      refine skip (block (seq ?_))
      refine reg [(3, { res := .int .i64 (sizeN y k) }), (4, { res := .int .i64 (r - monN y (k + 1) : Nat) })] [1, 2] rfl (by have ms := monN_step y (m := k) (by omega); have sk := sizeN_bd y k; and_intros <;> first | exact ⟨⟩ | exact csize_ok y k (by omega) (by omega) | (refine congrArg (AV.int _) ?_; (try simp only [tdivN, tmodN]); (rw [i64_id (by omega) (by omega)]); omega)) ?_
      refine reg [(1, { res := .int .i64 (k + 1 : Nat) })] [] rfl (by and_intros <;> first | exact ⟨⟩ | (refine congrArg (AV.int _) ?_; (try simp only [tdivN, tmodN]); (rw [i64_id (by omega) (by omega)]); omega)) ?_
      refine inBlock ?_
      exact ih (k + 1) _ _ (by have ms := monN_step y (m := k) (by omega); exact ⟨by omega, h.mle (by omega) (by omega), by omega⟩) (by have ms := monN_step y (m := k) (by omega); have := h.mle (k := k + 1) (by omega) (by omega); omega) (by exact zag rfl) (by rfl)
    · try simp only [zg] at g33
      have ms := monN_step y (m := k) hk.1; have hkm : m = k := (h.meq (by omega) hk.2.2 (by omega)).symm; subst hkm
      refine exit rfl (seq ?_)
      refine reg [(3, { res := .int .i64 (q + 1 : Nat) }), (5, { res := .int .i64 (t / 3600 : Nat) }), (6, { res := .int .i64 (t / 3600 % 24 : Nat) }), (8, { res := .int .i64 (t / 60 : Nat) }), (9, { res := .int .i64 (t / 60 % 60 : Nat) }), (11, { res := .int .i64 (t % 60 : Nat) })] [2, 4, 7, 10] rfl (by and_intros <;> first | decide | (refine congrArg (AV.int _) ?_; (try simp only [tdivN, tmodN]); (first | rw [i64_id (by omega) (by omega)] | skip); omega)) ?_
      exact retH Tryz.func59 rfl rfl (by rfl) (by rfl)

end Go.Proofs.YtdigohaeakclfaaGreatDoor
set_option maxRecDepth 100000
set_option linter.unusedVariables false
set_option linter.unusedSimpArgs false
namespace Go.Proofs.YtdigohaeakclfaaGreatDoor
open Go Go.Am Go.Am.Runs

/-- so many digits of a number -/
def digK (n k : Nat) : List UInt8 := (List.range k).map fun i => UInt8.ofNat (48 + n / 10 ^ (k - 1 - i) % 10)
def dB (n k j : Nat) : List AV := (List.range k).map fun i => .int .u8 (if k ≤ i + j then ((UInt8.ofNat (48 + n / 10 ^ (k - 1 - i) % 10)).toNat : Int) else 0)
theorem dB_len (n k j : Nat) : (dB n k j).length = k := by simp [dB]
theorem dB_set (n k j : Nat) (h : j < k) : (dB n k j).set (k - 1 - j) (.int .u8 (UInt8.ofNat (48 + n / 10 ^ j % 10)).toNat) = dB n k (j + 1) := by
  apply List.ext_getElem?
  intro i
  simp only [dB, List.getElem?_set, List.getElem?_map, List.length_map, List.length_range]
  by_cases hi : i < k
  · rw [List.getElem?_range hi]
    by_cases e : k - 1 - j = i
    · subst e
      rw [if_pos rfl, if_pos (by omega)]
      simp only [Option.map_some]
      rw [if_pos (by omega), show k - 1 - (k - 1 - j) = j by omega]
    · rw [if_neg e]
      simp only [Option.map_some]
      by_cases h1 : k ≤ i + j
      · rw [if_pos h1, if_pos (by omega)]
      · rw [if_neg h1, if_neg (by omega)]
  · rw [List.getElem?_eq_none (by simp; omega), if_neg (by omega)]; rfl
theorem dB_zero (n k : Nat) : dB n k 0 = rep k [.int .u8 0] := by
  unfold dB rep
  rw [List.map_congr_left (g := fun _ => AV.int .u8 0) (fun i hi => by rw [if_neg (by have := List.mem_range.1 hi; omega)])]
  rw [List.map_const', List.length_range]; simp
theorem u8dig (z : Nat) : IntKind.u8.wrap (48 + ((z % 10 : Nat) : Int)) = ((UInt8.ofNat (48 + z % 10)).toNat : Int) := by
  rw [u8_id (by omega) (by omega)]
  have : (UInt8.ofNat (48 + z % 10)).toNat = 48 + z % 10 := by simp; omega
  rw [this]; omega
theorem dB_done (n k : Nat) : ((dB n k k).drop 0).take k = (digK n k).map fun c => .int .u8 c.toNat := by
  rw [List.drop_zero, List.take_of_length_le (by rw [dB_len]; exact Nat.le_refl _)]
  unfold dB digK
  rw [List.map_map]
  exact List.map_congr_left fun i hi => by simp
theorem digK_len (n k : Nat) : (digK n k).length = k := by simp [digK]

theorem put_ok (n k : Nat) (hn : n < 100000000) (hk : k ≤ 8) : FnOK Tryz.prog 60 [.int .i64 n, .int .i64 k] [] (.str (digK n k)) [] := by
  refine FnOK.of_runs Tryz.func60 rfl (Nat.le_of_ble_eq_true rfl) ?_
  refine seq (reg [] [] rfl (by decide) ?_)
  refine seq (reg [] [0] rfl (by and_intros <;> first | trivial | omega) ?_)
  refine seq (seq (reg [] [0] rfl (by decide) ?_))
  refine block ?_
  -- loop 0
  refine loopF (σ := Nat) (fun j => j ≤ k) (fun j => [(0, .int .i64 (n / 10 ^ j : Nat)), (5, .hs 0 0 k k), (6, .int .i64 ((k : Int) - 1 - j))]) (fun j => [dB n k j]) (fun j => k - j) (0) (by exact Nat.zero_le _) (by exact agree_cons rfl (by (refine congrArg (AV.int _) ?_; (try simp only [wrap_i64', wrap_u8, wrap_u16, wrap_u32, wrap_u64, wrap_i32, List.length_cons, List.length_nil, List.length_append, List.length_map, tmodN, tdivN]); omega)) (agree_cons rfl (by first | with_reducible rfl | (refine congrArg (AV.int _) ?_; (try simp only [wrap_i64', wrap_u8, wrap_u16, wrap_u32, wrap_u64, wrap_i32, List.length_cons, List.length_nil, List.length_append, List.length_map, tmodN, tdivN]); omega) | rfl | skip) (agree_cons rfl (by first | with_reducible rfl | (refine congrArg (AV.int _) ?_; (try simp only [wrap_i64', wrap_u8, wrap_u16, wrap_u32, wrap_u64, wrap_i32, List.length_cons, List.length_nil, List.length_append, List.length_map, tmodN, tdivN]); omega) | rfl | skip) (trivial)))) (by rw [Int.toNat_natCast, dB_zero]; rfl) (fun j hj ih => ?_)
  replace hj : j ≤ k := hj; have hle : n / 10 ^ j ≤ n := Nat.div_le_self _ _
  refine seq (seq (reg [] [0] rfl (by decide) ?_))
  refine condS rfl (fun g12 => ?_) (fun g12 => ?_)
  · try simp only [zg] at g12
    refine skip (seq (block (seq ?_)))
    refine reg [(3, { res := .int .i64 (n / 10 ^ j % 10 : Nat) }), (4, { res := .int .u8 (n / 10 ^ j % 10 : Nat) }), (5, { res := .int .u8 (UInt8.ofNat (48 + n / 10 ^ j % 10)).toNat })] [0, 1, 2] rfl (by rw [dB_len]; generalize n / 10 ^ j = z at hle ⊢; and_intros <;> first | decide | (refine congrArg (AV.int _) ?_; rw [tmodN]; rfl) | exact congrArg (AV.int _) (u8dig z) | (refine congrArg (AV.int _) ?_; exact u8_id (by omega) (by omega)) | omega) ?_
    refine reg [(1, { res := .int .i64 (n / 10 ^ (j + 1) : Nat) })] [] rfl (by have hz2 : n / 10 ^ (j + 1) = n / 10 ^ j / 10 := (by rw [Nat.pow_succ, Nat.div_div_eq_div_mul]); rw [hz2]; generalize n / 10 ^ j = z at hle ⊢; and_intros <;> first | decide | (refine congrArg (AV.int _) ?_; rw [tdivN, i64_id (by omega) (by omega)]; rfl)) ?_
    refine inBlock (reg [] [] rfl (by decide) ?_)
    exact ih (j + 1) _ _ (by omega) (by omega) (by exact agree_cons rfl (by rfl) (agree_cons rfl (by first | rfl | (refine congrArg (AV.int _) ?_; simp only [wrap_i64', tdivN, tmodN]; omega) | skip) (agree_cons rfl (by first | rfl | (refine congrArg (AV.int _) ?_; simp only [wrap_i64', tdivN, tmodN]; omega) | skip) (trivial)))) (by rw [show 0 + ((k : Int) - 1 - j).toNat * 1 = k - 1 - j by omega]; exact congrArg (fun x => [x]) (dB_set n k j (by omega)))
  · try simp only [zg] at g12
    refine exit rfl (seq ?_)
    have hjk : j = k := by omega
    subst hjk
    refine freezeB 5 (digK n j) rfl rfl (Nat.zero_le _) (Nat.le_refl _) (by rw [dB_len]; omega) (dB_done n j) ?_
    refine reg [] [0] rfl (by decide) ?_
    refine drop 0 (Nat.le_refl _) rfl ?_
    exact retH Tryz.func60 rfl rfl (by rfl) (by rfl)


def dayT (y m q : Nat) : List UInt8 := digK y 4 ++ digK m 2 ++ digK (q + 1) 2
def basT (y m q t : Nat) : List UInt8 := dayT y m q ++ [84] ++ digK (t / 3600 % 24) 2 ++ digK (t / 60 % 60) 2 ++ digK (t % 60) 2 ++ [90]
theorem dayT_len (y m q : Nat) : (dayT y m q).length = 8 := by unfold dayT; simp [digK_len]
theorem basT_len (y m q t : Nat) : (basT y m q t).length = 16 := by unfold basT; simp [digK_len, dayT_len]

theorem day_ok {n y r m q : Nat} (h : DateOf n y r m q) (t : Nat) (ht : t ≤ 253402300799) (hn : n = t / 86400) : FnOK Tryz.prog 23 [.int .i64 t] [] (.str (dayT y m q)) [] := by
  refine FnOK.of_runs Tryz.func23 rfl (Nat.le_of_ble_eq_true rfl) ?_
  refine seq (reg [] [] rfl (by decide) ?_)
  refine seq ?_
  have y1 := h.y1; have y2 := h.y2; have m1 := h.m1; have m2 := h.m2; have l2 := h.l2; have sb := sizeN_bd y m; have hd := dayT_len y m q; have d1 := digK_len y 4; have d2 := digK_len m 2; have d3 := digK_len (q + 1) 2; have d4 := digK_len (t / 3600 % 24) 2; have d5 := digK_len (t / 60 % 60) 2; have d6 := digK_len (t % 60) 2
  refine reg [(1, { res := .tup [.int .i64 y, .int .i64 m, .int .i64 (q + 1 : Nat), .int .i64 (t / 3600 % 24 : Nat), .int .i64 (t / 60 % 60 : Nat), .int .i64 (t % 60 : Nat), .bool true] })] [0] rfl (by and_intros <;> first | exact ⟨⟩ | exact civil_ok h t ht hn) ?_
  refine seq (seq (reg [] [0] rfl (by decide) ?_))
  refine condF rfl (skip (seq (reg [(1, { res := .str (digK y 4) }), (3, { res := .str (digK m 2) }), (6, { res := .str (digK (q + 1) 2) })] [0, 2, 5] rfl (by (try simp only [List.length_append, List.length_cons, List.length_nil]); and_intros <;> first | exact ⟨⟩ | omega | exact put_ok y 4 (by omega) (by omega) | exact put_ok m 2 (by omega) (by omega) | exact put_ok (q + 1) 2 (by omega) (by omega)) ?_)))
  exact retH Tryz.func23 rfl rfl (by rfl) (by rfl)

theorem basic_ok {n y r m q : Nat} (h : DateOf n y r m q) (t : Nat) (ht : t ≤ 253402300799) (hn : n = t / 86400) : FnOK Tryz.prog 20 [.int .i64 t] [] (.str (basT y m q t)) [] := by
  refine FnOK.of_runs Tryz.func20 rfl (Nat.le_of_ble_eq_true rfl) ?_
  refine seq (reg [] [] rfl (by decide) ?_)
  refine seq ?_
  have y1 := h.y1; have y2 := h.y2; have m1 := h.m1; have m2 := h.m2; have l2 := h.l2; have sb := sizeN_bd y m; have hd := dayT_len y m q; have d1 := digK_len y 4; have d2 := digK_len m 2; have d3 := digK_len (q + 1) 2; have d4 := digK_len (t / 3600 % 24) 2; have d5 := digK_len (t / 60 % 60) 2; have d6 := digK_len (t % 60) 2
  refine reg [(1, { res := .tup [.int .i64 y, .int .i64 m, .int .i64 (q + 1 : Nat), .int .i64 (t / 3600 % 24 : Nat), .int .i64 (t / 60 % 60 : Nat), .int .i64 (t % 60 : Nat), .bool true] })] [0] rfl (by and_intros <;> first | exact ⟨⟩ | exact civil_ok h t ht hn) ?_
  refine seq (seq (reg [] [0] rfl (by decide) ?_))
  refine condF rfl (skip (seq (reg [(1, { res := .str (dayT y m q) }), (4, { res := .str (digK (t / 3600 % 24) 2) }), (7, { res := .str (digK (t / 60 % 60) 2) }), (10, { res := .str (digK (t % 60) 2) })] [0, 3, 6, 9] rfl (by (try simp only [List.length_append, List.length_cons, List.length_nil]); and_intros <;> first | exact ⟨⟩ | omega | exact day_ok h t ht hn | exact put_ok (t / 3600 % 24) 2 (by omega) (by omega) | exact put_ok (t / 60 % 60) 2 (by omega) (by omega) | exact put_ok (t % 60) 2 (by omega) (by omega)) ?_)))
  exact retH Tryz.func20 rfl rfl (by rfl) (by rfl)

end Go.Proofs.YtdigohaeakclfaaGreatDoor
set_option maxRecDepth 100000
set_option linter.unusedVariables false
set_option linter.unusedSimpArgs false
namespace Go.Proofs.YtdigohaeakclfaaGreatDoor
open Go Go.Am Go.Am.Runs

/-- the number of some digits of a text -/
def getO (s : List UInt8) (f k : Nat) : Option Nat := if f + k ≤ s.length then decF ((s.drop f).take k) 0 else none
structure GtI (s : List UInt8) (f k i m : Nat) : Prop where
  le : f ≤ i ∧ i ≤ f + k
  ln : i ≤ s.length ∨ i = f
  lt : m < 10 ^ (i - f)
  eq : decF ((s.drop f).take k) 0 = decF ((s.drop i).take (f + k - i)) m
theorem GtI.start (s : List UInt8) (f k : Nat) : GtI s f k f 0 := ⟨by omega, .inr rfl, by simp, by rw [show f + k - f = k by omega]⟩
theorem GtI.cons {s : List UInt8} {f k i : Nat} (hi : i < f + k) (hs : i < s.length) : (s.drop i).take (f + k - i) = s.getD i 0 :: (s.drop (i + 1)).take (f + k - (i + 1)) := by
  rw [List.drop_eq_getElem_cons hs, show f + k - i = (f + k - (i + 1)) + 1 by omega, List.take_succ_cons, List.getD_eq_getElem?_getD, List.getElem?_eq_getElem hs]; rfl
theorem GtI.bad {s f k i m} (h : GtI s f k i m) (hi : i < f + k) (hs : i < s.length) (hc : ¬ (48 ≤ (s.getD i 0).toNat ∧ (s.getD i 0).toNat ≤ 57)) : getO s f k = none := by
  unfold getO
  split
  · rw [h.eq, GtI.cons hi hs, decF, if_neg hc]
  · rfl
theorem GtI.short {s f k i m} (h : GtI s f k i m) (hi : i < f + k) (hs : s.length ≤ i) : getO s f k = none := by
  unfold getO; rw [if_neg (by omega)]
theorem GtI.step {s f k i m} (h : GtI s f k i m) (hi : i < f + k) (hs : i < s.length) (hc : 48 ≤ (s.getD i 0).toNat ∧ (s.getD i 0).toNat ≤ 57) : GtI s f k (i + 1) (10 * m + ((s.getD i 0).toNat - 48)) := by
  have hle := h.le
  refine ⟨by omega, .inl hs, ?_, ?_⟩
  · have := h.lt
    rw [show i + 1 - f = (i - f) + 1 by omega, Nat.pow_succ]; omega
  · rw [h.eq, GtI.cons hi hs, decF, if_pos hc]
theorem GtI.done {s f k i m} (h : GtI s f k i m) (hk : 1 ≤ k) (hi : f + k ≤ i) : getO s f k = some m := by
  have hle := h.le
  have hln := h.ln
  unfold getO
  rw [if_pos (by omega), h.eq, show f + k - i = 0 by omega]
  simp [decF]

end Go.Proofs.YtdigohaeakclfaaGreatDoor
set_option maxRecDepth 100000
set_option linter.unusedVariables false
set_option linter.unusedSimpArgs false
namespace Go.Proofs.YtdigohaeakclfaaGreatDoor
open Go Go.Am Go.Am.Runs

def okD (y m d h mi s : Nat) : Prop := (1970 ≤ y ∧ y ≤ 9999) ∧ (1 ≤ m ∧ m ≤ 12) ∧ (1 ≤ d ∧ d ≤ sizeN y m) ∧ h ≤ 23 ∧ mi ≤ 59 ∧ s ≤ 59
instance (y m d h mi s : Nat) : Decidable (okD y m d h mi s) := by unfold okD; exact inferInstance
end Go.Proofs.YtdigohaeakclfaaGreatDoor
set_option maxRecDepth 100000
set_option linter.unusedVariables false
set_option linter.unusedSimpArgs false
namespace Go.Proofs.YtdigohaeakclfaaGreatDoor
open Go Go.Am Go.Am.Runs

/-- the document's Of, of any numbers -/
def okI (y m d h mi s : Int) : Prop := (1970 ≤ y ∧ y ≤ 9999) ∧ (1 ≤ m ∧ m ≤ 12) ∧ (1 ≤ d ∧ d ≤ sizeN y.toNat m.toNat) ∧ (0 ≤ h ∧ h ≤ 23) ∧ (0 ≤ mi ∧ mi ≤ 59) ∧ (0 ≤ s ∧ s ≤ 59)
instance (y m d h mi s : Int) : Decidable (okI y m d h mi s) := by unfold okI; exact inferInstance
end Go.Proofs.YtdigohaeakclfaaGreatDoor
