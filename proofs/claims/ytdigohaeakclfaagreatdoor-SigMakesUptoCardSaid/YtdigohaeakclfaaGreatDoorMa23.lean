/- Requests signed: what Header and Presign call. -/
import Derived.Test.YtdigohaeakclfaaGreatDoorMa22
import Derived.Test.YtdigohaeakclfaaGreatDoorMa19
import Derived.Test.YtdigohaeakclfaaGreatDoorMa20
import Derived.Test.YtdigohaeakclfaaGreatDoorMa10
set_option maxRecDepth 100000
set_option linter.unusedVariables false
set_option linter.unusedSimpArgs false
namespace Go.Proofs.YtdigohaeakclfaaGreatDoor
open Go Go.Am

theorem presign_ok (m t : List UInt8) (hd : List Hd) (b : List UInt8) (k : Hd) (tm ex : Int) (B : PB m t hd b k tm ex) : FnOK Tryz.prog 8 [reqA m t hd b, .agg [.str k.1, .str k.2], .int .i64 tm, .int .i64 ex] [] (preA m b hd (preR m t hd k tm ex)) [] := by
  refine FnOK.conv ?_ (fun G w ρ v h => pre_conv m b hd _ G w ρ v h) (pre_nr ..)
  cases hf : fitB k.1 tm with
  | false => exact pre_f m t hd b k tm ex B hf
  | true => exact pre_t m t hd b k tm ex B hf
theorem aN_none {hd : List Hd} {nm : List UInt8} : ∀ i, i ≤ hd.length → ((aN hd nm i = []) ↔ ∀ j, j < i → (hd.getD j ([], [])).1 ≠ nm)
  | 0, _ => by simp [aN]
  | i + 1, h => by
    have ih := aN_none (hd := hd) (nm := nm) i (by omega)
    unfold aN
    split
    · rename_i e
      constructor
      · intro h'; simp at h'
      · intro h'; exact absurd e (h' i (by omega))
    · rename_i e
      rw [ih]
      constructor
      · intro h' j hj
        rcases Nat.lt_or_ge j i with h1 | h1
        · exact h' j h1
        · rw [show j = i by omega]; exact e
      · intro h' j hj; exact h' j (by omega)
theorem tkn_in {q : List Hd} {ns : List (List UInt8)} {j : Nat} (hj : j < q.length) (h : (q.getD j ([], [])).1 ∈ ns) : tkn q ns = true := by
  unfold tkn
  rw [List.any_eq_true]
  refine ⟨_, h, ?_⟩
  simp only [decide_eq_true_eq]
  intro h0
  exact (aN_none q.length (Nat.le_refl _)).1 h0 j hj rfl
theorem tkn_out {q : List Hd} {ns : List (List UInt8)} (h : ∀ j, j < q.length → (q.getD j ([], [])).1 ∉ ns) : tkn q ns = false := by
  unfold tkn
  rw [List.any_eq_false]
  intro x hx
  simp only [decide_eq_true_eq, Classical.not_not]
  exact (aN_none q.length (Nat.le_refl _)).2 fun j hj e => h j hj (by rw [e]; exact hx)
theorem tkn_one (hd : List Hd) (n : List UInt8) : tkn hd [n] = decide (allL hd n ≠ []) := by simp [tkn]
theorem nm_cases (x : List UInt8) : x = qNm.getD 0 [] ∨ x = qNm.getD 1 [] ∨ x = qNm.getD 2 [] ∨ x = qNm.getD 3 [] ∨ x = qNm.getD 4 [] ∨ x = qNm.getD 5 [] ∨ x ∉ qNm := by
  by_cases h : x ∈ qNm
  · obtain ⟨j, hj, e⟩ := List.mem_iff_getElem.1 h
    have hj6 : j < 6 := hj
    have e' : x = qNm.getD j [] := by rw [List.getD_eq_getElem?_getD, List.getElem?_eq_getElem hj]; exact e.symm
    match j, hj6 with
    | 0, _ => exact .inl e'
    | 1, _ => exact .inr (.inl e')
    | 2, _ => exact .inr (.inr (.inl e'))
    | 3, _ => exact .inr (.inr (.inr (.inl e')))
    | 4, _ => exact .inr (.inr (.inr (.inr (.inl e'))))
    | 5, _ => exact .inr (.inr (.inr (.inr (.inr (.inl e')))))
  · simp [h]
/-- bytes that are told as they are -/
theorem escL_id : ∀ s : List UInt8, (∀ c ∈ s, safe false c = true) → escL s false = s
  | [], _ => rfl
  | c :: s, h => by
    have ih := escL_id s fun x hx => h x (List.mem_cons_of_mem _ hx)
    have e : escL (c :: s) false = escB false c ++ escL s false := rfl
    rw [e, ih]
    unfold escB
    rw [if_pos (h c (List.mem_cons_self ..))]; rfl
theorem safe_dig (n : Nat) (h : n < 10) : safe false (UInt8.ofNat (48 + n)) = true := by
  match n, h with
  | 0, _ | 1, _ | 2, _ | 3, _ | 4, _ | 5, _ | 6, _ | 7, _ | 8, _ | 9, _ => decide
theorem safe_digK (n k : Nat) : ∀ c ∈ digK n k, safe false c = true := fun c hc => by
  unfold digK at hc
  obtain ⟨i, _, rfl⟩ := List.mem_map.1 hc
  exact safe_dig _ (Nat.mod_lt _ (by decide))
theorem safe_dec (n : Nat) : ∀ c ∈ decD n, safe false c = true := by
  induction n using Nat.strongRecOn with
  | ind n ih =>
    intro c hc
    unfold decD at hc
    split at hc
    · rename_i h
      simp only [List.mem_singleton] at hc
      subst hc
      exact safe_dig n h
    · rcases List.mem_append.1 hc with h | h
      · exact ih _ (by omega) c h
      · simp only [List.mem_singleton] at h
        subst h
        exact safe_dig _ (Nat.mod_lt _ (by decide))
theorem safe_bas (tm : Int) : ∀ c ∈ basC tm, safe false c = true := fun c hc => by
  unfold basC at hc
  split at hc
  · unfold basT dayT at hc
    simp only [List.mem_append, List.mem_singleton] at hc
    rcases hc with ((((((((h | h) | h) | h) | h) | h) | h)) | h) <;> first | exact safe_digK _ _ c h | (subst h; decide) | skip
  · simp at hc
theorem esc_alg : escL algoN false = algoN := by decide
theorem esc_dec (n : Nat) : escL (decD n) false = decD n := escL_id _ (safe_dec n)
theorem esc_bas (tm : Int) : escL (basC tm) false = basC tm := escL_id _ (safe_bas tm)
theorem ne_nm {x : List UInt8} (h : x ∉ qNm) (j : Nat) (hj : j < 6 := by decide) : (x == qNm.getD j []) = false := by
  rw [beq_eq_false_iff_ne]
  intro e
  apply h
  rw [e, List.getD_eq_getElem?_getD, List.getElem?_eq_getElem (show j < qNm.length from hj)]
  exact List.getElem_mem _
abbrev rA : List UInt8 := [88, 45, 65, 109, 122, 45, 65, 108, 103, 111, 114, 105, 116, 104, 109, 61, 65, 87, 83, 52, 45, 72, 77, 65, 67, 45, 83, 72, 65, 50, 53, 54, 38, 88, 45, 65, 109, 122, 45, 67, 114, 101, 100, 101, 110, 116, 105, 97, 108, 61]
abbrev rB : List UInt8 := [38, 88, 45, 65, 109, 122, 45, 68, 97, 116, 101, 61]
abbrev rC : List UInt8 := [38, 88, 45, 65, 109, 122, 45, 69, 120, 112, 105, 114, 101, 115, 61]
abbrev rD : List UInt8 := [38, 88, 45, 65, 109, 122, 45, 83, 105, 103, 110, 101, 100, 72, 101, 97, 100, 101, 114, 115, 61]
theorem more_eq (t : List UInt8) (hd : List Hd) (k : Hd) (tm : Int) (ex : Nat) :
    t ++ (mkC t ++ rA ++ escL (k.1 ++ [47] ++ dayC tm ++ scopeS) false ++ rB ++ basC tm ++ rC ++ decD ex ++ rD ++ escL (joinL (nmS hd) [59]) false) = psG t hd k tm ex := by
  show _ = ((((t ++ (mkC t ++ qNm.getD 0 [] ++ [61] ++ escL algoN false)) ++ ([38] ++ qNm.getD 1 [] ++ [61] ++ escL (k.1 ++ [47] ++ dayC tm ++ scopeS) false)) ++ ([38] ++ qNm.getD 2 [] ++ [61] ++ escL (basC tm) false)) ++ ([38] ++ qNm.getD 3 [] ++ [61] ++ escL (decD ex) false)) ++ ([38] ++ qNm.getD 4 [] ++ [61] ++ escL (joinL (nmS hd) [59]) false)
  rw [esc_alg, esc_bas, esc_dec]
  simp [qNm, rA, rB, rC, rD]
theorem cut_mk (t : List UInt8) (c : UInt8) : (cutF t c).2.2 = decide (0 ≤ Lib.indexByte t c) := cutF_found t c
theorem hd_nil_app (l : List Hd) (o : Bool) : Imp (.sl 2 (0 + l.length) (apEl 0 (fun _ => .bad) (hdEl l)) o) (.sl 2 l.length (hdEl l) o) := Imp.slEq (by omega) fun i hi => by rw [apEl_ge (Nat.zero_le _), Nat.sub_zero]

set_option maxHeartbeats 2000000 in
theorem rpre_f (m t : List UInt8) (hd : List Hd) (b : List UInt8) (k : Hd) (tm ex : Int) (B : PB m t hd b k tm ex) (hf : fitB k.1 tm = false) : FnOK Tryz.prog 9 [reqA m t hd b, .agg [.str k.1, .str k.2], .int .i64 tm, .int .i64 ex] [] (preZ m b hd (preR m t hd k tm ex)) [] := by
  refine FnOK.of_runs Tryz.func9 rfl (Nat.le_of_ble_eq_true rfl) ?_
  refine Runs.seq ?_
  refine Runs.reg [] [] rfl (by and_intros <;> first | exact True.intro | omega | rfl | exact Nat.le_of_ble_eq_true rfl | skip) ?_
  refine Runs.seq ?_
  refine Runs.seq ?_
  have hd8 := dayC_le tm; have hb16 := basC_le tm; have hj59 := nmS_join hd 59; have hnw := nmS_W hd; have hnl := nmS_len hd; have hB0 := B.tot; have hB1 := B.t0; have hB2 := B.t1; have hB3 := B.e0; have hB4 := B.e1; have hll := hdW_len' hd
  refine Runs.region ?_
  refine Runs.rest [(2, { res := .bool false }), (4, { res := .bool true })] [1, 5, 9] rfl (by and_intros <;> first | exact True.intro | omega | rfl | exact Nat.le_of_ble_eq_true rfl | (refine up ?_; have h := fit_ok k.1 k.2 tm (by omega) hB1 hB2; rw [hf] at h; exact h)) ?_
  refine Runs.condT rfl ?_
  refine Runs.seq ?_
  refine Runs.reg [] [] rfl (by and_intros <;> first | exact True.intro | omega | rfl | exact Nat.le_of_ble_eq_true rfl | skip) ?_
  exact Runs.retD Tryz.func9 rfl rfl rfl (by rw [preR_f hf]; rfl) (by rfl) rfl

set_option maxHeartbeats 8000000 in
theorem rpre_t (m t : List UInt8) (hd : List Hd) (b : List UInt8) (k : Hd) (tm ex : Int) (B : PB m t hd b k tm ex) (hf : fitB k.1 tm = true) : FnOK Tryz.prog 9 [reqA m t hd b, .agg [.str k.1, .str k.2], .int .i64 tm, .int .i64 ex] [] (preZ m b hd (preR m t hd k tm ex)) [] := by
  refine FnOK.of_runs Tryz.func9 rfl (Nat.le_of_ble_eq_true rfl) ?_
  refine Runs.seq ?_
  refine Runs.reg [] [] rfl (by and_intros <;> first | exact True.intro | omega | rfl | exact Nat.le_of_ble_eq_true rfl | skip) ?_
  refine Runs.seq ?_
  refine Runs.seq ?_
  have hd8 := dayC_le tm; have hb16 := basC_le tm; have hj59 := nmS_join hd 59; have hnw := nmS_W hd; have hnl := nmS_len hd; have hB0 := B.tot; have hB1 := B.t0; have hB2 := B.t1; have hB3 := B.e0; have hB4 := B.e1; have hll := hdW_len' hd; have hql := queryQ_len t
  refine Runs.region ?_
  refine Runs.restTo 9 [(2, { res := .bool true })] [1, 5, 9] rfl (by and_intros <;> first | exact True.intro | omega | rfl | exact Nat.le_of_ble_eq_true rfl | (refine up ?_; have h := fit_ok k.1 k.2 tm (by omega) hB1 hB2; rw [hf] at h; exact h)) ?_
  refine Runs.splitS 30 rfl (fun g30 => ?_) (fun g30 => ?_)
  · try simp only [decide_eq_true_eq, decide_eq_false_iff_not, notT, notF, beq_iff_eq, beq_eq_false_iff_ne, bne_iff_ne, bne_eq_false_iff_eq, tmodN, tdivN, Int.not_lt, Int.not_le] at g30
    refine Runs.rest [(2, { res := .bool true })] [1, 5, 9] rfl (by and_intros <;> first | exact True.intro | omega | rfl | exact Nat.le_of_ble_eq_true rfl | (refine up ?_; have h := fit_ok k.1 k.2 tm (by omega) hB1 hB2; rw [hf] at h; exact h)) ?_
    refine Runs.condT rfl ?_
    refine Runs.seq ?_
    refine Runs.reg [] [] rfl (by and_intros <;> first | exact True.intro | omega | rfl | exact Nat.le_of_ble_eq_true rfl | skip) ?_
    exact Runs.retD Tryz.func9 rfl rfl rfl (by rw [preR_e hf (by omega)]; rfl) (by rfl) rfl
  · try simp only [decide_eq_true_eq, decide_eq_false_iff_not, notT, notF, beq_iff_eq, beq_eq_false_iff_ne, bne_iff_ne, bne_eq_false_iff_eq, tmodN, tdivN, Int.not_lt, Int.not_le] at g30
    refine Runs.rest [(2, { res := .bool true })] [1, 5, 9] rfl (by and_intros <;> first | exact True.intro | omega | rfl | exact Nat.le_of_ble_eq_true rfl | (refine up ?_; have h := fit_ok k.1 k.2 tm (by omega) hB1 hB2; rw [hf] at h; exact h)) ?_
    refine Runs.condS rfl (fun g33 => ?_) (fun g33 => ?_)
    · try simp only [decide_eq_true_eq, decide_eq_false_iff_not, notT, notF, beq_iff_eq, beq_eq_false_iff_ne, bne_iff_ne, bne_eq_false_iff_eq, tmodN, tdivN, Int.not_lt, Int.not_le] at g33
      refine Runs.seq ?_
      refine Runs.reg [] [] rfl (by and_intros <;> first | exact True.intro | omega | rfl | exact Nat.le_of_ble_eq_true rfl | skip) ?_
      exact Runs.retD Tryz.func9 rfl rfl rfl (by rw [preR_e hf (by omega)]; rfl) (by rfl) rfl
    · try simp only [decide_eq_true_eq, decide_eq_false_iff_not, notT, notF, beq_iff_eq, beq_eq_false_iff_ne, bne_iff_ne, bne_eq_false_iff_eq, tmodN, tdivN, Int.not_lt, Int.not_le] at g33
      refine Runs.skip ?_
      refine Runs.seq ?_
      refine Runs.reg [(2, { res := .tup [.str (queryP t), .sl 2 (queryQ t).length (hdEl (queryQ t)) false] })] [] rfl (by and_intros <;> first | exact True.intro | omega | rfl | exact Nat.le_of_ble_eq_true rfl | exact up (rquery_ok t (by omega))) ?_
      refine Runs.seq ?_
      refine Runs.seq ?_
      refine Runs.reg [] [] rfl (by and_intros <;> first | exact True.intro | omega | rfl | exact Nat.le_of_ble_eq_true rfl | skip) ?_
      refine Runs.block ?_
      -- loop 0
      refine Runs.loopF (σ := Nat) (fun i => i ≤ (queryQ t).length ∧ ∀ j, j < i → ((queryQ t).getD j ([], [])).1 ∉ qNm) (fun i => [(2, .int .i64 tm), (3, .int .i64 ex), (4, .ptr 0 0), (5, .ptr 1 0), (8, .ptr 2 0), (11, .sl 2 (queryQ t).length (hdEl (queryQ t)) false), (12, .int .i64 i)]) (fun _ => [[.str m, .str t, .sl 2 hd.length (hdEl hd) false, .bs b false], [.str k.1, .str k.2], zqA]) (fun i => (queryQ t).length - i) (0) (by exact ⟨Nat.zero_le _, fun j h => absurd h (Nat.not_lt_zero _)⟩) (by exact agree_cons rfl (by first | with_reducible rfl | (refine congrArg (AV.int _) ?_; (try simp only [wrap_i64', wrap_u8, wrap_u16, wrap_u32, wrap_u64, wrap_i32, List.length_cons, List.length_nil, List.length_append, List.length_map, tmodN, tdivN]); omega) | rfl | skip) (agree_cons rfl (by first | with_reducible rfl | (refine congrArg (AV.int _) ?_; (try simp only [wrap_i64', wrap_u8, wrap_u16, wrap_u32, wrap_u64, wrap_i32, List.length_cons, List.length_nil, List.length_append, List.length_map, tmodN, tdivN]); omega) | rfl | skip) (agree_cons rfl (by first | with_reducible rfl | (refine congrArg (AV.int _) ?_; (try simp only [wrap_i64', wrap_u8, wrap_u16, wrap_u32, wrap_u64, wrap_i32, List.length_cons, List.length_nil, List.length_append, List.length_map, tmodN, tdivN]); omega) | rfl | skip) (agree_cons rfl (by first | with_reducible rfl | (refine congrArg (AV.int _) ?_; (try simp only [wrap_i64', wrap_u8, wrap_u16, wrap_u32, wrap_u64, wrap_i32, List.length_cons, List.length_nil, List.length_append, List.length_map, tmodN, tdivN]); omega) | rfl | skip) (agree_cons rfl (by first | with_reducible rfl | (refine congrArg (AV.int _) ?_; (try simp only [wrap_i64', wrap_u8, wrap_u16, wrap_u32, wrap_u64, wrap_i32, List.length_cons, List.length_nil, List.length_append, List.length_map, tmodN, tdivN]); omega) | rfl | skip) (agree_cons rfl (by first | with_reducible rfl | (refine congrArg (AV.int _) ?_; (try simp only [wrap_i64', wrap_u8, wrap_u16, wrap_u32, wrap_u64, wrap_i32, List.length_cons, List.length_nil, List.length_append, List.length_map, tmodN, tdivN]); omega) | rfl | skip) (agree_cons rfl (by first | with_reducible rfl | (refine congrArg (AV.int _) ?_; (try simp only [wrap_i64', wrap_u8, wrap_u16, wrap_u32, wrap_u64, wrap_i32, List.length_cons, List.length_nil, List.length_append, List.length_map, tmodN, tdivN]); omega) | rfl | skip) (trivial)))))))) (by rfl) (fun i hi ih => ?_)
      replace hi : i ≤ (queryQ t).length ∧ ∀ j, j < i → ((queryQ t).getD j ([], [])).1 ∉ qNm := hi; have hi1 := hi.1
      refine Runs.seq ?_
      refine Runs.seq ?_
      refine Runs.reg [] [0, 1] rfl (by and_intros <;> first | exact True.intro | omega | rfl | exact Nat.le_of_ble_eq_true rfl | skip) ?_
      refine Runs.condS rfl (fun g44 => ?_) (fun g44 => ?_)
      · try simp only [decide_eq_true_eq, decide_eq_false_iff_not, notT, notF, beq_iff_eq, beq_eq_false_iff_ne, bne_iff_ne, bne_eq_false_iff_eq, tmodN, tdivN, Int.not_lt, Int.not_le] at g44
        refine Runs.skip ?_
        refine Runs.seq ?_
        refine Runs.block ?_
        refine Runs.seq ?_
        refine Runs.reg [] [0, 1] rfl (by and_intros <;> first | exact True.intro | omega | rfl | exact Nat.le_of_ble_eq_true rfl | skip) ?_
        refine Runs.block ?_
        refine Runs.seq ?_
        refine Runs.seq ?_
        rcases nm_cases ((queryQ t).getD i ([], [])).1 with hnm | hnm | hnm | hnm | hnm | hnm | hnm
        · skip
          refine Runs.reg [(0, { res := .bool true })] [] rfl (by and_intros <;> first | exact True.intro | omega | rfl | exact Nat.le_of_ble_eq_true rfl | (refine congrArg AV.bool ?_; rw [Int.toNat_natCast, hnm]; decide)) ?_
          refine Runs.condT rfl ?_
          refine Runs.skip ?_
          refine Runs.condT rfl ?_
          refine Runs.seq ?_
          refine Runs.reg [] [] rfl (by and_intros <;> first | exact True.intro | omega | rfl | exact Nat.le_of_ble_eq_true rfl | skip) ?_
          exact Runs.retD Tryz.func9 rfl rfl rfl (by rw [preR_t hf (by omega) (.inl (tkn_in (show i < (queryQ t).length by omega) (by rw [hnm]; decide)))]; rfl) (by rfl) rfl
        · skip
          refine Runs.reg [(0, { res := .bool false })] [] rfl (by and_intros <;> first | exact True.intro | omega | rfl | exact Nat.le_of_ble_eq_true rfl | (refine congrArg AV.bool ?_; rw [Int.toNat_natCast, hnm]; decide)) ?_
          refine Runs.condF rfl ?_
          refine Runs.seq ?_
          refine Runs.reg [(0, { res := .bool true })] [] rfl (by and_intros <;> first | exact True.intro | omega | rfl | exact Nat.le_of_ble_eq_true rfl | (refine congrArg AV.bool ?_; rw [Int.toNat_natCast, hnm]; decide)) ?_
          refine Runs.condT rfl ?_
          refine Runs.skip ?_
          refine Runs.condT rfl ?_
          refine Runs.seq ?_
          refine Runs.reg [] [] rfl (by and_intros <;> first | exact True.intro | omega | rfl | exact Nat.le_of_ble_eq_true rfl | skip) ?_
          exact Runs.retD Tryz.func9 rfl rfl rfl (by rw [preR_t hf (by omega) (.inl (tkn_in (show i < (queryQ t).length by omega) (by rw [hnm]; decide)))]; rfl) (by rfl) rfl
        · skip
          refine Runs.reg [(0, { res := .bool false })] [] rfl (by and_intros <;> first | exact True.intro | omega | rfl | exact Nat.le_of_ble_eq_true rfl | (refine congrArg AV.bool ?_; rw [Int.toNat_natCast, hnm]; decide)) ?_
          refine Runs.condF rfl ?_
          refine Runs.seq ?_
          refine Runs.reg [(0, { res := .bool false })] [] rfl (by and_intros <;> first | exact True.intro | omega | rfl | exact Nat.le_of_ble_eq_true rfl | (refine congrArg AV.bool ?_; rw [Int.toNat_natCast, hnm]; decide)) ?_
          refine Runs.condF rfl ?_
          refine Runs.seq ?_
          refine Runs.reg [(0, { res := .bool true })] [] rfl (by and_intros <;> first | exact True.intro | omega | rfl | exact Nat.le_of_ble_eq_true rfl | (refine congrArg AV.bool ?_; rw [Int.toNat_natCast, hnm]; decide)) ?_
          refine Runs.condT rfl ?_
          refine Runs.skip ?_
          refine Runs.condT rfl ?_
          refine Runs.seq ?_
          refine Runs.reg [] [] rfl (by and_intros <;> first | exact True.intro | omega | rfl | exact Nat.le_of_ble_eq_true rfl | skip) ?_
          exact Runs.retD Tryz.func9 rfl rfl rfl (by rw [preR_t hf (by omega) (.inl (tkn_in (show i < (queryQ t).length by omega) (by rw [hnm]; decide)))]; rfl) (by rfl) rfl
        · skip
          refine Runs.reg [(0, { res := .bool false })] [] rfl (by and_intros <;> first | exact True.intro | omega | rfl | exact Nat.le_of_ble_eq_true rfl | (refine congrArg AV.bool ?_; rw [Int.toNat_natCast, hnm]; decide)) ?_
          refine Runs.condF rfl ?_
          refine Runs.seq ?_
          refine Runs.reg [(0, { res := .bool false })] [] rfl (by and_intros <;> first | exact True.intro | omega | rfl | exact Nat.le_of_ble_eq_true rfl | (refine congrArg AV.bool ?_; rw [Int.toNat_natCast, hnm]; decide)) ?_
          refine Runs.condF rfl ?_
          refine Runs.seq ?_
          refine Runs.reg [(0, { res := .bool false })] [] rfl (by and_intros <;> first | exact True.intro | omega | rfl | exact Nat.le_of_ble_eq_true rfl | (refine congrArg AV.bool ?_; rw [Int.toNat_natCast, hnm]; decide)) ?_
          refine Runs.condF rfl ?_
          refine Runs.seq ?_
          refine Runs.reg [(0, { res := .bool true })] [] rfl (by and_intros <;> first | exact True.intro | omega | rfl | exact Nat.le_of_ble_eq_true rfl | (refine congrArg AV.bool ?_; rw [Int.toNat_natCast, hnm]; decide)) ?_
          refine Runs.condT rfl ?_
          refine Runs.skip ?_
          refine Runs.condT rfl ?_
          refine Runs.seq ?_
          refine Runs.reg [] [] rfl (by and_intros <;> first | exact True.intro | omega | rfl | exact Nat.le_of_ble_eq_true rfl | skip) ?_
          exact Runs.retD Tryz.func9 rfl rfl rfl (by rw [preR_t hf (by omega) (.inl (tkn_in (show i < (queryQ t).length by omega) (by rw [hnm]; decide)))]; rfl) (by rfl) rfl
        · skip
          refine Runs.reg [(0, { res := .bool false })] [] rfl (by and_intros <;> first | exact True.intro | omega | rfl | exact Nat.le_of_ble_eq_true rfl | (refine congrArg AV.bool ?_; rw [Int.toNat_natCast, hnm]; decide)) ?_
          refine Runs.condF rfl ?_
          refine Runs.seq ?_
          refine Runs.reg [(0, { res := .bool false })] [] rfl (by and_intros <;> first | exact True.intro | omega | rfl | exact Nat.le_of_ble_eq_true rfl | (refine congrArg AV.bool ?_; rw [Int.toNat_natCast, hnm]; decide)) ?_
          refine Runs.condF rfl ?_
          refine Runs.seq ?_
          refine Runs.reg [(0, { res := .bool false })] [] rfl (by and_intros <;> first | exact True.intro | omega | rfl | exact Nat.le_of_ble_eq_true rfl | (refine congrArg AV.bool ?_; rw [Int.toNat_natCast, hnm]; decide)) ?_
          refine Runs.condF rfl ?_
          refine Runs.seq ?_
          refine Runs.reg [(0, { res := .bool false })] [] rfl (by and_intros <;> first | exact True.intro | omega | rfl | exact Nat.le_of_ble_eq_true rfl | (refine congrArg AV.bool ?_; rw [Int.toNat_natCast, hnm]; decide)) ?_
          refine Runs.condF rfl ?_
          refine Runs.seq ?_
          refine Runs.reg [(0, { res := .bool true })] [] rfl (by and_intros <;> first | exact True.intro | omega | rfl | exact Nat.le_of_ble_eq_true rfl | (refine congrArg AV.bool ?_; rw [Int.toNat_natCast, hnm]; decide)) ?_
          refine Runs.condT rfl ?_
          refine Runs.skip ?_
          refine Runs.condT rfl ?_
          refine Runs.seq ?_
          refine Runs.reg [] [] rfl (by and_intros <;> first | exact True.intro | omega | rfl | exact Nat.le_of_ble_eq_true rfl | skip) ?_
          exact Runs.retD Tryz.func9 rfl rfl rfl (by rw [preR_t hf (by omega) (.inl (tkn_in (show i < (queryQ t).length by omega) (by rw [hnm]; decide)))]; rfl) (by rfl) rfl
        · skip
          refine Runs.reg [(0, { res := .bool false })] [] rfl (by and_intros <;> first | exact True.intro | omega | rfl | exact Nat.le_of_ble_eq_true rfl | (refine congrArg AV.bool ?_; rw [Int.toNat_natCast, hnm]; decide)) ?_
          refine Runs.condF rfl ?_
          refine Runs.seq ?_
          refine Runs.reg [(0, { res := .bool false })] [] rfl (by and_intros <;> first | exact True.intro | omega | rfl | exact Nat.le_of_ble_eq_true rfl | (refine congrArg AV.bool ?_; rw [Int.toNat_natCast, hnm]; decide)) ?_
          refine Runs.condF rfl ?_
          refine Runs.seq ?_
          refine Runs.reg [(0, { res := .bool false })] [] rfl (by and_intros <;> first | exact True.intro | omega | rfl | exact Nat.le_of_ble_eq_true rfl | (refine congrArg AV.bool ?_; rw [Int.toNat_natCast, hnm]; decide)) ?_
          refine Runs.condF rfl ?_
          refine Runs.seq ?_
          refine Runs.reg [(0, { res := .bool false })] [] rfl (by and_intros <;> first | exact True.intro | omega | rfl | exact Nat.le_of_ble_eq_true rfl | (refine congrArg AV.bool ?_; rw [Int.toNat_natCast, hnm]; decide)) ?_
          refine Runs.condF rfl ?_
          refine Runs.seq ?_
          refine Runs.reg [(0, { res := .bool false })] [] rfl (by and_intros <;> first | exact True.intro | omega | rfl | exact Nat.le_of_ble_eq_true rfl | (refine congrArg AV.bool ?_; rw [Int.toNat_natCast, hnm]; decide)) ?_
          refine Runs.condF rfl ?_
          refine Runs.reg [(0, { res := .bool true })] [] rfl (by and_intros <;> first | exact True.intro | omega | rfl | exact Nat.le_of_ble_eq_true rfl | (refine congrArg AV.bool ?_; rw [Int.toNat_natCast, hnm]; decide)) ?_
          refine Runs.condT rfl ?_
          refine Runs.seq ?_
          refine Runs.reg [] [] rfl (by and_intros <;> first | exact True.intro | omega | rfl | exact Nat.le_of_ble_eq_true rfl | skip) ?_
          exact Runs.retD Tryz.func9 rfl rfl rfl (by rw [preR_t hf (by omega) (.inl (tkn_in (show i < (queryQ t).length by omega) (by rw [hnm]; decide)))]; rfl) (by rfl) rfl
        · skip
          refine Runs.reg [(0, { res := .bool false })] [] rfl (by and_intros <;> first | exact True.intro | omega | rfl | exact Nat.le_of_ble_eq_true rfl | (refine congrArg AV.bool ?_; rw [Int.toNat_natCast]; exact ne_nm hnm 0)) ?_
          refine Runs.condF rfl ?_
          refine Runs.seq ?_
          refine Runs.reg [(0, { res := .bool false })] [] rfl (by and_intros <;> first | exact True.intro | omega | rfl | exact Nat.le_of_ble_eq_true rfl | (refine congrArg AV.bool ?_; rw [Int.toNat_natCast]; exact ne_nm hnm 1)) ?_
          refine Runs.condF rfl ?_
          refine Runs.seq ?_
          refine Runs.reg [(0, { res := .bool false })] [] rfl (by and_intros <;> first | exact True.intro | omega | rfl | exact Nat.le_of_ble_eq_true rfl | (refine congrArg AV.bool ?_; rw [Int.toNat_natCast]; exact ne_nm hnm 2)) ?_
          refine Runs.condF rfl ?_
          refine Runs.seq ?_
          refine Runs.reg [(0, { res := .bool false })] [] rfl (by and_intros <;> first | exact True.intro | omega | rfl | exact Nat.le_of_ble_eq_true rfl | (refine congrArg AV.bool ?_; rw [Int.toNat_natCast]; exact ne_nm hnm 3)) ?_
          refine Runs.condF rfl ?_
          refine Runs.seq ?_
          refine Runs.reg [(0, { res := .bool false })] [] rfl (by and_intros <;> first | exact True.intro | omega | rfl | exact Nat.le_of_ble_eq_true rfl | (refine congrArg AV.bool ?_; rw [Int.toNat_natCast]; exact ne_nm hnm 4)) ?_
          refine Runs.condF rfl ?_
          refine Runs.reg [(0, { res := .bool false })] [] rfl (by and_intros <;> first | exact True.intro | omega | rfl | exact Nat.le_of_ble_eq_true rfl | (refine congrArg AV.bool ?_; rw [Int.toNat_natCast]; exact ne_nm hnm 5)) ?_
          refine Runs.condF rfl ?_
          refine Runs.skip ?_
          refine Runs.inBlock ?_
          refine Runs.inBlock ?_
          refine Runs.reg [] [] rfl (by and_intros <;> first | exact True.intro | omega | rfl | exact Nat.le_of_ble_eq_true rfl | skip) ?_
          exact ih (i + 1) _ _ (by exact ⟨by omega, fun j hj => by rcases Nat.lt_or_ge j i with h | h; exact hi.2 j h; (rw [show j = i by omega]; exact hnm)⟩) (by omega) (by exact agree_cons rfl (by first | with_reducible rfl | (refine congrArg (AV.int _) ?_; (try simp only [wrap_i64', wrap_u8, wrap_u16, wrap_u32, wrap_u64, wrap_i32, List.length_cons, List.length_nil, List.length_append, List.length_map, tmodN, tdivN]); omega) | rfl | skip) (agree_cons rfl (by first | with_reducible rfl | (refine congrArg (AV.int _) ?_; (try simp only [wrap_i64', wrap_u8, wrap_u16, wrap_u32, wrap_u64, wrap_i32, List.length_cons, List.length_nil, List.length_append, List.length_map, tmodN, tdivN]); omega) | rfl | skip) (agree_cons rfl (by first | with_reducible rfl | (refine congrArg (AV.int _) ?_; (try simp only [wrap_i64', wrap_u8, wrap_u16, wrap_u32, wrap_u64, wrap_i32, List.length_cons, List.length_nil, List.length_append, List.length_map, tmodN, tdivN]); omega) | rfl | skip) (agree_cons rfl (by first | with_reducible rfl | (refine congrArg (AV.int _) ?_; (try simp only [wrap_i64', wrap_u8, wrap_u16, wrap_u32, wrap_u64, wrap_i32, List.length_cons, List.length_nil, List.length_append, List.length_map, tmodN, tdivN]); omega) | rfl | skip) (agree_cons rfl (by first | with_reducible rfl | (refine congrArg (AV.int _) ?_; (try simp only [wrap_i64', wrap_u8, wrap_u16, wrap_u32, wrap_u64, wrap_i32, List.length_cons, List.length_nil, List.length_append, List.length_map, tmodN, tdivN]); omega) | rfl | skip) (agree_cons rfl (by first | with_reducible rfl | (refine congrArg (AV.int _) ?_; (try simp only [wrap_i64', wrap_u8, wrap_u16, wrap_u32, wrap_u64, wrap_i32, List.length_cons, List.length_nil, List.length_append, List.length_map, tmodN, tdivN]); omega) | rfl | skip) (agree_cons rfl (by first | with_reducible rfl | (refine congrArg (AV.int _) ?_; (try simp only [wrap_i64', wrap_u8, wrap_u16, wrap_u32, wrap_u64, wrap_i32, List.length_cons, List.length_nil, List.length_append, List.length_map, tmodN, tdivN]); omega) | rfl | skip) (trivial)))))))) (by rfl)
      · try simp only [decide_eq_true_eq, decide_eq_false_iff_not, notT, notF, beq_iff_eq, beq_eq_false_iff_ne, bne_iff_ne, bne_eq_false_iff_eq, tmodN, tdivN, Int.not_lt, Int.not_le] at g44
        refine Runs.exit rfl ?_
        refine Runs.seq ?_
        refine Runs.seq ?_
        have hq6 : tkn (queryQ t) qNm = false := tkn_out (fun j hj => hi.2 j (by omega))
        refine Runs.reg [(2, { res := .sl 1 (allL hd authN).length (strEl (allL hd authN)) false })] [] rfl (by and_intros <;> first | exact True.intro | omega | rfl | exact Nat.le_of_ble_eq_true rfl | exact up (rall_ok hd authN (by omega))) ?_
        refine Runs.condS rfl (fun g64 => ?_) (fun g64 => ?_)
        · try simp only [decide_eq_true_eq, decide_eq_false_iff_not, notT, notF, beq_iff_eq, beq_eq_false_iff_ne, bne_iff_ne, bne_eq_false_iff_eq, tmodN, tdivN, Int.not_lt, Int.not_le] at g64
          refine Runs.seq ?_
          refine Runs.reg [] [] rfl (by and_intros <;> first | exact True.intro | omega | rfl | exact Nat.le_of_ble_eq_true rfl | skip) ?_
          exact Runs.retD Tryz.func9 rfl rfl rfl (by rw [preR_t hf (by omega) (.inr (by rw [tkn_one]; exact decide_eq_true (fun h => by rw [h] at g64; simp at g64)))]; rfl) (by rfl) rfl
        · try simp only [decide_eq_true_eq, decide_eq_false_iff_not, notT, notF, beq_iff_eq, beq_eq_false_iff_ne, bne_iff_ne, bne_eq_false_iff_eq, tmodN, tdivN, Int.not_lt, Int.not_le] at g64
          refine Runs.skip ?_
          refine Runs.seq ?_
          refine Runs.reg [(2, { res := .sl 1 (nmS hd).length (strEl (nmS hd)) false })] [] rfl (by and_intros <;> first | exact True.intro | omega | rfl | exact Nat.le_of_ble_eq_true rfl | (refine up ?_; have h := namesOf_ok hd (by omega); rw [← names_same hd] at h; exact h)) ?_
          refine Runs.seq ?_
          refine Runs.reg [(1, { res := .str (dayC tm) })] [0] rfl (by and_intros <;> first | exact True.intro | omega | rfl | exact Nat.le_of_ble_eq_true rfl | exact up (rday_all tm hB1 hB2)) ?_
          refine Runs.seq ?_
          refine Runs.reg [] [] rfl (by and_intros <;> first | exact True.intro | omega | rfl | exact Nat.le_of_ble_eq_true rfl | skip) ?_
          refine Runs.seq ?_
          refine Runs.seq ?_
          have ho1 := tkn_one hd authN
          refine Runs.reg [(2, { res := .tup [.str (cutF t 63).1, .str (cutF t 63).2.1, .bool (decide (0 ≤ Lib.indexByte t 63))] })] [] rfl (by and_intros <;> first | exact True.intro | omega | rfl | exact Nat.le_of_ble_eq_true rfl | (refine up ?_; have h := rcut_ok t 63 (by omega); rw [cut_mk] at h; exact h)) ?_
          refine Runs.seq ?_
          refine Runs.reg [] [0] rfl (by and_intros <;> first | exact True.intro | omega | rfl | exact Nat.le_of_ble_eq_true rfl | skip) ?_
          refine Runs.meet (σ := List UInt8) (fun mk => mk = mkC t) (fun mk => [(2, .int .i64 tm), (3, .int .i64 ex), (4, .ptr 0 0), (5, .ptr 1 0), (8, .ptr 2 0), (13, .sl 1 (nmS hd).length (strEl (nmS hd)) false), (14, .str (dayC tm)), (15, .str mk)]) (fun _ => [[.str m, .str t, .sl 2 hd.length (hdEl hd) false, .bs b false], [.str k.1, .str k.2], zqA]) (fun mk hmk => ?_) (fun meet_J => Runs.condS rfl (fun g79 => ?_) (fun g79 => ?_))
          · skip
            refine Runs.seq ?_
            have hex1 : 1 ≤ ex := by omega
            have hex2 : ex ≤ 604800 := by omega
            have hpt := psT_le t k.1 tm ex.toNat (nmS hd) (by omega) (by omega) 5 (by omega)
            have hv3 := dec_len ex.toNat (by omega)
            have he1 := escL_len3 (k.1 ++ [47] ++ dayC tm ++ scopeS) false
            have he2 := escL_len3 (joinL (nmS hd) [59]) false
            have hmkl : mk.length = 1 := by rw [hmk]; exact mk_le t 0
            rw [List.length_append, List.length_append, List.length_append] at he1
            simp only [List.length_cons, List.length_nil] at he1
            refine Runs.reg [(8, { res := .str (escL (k.1 ++ [47] ++ dayC tm ++ scopeS) false) }), (12, { res := .str (basC tm) }), (16, { res := .str (decD ex.toNat) }), (20, { res := .str (joinL (nmS hd) [59]) }), (21, { res := .str (escL (joinL (nmS hd) [59]) false) })] [5, 11, 15, 19] rfl (by and_intros <;> first | exact True.intro | omega | rfl | exact Nat.le_of_ble_eq_true rfl | exact up (resc_ok (k.1 ++ [47] ++ dayC tm ++ scopeS) false (by simp only [List.length_append, List.length_cons, List.length_nil]; omega)) | exact up (rbasic_all tm hB1 hB2) | (refine up ?_; have h := rtextN_ok ex.toNat (by omega); rw [show ((ex.toNat : Nat) : Int) = ex by omega] at h; exact h) | exact up (rjoin_ok (nmS hd) [59] (by omega) (by omega)) | exact up (resc_ok (joinL (nmS hd) [59]) false (by omega)) | (simp only [List.length_append, List.length_cons, List.length_nil]; omega) | skip) ?_
            refine Runs.seq ?_
            refine Runs.region ?_
            refine Runs.restTo 8 [(5, { res := .str (psG t hd k tm ex.toNat) })] [4] rfl (by and_intros <;> first | exact True.intro | omega | rfl | exact Nat.le_of_ble_eq_true rfl | (simp only [List.length_append, List.length_cons, List.length_nil]; omega) | exact congrArg AV.str (by rw [hmk]; exact more_eq t hd k tm ex.toNat) | skip) ?_
            refine Runs.op rfl rfl rfl (OpSem.buildN rfl rfl rfl rfl rfl) ?_
            refine Runs.rest [(5, { res := .str (psG t hd k tm ex.toNat) })] [4] rfl (by and_intros <;> first | exact True.intro | omega | rfl | exact Nat.le_of_ble_eq_true rfl | (simp only [List.length_append, List.length_cons, List.length_nil]; omega) | exact congrArg AV.str (by rw [hmk]; exact more_eq t hd k tm ex.toNat) | skip) ?_
            refine Runs.seq ?_
            refine Runs.region ?_
            refine Runs.restTo 4 [] [] rfl (by and_intros <;> first | exact True.intro | omega | rfl | exact Nat.le_of_ble_eq_true rfl | skip) ?_
            refine Runs.conv 113 (a := .sl 2 0 (fun _ => .bad) true) (by exact Imp.nilsl) (.inr (by intro vs h; cases h)) (by intro vs h; cases h) ?_
            refine Runs.restTo 1 [] [] rfl (by and_intros <;> first | exact True.intro | omega | rfl | exact Nat.le_of_ble_eq_true rfl | skip) ?_
            refine Runs.conv 116 (a := .sl 2 hd.length (hdEl hd) true) (by exact hd_nil_app hd true) (.inr (by intro vs h; cases h)) (by intro vs h; cases h) ?_
            refine Runs.rest [] [] rfl (by and_intros <;> first | exact True.intro | omega | rfl | exact Nat.le_of_ble_eq_true rfl | skip) ?_
            refine Runs.seq ?_
            rcases hx : canonL m (psG t hd k tm ex.toNat) hd (nmS hd) unsP true with _ | x
            · skip
              refine Runs.reg [(2, { res := .tup [.str [], .int .i64 331] })] [1] rfl (by and_intros <;> first | exact True.intro | omega | rfl | exact Nat.le_of_ble_eq_true rfl | (refine up ?_; have h := rcanon_ok m (psG t hd k tm ex.toNat) hd b (nmS hd) unsP true false (B.bd (by omega) (by omega)); rw [hx] at h; exact h) | skip) ?_
              refine Runs.seq ?_
              refine Runs.seq ?_
              refine Runs.reg [(1, { res := .bool true })] [0] rfl (by and_intros <;> first | exact True.intro | omega | rfl | exact Nat.le_of_ble_eq_true rfl | (refine congrArg AV.bool ?_; decide)) ?_
              refine Runs.condT rfl ?_
              refine Runs.seq ?_
              refine Runs.reg [] [1] rfl (by and_intros <;> first | exact True.intro | omega | rfl | exact Nat.le_of_ble_eq_true rfl | skip) ?_
              exact Runs.retD Tryz.func9 rfl rfl rfl (by rw [preR_n hf (by omega) hq6 (by rw [tkn_one]; exact decide_eq_false (fun h => h (List.eq_nil_of_length_eq_zero (by omega)))) hx]; rfl) (by rfl) rfl
            · skip
              refine Runs.reg [(2, { res := .tup [.str x, .int .i64 0] })] [1] rfl (by and_intros <;> first | exact True.intro | omega | rfl | exact Nat.le_of_ble_eq_true rfl | (refine up ?_; have h := rcanon_ok m (psG t hd k tm ex.toNat) hd b (nmS hd) unsP true false (B.bd (by omega) (by omega)); rw [hx] at h; exact h) | skip) ?_
              refine Runs.seq ?_
              refine Runs.seq ?_
              refine Runs.reg [(1, { res := .bool false })] [0] rfl (by and_intros <;> first | exact True.intro | omega | rfl | exact Nat.le_of_ble_eq_true rfl | (refine congrArg AV.bool ?_; decide)) ?_
              refine Runs.condF rfl ?_
              refine Runs.skip ?_
              refine Runs.seq ?_
              have hsl := sigC_len k.2 tm x
              have hpg : (psG t hd k tm ex.toNat).length ≤ 3200000 := hpt
              refine Runs.regD [(6, { res := .bs (keyC k.2 tm) false }), (8, { res := .str (basC tm) }), (12, { res := .str (sigC k.2 tm x) }), (13, { res := .str (psG t hd k tm ex.toNat ++ (sigPre ++ sigC k.2 tm x)) })] [5, 7, 9, 11] rfl rfl rfl (by and_intros <;> first | exact True.intro | omega | rfl | exact Nat.le_of_ble_eq_true rfl | exact up (rskey_ok k.2 (dayC tm) usE s3E (by omega) (by omega) (by decide) (by decide)) | exact up (rbasic_all tm hB1 hB2) | exact up (rsign_ok (keyC k.2 tm) (basC tm) (dayC tm ++ scopeS) x (keyC_len _ _ (by omega)) (by omega) (by simp; omega) (B.txt (by omega) (by omega) hx)) | exact congrArg AV.str (List.append_assoc ..) | (simp only [List.length_append, List.length_cons, List.length_nil]; omega) | skip) ?_
              refine Runs.seq ?_
              refine Runs.reg [] [] rfl (by and_intros <;> first | exact True.intro | omega | rfl | exact Nat.le_of_ble_eq_true rfl | skip) ?_
              exact Runs.retD Tryz.func9 rfl rfl rfl (by rw [preR_s hf (by omega) hq6 (by rw [tkn_one]; exact decide_eq_false (fun h => h (List.eq_nil_of_length_eq_zero (by omega)))) hx]; rfl) (by rfl) rfl
          · try simp only [decide_eq_true_eq, decide_eq_false_iff_not, notT, notF, beq_iff_eq, beq_eq_false_iff_ne, bne_iff_ne, bne_eq_false_iff_eq, tmodN, tdivN, Int.not_lt, Int.not_le] at g79
            refine Runs.reg [] [] rfl (by and_intros <;> first | exact True.intro | omega | rfl | exact Nat.le_of_ble_eq_true rfl | skip) ?_
            exact meet_J ([63]) _ _ (by unfold mkC; first | (rw [if_pos (by omega)]; done) | (rw [if_neg (by omega)])) (by exact agree_cons rfl (by first | with_reducible rfl | (refine congrArg (AV.int _) ?_; (try simp only [wrap_i64', wrap_u8, wrap_u16, wrap_u32, wrap_u64, wrap_i32, List.length_cons, List.length_nil, List.length_append, List.length_map, tmodN, tdivN]); omega) | rfl | skip) (agree_cons rfl (by first | with_reducible rfl | (refine congrArg (AV.int _) ?_; (try simp only [wrap_i64', wrap_u8, wrap_u16, wrap_u32, wrap_u64, wrap_i32, List.length_cons, List.length_nil, List.length_append, List.length_map, tmodN, tdivN]); omega) | rfl | skip) (agree_cons rfl (by first | with_reducible rfl | (refine congrArg (AV.int _) ?_; (try simp only [wrap_i64', wrap_u8, wrap_u16, wrap_u32, wrap_u64, wrap_i32, List.length_cons, List.length_nil, List.length_append, List.length_map, tmodN, tdivN]); omega) | rfl | skip) (agree_cons rfl (by first | with_reducible rfl | (refine congrArg (AV.int _) ?_; (try simp only [wrap_i64', wrap_u8, wrap_u16, wrap_u32, wrap_u64, wrap_i32, List.length_cons, List.length_nil, List.length_append, List.length_map, tmodN, tdivN]); omega) | rfl | skip) (agree_cons rfl (by first | with_reducible rfl | (refine congrArg (AV.int _) ?_; (try simp only [wrap_i64', wrap_u8, wrap_u16, wrap_u32, wrap_u64, wrap_i32, List.length_cons, List.length_nil, List.length_append, List.length_map, tmodN, tdivN]); omega) | rfl | skip) (agree_cons rfl (by first | with_reducible rfl | (refine congrArg (AV.int _) ?_; (try simp only [wrap_i64', wrap_u8, wrap_u16, wrap_u32, wrap_u64, wrap_i32, List.length_cons, List.length_nil, List.length_append, List.length_map, tmodN, tdivN]); omega) | rfl | skip) (agree_cons rfl (by first | with_reducible rfl | (refine congrArg (AV.int _) ?_; (try simp only [wrap_i64', wrap_u8, wrap_u16, wrap_u32, wrap_u64, wrap_i32, List.length_cons, List.length_nil, List.length_append, List.length_map, tmodN, tdivN]); omega) | rfl | skip) (agree_cons rfl (by first | with_reducible rfl | (refine congrArg (AV.int _) ?_; (try simp only [wrap_i64', wrap_u8, wrap_u16, wrap_u32, wrap_u64, wrap_i32, List.length_cons, List.length_nil, List.length_append, List.length_map, tmodN, tdivN]); omega) | rfl | skip) (trivial))))))))) (by rfl)
          · try simp only [decide_eq_true_eq, decide_eq_false_iff_not, notT, notF, beq_iff_eq, beq_eq_false_iff_ne, bne_iff_ne, bne_eq_false_iff_eq, tmodN, tdivN, Int.not_lt, Int.not_le] at g79
            refine Runs.skip ?_
            exact meet_J ([38]) _ _ (by unfold mkC; first | (rw [if_pos (by omega)]; done) | (rw [if_neg (by omega)])) (by exact agree_cons rfl (by first | with_reducible rfl | (refine congrArg (AV.int _) ?_; (try simp only [wrap_i64', wrap_u8, wrap_u16, wrap_u32, wrap_u64, wrap_i32, List.length_cons, List.length_nil, List.length_append, List.length_map, tmodN, tdivN]); omega) | rfl | skip) (agree_cons rfl (by first | with_reducible rfl | (refine congrArg (AV.int _) ?_; (try simp only [wrap_i64', wrap_u8, wrap_u16, wrap_u32, wrap_u64, wrap_i32, List.length_cons, List.length_nil, List.length_append, List.length_map, tmodN, tdivN]); omega) | rfl | skip) (agree_cons rfl (by first | with_reducible rfl | (refine congrArg (AV.int _) ?_; (try simp only [wrap_i64', wrap_u8, wrap_u16, wrap_u32, wrap_u64, wrap_i32, List.length_cons, List.length_nil, List.length_append, List.length_map, tmodN, tdivN]); omega) | rfl | skip) (agree_cons rfl (by first | with_reducible rfl | (refine congrArg (AV.int _) ?_; (try simp only [wrap_i64', wrap_u8, wrap_u16, wrap_u32, wrap_u64, wrap_i32, List.length_cons, List.length_nil, List.length_append, List.length_map, tmodN, tdivN]); omega) | rfl | skip) (agree_cons rfl (by first | with_reducible rfl | (refine congrArg (AV.int _) ?_; (try simp only [wrap_i64', wrap_u8, wrap_u16, wrap_u32, wrap_u64, wrap_i32, List.length_cons, List.length_nil, List.length_append, List.length_map, tmodN, tdivN]); omega) | rfl | skip) (agree_cons rfl (by first | with_reducible rfl | (refine congrArg (AV.int _) ?_; (try simp only [wrap_i64', wrap_u8, wrap_u16, wrap_u32, wrap_u64, wrap_i32, List.length_cons, List.length_nil, List.length_append, List.length_map, tmodN, tdivN]); omega) | rfl | skip) (agree_cons rfl (by first | with_reducible rfl | (refine congrArg (AV.int _) ?_; (try simp only [wrap_i64', wrap_u8, wrap_u16, wrap_u32, wrap_u64, wrap_i32, List.length_cons, List.length_nil, List.length_append, List.length_map, tmodN, tdivN]); omega) | rfl | skip) (agree_cons rfl (by first | with_reducible rfl | (refine congrArg (AV.int _) ?_; (try simp only [wrap_i64', wrap_u8, wrap_u16, wrap_u32, wrap_u64, wrap_i32, List.length_cons, List.length_nil, List.length_append, List.length_map, tmodN, tdivN]); omega) | rfl | skip) (trivial))))))))) (by rfl)

end Go.Proofs.YtdigohaeakclfaaGreatDoor
set_option maxRecDepth 100000
set_option linter.unusedVariables false
set_option linter.unusedSimpArgs false
namespace Go.Proofs.YtdigohaeakclfaaGreatDoor
open Go Go.Am

theorem rpresign_ok (m t : List UInt8) (hd : List Hd) (b : List UInt8) (k : Hd) (tm ex : Int) (B : PB m t hd b k tm ex) : FnOK Tryz.prog 9 [reqA m t hd b, .agg [.str k.1, .str k.2], .int .i64 tm, .int .i64 ex] [] (preA m b hd (preR m t hd k tm ex)) [] := by
  refine FnOK.conv ?_ (fun G w ρ v h => pre_conv m b hd _ G w ρ v h) (pre_nr ..)
  cases hf : fitB k.1 tm with
  | false => exact rpre_f m t hd b k tm ex B hf
  | true => exact rpre_t m t hd b k tm ex B hf
theorem smR_same (m t : List UInt8) (hd : List Hd) (b : List UInt8) : smR m t hd b m t hd b = true := decide_eq_true ⟨rfl, rfl, rfl, rfl⟩
theorem same_ok (m t : List UInt8) (hd : List Hd) (b : List UInt8) (hl : hd.length ≤ 16777216) (hb : b.length ≤ 67108864) : FnOK Tryz.prog 10 [reqA m t hd b, reqA m t hd b] [] (.bool true) [] := by
  have h := up (sameR_ok m t hd b m t hd b hl hl hb hb)
  rwa [smR_same] at h
theorem hdr_any (m t : List UInt8) (hd : List Hd) (b : List UInt8) (k : Hd) (tm : Int) (pl : List UInt8) (hl : hd.length ≤ 1048576) (hb : b.length ≤ 1048576) : ∃ M T L B E, hdrA m t b (hdrR m t hd k tm pl) = resA M T L B E ∧ L.length ≤ 16777216 ∧ B.length ≤ 67108864 := by
  unfold hdrR
  split
  · split
    · exact ⟨_, _, _, _, _, rfl, by simp, by simp⟩
    · split
      · exact ⟨_, _, _, _, _, rfl, by simp, by simp⟩
      · exact ⟨_, _, _, _, _, rfl, by simp [stampH]; omega, by omega⟩
  · exact ⟨_, _, _, _, _, rfl, by simp, by simp⟩
theorem pre_any (m t : List UInt8) (hd : List Hd) (b : List UInt8) (k : Hd) (tm ex : Int) (hl : hd.length ≤ 1048576) (hb : b.length ≤ 1048576) : ∃ M T L B E, preA m b hd (preR m t hd k tm ex) = resA M T L B E ∧ L.length ≤ 16777216 ∧ B.length ≤ 67108864 := by
  generalize preR m t hd k tm ex = r
  cases r with
  | inl e => exact ⟨_, _, _, _, _, rfl, by simp, by simp⟩
  | inr x => exact ⟨_, _, _, _, _, rfl, by omega, by omega⟩

set_option maxHeartbeats 4000000 in
theorem sigMakes_ok (m t : List UInt8) (hd : List Hd) (b : List UInt8) (k : Hd) (tm : Int) (pl : List UInt8) (ex : Int) (B : SB m t hd b k tm pl) (B' : PB m t hd b k tm ex) : FnOK Tryz.prog 3 [reqA m t hd b, .agg [.str k.1, .str k.2], .int .i64 tm, .str pl, .int .i64 ex] [] (.bool true) [] := by
  refine FnOK.of_runs Tryz.func3 rfl (Nat.le_of_ble_eq_true rfl) ?_
  refine Runs.seq ?_
  refine Runs.reg [] [] rfl (by and_intros <;> first | exact True.intro | omega | rfl | exact Nat.le_of_ble_eq_true rfl | skip) ?_
  refine Runs.seq ?_
  have hB0 := B.tot; have hll := hdW_len' hd
  obtain ⟨M1, T1, L1, B1, E1, h1, hl1, hb1⟩ := hdr_any m t hd b k tm pl (by omega) (by omega)
  obtain ⟨M2, T2, L2, B2, E2, h2, hl2, hb2⟩ := pre_any m t hd b k tm ex (by omega) (by omega)
  refine Runs.reg [(4, { res := .tup [.agg [.str M1, .str T1, .sl 2 L1.length (hdEl L1) false, .bs B1 false], .int .i64 E1] })] [2, 3] rfl (by and_intros <;> first | exact True.intro | omega | rfl | exact Nat.le_of_ble_eq_true rfl | (refine up ?_; have h := header_ok m t hd b k tm pl B; rw [h1] at h; exact h)) ?_
  refine Runs.seq ?_
  refine Runs.reg [(4, { res := .tup [.agg [.str M1, .str T1, .sl 2 L1.length (hdEl L1) false, .bs B1 false], .int .i64 E1] })] [2, 3] rfl (by and_intros <;> first | exact True.intro | omega | rfl | exact Nat.le_of_ble_eq_true rfl | (refine up ?_; have h := rheader_ok m t hd b k tm pl B; rw [h1] at h; exact h)) ?_
  refine Runs.seq ?_
  refine Runs.reg [(4, { res := .tup [.agg [.str M2, .str T2, .sl 2 L2.length (hdEl L2) false, .bs B2 false], .int .i64 E2] })] [2, 3] rfl (by and_intros <;> first | exact True.intro | omega | rfl | exact Nat.le_of_ble_eq_true rfl | (have h := presign_ok m t hd b k tm ex B'; rw [h2] at h; exact h)) ?_
  refine Runs.seq ?_
  refine Runs.reg [(4, { res := .tup [.agg [.str M2, .str T2, .sl 2 L2.length (hdEl L2) false, .bs B2 false], .int .i64 E2] })] [2, 3] rfl (by and_intros <;> first | exact True.intro | omega | rfl | exact Nat.le_of_ble_eq_true rfl | (have h := rpresign_ok m t hd b k tm ex B'; rw [h2] at h; exact h)) ?_
  refine Runs.seq ?_
  refine Runs.region ?_
  refine Runs.rest [(2, { res := .bool true }), (6, { res := .bool true }), (11, { res := .bool true }), (16, { res := .bool true }), (19, { res := .bool true })] [4, 5, 14, 15] rfl (by and_intros <;> first | exact True.intro | omega | rfl | exact Nat.le_of_ble_eq_true rfl | exact same_ok M1 T1 L1 B1 hl1 hb1 | exact same_ok M2 T2 L2 B2 hl2 hb2 | exact up awake18_ok | (refine congrArg AV.bool ?_; simp) | skip) ?_
  refine Runs.drop 0 (Nat.zero_le _) rfl ?_
  exact Runs.retH Tryz.func3 rfl rfl (by rfl) (by rfl)

end Go.Proofs.YtdigohaeakclfaaGreatDoor
