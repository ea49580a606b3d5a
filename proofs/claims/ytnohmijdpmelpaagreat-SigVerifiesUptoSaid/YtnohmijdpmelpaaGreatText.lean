/- What the canonical text is, in plain lists; pairs compared; a text escaped anew. -/
import Derived.Test.YtnohmijdpmelpaaGreatUef
import Derived.Test.YtnohmijdpmelpaaGreatKit
set_option maxRecDepth 100000
set_option linter.unusedVariables false
set_option linter.unusedSimpArgs false
namespace Go.Proofs.YtnohmijdpmelpaaGreat
open Go Go.Am
def xsig : List UInt8 := [88, 45, 65, 109, 122, 45, 83, 105, 103, 110, 97, 116, 117, 114, 101]
def cPairs (pre : Bool) : List Hd → Option (List Hd)
  | [] => some []
  | p :: r => if pre = true ∧ p.1 = xsig then cPairs pre r else match unescL p.1, unescL p.2 with
    | some a, some b => (cPairs pre r).map ((escL a false, escL b false) :: ·)
    | _, _ => none
def queryC (t : List UInt8) (pre : Bool) : Option (List UInt8) := (cPairs pre (queryQ t)).map fun l => joinL ((sortP l).map fun p => p.1 ++ [61] ++ p.2) [38]
def valsL (hd : List Hd) (n : List UInt8) : List (List UInt8) := (allL hd n).map foldL
def lineL (hd : List Hd) (n : List UInt8) : List UInt8 := n ++ [58] ++ joinL (valsL hd n) [44] ++ [10]
def headC (m p q : List UInt8) : List UInt8 := m ++ [10] ++ p ++ [10] ++ q ++ [10]
def textC (m p q : List UInt8) (hd : List Hd) (sg : List (List UInt8)) (pay : List UInt8) : List UInt8 := headC m p q ++ sg.flatMap (lineL hd) ++ [10] ++ joinL sg [59] ++ [10] ++ pay
def canonL (m t : List UInt8) (hd : List Hd) (sg : List (List UInt8)) (pay : List UInt8) (pre : Bool) : Option (List UInt8) :=
  match unescL (queryP t), queryC t pre with
  | some p, some q => some (textC m (escL p true) q hd sg pay)
  | _, _ => none
def errC (o : Option (List UInt8)) : Int := if o.isSome = true then 0 else 331
theorem queryP_len (t : List UInt8) : (queryP t).length ≤ t.length := (cut_len t 63).1
theorem valsL_len (hd : List Hd) (n : List UInt8) : (valsL hd n).length ≤ hd.length := by
  unfold valsL allL; rw [List.length_map]; exact aN_len hd n hd.length
theorem fm_step (hd : List Hd) {sg : List (List UInt8)} {i : Nat} (hi : i < sg.length) : (sg.take (i + 1)).flatMap (lineL hd) = (sg.take i).flatMap (lineL hd) ++ lineL hd (sg.getD i []) := by
  rw [List.take_add_one, List.getElem?_eq_getElem hi, List.getD_eq_getElem?_getD, List.getElem?_eq_getElem hi]
  simp only [List.flatMap_append, Option.toList_some, List.flatMap_cons, List.flatMap_nil, List.append_nil, Option.getD_some]
theorem unesc_len : ∀ (n : Nat) (s : List UInt8), s.length = n → ∀ x, unescL s = some x → x.length ≤ s.length := by
  intro n
  induction n using Nat.strongRecOn with
  | ind n ih =>
    intro s hs x hx
    match s, hs, hx with
    | [], _, hx => unfold unescL at hx; cases hx; simp
    | c :: r, hs, hx =>
      have tl : ∀ (r' : List UInt8) (y : UInt8), r'.length ≤ r.length → (unescL r').map (y :: ·) = some x → x.length ≤ (c :: r).length := fun r' y hr hm => by
        cases e : unescL r' with
        | none => rw [e] at hm; cases hm
        | some z =>
          rw [e] at hm; cases hm
          have := ih r'.length (by simp only [List.length_cons] at hs; omega) r' rfl z e
          simp only [List.length_cons]; omega
      by_cases hc : c = 37
      · subst hc
        match r, hs, hx, tl with
        | [], _, hx, _ => rw [une_short (by simp)] at hx; cases hx
        | [a], _, hx, _ => rw [une_short (by simp)] at hx; cases hx
        | a :: b :: r, hs, hx, tl =>
          cases ea : hvU a with
          | none => rw [une_bad r (.inl ea)] at hx; cases hx
          | some p =>
            cases eb : hvU b with
            | none => rw [une_bad r (.inr eb)] at hx; cases hx
            | some q => rw [une_hit r ea eb] at hx; exact tl r _ (by simp; omega) hx
      · rw [une_ne hc] at hx
        exact tl r c (Nat.le_refl _) hx
theorem unesc_le {s x : List UInt8} (h : unescL s = some x) : x.length ≤ s.length := unesc_len _ s rfl x h
theorem qN_part (ps : List (List UInt8)) (B : Nat) (hB : ∀ i, (ps.getD i []).length ≤ B) : ∀ i, ∀ p ∈ qN ps i, p.1.length ≤ B ∧ p.2.length ≤ B
  | 0, p, h => by simp [qN] at h
  | i + 1, p, h => by
    unfold qN at h
    split at h
    · exact qN_part ps B hB i p h
    · rw [List.mem_append, List.mem_singleton] at h
      rcases h with h | rfl
      · exact qN_part ps B hB i p h
      · have := cut_len (ps.getD i []) 61
        have := hB i
        exact ⟨by simp only; omega, by simp only; omega⟩
theorem query_part (t : List UInt8) : ∀ p ∈ queryQ t, p.1.length ≤ t.length ∧ p.2.length ≤ t.length := fun p hp =>
  qN_part _ t.length (fun i => Nat.le_trans (split_part _ _ i) (cut_len t 63).2) _ p hp
theorem queryQ_len (t : List UInt8) : (queryQ t).length ≤ t.length + 1 := by
  have h1 := qN_len (splitL (cutF t 63).2.1 38) (splitL (cutF t 63).2.1 38).length
  have h2 := splitL_len (cutF t 63).2.1 38
  have h3 := (cut_len t 63).2
  unfold queryQ; omega
theorem cPairs_part (pre : Bool) (B : Nat) : ∀ (l ps : List Hd), (∀ p ∈ l, p.1.length ≤ B ∧ p.2.length ≤ B) → cPairs pre l = some ps → ps.length ≤ l.length ∧ ∀ q ∈ ps, q.1.length ≤ 3 * B ∧ q.2.length ≤ 3 * B
  | [], ps, _, h => by unfold cPairs at h; cases h; simp
  | p :: r, ps, hl, h => by
    unfold cPairs at h
    have hr := fun ps' h' => cPairs_part pre B r ps' (fun q hq => hl q (List.mem_cons_of_mem _ hq)) h'
    split at h
    · have := hr ps h
      exact ⟨by simp only [List.length_cons]; omega, this.2⟩
    · split at h
      · rename_i a b ha hb
        cases e : cPairs pre r with
        | none => rw [e] at h; cases h
        | some qs =>
          rw [e] at h; cases h
          have := hr qs e
          have hp := hl p List.mem_cons_self
          have u1 := unesc_le ha
          have u2 := unesc_le hb
          have e1 := escL_len false a
          have e2 := escL_len false b
          refine ⟨by simp only [List.length_cons]; omega, fun q hq => ?_⟩
          rcases List.mem_cons.1 hq with rfl | hq
          · exact ⟨by simp only; omega, by simp only; omega⟩
          · exact this.2 q hq
      · cases h
theorem joinN_sum (l : List (List UInt8)) (sep : List UInt8) : ∀ i, i ≤ l.length → (joinN l sep i).length ≤ ((l.take i).map fun x => x.length + sep.length).sum
  | 0, _ => by simp [joinN]
  | i + 1, h => by
    have ih := joinN_sum l sep i (by omega)
    have hi : i < l.length := h
    rw [joinN_succ, List.length_append]
    rw [List.take_add_one, List.getElem?_eq_getElem hi, List.map_append, List.sum_append, List.getD_eq_getElem?_getD, List.getElem?_eq_getElem hi]
    simp only [Option.toList_some, List.map_cons, List.map_nil, List.sum_cons, List.sum_nil, Option.getD_some]
    split
    · rw [List.length_append]; omega
    · omega
theorem joinL_sum (l : List (List UInt8)) (sep : List UInt8) : (joinL l sep).length ≤ (l.map fun x => x.length + sep.length).sum := by
  have := joinN_sum l sep l.length (Nat.le_refl _)
  rwa [List.take_length] at this
theorem sum_bd {α : Type} (f : α → Nat) (B : Nat) : ∀ l : List α, (∀ x ∈ l, f x ≤ B) → (l.map f).sum ≤ l.length * B
  | [], _ => by simp
  | x :: l, h => by
    have h1 := h x List.mem_cons_self
    have h2 := sum_bd f B l fun y hy => h y (List.mem_cons_of_mem _ hy)
    rw [List.map_cons, List.sum_cons, List.length_cons, Nat.add_mul]; omega
theorem joinL_bd (l : List (List UInt8)) (sep : List UInt8) (B : Nat) (h : ∀ x ∈ l, x.length ≤ B) : (joinL l sep).length ≤ l.length * (B + sep.length) :=
  Nat.le_trans (joinL_sum l sep) (sum_bd _ _ l fun x hx => by have := h x hx; omega)
abbrev fmtP (p : Hd) : List UInt8 := p.1 ++ [61] ++ p.2
theorem fmt_bd (t : List UInt8) (pre : Bool) (ht : t.length ≤ 2097152) (ps : List Hd) (h : cPairs pre (queryQ t) = some ps) : ps.length ≤ 2097153 ∧ ∀ q ∈ ps, q.1.length ≤ 6291456 ∧ q.2.length ≤ 6291456 := by
  have h1 := cPairs_part pre t.length (queryQ t) ps (query_part t) h
  have h2 := queryQ_len t
  refine ⟨by omega, fun q hq => ?_⟩
  have := h1.2 q hq
  omega
theorem join_bd (ps : List Hd) (hn : ps.length ≤ 2097153) (hq : ∀ q ∈ ps, q.1.length ≤ 6291456 ∧ q.2.length ≤ 6291456) : (joinL (ps.map fmtP) [38]).length ≤ 35184372088832 := by
  have := joinL_bd (ps.map fmtP) [38] 12582913 (fun x hx => by
    obtain ⟨q, hq', rfl⟩ := List.mem_map.1 hx
    have := hq q hq'
    simp only [fmtP, List.length_append, List.length_cons, List.length_nil]; omega)
  rw [List.length_map] at this
  have h2 : ps.length * (12582913 + [38].length) ≤ 2097153 * 12582914 := Nat.mul_le_mul hn (by simp)
  simp only [List.length_cons, List.length_nil] at *
  omega
theorem queryC_len (t : List UInt8) (pre : Bool) (ht : t.length ≤ 2097152) : ∀ q, queryC t pre = some q → q.length ≤ 35184372088832 := fun q hq => by
  unfold queryC at hq
  cases e : cPairs pre (queryQ t) with
  | none => rw [e] at hq; cases hq
  | some ps =>
    rw [e] at hq; cases hq
    have hb := fmt_bd t pre ht ps e
    refine join_bd (sortP ps) (by rw [sortP_len]; exact hb.1) fun q hq => hb.2 q ((sortP_perm ps).mem_iff.1 hq)
end Go.Proofs.YtnohmijdpmelpaaGreat
set_option maxRecDepth 100000
set_option linter.unusedVariables false
set_option linter.unusedSimpArgs false
namespace Go.Proofs.YtnohmijdpmelpaaGreat
open Go.Am Go.Am.Runs

theorem below_ok (a b : Hd) : FnOK Tryz.prog 63 [.agg [.str a.1, .str a.2], .agg [.str b.1, .str b.2]] [] (.bool (belowP a b)) [] := by
  refine FnOK.of_runs Tryz.func63 rfl (Nat.le_of_ble_eq_true rfl) ?_
  refine seq (reg [] [] rfl (by decide) ?_)
  refine seq (region (restTo 6 [] [] rfl (by decide) ?_))
  refine splitS 10 rfl (fun g10 => ?_) (fun g10 => ?_)
  · try simp only [zg] at g10
    refine rest [] [] rfl (by decide) ?_
    refine drop 0 (Nat.le_refl _) rfl ?_
    exact retH Tryz.func63 rfl rfl (by refine congrArg AV.bool ?_; unfold belowP ltL; (rw [g10]; rfl)) rfl
  · try simp only [zg] at g10
    refine restTo 6 [] [] rfl (by decide) ?_
    refine splitS 16 rfl (fun g16 => ?_) (fun g16 => ?_)
    · try simp only [zg] at g16
      refine rest [] [] rfl (by decide) ?_
      refine drop 0 (Nat.le_refl _) rfl ?_
      exact retH Tryz.func63 rfl rfl (by refine congrArg AV.bool ?_; unfold belowP ltL; (rw [g10, decide_eq_true g16]; rfl)) rfl
    · try simp only [zg] at g16
      refine rest [] [] rfl (by decide) ?_
      refine drop 0 (Nat.le_refl _) rfl ?_
      exact retH Tryz.func63 rfl rfl (by refine congrArg AV.bool ?_; unfold belowP ltL; (rw [g10, decide_eq_false g16]; rfl)) rfl

theorem escaped_ok (s : List UInt8) (slash : Bool) (hs : s.length ≤ 16777214) : FnOK Tryz.prog 18 [.str s, .bool slash] [] (.tup [.str (escL ((unescL s).getD []) slash), .bool (unescL s).isSome]) [] := by
  refine FnOK.of_runs Tryz.func18 rfl (Nat.le_of_ble_eq_true rfl) ?_
  refine seq (reg [] [] rfl (by decide) ?_)
  refine seq (reg [(1, { res := .tup [.str ((unescL s).getD []), .bool (unescL s).isSome] })] [0] rfl (by and_intros <;> first | exact ⟨⟩ | exact cunescF s hs) ?_)
  refine seq (reg [(2, { res := .str (escL ((unescL s).getD []) slash) })] [0, 1, 3] rfl (by and_intros <;> first | exact ⟨⟩ | exact cescF _ _ (by cases e : unescL s with | none => simp | some x => have := unesc_le e; simp only [Option.getD_some]; omega)) ?_)
  exact retH Tryz.func18 rfl rfl (by rfl) (by rfl)


end Go.Proofs.YtnohmijdpmelpaaGreat
