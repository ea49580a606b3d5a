/- the document's Begins and Group walked. -/
import Derived.Test.YtfkpdfpnpcdhaaaL8
namespace Go.Proofs.LP
open Go Go.RowKit Go.Shelf Go.Proofs
set_option linter.unusedVariables false
set_option linter.unusedSimpArgs false
set_option linter.unusedSectionVars false
attribute [local go_sem] Oper.semAt_some
theorem size_len (s : ByteArray) : s.size = s.data.toList.length := rfl
theorem grB_eq (s p d : ByteArray) : grB s p d = (toB (groupF s.data.toList p.data.toList d.data.toList).1, (groupF s.data.toList p.data.toList d.data.toList).2) := rfl
theorem piece0 (s p : ByteArray) (h : p.size ≤ s.size) : ((s.extract 0 p.size).toList == p.toList) = Lib.hasPrefix s.data.toList p.data.toList := by
  have := Lib.occ_of_piece s p 0 (by omega)
  rw [Nat.zero_add] at this
  rw [← this]; rfl
theorem short0 (s p : ByteArray) (h : s.size < p.size) : Lib.hasPrefix s.data.toList p.data.toList = false := by
  have h' : ¬ Lib.hasPrefix s.data.toList p.data.toList = true := fun e => by
    have := (List.isPrefixOf_iff_prefix.1 e).length_le
    rw [← size_len, ← size_len] at this; omega
  simpa using h'
set_option maxRecDepth 100000 in
set_option maxHeartbeats 2000000 in
theorem begins_in (n : Nat) (s p : ByteArray) (w : World) : CallsIn Fence.wide n Try.prog 47 #[.string s, .string p] w fun e w' => e = .returned (.bool (hpB s p)) ∧ w' = w := by
  refine callsIn_of_wp Try.func47 rfl trivial ?_ rfl
  simp only [Try.ntmps47, List.size_toArray, List.length_cons, List.length_nil, Nat.reduceAdd, Nat.reduceSub, Array.replicate_succ, Array.replicate_zero, List.push_toArray, List.append_toArray, List.nil_append, List.cons_append]
  unfold hpB
  by_cases h : p.size ≤ s.size
  · have e := piece0 s p h
    rw [← e]
    clear e
    gi_wp2
    all_goals go_ret
    all_goals exact ⟨by simp [h], rfl⟩
  · rw [short0 s p (by omega)]
    gi_wp2
    all_goals go_ret
    all_goals exact ⟨rfl, rfl⟩
set_option maxRecDepth 100000 in
set_option maxHeartbeats 2000000 in
theorem rgroup_in (n : Nat) (hn : 1 ≤ n) (s p d : ByteArray) (w : World) (hs : s.size ≤ 1073741824) (hd8 : d.size ≤ 1073741824) : CallsIn Fence.wide n Try.prog 31 #[.string s, .string p, .string d] w fun e w' => e = .returned (.tuple #[.string (grB s p d).1, .bool (grB s p d).2]) ∧ w' = w := by
  refine callsIn_of_wp Try.func31 rfl trivial ?_ rfl
  simp only [Try.ntmps31, List.size_toArray, List.length_cons, List.length_nil, Nat.reduceAdd, Nat.reduceSub, Array.replicate_succ, Array.replicate_zero, List.push_toArray, List.append_toArray, List.nil_append, List.cons_append]
  have w47 : Fence.wide.fn 47 := trivial
  by_cases hpr : hpB s p = true
  · have hle : p.size ≤ s.size := by
      rw [size_len, size_len]; exact (List.isPrefixOf_iff_prefix.1 hpr).length_le
    by_cases hd : d.size = 0
    · have hg : grB s p d = (⟨#[]⟩, false) := by
        have hd' : d.data.toList = [] := List.eq_nil_of_length_eq_zero hd
        unfold grB groupF; rw [if_neg (by simp [hd'])]; rfl
      have hde' : d.toList.isEmpty = true := by rw [Lib.toList_data]; rw [size_len] at hd; simp [List.eq_nil_of_length_eq_zero hd]
      rw [hg]
      clear hg
      gi_wp2_with (gi_at_call 47; refine (begins_in _ s p _).mono ?_; rintro e w' ⟨rfl, rfl⟩)
      go_ret2
      exact ⟨rfl, rfl⟩
    · have hde' : d.toList.isEmpty = false := by
        rw [Lib.toList_data]
        cases h : d.data.toList with
        | nil => exact absurd (by rw [size_len, h]; rfl) hd
        | cons _ _ => rfl
      have hdne : d.data.toList ≠ [] := fun e => hd (by rw [size_len, e]; rfl)
      have hocc : ∀ i, p.size ≤ i → i + d.size ≤ s.size → ((s.extract i (i + d.size)).toList == d.toList) = Lib.occAt (s.data.toList.drop p.data.toList.length) d.data.toList (i - p.size) := fun i h1 h2 => by
        rw [← Lib.occ_of_piece s d i h2]
        unfold Lib.occAt
        rw [List.drop_drop, ← size_len p, show p.size + (i - p.size) = i by omega]
      gi_wp2_with (gi_at_call 47; refine (begins_in _ s p _).mono ?_; rintro e w' ⟨rfl, rfl⟩)
      gi_loopw [8] (fun v wr => ∃ (i : Nat), v = .int .i64 i ∧ p.size ≤ i ∧ i ≤ s.size + 1 ∧ Lib.NoOcc (s.data.toList.drop p.data.toList.length) d.data.toList (i - p.size) ∧ wr = w')
        (fun v _ => match v with | .int _ k => s.size + 1 - k.toNat | _ => 0)
      case atStart => exact ⟨p.size, rfl, Nat.le_refl _, by omega, by simpa using Lib.NoOcc.zero _ _, rfl⟩
      case round =>
        obtain ⟨i, rfl, h1, h2, h3, rfl⟩ := hrel
        have w1 : wrap64 ((i : Int) + d.size) = ((i + d.size : Nat) : Int) := by unfold wrap64; omega
        have w2 : wrap64 ((i : Int) + 1) = ((i + 1 : Nat) : Int) := by unfold wrap64; omega
        by_cases hr : i + d.size ≤ s.size
        · have hk := hocc i h1 hr
          have hsl : ∀ w, (Instr.slice 9 (.string s) (some (.int .i64 (i : Int))) (some (.int .i64 ((i : Int) + (d.size : Int)))) none).run Try.prog w = .ok (.string (s.extract i (i + d.size))) w := fun w => by
            have := run_slice_string (P := Try.prog) w 9 s .i64 .i64 (i : Int) ((i : Int) + (d.size : Int)) Try.underlying9 (by omega) (by omega) (by omega)
            rw [this]
            have e2 : ((i : Int) + (d.size : Int)).toNat = i + d.size := by omega
            rw [e2, Int.toNat_natCast]
          cases ho : Lib.occAt (s.data.toList.drop p.data.toList.length) d.data.toList (i - p.size) with
          | true =>
            rw [ho] at hk
            have hg : grB s p d = (s.extract 0 (i + d.size), true) := by
              have hx := Lib.index_hit h3 (by rw [List.length_drop, ← size_len, ← size_len]; omega) ho
              rw [grB_eq, groupF, if_pos ⟨hpr, hdne, by rw [hx]; omega⟩]
              refine Prod.ext ?_ rfl
              show toB _ = _
              have : ∀ a b : ByteArray, a.data.toList = b.data.toList → a = b := fun a b h => by cases a; cases b; simp at h; subst h; rfl
              refine this _ _ ?_
              rw [hx, Int.toNat_natCast, ByteArray.data_extract, Array.toList_extract, ← size_len, ← size_len, show p.size + (i - p.size) + d.size = i + d.size by omega]
              simp only [toB, List.extract_eq_take_drop, List.drop_zero, Nat.sub_zero]
            clear hocc ho h3 hdne
            gi_wp2
            go_ret2
            exact ⟨by rw [hg]; rfl, rfl⟩
          | false =>
            rw [ho] at hk
            have h3' := h3.succ ho
            rw [show i - p.size + 1 = i + 1 - p.size by omega] at h3'
            clear hocc ho h3
            gi_wp2
            exact ⟨⟨i + 1, by simp, by omega, by omega, h3', trivial⟩, by simp; omega⟩
        · have hg : grB s p d = (⟨#[]⟩, false) := by
            rw [grB_eq, groupF, if_neg]
            · rfl
            · rintro ⟨_, _, h⟩
              rw [Lib.index_past hdne h3 (by rw [List.length_drop, ← size_len, ← size_len, ← size_len]; omega)] at h
              omega
          clear hocc h3 hdne
          gi_wp2
          go_ret2
          exact ⟨by rw [hg]; rfl, rfl⟩
  · have hpr' : hpB s p = false := by simpa using hpr
    have hg : grB s p d = (⟨#[]⟩, false) := by unfold grB groupF; rw [if_neg (fun h => hpr h.1)]; rfl
    rw [hg]
    clear hg hpr
    gi_wp2_with (gi_at_call 47; refine (begins_in _ s p _).mono ?_; rintro e w' ⟨rfl, rfl⟩)
    go_ret2
    exact ⟨rfl, rfl⟩
section
open Go.Am
variable [MM]
theorem begins_ok (s p : List UInt8) : FnOK Try.prog 47 [.str s, .str p] [] (.bool (Lib.hasPrefix s p)) [] := by
  refine FnOK.of_below rfl fun w G vs hl ha hw => ?_
  match vs, hl with
  | [a, b], _ =>
    have h0 := ha 0 _ a rfl rfl
    have h1 := ha 1 _ b rfl rfl
    cases h0; cases h1
    refine (callsIn_wide.1 (begins_in 1 (toB s) (toB p) w)).mono ?_
    rintro e w' ⟨rfl, rfl⟩
    exact ⟨_, rfl, fun G w => .bool _ _, Below.refl _ _⟩
theorem rgroup_ok (s p d : List UInt8) (hs : s.length ≤ 1073741824) (hd : d.length ≤ 1073741824) : FnOK Try.prog 31 [.str s, .str p, .str d] [] (.tup [.str (groupF s p d).1, .bool (groupF s p d).2]) [] := by
  refine FnOK.of_below rfl fun w G vs hl ha hw => ?_
  match vs, hl with
  | [a, b, c], _ =>
    have h0 := ha 0 _ a rfl rfl
    have h1 := ha 1 _ b rfl rfl
    have h2 := ha 2 _ c rfl rfl
    cases h0; cases h1; cases h2
    refine (callsIn_wide.1 (rgroup_in 1 (Nat.le_refl _) (toB s) (toB p) (toB d) w hs hd)).mono ?_
    rintro e w' ⟨rfl, rfl⟩
    refine ⟨_, rfl, fun G w => ?_, Below.refl _ _⟩
    refine .tup _ _ [_, _] rfl fun q c v e1 e2 => ?_
    match q, e1, e2 with
    | 0, e1, e2 => simp at e1 e2; subst e1; subst e2; exact .str _ _
    | 1, e1, e2 => simp at e1 e2; subst e1; subst e2; exact .bool _ _
    | q + 2, e1, _ => simp at e1
end
end Go.Proofs.LP
